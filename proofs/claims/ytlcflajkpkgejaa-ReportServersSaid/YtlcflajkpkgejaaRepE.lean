/-
  The reference's lines. No condition.
-/
import Derived.Test.YtlcflajkpkgejaaRepD
namespace Go.Proofs.Ytlcflajkpkgejaa
open Go.RowKit
set_option linter.unusedVariables false
set_option linter.unusedSimpArgs false

set_option maxRecDepth 100000 in
set_option maxHeartbeats 1000000 in
theorem rlines_any (v : View) (w : World) (h : ViewAt w v) (hf : Few v) :
    Calls Try.prog 9 #[.agg v.cells] w (LinesOf w v.lines) := by
  obtain ⟨i0, hi, hz0, hz1, hz2⟩ := info_parts infoStr
  obtain ⟨i1, hi1, hy0, hy1, hy2⟩ := info_parts infoInt
  obtain ⟨a1, C, c1, a2, S, c2, a3, n3, c3, a4, L4, c4⟩ := v
  have H := hide h
  have HF := hide hf
  have hnc : C.length ≤ 40 := hf.nc
  have hns : S.length ≤ 20 := hf.ns
  have hbx : Blk (w.alloc (.cells #[.slice a1 C.length c1, .slice a2 S.length c2, .slice a3 n3 c3, .slice a4 L4.length c4] 27)) w.heap.size 27 #[.slice a1 C.length c1, .slice a2 S.length c2, .slice a3 n3 c3, .slice a4 L4.length c4] := Blk.new w _ _
  have hb0 : Below w.heap.size w (w.alloc (.cells #[.slice a1 C.length c1, .slice a2 S.length c2, .slice a3 n3 c3, .slice a4 L4.length c4] 27)) := (Below.refl _ _).alloc (Nat.le_refl _) _
  have HX := hide hbx
  have HB0 := hide hb0
  clear h hf hbx hb0
  unfold View.cells
  go_enter Try.func9, Try.ntmps9
  go_upto_region 2 with fail
  refine Code.wp_named (fun W => Blk W w.heap.size 27 #[.slice a1 C.length c1, .slice a2 S.length c2, .slice a3 n3 c3, .slice a4 L4.length c4] ∧ Below w.heap.size w W) ⟨HX.out, HB0.out⟩ ?_
  clear HX HB0
  rintro W0 ⟨hbx, hb0⟩
  have HX := hide hbx
  have HB0 := hide hb0
  have hs0 : w.heap.size < W0.heap.size := hbx.lt
  clear hbx hb0
  go_wp2_with fail
  go_loopw [3, 4] (fun v i wr => ∃ j : Nat, j ≤ C.length ∧ i = .int .i64 j ∧ wr.ownsRow W0.heap.size 9 1 v (clN C j).length (strs (clN C j)) ∧ Below W0.heap.size W0 wr) (fun _ i _ => 64 - (intOf i).toNat)
  case atStart => exact ⟨0, Nat.zero_le _, rfl, by simpa [clN, strs] using World.ownsRow_nil W0 W0.heap.size 9 1, Below.refl _ _⟩
  case round =>
    obtain ⟨j, hj, rfl, hown, hB⟩ := hrel
    have hx := HX.out.below hB HX.out.lt
    have e0 := hx.cell 0
    have e1 := hx.cell 1
    simp at e0 e1
    have HX1 := hide hx
    clear hx
    by_cases hlt : j < C.length
    · have hB0 := below_via HB0.out hB
      rcases H.out.cl.below hB0 with h0 | ⟨b, off, rfl, hbl, hc⟩
      · have h0 : C = [] := h0
        subst h0; simp at hlt
      obtain ⟨⟨z0, z1, z2, z3⟩, hna⟩ := hc j hlt
      have htb := HF.out.tb j hlt
      have hrc := HF.out.rc j hlt
      have hstep : clN C (j + 1) = if (C.getD j default).phase = 0 then clN C j else clN C j ++ [cvLine j (C.getD j default)] := rfl
      have hlen : (clN C j).length ≤ j := by rw [clN_length]; exact cameN_le C j
      change (C.getD j default).table.length ≤ 40 at htb
      change InRange ((C.getD j default).nums j) at hrc
      simp only at z0 z1 z2 z3
      generalize C.getD j default = c at z0 z1 z2 z3 hna htb hrc hstep
      obtain ⟨ph, sv, dn, T, ta, tc⟩ := c
      simp only at z0 z1 z2 z3 hna htb hstep
      have k0 : (0 : Int) ≤ (j : Int) := by omega
      have k1 : (j : Int) < (C.length : Int) := by omega
      have Hstep := hide hstep
      have HB := hide hB
      have Hown := hide hown
      have Hna := hide hna
      have Hrc := hide hrc
      have hs1 := hB.size
      clear hc hB hB0 hown hna hrc hstep
      by_cases h0 : ph = 0
      · rw [if_pos h0] at Hstep
        subst h0
        go_wp2_with fail
        go_roundw
        case rel => exact ⟨j + 1, by omega, by go_num, by rw [Hstep.out]; exact Hown.out.alloc _, HB.out.alloc hs1 _⟩
        case measure => simp [intOf]; omega
      · rw [if_neg h0] at Hstep
        have h0b : (ph == 0) = false := by simpa using h0
        have hBx : Below wr.heap.size wr (wr.alloc (.cells #[.int .i64 ph, .int .i64 sv, .int .i64 dn, .slice ta T.length tc] 38)) := (Below.refl _ _).alloc (Nat.le_refl _) _
        have hD : Blk (wr.alloc (.cells #[.int .i64 ph, .int .i64 sv, .int .i64 dn, .slice ta T.length tc] 38)) wr.heap.size 38 #[.int .i64 ph, .int .i64 sv, .int .i64 dn, .slice ta T.length tc] := Blk.new wr _ _
        have Hna1 := hide (Hna.out.below hBx)
        have HB1 := hide (below_via HB.out hBx)
        have Hown1 := hide (own_below Hown.out hBx)
        have HD := hide hD
        clear hBx Hna HB Hown hD
        go_upto_region 7 with fail
        refine Code.wp_named (fun W => Blk W wr.heap.size 38 #[.int .i64 ph, .int .i64 sv, .int .i64 dn, .slice ta T.length tc] ∧ NamedAt W ta T ∧ Below W0.heap.size W0 W ∧ W.ownsRow W0.heap.size 9 1 _ (clN C j).length (strs (clN C j))) ⟨HD.out, Hna1.out, HB1.out, Hown1.out⟩ ?_
        clear HD Hna1 HB1 Hown1 z0 z1 z2 z3 e0 e1 HX1
        rintro X1 ⟨hD, hna, hB, hown⟩
        have HD := hide hD
        have Hna := hide hna
        have HB := hide hB
        have Hown := hide hown
        have hdX : wr.heap.size < X1.heap.size := hD.lt
        have d0 := hD.cell 0
        have d1 := hD.cell 1
        have d2 := hD.cell 2
        simp at d0 d1 d2
        have hsX := hB.size
        generalize wr.heap.size = d at HD d0 d1 d2 hdX ⊢
        clear hD hna hB hown hs1
        have hl0 : (X1.alloc (.cells #[.int .i64 j, .int .i64 ph, .int .i64 sv, .int .i64 dn] 3)).ownsRow X1.heap.size 3 1 (.slice (some ⟨X1.heap.size, 0, none⟩) 4 4) 4 [.int .i64 j, .int .i64 ph, .int .i64 sv, .int .i64 dn] := own_new X1 3 #[.int .i64 j, .int .i64 ph, .int .i64 sv, .int .i64 dn] (by simp [maxLen])
        have Hl0 := hide hl0
        clear hl0
        go_wp2_with fail
        go_loopw [6, 7] (fun l i wq => ∃ q : Nat, q ≤ T.length ∧ i = .int .i64 q ∧ wq.ownsRow X1.heap.size 3 1 l (q + 4) (([(j : Int), ph, sv, dn] ++ T.take q).map (Value.int .i64)) ∧ Below X1.heap.size X1 wq) (fun _ i _ => 64 - (intOf i).toNat)
        case atStart => exact ⟨0, Nat.zero_le _, rfl, by simpa using Hl0.out, (Below.refl _ _).alloc (Nat.le_refl _) _⟩
        case round =>
          clear Hl0 d0 d1 d2
          obtain ⟨q, hq, rfl, hl, hbq⟩ := hrel
          have hDq := HD.out.below hbq hdX
          have d3 := hDq.cell 3
          simp at d3
          have hsq := hbq.size
          clear hDq
          by_cases hqt : q < T.length
          · rcases Hna.out.below hbq with h0 | ⟨b2, off2, rfl, hbl2, hc2⟩
            · subst h0; simp at hqt
            obtain ⟨nm, hcs, hcj⟩ := hc2 q hqt
            have hsn : ([(j : Int), ph, sv, dn] ++ T.take (q + 1)).map (Value.int .i64) = ([(j : Int), ph, sv, dn] ++ T.take q).map (Value.int .i64) ++ [.int .i64 (T.getD q 0)] := by rw [take_snocD hqt, ints_one]; simp
            have HS := hide hsn
            have Hbq := hide hbq
            generalize T.getD q 0 = x at hcj HS
            have q0 : (0 : Int) ≤ (q : Int) := by omega
            have q1 : (q : Int) < (T.length : Int) := by omega
            clear hsn hbq hc2
            go_wp2_with (at_builtin; refine wpList_append_one wr rfl _ _ 25 rfl X1.heap.size 3 i1 (.int .i64 0) 1 8 Try.underlying25 hi1 hy0 hy1 hy2 rfl (by decide) _ _ _ [.int .i64 x] hl rfl rfl (by simp [Value.oneCell']) rfl (by simp [maxLen]; omega) (by omega) hsq ?_; intro v1 w1 hown1 hb1 _)
            go_roundw
            case rel => exact ⟨q + 1, by omega, by go_num, by rw [HS.out, show q + 1 + 4 = q + 4 + 1 from by omega]; exact hown1, Hbq.out.trans hb1⟩
            case measure => simp [intOf]; omega
          · have he : T.take q = T := List.take_of_length_le (by omega)
            rw [he] at hl
            have hV := IntsV.of_own hl
            have HV := hide hV
            have Hbq := hide hbq
            clear hl hV he hbq
            go_wp2_with fail
            refine (rline_v ⟨#[99, 108, 105, 101, 110, 116]⟩ _ _ _ HV.out Hrc.out (by simp; omega) (by decide)).mono ?_
            rintro e w1 ⟨rfl, hb1⟩
            have hown1 := own_below (own_below Hown.out Hbq.out) hb1
            have HB2 := hide (below_via (below_via HB.out Hbq.out) hb1)
            have hbs := HB2.out.size
            have hln : lineB ⟨#[99, 108, 105, 101, 110, 116]⟩ ([(j : Int), ph, sv, dn] ++ T) = cvLine j ⟨ph, sv, dn, T, ta, tc⟩ := rfl
            rw [hln]
            clear hb1 d3 hln
            go_wp2_with (at_builtin; refine wpList_append_one w1 rfl _ _ 28 rfl W0.heap.size 9 i0 (.string ByteArray.empty) 1 16 Try.underlying28 hi hz0 hz1 hz2 rfl (by decide) _ _ _ [.string (cvLine j ⟨ph, sv, dn, T, ta, tc⟩)] hown1 rfl rfl (by simp [Value.oneCell']) rfl (by simp [maxLen]; omega) (by omega) hbs ?_; intro v2 w2 hown2 hb2 _)
            go_roundw
            case rel => exact ⟨j + 1, by omega, by go_num, by rw [Hstep.out, List.length_append, ← strs_one]; exact hown2, HB2.out.trans hb2⟩
            case measure => simp [intOf]; omega
    · have he : j = C.length := by omega
      subst he
      have hlen1 : (clN C C.length).length ≤ C.length := by rw [clN_length]; exact cameN_le C _
      have HB1 := hide hB
      have Hown := hide hown
      have hs1 := hB.size
      clear hown hB
      go_wp2_with fail
      go_loopw [3, 8] (fun v i wq => ∃ j : Nat, j ≤ S.length ∧ i = .int .i64 j ∧ wq.ownsRow W0.heap.size 9 1 v (clN C C.length ++ svN S j).length (strs (clN C C.length ++ svN S j)) ∧ Below W0.heap.size W0 wq) (fun _ i _ => 64 - (intOf i).toNat)
      case atStart => exact ⟨0, Nat.zero_le _, rfl, by simpa [svN] using Hown.out, HB1.out⟩
      case round =>
        clear Hown HB1 hs1 e0 e1 HX1
        obtain ⟨j, hj, rfl, hown, hB⟩ := hrel
        have hx := HX.out.below hB HX.out.lt
        have e1 := hx.cell 1
        simp at e1
        clear hx
        have hlen2 : (clN C C.length ++ svN S j).length ≤ C.length + j := by rw [List.length_append, svN_length]; omega
        by_cases hlt : j < S.length
        · have hB0 := below_via HB0.out hB
          rcases H.out.sv.below hB0 with h0 | ⟨b, off, rfl, hbl, hc⟩
          · have h0 : S = [] := h0
            subst h0; simp at hlt
          obtain ⟨⟨z0, z1, z2, z3, z4, z5⟩, hna⟩ := hc j hlt
          have htb := HF.out.ch j hlt
          have hrc := HF.out.rs j hlt
          have hstep : clN C C.length ++ svN S (j + 1) = clN C C.length ++ svN S j ++ [svLine j (S.getD j default)] := by rw [List.append_assoc]; rfl
          generalize clN C C.length ++ svN S j = L at hown hlen2 hstep
          change (S.getD j default).cache.length ≤ 60 at htb
          change InRange ((S.getD j default).nums j) at hrc
          simp only at z0 z1 z2 z3 z4 z5
          generalize S.getD j default = c at z0 z1 z2 z3 z4 z5 hna htb hrc hstep
          obtain ⟨st, ho, qu, ss, K, ca, cc, pa, pl, pc⟩ := c
          simp only at z0 z1 z2 z3 z4 z5 hna htb
          have k0 : (0 : Int) ≤ (j : Int) := by omega
          have k1 : (j : Int) < (S.length : Int) := by omega
          have hBx : Below wr.heap.size wr (wr.alloc (.cells #[.int .i64 st, .int .i64 ho, .int .i64 qu, .int .u8 ss, .slice ca K.length cc, .slice pa pl pc] 40)) := (Below.refl _ _).alloc (Nat.le_refl _) _
          have hD : Blk (wr.alloc (.cells #[.int .i64 st, .int .i64 ho, .int .i64 qu, .int .u8 ss, .slice ca K.length cc, .slice pa pl pc] 40)) wr.heap.size 40 #[.int .i64 st, .int .i64 ho, .int .i64 qu, .int .u8 ss, .slice ca K.length cc, .slice pa pl pc] := Blk.new wr _ _
          have Hstep := hide hstep
          have Hrc := hide hrc
          have HD := hide hD
          have Hna1 := hide (hna.below hBx)
          have HB1 := hide (below_via hB hBx)
          have Hown1 := hide (own_below hown hBx)
          clear hc hB hB0 hown hna hrc hstep hBx hD
          go_upto_region 17 with fail
          refine Code.wp_named (fun W => Blk W wr.heap.size 40 #[.int .i64 st, .int .i64 ho, .int .i64 qu, .int .u8 ss, .slice ca K.length cc, .slice pa pl pc] ∧ Cached W ca cc K ∧ Below W0.heap.size W0 W ∧ W.ownsRow W0.heap.size 9 1 _ L.length (strs L)) ⟨HD.out, Hna1.out, HB1.out, Hown1.out⟩ ?_
          clear HD Hna1 HB1 Hown1 z0 z1 z2 z3 z4 z5 e1
          rintro W ⟨hD, hna, hB, hownS⟩
          have hdW : wr.heap.size < W.heap.size := hD.lt
          have d0 := hD.cell 0
          have d1 := hD.cell 1
          have d2 := hD.cell 2
          have d4 := hD.cell 4
          simp at d0 d1 d2 d4
          generalize wr.heap.size = d at d0 d1 d2 d4 hdW ⊢
          have hown : (W.alloc (.cells #[.int .i64 j, .int .i64 st, .int .i64 ho, .int .i64 qu] 3)).ownsRow W.heap.size 3 1 (.slice (some ⟨W.heap.size, 0, none⟩) 4 4) 4 [.int .i64 j, .int .i64 st, .int .i64 ho, .int .i64 qu] := own_new W 3 #[.int .i64 j, .int .i64 st, .int .i64 ho, .int .i64 qu] (by simp [maxLen])
          have hbW : Below W.heap.size W (W.alloc (.cells #[.int .i64 j, .int .i64 st, .int .i64 ho, .int .i64 qu] 3)) := (Below.refl _ _).alloc (Nat.le_refl _) _
          have Hna := hide (hna.below hbW)
          have hsW := hB.size
          clear hD hna
          rcases ca with _ | ad
          · obtain ⟨rfl, rfl⟩ : K = [] ∧ cc = 0 := Hna.out.1 rfl
            have HV := hide (IntsV.of_own (L := [(j : Int), st, ho, qu] ++ []) hown)
            have HownZ := hide (own_below hownS hbW)
            have HBZ := hide (below_via hB hbW)
            clear hownS hB hbW
            simp only [List.length_nil] at d4
            go_wp2_with (at_builtin; refine wpList_append_own_none rfl _ _ 25 rfl W.heap.size 3 i1 1 Try.underlying25 hi1 _ _ _ rfl hown rfl ?_)
            refine (rline_v ⟨#[115, 101, 114, 118, 101, 114]⟩ _ _ _ HV.out Hrc.out (by simp) (by decide)).mono ?_
            rintro e w1 ⟨rfl, hb1⟩
            have hown1 := own_below HownZ.out hb1
            have HB2 := hide (below_via HBZ.out hb1)
            have hbs := HB2.out.size
            have hln : lineB ⟨#[115, 101, 114, 118, 101, 114]⟩ ([(j : Int), st, ho, qu] ++ []) = svLine j ⟨st, ho, qu, ss, [], none, 0, pa, pl, pc⟩ := rfl
            rw [hln]
            clear hb1 hln
            go_wp2_with (at_builtin; refine wpList_append_one w1 rfl _ _ 28 rfl W0.heap.size 9 i0 (.string ByteArray.empty) 1 16 Try.underlying28 hi hz0 hz1 hz2 rfl (by decide) _ _ _ [.string (svLine j ⟨st, ho, qu, ss, [], none, 0, pa, pl, pc⟩)] hown1 rfl rfl (by simp [Value.oneCell']) rfl (by simp [maxLen]; omega) (by omega) hbs ?_; intro v2 w2 hown2 hb2 _)
            go_roundw
            case rel => exact ⟨j + 1, by omega, by go_num, by rw [Hstep.out, List.length_append, ← strs_one]; exact hown2, HB2.out.trans hb2⟩
            case measure => simp [intOf]; omega
          · have Hnews := hide (IntsAt.news Hna.out.2)
            have HB := hide hB
            have HownS := hide hownS
            clear hB hownS
            go_wp2_with (at_builtin; refine wpList_append_own (W.alloc (.cells #[.int .i64 j, .int .i64 st, .int .i64 ho, .int .i64 qu] 3)) rfl _ _ 25 rfl W.heap.size 3 i1 (.int .i64 0) 1 8 Try.underlying25 hi1 hy0 hy1 hy2 rfl (by decide) _ _ _ rfl hown ad K.length cc (K.map (Value.int .i64)) rfl (by simp) Hnews.out (by intro u hu; obtain ⟨x, _, rfl⟩ := List.mem_map.1 hu; rfl) (by simp [maxLen]; omega) (by omega) (by simp) ?_; intro v1 wz hown1 hg1 _)
            have hbz : Below W.heap.size W wz := hbW.trans ((Below.refl _ _).grown hg1 (by simp) (fun k hk => by have := (hown.lt) k hk; omega))
            have HBZ := hide (below_via HB.out hbz)
            have HownZ := hide (own_below HownS.out hbz)
            have HV := hide (IntsV.of_own (L := [(j : Int), st, ho, qu] ++ K) (n := 4 + K.length) (by rw [List.map_append]; exact hown1))
            clear hg1 hown1 hown hbz hbW
            go_wp2_with (fail)
            refine (rline_v ⟨#[115, 101, 114, 118, 101, 114]⟩ _ _ _ HV.out Hrc.out (by simp; omega) (by decide)).mono ?_
            rintro e w1 ⟨rfl, hb1⟩
            have hown1 := own_below HownZ.out hb1
            have HB2 := hide (below_via HBZ.out hb1)
            have hbs := HB2.out.size
            have hln : lineB ⟨#[115, 101, 114, 118, 101, 114]⟩ ([(j : Int), st, ho, qu] ++ K) = svLine j ⟨st, ho, qu, ss, K, some ad, cc, pa, pl, pc⟩ := rfl
            rw [hln]
            clear hb1 hln
            go_wp2_with (at_builtin; refine wpList_append_one w1 rfl _ _ 28 rfl W0.heap.size 9 i0 (.string ByteArray.empty) 1 16 Try.underlying28 hi hz0 hz1 hz2 rfl (by decide) _ _ _ [.string (svLine j ⟨st, ho, qu, ss, K, some ad, cc, pa, pl, pc⟩)] hown1 rfl rfl (by simp [Value.oneCell']) rfl (by simp [maxLen]; omega) (by omega) hbs ?_; intro v2 w2 hown2 hb2 _)
            go_roundw
            case rel => exact ⟨j + 1, by omega, by go_num, by rw [Hstep.out, List.length_append, ← strs_one]; exact hown2, HB2.out.trans hb2⟩
            case measure => simp [intOf]; omega
        · have he : j = S.length := by omega
          subst he
          have hx := HX.out.below hB HX.out.lt
          have e2 := hx.cell 2
          have e3 := hx.cell 3
          simp at e2 e3
          have h4 : IntsAt wr a4 L4 := H.out.wt.below (below_via HB0.out hB)
          have Hx := hide hx
          have H4 := hide h4
          have HB := hide hB
          have Hown := hide hown
          have hs1 := hB.size
          clear hown hB hx h4
          generalize hVe : w.heap.size = V at e1 e2 e3 Hx hs0 HB0 ⊢
          have HVe := hide hVe
          clear hVe
          have hV : V < wr.heap.size := by omega
          have hr3 : InRange [(n3 : Int)] := by
            intro x hx
            have hx := List.mem_singleton.1 hx
            have h3 : n3 ≤ 9223372036854775807 := HF.out.n3
            subst hx; omega
          have Hr3 := hide hr3
          have hlen3 : (clN C C.length ++ svN S S.length).length ≤ 60 := by omega
          have hlin : linesB C S n3 L4 = clN C C.length ++ svN S S.length ++ [lineB registryW [(n3 : Int)], lineB waitingW L4] := rfl
          have Hlin := hide hlin
          clear hr3 hlin hlen2
          generalize clN C C.length ++ svN S S.length = L at Hown hlen3 Hlin
          have H4n : Hid (L4.length ≤ 64) := Nat.le_trans HF.out.nw (by decide)
          go_upto_region 18 with fail
          go_region_held3 (fun W => W.cell? ⟨V, 2, none⟩ = some (.slice a3 n3 c3) ∧ W.cell? ⟨V, 3, none⟩ = some (.slice a4 L4.length c4)) (((try dsimp only); repeat (first | with_reducible assumption | exact ⟨by with_reducible assumption, by with_reducible assumption⟩ | (with_reducible refine two_alloc _ ?_) | (with_reducible refine two_drew ?_)))) ((first
            | (go_at_call 17; (with_reducible refine (rline_one ⟨#[114, 101, 103, 105, 115, 116, 114, 121]⟩ wr.heap.size n3 _ (by simp) (by simp) Hr3.out (by decide)).mono ?_); rintro e wa ⟨rfl, hba⟩; have hwa := below_via (((Below.refl wr.heap.size wr).alloc (Nat.le_refl _) _).drew) hba; have e2a := (hwa.cell (p := ⟨V, 2, none⟩) hV).trans e2; have e3a := (hwa.cell (p := ⟨V, 3, none⟩) hV).trans e3; have H4a := hide (H4.out.below hwa); have Hwa := hide hwa; clear hba hwa)
            | (go_at_call 17; (with_reducible refine (rline_any ⟨#[119, 97, 105, 116, 105, 110, 103]⟩ a4 L4 c4 _ H4a.out HF.out.rw_ H4n.out (by decide)).mono ?_); rintro e wb ⟨rfl, hbb⟩; have hwb := below_via Hwa.out hbb; have e2b := (hwb.cell (p := ⟨V, 2, none⟩) hV).trans e2; have e3b := (hwb.cell (p := ⟨V, 3, none⟩) hV).trans e3; have hVb : V < wb.heap.size := Nat.lt_of_lt_of_le hV hwb.size; have hownb := own_below Hown.out hwb; have HBb := hide (below_via HB.out hwb); have hsb := HBb.out.size; clear hbb hwb)
            | (refine step_append_lies _ (by rfl) _ _ 28 (by rfl) W0.heap.size 9 i0 (.string ByteArray.empty) 1 16 Try.underlying28 hi hz0 hz1 hz2 rfl (by decide) _ L.length (strs L) (by rfl) (hownb.alloc _) ⟨wb.heap.size, 0, none⟩ 2 2 [.string (lineB registryW [(n3 : Int)]), .string (lineB waitingW L4)] (by rfl) rfl (World.news_of_block (heap_alloc_new wb _)) (by simp [Value.oneCell']) (by decide) (by simp [maxLen]; omega) (by omega) (by simp; omega) _ rfl ?_; intro g cap w3 hown3 hg3 hat hlt3; have hb3 := (Below.refl W0.heap.size (wb.alloc (.cells #[.string (lineB registryW [(n3 : Int)]), .string (lineB waitingW L4)] 9))).grown hg3 (by simp; omega) (fun k hk => (hownb.lt k hk).1); have h23 := two_alloc (.cells #[.string (lineB registryW [(n3 : Int)]), .string (lineB waitingW L4)] 9) ⟨e2b, e3b⟩; have e2c := (hb3.cell (p := ⟨V, 2, none⟩) hs0).trans h23.1; have e3c := (hb3.cell (p := ⟨V, 3, none⟩) hs0).trans h23.2)))
          have HBz := hide ((HBb.out.alloc hsb _).trans hb3)
          have Hz := hide hown3
          clear hown3 hb3 hg3 e2c e3c h23 e2b e3b e2a e3a e2 e3
          go_wp2_with fail
          go_returns
          refine ⟨_, rfl, ?_, ?_⟩
          · rw [View.lines, Hlin.out]
            have hz := own_base Hz.out (Nat.le_trans (Nat.le_of_lt hs0) (Nat.le_refl _))
            rw [HVe.out, List.length_append, ← strs_append]
            exact hz
          · rw [HVe.out]
            exact HB0.out.trans (HBz.out.mono (Nat.le_of_lt hs0))
end Go.Proofs.Ytlcflajkpkgejaa
