/-
  The walk of the law LeaseOnce. No condition.
-/
import Derived.Test.YtecedgjahpjppaaU
namespace Go.Proofs.Ytecedgjahpjppaa
open Go.RowKit Go.Maps
set_option linter.unusedVariables false
set_option linter.unusedSimpArgs false

theorem stateOf_nat (st : List (Int × Int)) (i : Nat) (hi : i < st.length) : stateOf st i = (st.getD i (0, 0)).1 := by
  unfold stateOf; rw [if_neg (by omega)]; rfl
def ORel (w : World) (a g m n k : Nat) (wr : World) : Prop := ∃ st D, st.length = n ∧ Live wr a g m k st D ∧ Below w.heap.size w wr

set_option maxRecDepth 100000 in
set_option maxHeartbeats 4000000 in
theorem once_any (x : Int) (hx0 : 0 ≤ x) (hx1 : x ≤ 255) (b : Option Addr) (len cap : Nat) (Z : Nat → Nat → Int) (w : World) (hlen : len ≤ maxLen) (hZ : IntStructs w b len 4 Z) :
    Calls Try.prog 5 #[.int .u8 x, .slice b len cap] w fun e w' => e = .returned (.bool true) ∧ Below w.heap.size w w' := by
  unfold maxLen at hlen
  obtain ⟨i0, hi, hz0, hz1, hz2⟩ := info_parts infoInt
  obtain ⟨n, hn⟩ : ∃ n : Nat, 1 + x % 8 = n := ⟨(1 + x % 8).toNat, by omega⟩
  have h1 : 1 ≤ n := by omega
  have h8 : n ≤ 8 := by omega
  have Hn := hide hn
  clear hn
  go_enter Try.func5, Try.ntmps5
  go_wp2_with fail
  rw [Hn.out]
  refine (new_live n h1 h8 _).mono ?_
  rintro e w1 ⟨a, g, m, D, hl, ha, hg, hm, hB, rfl⟩
  have hR : ORel w a g m n 0 w1 := ⟨_, _, List.length_replicate, hl, hB⟩
  have HR := hide hR
  have Hab := hide (And.intro ha (And.intro hg hm))
  clear hl hB hR ha hg hm
  go_upto_block 0 with fail
  go_cut [] (fun W => Below w.heap.size w W)
  case first =>
    go_wp2_with fail
    go_loopw [33] (fun i wr => ∃ (k : Nat), k ≤ len ∧ k ≤ 100 ∧ i = .int .i64 k ∧ ORel w a g m n k wr) (fun i _ => 100 - (intOf i).toNat)
    case atStart => exact ⟨0, by omega, by omega, rfl, HR.out⟩
    case round =>
      clear HR
      obtain ⟨k, hk, hk1, rfl, hR⟩ := hrel
      obtain ⟨st, D, hst, hl, hB⟩ := hR
      by_cases hlt : k < len
      · rcases hZ with h0 | ⟨b0, off, rfl, hbw, hcell⟩
        · omega
        obtain ⟨hZ0, -, -⟩ := hcell k 0 hlt (by omega)
        obtain ⟨hZ1, -, -⟩ := hcell k 1 hlt (by omega)
        obtain ⟨hZ2, hc1, hc2⟩ := hcell k 2 hlt (by omega)
        obtain ⟨hZ3, -, -⟩ := hcell k 3 hlt (by omega)
        rw [← hB.cell hbw] at hZ0 hZ1 hZ2 hZ3
        simp only [Nat.add_zero] at hZ0
        clear hcell
        generalize Z k 0 = o at hZ0
        generalize Z k 1 = s at hZ1
        generalize Z k 2 = c at hZ2 hc1 hc2
        generalize Z k 3 = p at hZ3
        have hwf : (Lit.int .i64 c).wf = true := by simp [Lit.wf, IntKind.min, IntKind.max, IntKind.signed, IntKind.bits]; omega
        have Hwf := hide hwf
        clear hwf hc1 hc2
        have hBn : Below wr.heap.size wr (wr.alloc (.cells #[.int .i64 o, .int .i64 s, .int .i64 c, .int .i64 p] 23)) := (Below.refl _ _).alloc (Nat.le_refl _) _
        have Hl := hide (hl.below hBn)
        have HB := hide (below_via hB hBn)
        have Hst := hide hst
        clear hl hB hBn hst
        by_cases h100 : k < 100
        · go_wp2_with fail
          refine (do_live a g m k st D o s c p _ Hl.out Hwf.out (by omega)).mono ?_
          rintro e W1 ⟨rfl, hK, D1, hl⟩
          have hst1 : (doS st o s c p).length = n := by rw [doS_length]; exact Hst.out
          generalize doS st o s c p = st1 at hl hst1
          subst hst1
          have hag := hl.agree
          have hrg := hl.range
          have Hag := hide hag
          have Hrg := hide hrg
          have Hl1 := hide hl
          have HB1 := hide (HB.out.trans (hK.below Hab.out.2.1 Hab.out.2.2 HB.out.size))
          clear Hl HB hK hl hag hrg Hst Hn hZ0 hZ1 hZ2 hZ3
          go_wp2_with fail
          go_loopw [10, 44] (fun v i wq => ∃ (j : Nat), j ≤ st1.length ∧ i = .int .i64 j ∧ wq.ownsRow W1.heap.size 3 1 v (heldN st1 j).length ((heldN st1 j).map (Value.int .i64)) ∧ Below W1.heap.size W1 wq) (fun _ i _ => 8 - (intOf i).toNat)
          case atStart => exact ⟨0, Nat.zero_le _, rfl, by simpa [heldN] using World.ownsRow_nil W1 W1.heap.size 3 1, Below.refl _ _⟩
          case round =>
            obtain ⟨j, hj, rfl, hown, hb⟩ := hrel
            by_cases hjl : j < st1.length
            · have hstate := stateOf_nat st1 j hjl
              have hlj := Hl1.out.below hb
              have hlen := heldN_length st1 j
              have hstep : heldN st1 (j + 1) = if (st1.getD j (0, 0)).1 = 3 then heldN st1 j ++ [(st1.getD j (0, 0)).2] else heldN st1 j := rfl
              have hpair : ∀ y, (st1.getD j (0, 0)).1 = 3 → (st1.getD j (0, 0)).2 = y → st1.getD j (0, 0) = (3, y) := fun y h1 h2 => by
                rw [← h1, ← h2]
              have hhold : holdN st1 j = if stateOf st1 j = 3 then (st1.getD j (0, 0)).2 else 0 := rfl
              have hwfy : (Lit.int .i64 (st1.getD j (0, 0)).2).wf = true := by
                have := Hrg.out (st1[j]'hjl) (List.getElem_mem hjl)
                rw [List.getD_eq_getElem?_getD, List.getElem?_eq_getElem hjl]; exact this
              have Hhold := hide hhold
              have Hstate := hide hstate
              have Hpair := hide hpair
              have Hstep := hide hstep
              have Hwfy := hide hwfy
              have Hlj := hide hlj
              have Hb := hide hb
              have hbs := hb.size
              have Hown := hide hown
              clear hstate hlj hstep hpair hhold hwfy hb hown
              by_cases h3 : stateOf st1 j = 3
              · have H3 := hide h3
                have hd3 : decide (stateOf st1 j = 3) = true := by simpa using h3
                have Hd3 := hide hd3
                have hy : holdN st1 j = (st1.getD j (0, 0)).2 := by rw [Hhold.out, if_pos h3]
                obtain ⟨y, hy2⟩ : ∃ y, (st1.getD j (0, 0)).2 = y := ⟨_, rfl⟩
                have hst3 : (st1.getD j (0, 0)).1 = 3 := Hstate.out.symm.trans h3
                have hp := Hpair.out y hst3 hy2
                have hofv := Hag.out.of hjl hp
                have hnew := held_new Hag.out hjl hp
                have hstep2 : heldN st1 (j + 1) = heldN st1 j ++ [y] := by rw [Hstep.out, if_pos hst3, hy2]
                have hwy : (Lit.int .i64 y).wf = true := by rw [← hy2]; exact Hwfy.out
                rw [hy2] at hy
                have Hy := hide hy
                have Hofv := hide hofv
                have Hnew := hide hnew
                have Hstep2 := hide hstep2
                have Hwy := hide hwy
                clear h3 hd3 hy hy2 hst3 hp hofv hnew hstep2 hwy Hhold Hstate Hpair Hstep Hwfy
                go_wp2_with fail
                refine (holder_live a g m (k + 1) st1 D1 j _ Hlj.out).mono ?_
                rintro e W2 ⟨rfl, rfl⟩
                rw [holder_form, Hd3.out, Hy.out]
                go_wp2_with fail
                refine (state_live a g m (k + 1) st1 D1 j _ Hlj.out).mono ?_
                rintro e W2 ⟨rfl, rfl⟩
                rw [H3.out]
                go_wp2_with fail
                refine (of_live2 a g m (k + 1) st1 D1 y _ Hlj.out Hwy.out).mono ?_
                rintro e W2 ⟨rfl, rfl⟩
                rw [Hofv.out]
                go_wp2_with fail
                refine (contains_no _ _ _ y _ (by omega) Hown.out Hnew.out).mono ?_
                rintro e W2 ⟨rfl, rfl⟩
                have hown := Hown.out
                go_wp2_with (at_builtin; refine wpList_append_one wr rfl _ _ 34 rfl W1.heap.size 3 i0 (.int .i64 0) 1 8 Try.underlying34 hi hz0 hz1 hz2 rfl (by decide) _ _ _ [.int .i64 y] hown rfl rfl (by simp [Value.oneCell']) rfl (by simp [maxLen]; omega) (by omega) hbs ?_; intro v1 w1 hown1 hb1 _)
                go_roundw
                case rel => exact ⟨j + 1, by omega, by go_num, by rw [Hstep2.out, List.length_append, List.map_append]; exact hown1, Hb.out.trans hb1⟩
                case measure => simp [intOf]; omega
              · have hd3 : decide (stateOf st1 j = 3) = false := by simpa using h3
                have Hd3 := hide hd3
                obtain ⟨q, hq⟩ : ∃ q, stateOf st1 j = q := ⟨_, rfl⟩
                have hst3 : ¬ (st1.getD j (0, 0)).1 = 3 := by rw [← Hstate.out]; exact h3
                rw [if_neg hst3] at Hstep
                have hq3 : (q == 3) = false := by rw [← hq]; simpa using h3
                have Hq := hide hq
                clear h3 hd3 hst3 hq
                go_wp2_with fail
                refine (holder_live a g m (k + 1) st1 D1 j _ Hlj.out).mono ?_
                rintro e W2 ⟨rfl, rfl⟩
                rw [holder_form, Hd3.out]
                go_wp2_with fail
                refine (state_live a g m (k + 1) st1 D1 j _ Hlj.out).mono ?_
                rintro e W2 ⟨rfl, rfl⟩
                rw [Hq.out]
                go_wp2_with fail
                go_roundw
                case rel => exact ⟨j + 1, by omega, by go_num, by rw [Hstep.out]; exact Hown.out, Hb.out⟩
                case measure => simp [intOf]; omega
            · have HR5 : ORel w a g m st1.length (k + 1) wr := ⟨_, _, rfl, Hl1.out.below hb, below_via HB1.out hb⟩
              have HR6 := hide HR5
              clear HR5 hb hown
              go_wp2_with fail
              go_roundw
              case rel => exact ⟨k + 1, by omega, by omega, by go_num, HR6.out⟩
              case measure => simp [intOf]; omega
        · go_wp2
          go_meet
          case rel => exact HB.out
      · have HB := hide hB
        clear hl hB
        go_wp2
        go_meet
        case rel => exact HB.out
  case rest =>
    have HB := hide hcut
    clear hcut
    go_wp2_with fail
    refine (awake_any _).mono ?_
    rintro e w4 ⟨rfl, hb4⟩
    have Hb4 := hide (below_via HB.out hb4)
    clear hb4 HB
    go_wp2
    go_returns
    exact ⟨rfl, Hb4.out⟩
end Go.Proofs.Ytecedgjahpjppaa
