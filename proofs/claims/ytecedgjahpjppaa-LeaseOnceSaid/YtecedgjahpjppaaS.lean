/-
  The walk of the law LeaseLives. No condition.
-/
import Derived.Test.YtecedgjahpjppaaR
import Derived.Deep.RegionHeld3
namespace Go.Proofs.Ytecedgjahpjppaa
open Go.RowKit Go.Maps
set_option linter.unusedVariables false
set_option linter.unusedSimpArgs false

theorem own_below {w w' : World} {base e size n : Nat} {v : Value} {xs : List Value} (h : w.ownsRow base e size v n xs) (hb : Below w.heap.size w w') : w'.ownsRow base e size v n xs := by
  refine ⟨h.1, ?_⟩
  rcases h.2 with hn | ⟨g, cap, cur, rfl, h1, hgg, rest⟩
  · exact .inl hn
  · exact .inr ⟨g, cap, cur, rfl, h1, (hb.block g (Array.getElem?_eq_some_iff.1 hgg).1).trans hgg, rest⟩
theorem own_size {w : World} {base e size n : Nat} {v : Value} {xs : List Value} (h : w.ownsRow base e size v n xs) {g : Nat} (hg : v.ownBlock = some g) : base ≤ g := (h.lt g hg).1
theorem Live.drew {w : World} {a g m k : Nat} {st : List (Int × Int)} {D : DataW Unit} (h : Live w a g m k st D) : Live w.drew a g m k st D := ⟨h.head, h.rows, h.map, h.few, h.one, h.agree, h.range⟩
theorem RLive.drew {w : World} {a g : Nat} {st : List (Int × Int)} (h : RLive w a g st) : RLive w.drew a g st := ⟨h.head, h.rows, h.few⟩
theorem Live.keptR {w w' : World} {a g m k x : Nat} {st : List (Int × Int)} {D : DataW Unit} (h : Live w a g m k st D) (hk : Kept x x w w') (h1 : a ≠ x) (h2 : g ≠ x) (h3 : m ≠ x) : Live w' a g m k st D := by
  refine ⟨Blk.kept h.head hk h1 h1, Blk.kept h.rows hk h2 h2, ?_, h.few, h.one, h.agree, h.range⟩
  have hlt := h.map.lt
  obtain ⟨es, clock, he, r⟩ := h.map
  exact ⟨es, clock, (hk.block m hlt h3 h3).trans he, r⟩

def holdN (st : List (Int × Int)) (s : Int) : Int := if stateOf st s = 3 then (st.getD s.toNat (0, 0)).2 else 0
theorem holder_form (st : List (Int × Int)) (s : Int) : holderOf st s = .tuple #[.int .i64 (holdN st s), .bool (decide (stateOf st s = 3))] := by
  unfold holderOf holdN
  by_cases h : stateOf st s = 3
  · rw [if_pos h, if_pos h, decide_eq_true h]
  · rw [if_neg h, if_neg h, decide_eq_false h]

structure Where (w : World) (a g m ra rg : Nat) : Prop where
  la : w.heap.size ≤ a
  lg : w.heap.size ≤ g
  lm : w.heap.size ≤ m
  lra : w.heap.size ≤ ra
  lrg : w.heap.size ≤ rg
  n1 : a ≠ rg
  n2 : g ≠ rg
  n3 : m ≠ rg
  n4 : ra ≠ g
  n5 : ra ≠ m
def LRel (w : World) (a g m ra rg k : Nat) (wr : World) : Prop := ∃ st D, Live wr a g m k st D ∧ RLive wr ra rg st ∧ Below w.heap.size w wr

set_option maxRecDepth 100000 in
set_option maxHeartbeats 4000000 in
theorem lives_yes (n : Nat) (h1 : 1 ≤ n) (h8 : n ≤ 8) (b : Option Addr) (len cap : Nat) (Z : Nat → Nat → Int) (w : World) (hlen : len ≤ maxLen) (hZ : IntStructs w b len 4 Z) :
    Calls Try.prog 4 #[.int .i64 n, .slice b len cap] w fun e w' => e = .returned (.bool true) ∧ Below w.heap.size w w' := by
  unfold maxLen at hlen
  go_enter Try.func4, Try.ntmps4
  go_wp2_with fail
  refine (new_live n h1 h8 _).mono ?_
  rintro e w1 ⟨a, g, m, D, hl, ha, hg, hm, hB, rfl⟩
  have Hl := hide hl
  have HB := hide hB
  clear hl hB
  go_wp2_with fail
  refine (rnew_live n h1 h8 _).mono ?_
  rintro e w2 ⟨ra, rg, hx, hra, hrg, hB2, rfl⟩
  have hW : Where w a g m ra rg := by
    have q1 := Hl.out.head.lt
    have q2 := Hl.out.rows.lt
    have q3 := Hl.out.map.lt
    have q4 := HB.out.size
    exact ⟨ha, hg, hm, by omega, by omega, by omega, by omega, by omega, by omega, by omega⟩
  have hR : LRel w a g m ra rg 0 w2 := ⟨_, _, Hl.out.below hB2, hx, below_via HB.out hB2⟩
  have HR := hide hR
  have HW := hide hW
  clear Hl HB hx hra hrg hB2 hR hW ha hg hm
  go_upto_block 0 with fail
  go_cut [] (fun W => ∃ k, LRel w a g m ra rg k W)
  case first =>
    go_wp2_with fail
    go_loopw [41] (fun i wr => ∃ (k : Nat), k ≤ len ∧ k ≤ 100 ∧ i = .int .i64 k ∧ LRel w a g m ra rg k wr) (fun i _ => 100 - (intOf i).toNat)
    case atStart => exact ⟨0, by omega, by omega, rfl, HR.out⟩
    case round =>
      clear HR
      obtain ⟨k, hk, hk1, rfl, hR⟩ := hrel
      by_cases hlt : k < len
      · rcases hZ with h0 | ⟨b0, off, rfl, hbw, hcell⟩
        · omega
        obtain ⟨st, D, hl, hx, hB⟩ := hR
        obtain ⟨hZ0, -, -⟩ := hcell k 0 hlt (by omega)
        obtain ⟨hZ1, -, -⟩ := hcell k 1 hlt (by omega)
        obtain ⟨hZ2, hc1, hc2⟩ := hcell k 2 hlt (by omega)
        obtain ⟨hZ3, -, -⟩ := hcell k 3 hlt (by omega)
        rw [← hB.cell hbw] at hZ0 hZ1 hZ2 hZ3
        simp only [Nat.add_zero] at hZ0
        clear hcell
        generalize Z k 0 = o at hZ0
        generalize Z k 1 = s at hZ1
        generalize Z k 2 = c at hZ2 hc1 hc2
        generalize Z k 3 = p at hZ3
        have hwf : (Lit.int .i64 c).wf = true := by simp [Lit.wf, IntKind.min, IntKind.max, IntKind.signed, IntKind.bits]; omega
        have Hwf := hide hwf
        clear hwf hc1 hc2
        by_cases h100 : k < 100
        · have hDo := Blk.new wr 23 #[.int .i64 o, .int .i64 s, .int .i64 c, .int .i64 p]
          have hne : wr.heap.size ≠ g ∧ wr.heap.size ≠ m ∧ wr.heap.size ≠ rg := by
            have q1 := hl.rows.lt
            have q2 := hl.map.lt
            have q3 := hx.rows.lt
            omega
          have hBn : Below wr.heap.size wr (wr.alloc (.cells #[.int .i64 o, .int .i64 s, .int .i64 c, .int .i64 p] 23)) := (Below.refl _ _).alloc (Nat.le_refl _) _
          have Hl := hide (hl.below hBn)
          have Hx := hide (hx.below hBn)
          have HB := hide (below_via hB hBn)
          have HD := hide hDo
          have Hne := hide hne
          clear hl hx hB hDo hne hBn
          go_upto_region 9 with fail
          refine Code.wp_named (fun W => Blk W wr.heap.size 23 #[.int .i64 o, .int .i64 s, .int .i64 c, .int .i64 p] ∧ Live W a g m k st D ∧ RLive W ra rg st ∧ Below w.heap.size w W) ⟨HD.out, Hl.out, Hx.out, HB.out⟩ ?_
          clear HD Hl Hx HB hZ0 hZ1 hZ2 hZ3
          rintro W ⟨hD, hl, hx, hB⟩
          generalize wr.heap.size = d at hD Hne ⊢
          have d0 := hD.cell 0
          have d1 := hD.cell 1
          have d2 := hD.cell 2
          have d3 := hD.cell 3
          simp at d0 d1 d2 d3
          have HD := hide hD.drew
          have Hl := hide hl.drew
          have Hx := hide hx.drew
          have HB := hide hB.drew
          clear hD hl hx hB
          have hff : ∀ n : Int, (n != n) = false := by simp
          go_region_held3 (fun W => W.cell? ⟨d, 0, none⟩ = some (.int .i64 o) ∧ W.cell? ⟨d, 1, none⟩ = some (.int .i64 s) ∧ W.cell? ⟨d, 2, none⟩ = some (.int .i64 c) ∧ W.cell? ⟨d, 3, none⟩ = some (.int .i64 p)) ((refine ⟨?_, ?_, ?_, ?_⟩ <;> first | assumption | (simp [*]; done))) ((first
            | (go_at_call 8; refine (do_live a g m k st D o s c p _ Hl.out Hwf.out (by omega)).mono ?_; rintro e W1 ⟨rfl, hK, D1, hl⟩; have Hl1 := hide hl; have Hx1 := hide (Hx.out.kept hK HW.out.n4 HW.out.n5 HW.out.n2.symm HW.out.n3.symm); have HB1 := hide (HB.out.trans (hK.below HW.out.lg HW.out.lm HB.out.size)); have hD := Blk.kept HD.out hK Hne.out.1 Hne.out.2.1; have HD1 := hide hD; have e0 := hD.cell 0; have e1 := hD.cell 1; have e2 := hD.cell 2; have e3 := hD.cell 3; simp at e0 e1 e2 e3; clear hK hl hD)
            | (go_at_call 14; refine (own_live ra rg st o s c p _ Hx1.out).mono ?_; rintro e W2 ⟨rfl, hK, hx⟩; have Hx2 := hide hx; have Hl2 := hide (Hl1.out.keptR hK HW.out.n1 HW.out.n2 HW.out.n3); have HB2 := hide (HB1.out.trans (hK.below HW.out.lrg HW.out.lrg HB1.out.size)); have hD := Blk.kept HD1.out hK Hne.out.2.2 Hne.out.2.2; have HD2 := hide hD; have f0 := hD.cell 0; have f1 := hD.cell 1; have f2 := hD.cell 2; have f3 := hD.cell 3; simp at f0 f1 f2 f3; clear hK hx hD)
            | (go_at_call 9; refine (state_live a g m (k + 1) _ D1 s _ Hl2.out).mono ?_; rintro e W3 ⟨rfl, rfl⟩)
            | (go_at_call 15; refine (rstate_any ra rg _ s _ Hx2.out).mono ?_; rintro e W3 ⟨rfl, rfl⟩)
            | (go_at_call 10; refine (idle_live a g m (k + 1) _ D1 _ Hl2.out).mono ?_; rintro e W3 ⟨v3, rfl, hv, hb⟩; have Hl3 := hide (Hl2.out.below hb); have Hx3 := hide (Hx2.out.below hb); have HB3 := hide (below_via HB2.out hb); have hD := HD2.out.below hb HD2.out.lt; have HD3 := hide hD; have Hv3 := hide hv; have g0 := hD.cell 0; have g1 := hD.cell 1; have g2 := hD.cell 2; have g3 := hD.cell 3; simp at g0 g1 g2 g3; clear hv hb hD)
            | (go_at_call 17; refine (ridle_any ra rg _ _ Hx3.out).mono ?_; rintro e W4 ⟨v4, rfl, hv, hb⟩; have Hl4 := hide (Hl3.out.below hb); have Hx4 := hide (Hx3.out.below hb); have HB4 := hide (below_via HB3.out hb); have hD := HD3.out.below hb HD3.out.lt; have HD4 := hide hD; have Hv4 := hide hv; have Hv34 := hide (own_below Hv3.out hb); have i0 := hD.cell 0; have i1 := hD.cell 1; have i2 := hD.cell 2; have i3 := hD.cell 3; simp at i0 i1 i2 i3; clear hv hb hD)
            | (go_at_call 16; refine (equal_own _ _ v3 v4 _ _ (Nat.le_trans (idleN_length _ _) Hl4.out.few) Hv34.out Hv4.out).mono ?_; rintro e W5 ⟨rfl, hb⟩; have Hl5 := hide (Hl4.out.below hb); have Hx5 := hide (Hx4.out.below hb); have HB5 := hide (below_via HB4.out hb); have hD := HD4.out.below hb HD4.out.lt; have HD5 := hide hD; have j0 := hD.cell 0; have j1 := hD.cell 1; have j2 := hD.cell 2; have j3 := hD.cell 3; simp at j0 j1 j2 j3; clear hb hD)))
          clear Hl Hx HB HD Hl1 Hx1 HB1 HD1 Hl2 Hx2 HB2 HD2 Hl3 Hx3 HB3 HD3 Hl4 Hx4 HB4 HD4 Hv3 Hv4 Hv34
          go_wp2_with fail
          refine (holder_live a g m (k + 1) _ D1 s _ Hl5.out).mono ?_
          rintro e W6 ⟨rfl, rfl⟩
          rw [holder_form]
          go_wp2_with fail
          refine (rholder_any ra rg _ s _ Hx5.out).mono ?_
          rintro e W6 ⟨rfl, rfl⟩
          rw [holder_form]
          go_wp2_with fail
          refine (of_live2 a g m (k + 1) _ D1 c _ Hl5.out Hwf.out).mono ?_
          rintro e W6 ⟨rfl, rfl⟩
          unfold ofV
          go_wp2_with fail
          refine (rof_any ra rg _ c _ Hx5.out).mono ?_
          rintro e W6 ⟨rfl, rfl⟩
          unfold ofV
          have HR5 : LRel w a g m ra rg (k + 1) W5 := ⟨_, _, Hl5.out, Hx5.out, HB5.out⟩
          have HR6 := hide HR5
          clear Hl5 Hx5 HB5 HD5 HR5
          go_wp2_with fail
          go_roundw
          case rel => exact ⟨k + 1, by omega, by omega, by go_num, HR6.out⟩
          case measure => simp [intOf]; omega
        · have hBn : Below wr.heap.size wr (wr.alloc (.cells #[.int .i64 o, .int .i64 s, .int .i64 c, .int .i64 p] 23)) := (Below.refl _ _).alloc (Nat.le_refl _) _
          have HR3 : LRel w a g m ra rg k (wr.alloc (.cells #[.int .i64 o, .int .i64 s, .int .i64 c, .int .i64 p] 23)) := ⟨_, _, hl.below hBn, hx.below hBn, below_via hB hBn⟩
          have HR4 := hide HR3
          clear HR3 hl hx hB hBn
          go_wp2
          go_meet
          case rel => exact ⟨k, HR4.out⟩
      · have HR := hide hR
        clear hR
        go_wp2
        go_meet
        case rel => exact ⟨k, HR.out⟩
  case rest =>
    obtain ⟨k, st, D, hl, hx, hB⟩ := hcut
    have HB := hide hB
    clear hl hx hB
    go_wp2_with fail
    refine (awake_any _).mono ?_
    rintro e w4 ⟨rfl, hb4⟩
    have Hb4 := hide (below_via HB.out hb4)
    clear hb4 HB
    go_wp2
    go_returns
    exact ⟨rfl, Hb4.out⟩

end Go.Proofs.Ytecedgjahpjppaa
