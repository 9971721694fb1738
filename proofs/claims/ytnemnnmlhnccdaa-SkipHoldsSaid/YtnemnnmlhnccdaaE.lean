/-
  The walk of the law SkipHolds: it returns true and leaves what was there as it was. No condition.
-/
import Derived.Test.YtnemnnmlhnccdaaC
import Derived.Deep.RegionHeld3
import Derived.Deep.DeepCutAuto
import Derived.Deep.CutBlock
namespace Go.Proofs.Ytnemnnmlhnccdaa
open Go.RowKit
set_option linter.unusedVariables false
set_option linter.unusedSimpArgs false

theorem hide {p : Prop} (h : p) : Hid p := h
theorem bcell {W w1 : World} (hb : Below W.heap.size W w1) : (∀ b o, b < W.heap.size → w1.cell? ⟨b, o, none⟩ = W.cell? ⟨b, o, none⟩) ∧ (∀ b o, b < W.heap.size → w1.frozen? ⟨b, o, none⟩ = W.frozen? ⟨b, o, none⟩) :=
  ⟨fun b o h => hb.cell (p := ⟨b, o, none⟩) h, fun b o h => hb.frozen (p := ⟨b, o, none⟩) h⟩

theorem keep3 {W w1 : World} (hb : Below W.heap.size W w1) {A : Nat} {x y z : Value} (h : W.cell? ⟨A, 0, none⟩ = some x ∧ W.cell? ⟨A, 1, none⟩ = some y ∧ W.cell? ⟨A, 2, none⟩ = some z) :
    w1.cell? ⟨A, 0, none⟩ = some x ∧ w1.cell? ⟨A, 1, none⟩ = some y ∧ w1.cell? ⟨A, 2, none⟩ = some z :=
  ⟨(hb.cell (World.block_lt_of_cell? _ _ h.1)).trans h.1, (hb.cell (World.block_lt_of_cell? _ _ h.2.1)).trans h.2.1, (hb.cell (World.block_lt_of_cell? _ _ h.2.2)).trans h.2.2⟩
theorem keepA {W : World} (o : Obj) {A : Nat} {x y z : Value} (h : W.cell? ⟨A, 0, none⟩ = some x ∧ W.cell? ⟨A, 1, none⟩ = some y ∧ W.cell? ⟨A, 2, none⟩ = some z) :
    (W.alloc o).cell? ⟨A, 0, none⟩ = some x ∧ (W.alloc o).cell? ⟨A, 1, none⟩ = some y ∧ (W.alloc o).cell? ⟨A, 2, none⟩ = some z :=
  keep3 ((Below.refl _ _).alloc (Nat.le_refl _) o) h
theorem keepC {W : World} (p : Addr) (u : Value) {A : Nat} {x y z : Value} (h : W.cell? ⟨A, 0, none⟩ = some x ∧ W.cell? ⟨A, 1, none⟩ = some y ∧ W.cell? ⟨A, 2, none⟩ = some z) (hp : A < p.block) :
    (W.setCell p u).cell? ⟨A, 0, none⟩ = some x ∧ (W.setCell p u).cell? ⟨A, 1, none⟩ = some y ∧ (W.setCell p u).cell? ⟨A, 2, none⟩ = some z := by
  have k : ∀ o, (W.setCell p u).cell? ⟨A, o, none⟩ = W.cell? ⟨A, o, none⟩ := fun o => ((Below.refl (A + 1) W).setCell (p := p) hp u).cell (p := ⟨A, o, none⟩) (Nat.lt_succ_self A)
  exact ⟨(k 0).trans h.1, (k 1).trans h.2.1, (k 2).trans h.2.2⟩
theorem lt_new {W w1 : World} (hb : Below W.heap.size W w1) : ∀ b, b < W.heap.size → b < w1.heap.size := fun b h => by have := hb.size; omega
theorem ne_new {W w1 : World} (hb : Below W.heap.size W w1) : ∀ b, b < W.heap.size → b ≠ w1.heap.size := fun b h => by have := hb.size; omega
theorem keepD {W : World} {A : Nat} {x y z : Value} (h : W.cell? ⟨A, 0, none⟩ = some x ∧ W.cell? ⟨A, 1, none⟩ = some y ∧ W.cell? ⟨A, 2, none⟩ = some z) :
    W.drew.cell? ⟨A, 0, none⟩ = some x ∧ W.drew.cell? ⟨A, 1, none⟩ = some y ∧ W.drew.cell? ⟨A, 2, none⟩ = some z := h
theorem three {X w1 : World} (hb : Below X.heap.size X w1) (P : Nat) (hP : P < X.heap.size) : (w1.cell? ⟨P, 0, none⟩ = X.cell? ⟨P, 0, none⟩ ∧ w1.cell? ⟨P, 1, none⟩ = X.cell? ⟨P, 1, none⟩ ∧ w1.cell? ⟨P, 2, none⟩ = X.cell? ⟨P, 2, none⟩) ∧
    (w1.frozen? ⟨P, 0, none⟩ = X.frozen? ⟨P, 0, none⟩ ∧ w1.frozen? ⟨P, 1, none⟩ = X.frozen? ⟨P, 1, none⟩ ∧ w1.frozen? ⟨P, 2, none⟩ = X.frozen? ⟨P, 2, none⟩) ∧ P < w1.heap.size ∧ P ≠ w1.heap.size :=
  ⟨⟨hb.cell (p := ⟨P, 0, none⟩) hP, hb.cell (p := ⟨P, 1, none⟩) hP, hb.cell (p := ⟨P, 2, none⟩) hP⟩, ⟨hb.frozen (p := ⟨P, 0, none⟩) hP, hb.frozen (p := ⟨P, 1, none⟩) hP, hb.frozen (p := ⟨P, 2, none⟩) hP⟩, by have := hb.size; omega, by have := hb.size; omega⟩
/-- Two cells' rows: what was sent, and what failed. -/
structure Two (w : World) (c : Bool) (A B : Nat) (W : World) : Prop where
  a0 : W.cell? ⟨A, 0, none⟩ = some (.bool false)
  a1 : W.cell? ⟨A, 1, none⟩ = some (.bool true)
  a2 : W.cell? ⟨A, 2, none⟩ = some (.bool true)
  b0 : W.cell? ⟨B, 0, none⟩ = some (.bool true)
  b1 : W.cell? ⟨B, 1, none⟩ = some (.bool false)
  b2 : W.cell? ⟨B, 2, none⟩ = some (.bool c)
  bel : Below w.heap.size w W

theorem sent_lit (a b c : Bool) (w : World) :
    Calls Try.prog 8 #[.agg #[.bool a, .bool b, .bool c], .int .u8 83] w fun e w' => e = .returned (.agg #[.bool false, .bool true, .bool true]) ∧ ∃ o o', w' = (w.alloc o).alloc o' := by
  go_enter Try.func8, Try.ntmps8
  go_wp2
  all_goals go_returns
  all_goals exact ⟨rfl, _, _, rfl⟩
theorem failed_lit (a b c : Bool) (w : World) :
    Calls Try.prog 10 #[.agg #[.bool a, .bool b, .bool c], .int .i64 0] w fun e w' => e = .returned (.agg #[.bool true, .bool false, .bool c]) ∧ ∃ o o', w' = (w.alloc o).alloc o' := by
  cases b
  all_goals
    go_enter Try.func10, Try.ntmps10
    go_wp2
    all_goals go_returns
    all_goals exact ⟨rfl, _, _, rfl⟩

theorem Two.below {w W W' : World} {c : Bool} {A B : Nat} (h : Two w c A B W) (hb : Below W.heap.size W W') : Two w c A B W' := by
  have k : ∀ (p : Addr) (v : Value), W.cell? p = some v → W'.cell? p = some v := fun p v hv => (hb.cell (World.block_lt_of_cell? W p hv)).trans hv
  exact ⟨k _ _ h.a0, k _ _ h.a1, k _ _ h.a2, k _ _ h.b0, k _ _ h.b1, k _ _ h.b2, h.bel.trans (hb.mono h.bel.size)⟩
theorem verdict_lit (a b c : Bool) (k r : Int) (w : World) (hr : verdict ⟨a, b, c⟩ k = r) :
    Calls Try.prog 6 #[.agg #[.bool a, .bool b, .bool c], .int .u8 k] w fun e w' => e = .returned (.int .i64 r) ∧ Below w.heap.size w w' := by
  have h := verdict_any ⟨a, b, c⟩ k w
  rw [hr] at h; exact h
theorem sent_lit2 (c : Bool) (w : World) :
    Calls Try.prog 8 #[.agg #[.bool true, .bool false, .bool c], .int .u8 83] w fun e w' => e = .returned (.agg #[.bool false, .bool true, .bool true]) ∧ Below w.heap.size w w' := sent_any ⟨true, false, c⟩ 83 w
theorem ready_lit (w : World) :
    Calls Try.prog 12 #[.agg #[.bool false, .bool true, .bool true]] w fun e w' => e = .returned (.agg #[.bool false, .bool false, .bool false]) ∧ Below w.heap.size w w' := ready_any ⟨false, true, true⟩ w

set_option maxHeartbeats 4000000 in
theorem holds_any (s : Sk) (k : Int) (w : World) :
    Calls Try.prog 4 #[sk s, .int .u8 k] w fun e w' => e = .returned (.bool true) ∧ Below w.heap.size w w' := by
  obtain ⟨a, b, c⟩ := s
  unfold sk
  go_enter Try.func4, Try.ntmps4
  go_upto_region 1 with fail
  go_cut [5, 6, 8, 9, 10, 11] (fun p q _ _ _ _ W => ∃ A B, p = .pointer (some ⟨A, 0, none⟩) ∧ q = .pointer (some ⟨B, 0, none⟩) ∧ Two w c A B W)
  case first =>
    refine Code.wp_named (fun W => (W.drew.cell? ⟨w.heap.size, 0, none⟩ = some (.bool a) ∧ W.drew.cell? ⟨w.heap.size, 1, none⟩ = some (.bool b) ∧ W.drew.cell? ⟨w.heap.size, 2, none⟩ = some (.bool c)) ∧ w.heap.size < W.heap.size ∧ Below w.heap.size w W) ⟨⟨by simp, by simp, by simp⟩, by simp, (Below.refl _ _).alloc (Nat.le_refl _) _⟩ ?_
    rintro W ⟨hS, hH, hB⟩
    have hS0 : W.cell? ⟨w.heap.size, 0, none⟩ = some (.bool a) ∧ W.cell? ⟨w.heap.size, 1, none⟩ = some (.bool b) ∧ W.cell? ⟨w.heap.size, 2, none⟩ = some (.bool c) := hS
    have HB := hide hB
    clear hB
    go_region_held3 (fun W => W.cell? ⟨w.heap.size, 0, none⟩ = some (.bool a) ∧ W.cell? ⟨w.heap.size, 1, none⟩ = some (.bool b) ∧ W.cell? ⟨w.heap.size, 2, none⟩ = some (.bool c)) (((try dsimp only); repeat (first | with_reducible assumption | (with_reducible refine keepA _ ?_) | (with_reducible refine keepD ?_) | (with_reducible refine keepC _ _ ?_ (by first | omega | (simp; omega)))))) ((first
      | (go_at_call 8; refine (sent_lit a b c _).mono ?_; rintro e w1 ⟨rfl, o1, o2, rfl⟩)
      | (go_at_call 10; refine (failed_lit a b c _).mono ?_; rintro e w2 ⟨rfl, o3, o4, rfl⟩)))
    all_goals go_wp2
    all_goals go_meet
    all_goals exact ⟨_, _, rfl, rfl, by go_simp, by go_simp, by go_simp, by go_simp, by go_simp, by go_simp, by
      have hw := HB.out
      go_grown⟩
  case rest =>
    obtain ⟨A, B, rfl, rfl, hT⟩ := hcut
    have a0 := hT.a0; have a1 := hT.a1; have a2 := hT.a2
    have HT := hide hT
    clear hT
    by_cases h88 : k = 88
    · subst h88
      go_wp2_with fail
      refine (verdict_lit false true true 88 0 _ rfl).mono ?_
      rintro e w1 ⟨rfl, hb1⟩
      have hT1 := HT.out.below hb1
      have HT1 := hide hT1
      have b0 := hT1.b0; have b1 := hT1.b1; have b2 := hT1.b2
      clear hb1 hT1 a0 a1 a2
      go_wp2_with fail
      refine (verdict_lit true false c 88 0 _ rfl).mono ?_
      rintro e w2 ⟨rfl, hb2⟩
      have HT2 := hide (HT1.out.below hb2)
      clear hb2 b0 b1 b2
      go_wp2_with fail
      refine (awake_any _).mono ?_
      rintro e w3 ⟨rfl, hb3⟩
      have HT3 := hide (HT2.out.below hb3)
      clear hb3
      go_wp2_with fail
      go_returns
      exact ⟨rfl, HT3.out.bel⟩
    · have n88 : (k == 88) = false := by simpa using h88
      have v1 : verdict ⟨false, true, true⟩ k = 2 := by unfold verdict; rw [if_neg h88]; rfl
      have v3 : verdict ⟨false, false, false⟩ k = 0 := by unfold verdict; rw [if_neg h88]; rfl
      have V1 := hide v1
      have V3 := hide v3
      clear v1 v3
      by_cases h83 : k = 83
      · subst h83
        go_wp2_with fail
        refine (verdict_lit false true true _ 2 _ V1.out).mono ?_
        rintro e w1 ⟨rfl, hb1⟩
        have hT1 := HT.out.below hb1
        have HT1 := hide hT1
        have b0 := hT1.b0; have b1 := hT1.b1; have b2 := hT1.b2
        clear hb1 hT1 a0 a1 a2
        go_wp2_with fail
        refine (verdict_lit true false c _ 0 _ rfl).mono ?_
        rintro e w2 ⟨rfl, hb2⟩
        have hT2 := HT1.out.below hb2
        have HT2 := hide hT2
        have c0 := hT2.b0; have c1 := hT2.b1; have c2 := hT2.b2
        clear hb2 b0 b1 b2 hT2
        go_wp2_with fail
        refine (sent_lit2 c _).mono ?_
        rintro e w3 ⟨rfl, hb3⟩
        have HT3 := hide (HT2.out.below hb3)
        clear hb3 c0 c1 c2
        go_wp2_with fail
        refine (ready_lit _).mono ?_
        rintro e w4 ⟨rfl, hb4⟩
        have HT4 := hide (HT3.out.below hb4)
        clear hb4
        go_wp2_with fail
        refine (verdict_lit false false false _ 0 _ V3.out).mono ?_
        rintro e w5 ⟨rfl, hb5⟩
        have HT5 := hide (HT4.out.below hb5)
        clear hb5
        go_wp2_with fail
        refine (awake_any _).mono ?_
        rintro e w6 ⟨rfl, hb6⟩
        have HT6 := hide (HT5.out.below hb6)
        clear hb6
        go_wp2_with fail
        go_returns
        exact ⟨rfl, HT6.out.bel⟩
      · have n83 : (k == 83) = false := by simpa using h83
        have v2 : verdict ⟨true, false, c⟩ k = 1 := by unfold verdict; rw [if_neg h88]; simp [h83]
        have V2 := hide v2
        clear v2
        go_wp2_with fail
        refine (verdict_lit false true true _ 2 _ V1.out).mono ?_
        rintro e w1 ⟨rfl, hb1⟩
        have hT1 := HT.out.below hb1
        have HT1 := hide hT1
        have b0 := hT1.b0; have b1 := hT1.b1; have b2 := hT1.b2
        clear hb1 hT1 a0 a1 a2
        go_wp2_with fail
        refine (verdict_lit true false c _ 1 _ V2.out).mono ?_
        rintro e w2 ⟨rfl, hb2⟩
        have hT2 := HT1.out.below hb2
        have HT2 := hide hT2
        have c0 := hT2.b0; have c1 := hT2.b1; have c2 := hT2.b2
        clear hb2 b0 b1 b2 hT2
        go_wp2_with fail
        refine (sent_lit2 c _).mono ?_
        rintro e w3 ⟨rfl, hb3⟩
        have HT3 := hide (HT2.out.below hb3)
        clear hb3 c0 c1 c2
        go_wp2_with fail
        refine (ready_lit _).mono ?_
        rintro e w4 ⟨rfl, hb4⟩
        have HT4 := hide (HT3.out.below hb4)
        clear hb4
        go_wp2_with fail
        refine (verdict_lit false false false _ 0 _ V3.out).mono ?_
        rintro e w5 ⟨rfl, hb5⟩
        have HT5 := hide (HT4.out.below hb5)
        clear hb5
        go_wp2_with fail
        refine (awake_any _).mono ?_
        rintro e w6 ⟨rfl, hb6⟩
        have HT6 := hide (HT5.out.below hb6)
        clear hb6
        go_wp2_with fail
        go_returns
        exact ⟨rfl, HT6.out.bel⟩
end Go.Proofs.Ytnemnnmlhnccdaa
