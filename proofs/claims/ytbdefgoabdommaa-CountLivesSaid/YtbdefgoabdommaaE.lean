/-
  What the calls of the document's counter do to memory. No condition.
-/
import Derived.Test.YtbdefgoabdommaaB
import Derived.StillTailTactics
import Derived.BigRegion
namespace Go.Proofs.Ytbdefgoabdommaa
open Go.RowKit
set_option linter.unusedVariables false

/-- A counter of the document's: its block g, its row's block r, the numbers L. -/
def RCtr (w : World) (g r : Nat) (L : List Int) : Prop :=
  Blk w g 42 #[.slice (some ⟨r, 0, none⟩) 5 5] ∧ Blk w r 3 (L.map (Value.int .i64)).toArray ∧ L.length = 5
theorem RCtr.head {w : World} {g r : Nat} {L : List Int} (h : RCtr w g r L) : w.cell? ⟨g, 0, none⟩ = some (.slice (some ⟨r, 0, none⟩) 5 5) := by rw [h.1.cell]; rfl
theorem RCtr.at_ {w : World} {g r : Nat} {L : List Int} (h : RCtr w g r L) (k : Nat) (hk : k < 5) : w.cell? ⟨r, k, none⟩ = some (.int .i64 (L.getD k 0)) := by
  rw [h.2.1.cell]; have := h.2.2; simp [List.getD, this, hk]
theorem RCtr.grown {w w' : World} {g r : Nat} {L : List Int} {row : Option Nat} (h : RCtr w g r L) (hg : w.grownBy w' row) (h1 : some g ≠ row) (h2 : some r ≠ row) : RCtr w' g r L :=
  ⟨h.1.grown hg h1, h.2.1.grown hg h2, h.2.2⟩
theorem RCtr.below {w w' : World} {g r : Nat} {L : List Int} (h : RCtr w g r L) (hb : Below w.heap.size w w') : RCtr w' g r L :=
  ⟨h.1.below hb h.1.lt, h.2.1.below hb h.2.1.lt, h.2.2⟩
theorem RCtr.apart {w : World} {g r : Nat} {L : List Int} (h : RCtr w g r L) : g ≠ r := h.1.apart h.2.1 (by decide)

theorem rnew_c (w : World) : Calls Try.prog 12 #[] w fun e w' => ∃ g r, e = .returned (.pointer (some ⟨g, 0, none⟩)) ∧ RCtr w' g r [0, 0, 0, 0, 0] ∧ w.heap.size ≤ g ∧ w.heap.size ≤ r ∧ Below w.heap.size w w' := by
  have hmk : ∀ w : World, (Instr.makeSlice 28 (.int .i64 5) (.int .i64 5)).run Try.prog w = .ok (.slice (some ⟨w.heap.size, 0, none⟩) 5 5) (w.alloc (.cells #[.int .i64 0, .int .i64 0, .int .i64 0, .int .i64 0, .int .i64 0] 3)) := fun _ => by kernel_rfl
  go_enter Try.func12, Try.ntmps12
  go_wp2
  go_returns
  refine ⟨w.heap.size + 1, w.heap.size, rfl, ⟨?_, ?_, rfl⟩, by omega, by omega, by go_grown⟩
  · have := Blk.new (w.alloc (.cells #[.int .i64 0, .int .i64 0, .int .i64 0, .int .i64 0, .int .i64 0] 3)) 42 #[.slice (some ⟨w.heap.size, 0, none⟩) 5 5]
    simpa using this
  · exact (Blk.new w 3 _).alloc _

theorem radd_yes (g r : Nat) (k n x : Int) (w : World) (h0 : 0 ≤ k) (h5 : k < 5) (n0 : 0 ≤ n) (n1 : n ≤ 2147483648) (hg : w.cell? ⟨g, 0, none⟩ = some (.slice (some ⟨r, 0, none⟩) 5 5))
    (hc : w.cell? ⟨r, k.toNat, none⟩ = some (.int .i64 x)) (hf : w.frozen? ⟨r, k.toNat, none⟩ = false) :
    Calls Try.prog 13 #[.pointer (some ⟨g, 0, none⟩), .int .i64 k, .int .i64 n] w fun e w' => e = .returned (.bool true) ∧ (w.setCell ⟨r, k.toNat, none⟩ (.int .i64 (wrap64 (x + n)))).drew = w' := by
  go_enter Try.func13, Try.ntmps13
  go_wp2_with fail
  go_still_tail 15, (by kernel_rfl)
  change wpList _ _ _ _ _ w.drew
  go_wp2
  go_returns
  simp

theorem radd_no (g r : Nat) (k n : Int) (w : World) (h : bad k n) :
    Calls Try.prog 13 #[.pointer (some ⟨g, 0, none⟩), .int .i64 k, .int .i64 n] w fun e w' => e = .returned (.bool false) ∧ w = w' := by
  unfold bad at h
  by_cases h1 : k < 0
  · go_enter Try.func13, Try.ntmps13
    go_wp2
    go_returns
    simp
  · by_cases h2 : 5 ≤ k
    · go_enter Try.func13, Try.ntmps13
      go_wp2
      go_returns
      simp
    · by_cases h3 : n < 0
      · go_enter Try.func13, Try.ntmps13
        go_wp2
        go_returns
        simp
      · have h4 : 2147483648 < n := by omega
        clear h
        go_enter Try.func13, Try.ntmps13
        go_wp2
        go_returns
        simp

theorem rget_yes (g r : Nat) (k x : Int) (w : World) (h0 : 0 ≤ k) (h5 : k < 5) (hg : w.cell? ⟨g, 0, none⟩ = some (.slice (some ⟨r, 0, none⟩) 5 5))
    (hc : w.cell? ⟨r, k.toNat, none⟩ = some (.int .i64 x)) :
    Calls Try.prog 14 #[.pointer (some ⟨g, 0, none⟩), .int .i64 k] w fun e w' => e = .returned (.int .i64 x) ∧ w = w' := by
  go_enter Try.func14, Try.ntmps14
  go_wp2
  go_returns
  simp

theorem rget_out (g r : Nat) (k : Int) (w : World) (h : k < 0 ∨ 5 ≤ k) :
    Calls Try.prog 14 #[.pointer (some ⟨g, 0, none⟩), .int .i64 k] w fun e w' => e = .returned (.int .i64 0) ∧ w = w' := by
  rcases h with h | h
  all_goals
    go_enter Try.func14, Try.ntmps14
    go_wp2
    go_returns
    simp

theorem rtotal_yes (g r : Nat) (L : List Int) (hL : L.length = 5) (w : World) (hg : w.cell? ⟨g, 0, none⟩ = some (.slice (some ⟨r, 0, none⟩) 5 5))
    (hc : ∀ k, k < 5 → w.cell? ⟨r, k, none⟩ = some (.int .i64 (L.getD k 0))) :
    Calls Try.prog 15 #[.pointer (some ⟨g, 0, none⟩)] w fun e w' => e = .returned (.int .i64 (sumW L)) ∧ w = w' := by
  have hC := hide hc
  clear hc
  go_enter Try.func15, Try.ntmps15
  go_wp2_with fail
  go_loop [3, 4] (fun s i => ∃ k : Nat, k ≤ 5 ∧ i = .int .i64 k ∧ s = .int .i64 (sumW (L.take k))) (fun _ i => 5 - (intOf i).toNat)
  case atStart => exact ⟨0, by omega, rfl, rfl⟩
  case round =>
    obtain ⟨k, hk, rfl, rfl⟩ := hrel
    by_cases hlt : k < 5
    · have hc := hC.out k hlt
      have hs := sumW_succ L k (by omega)
      generalize L.getD k 0 = x at hc hs
      generalize sumW (L.take k) = s at hs
      have Hs := hide hs
      clear hs
      go_wp2
      go_round
      case rel => exact ⟨k + 1, by omega, by go_num, by rw [Hs.out]⟩
      case measure => simp [intOf]; omega
    · obtain rfl : k = 5 := by omega
      go_wp2
      go_returns
      refine ⟨?_, rfl⟩
      rw [List.take_of_length_le (by omega)]
      rfl

theorem radd_c (g r : Nat) (L : List Int) (k n : Int) (w : World) (h : RCtr w g r L) :
    Calls Try.prog 13 #[.pointer (some ⟨g, 0, none⟩), .int .i64 k, .int .i64 n] w fun e w' => e = .returned (.bool (okB k n)) ∧ RCtr w' g r (addL L k n) ∧ w.grownBy w' (some r) := by
  by_cases hb : okB k n = true
  · have hb' : 0 ≤ k ∧ k < 5 ∧ 0 ≤ n ∧ n ≤ 2147483648 := by simpa [okB] using hb
    refine (radd_yes g r k n (L.getD k.toNat 0) w hb'.1 hb'.2.1 hb'.2.2.1 hb'.2.2.2 h.head (h.at_ _ (by omega)) (h.2.1.frozen _)).mono ?_
    rintro e w' ⟨rfl, rfl⟩
    have hg := grownBy_set w r k.toNat (.int .i64 (wrap64 (L.getD k.toNat 0 + n)))
    refine ⟨by rw [hb], ⟨(h.1.far h.apart _).drew, ?_, ?_⟩, ⟨hg.os, hg.tape, hg.output, hg.size, hg.block⟩⟩
    · have := h.2.1.put k.toNat (.int .i64 (wrap64 (L.getD k.toNat 0 + n)))
      unfold addL
      rw [if_pos hb]
      rw [List.map_set]
      simpa using this.drew
    · unfold addL; rw [if_pos hb, List.length_set]; exact h.2.2
  · have hb' : bad k n := by
      have : ¬ (0 ≤ k ∧ k < 5 ∧ 0 ≤ n ∧ n ≤ 2147483648) := by simpa [okB] using hb
      unfold bad; omega
    refine (radd_no g r k n w hb').mono ?_
    rintro e w' ⟨rfl, rfl⟩
    refine ⟨by simp [hb], ?_, World.grownBy.refl _ _⟩
    unfold addL; rw [if_neg hb]; exact h

theorem rget_c (g r : Nat) (L : List Int) (k : Int) (w : World) (h : RCtr w g r L) :
    Calls Try.prog 14 #[.pointer (some ⟨g, 0, none⟩), .int .i64 k] w fun e w' => e = .returned (.int .i64 (getL L k)) ∧ w = w' := by
  by_cases hk : 0 ≤ k ∧ k < 5
  · refine (rget_yes g r k (L.getD k.toNat 0) w hk.1 hk.2 h.head (h.at_ _ (by omega))).mono ?_
    rintro e w' ⟨rfl, rfl⟩
    exact ⟨by rw [getL, if_pos hk], rfl⟩
  · refine (rget_out g r k w (by omega)).mono ?_
    rintro e w' ⟨rfl, rfl⟩
    exact ⟨by rw [getL, if_neg hk], rfl⟩

theorem rtotal_c (g r : Nat) (L : List Int) (w : World) (h : RCtr w g r L) :
    Calls Try.prog 15 #[.pointer (some ⟨g, 0, none⟩)] w fun e w' => e = .returned (.int .i64 (sumW L)) ∧ w = w' :=
  rtotal_yes g r L h.2.2 w h.head (fun k hk => h.at_ k hk)
end Go.Proofs.Ytbdefgoabdommaa
