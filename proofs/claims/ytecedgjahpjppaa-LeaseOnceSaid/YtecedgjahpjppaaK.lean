/-
  The reference's leases: what they are in memory, and what their calls do. No condition.
-/
import Derived.Test.YtecedgjahpjppaaI
namespace Go.Proofs.Ytecedgjahpjppaa
open Go.RowKit Go.Maps
set_option linter.unusedVariables false
set_option linter.unusedSimpArgs false

/-- The reference's leases: the struct's block a, the servers' g. -/
structure RLive (w : World) (a g : Nat) (st : List (Int × Int)) : Prop where
  head : Blk w a 59 #[.slice (some ⟨g, 0, none⟩) st.length st.length]
  rows : Blk w g 62 (cellsL st).toArray
  few : st.length ≤ 8

section
variable {w w' : World} {a g : Nat} {st : List (Int × Int)}
theorem RLive.c0 (h : RLive w a g st) : w.cell? ⟨a, 0, none⟩ = some (.slice (some ⟨g, 0, none⟩) st.length st.length) := h.head.cell 0
theorem RLive.s0 (h : RLive w a g st) (i : Nat) (hi : i < st.length) : w.cell? ⟨g, i * 2, none⟩ = some (.int .i64 (st.getD i (0, 0)).1) := by
  rw [h.rows.cell, List.getElem?_toArray]; exact (cellsL_at st i hi).1
theorem RLive.s1 (h : RLive w a g st) (i : Nat) (hi : i < st.length) : w.cell? ⟨g, i * 2 + 1, none⟩ = some (.int .i64 (st.getD i (0, 0)).2) := by
  rw [h.rows.cell, List.getElem?_toArray]; exact (cellsL_at st i hi).2
theorem RLive.below (h : RLive w a g st) (hb : Below w.heap.size w w') : RLive w' a g st := ⟨h.head.below hb h.head.lt, h.rows.below hb h.rows.lt, h.few⟩
theorem RLive.kept {g' m' : Nat} (h : RLive w a g st) (hk : Kept g' m' w w') (h1 : a ≠ g') (h2 : a ≠ m') (h3 : g ≠ g') (h4 : g ≠ m') : RLive w' a g st := ⟨Blk.kept h.head hk h1 h2, Blk.kept h.rows hk h3 h4, h.few⟩
theorem RLive.store (h : RLive w a g st) (i : Nat) (s x : Int) (hi : i < st.length) : RLive ((w.setCell ⟨g, i * 2, none⟩ (.int .i64 s)).setCell ⟨g, i * 2 + 1, none⟩ (.int .i64 x)) a g (st.set i (s, x)) := by
  have hag : a ≠ g := h.head.apart h.rows (by decide)
  refine ⟨?_, ?_, by rw [List.length_set]; exact h.few⟩
  · rw [List.length_set]
    exact (h.head.far (p := ⟨g, i * 2, none⟩) hag _).far (p := ⟨g, i * 2 + 1, none⟩) hag _
  · have h2 := (h.rows.put (i * 2) (.int .i64 s)).put (i * 2 + 1) (.int .i64 x)
    rw [List.setIfInBounds_toArray, List.setIfInBounds_toArray, cellsL_set st i (s, x) hi] at h2
    exact h2
end

theorem rhas (a g : Nat) (st : List (Int × Int)) (s : Int) (w : World) (h : RLive w a g st) :
    Calls Try.prog 32 #[.pointer (some ⟨a, 0, none⟩), .int .i64 s] w fun e w' => w = w' ∧ e = .returned (.bool (decide (0 ≤ s ∧ s < st.length))) := by
  have c0 := h.c0
  have h8 := h.few
  clear h
  obtain ⟨r, hr⟩ : ∃ r, decide (0 ≤ s ∧ s < st.length) = r := ⟨_, rfl⟩
  rw [hr]
  by_cases hs : 0 ≤ s
  · by_cases hs2 : s < st.length
    · obtain rfl : r = true := by rw [← hr]; simp [hs, hs2]
      clear hr
      go_enter Try.func32, Try.ntmps32
      go_wp2
      all_goals go_returns
      all_goals exact ⟨rfl, rfl⟩
    · obtain rfl : r = false := by rw [← hr]; simp; omega
      clear hr
      go_enter Try.func32, Try.ntmps32
      go_wp2
      all_goals go_returns
      all_goals exact ⟨rfl, rfl⟩
  · obtain rfl : r = false := by rw [← hr]; simp; omega
    clear hr
    go_enter Try.func32, Try.ntmps32
    go_wp2
    all_goals go_returns
    all_goals exact ⟨rfl, rfl⟩

theorem rstate_any (a g : Nat) (st : List (Int × Int)) (s : Int) (w : World) (h : RLive w a g st) :
    Calls Try.prog 15 #[.pointer (some ⟨a, 0, none⟩), .int .i64 s] w fun e w' => w = w' ∧ e = .returned (.int .i64 (stateOf st s)) := by
  have c0 := h.c0
  have h8 := h.few
  by_cases hs : s < 0 ∨ (st.length : Int) ≤ s
  · have hR : Hid (stateOf st s = 0) := by unfold stateOf; rw [if_pos hs]; rfl
    have hb : decide (0 ≤ s ∧ s < st.length) = false := by simp; omega
    have Hb := hide hb
    have Hl := hide h
    clear h hs hb
    go_enter Try.func15, Try.ntmps15
    go_wp2_with fail
    refine (rhas a g st s _ Hl.out).mono ?_
    rintro e w1 ⟨rfl, rfl⟩
    rw [Hb.out]
    go_wp2_with fail
    go_returns
    exact ⟨rfl, by rw [hR.out]; rfl⟩
  · obtain ⟨i, rfl⟩ : ∃ i : Nat, s = i := ⟨s.toNat, by omega⟩
    have hi : i < st.length := by omega
    have hR : Hid (stateOf st i = (st.getD i (0, 0)).1) := by unfold stateOf; rw [if_neg hs]; rfl
    have hb : decide (0 ≤ (i : Int) ∧ (i : Int) < st.length) = true := by simp; omega
    have s0 := h.s0 i hi
    obtain ⟨x, hx⟩ : ∃ x, (st.getD i (0, 0)).1 = x := ⟨_, rfl⟩
    rw [hx] at s0 hR
    clear hx
    have Hb := hide hb
    have Hl := hide h
    clear h hs hb
    go_enter Try.func15, Try.ntmps15
    go_wp2_with fail
    refine (rhas a g st i _ Hl.out).mono ?_
    rintro e w1 ⟨rfl, rfl⟩
    rw [Hb.out]
    go_wp2_with fail
    go_returns
    exact ⟨rfl, by rw [hR.out]; rfl⟩

end Go.Proofs.Ytecedgjahpjppaa
