/-
  Leases are made. No condition.
-/
import Derived.Test.YtecedgjahpjppaaG
namespace Go.Proofs.Ytecedgjahpjppaa
open Go.RowKit Go.Maps
set_option linter.unusedVariables false
set_option linter.unusedSimpArgs false

theorem new_bad (n : Int) (w : World) (h : n < 1 ∨ 8 < n) :
    Calls Try.prog 12 #[.int .i64 n] w fun e w' => w = w' ∧ e = .returned (.tuple #[.pointer none, .int .i64 1]) := by
  rcases h with h | h
  all_goals
    go_enter Try.func12, Try.ntmps12
    go_wp2
    all_goals go_returns
    all_goals exact ⟨rfl, rfl⟩
/-- The zero servers. -/
def zeros (n : Nat) : List (Int × Int) := List.replicate n (0, 0)
theorem make_n (n : Nat) (h1 : 1 ≤ n) (h8 : n ≤ 8) (w : World) : (Instr.makeSlice 25 (.int .i64 n) (.int .i64 n)).run Try.prog w = .ok (.slice (some ⟨w.heap.size, 0, none⟩) n n) (w.alloc (.cells (cellsL (zeros n)).toArray 53)) := by
  have h : n = 1 ∨ n = 2 ∨ n = 3 ∨ n = 4 ∨ n = 5 ∨ n = 6 ∨ n = 7 ∨ n = 8 := by omega
  rcases h with rfl | rfl | rfl | rfl | rfl | rfl | rfl | rfl <;> (change _ = _; kernel_rfl)
theorem new_live (n : Nat) (h1 : 1 ≤ n) (h8 : n ≤ 8) (w : World) :
    Calls Try.prog 12 #[.int .i64 n] w fun e w' => ∃ a g m D, Live w' a g m 0 (zeros n) D ∧ w.heap.size ≤ a ∧ w.heap.size ≤ g ∧ w.heap.size ≤ m ∧ Below w.heap.size w w' ∧ e = .returned (.tuple #[.pointer (some ⟨a, 0, none⟩), .int .i64 0]) := by
  have hmk := make_n n h1 h8
  have hmm : ∀ w : World, (Instr.makeMap 26 none).run Try.prog w = .ok (.map (some w.heap.size)) (w.alloc (.map #[] 0)) := fun _ => by kernel_rfl
  go_enter Try.func12, Try.ntmps12
  go_wp2
  go_returns
  have s1 : (w.alloc (.cells (cellsL (zeros n)).toArray 53)).heap.size = w.heap.size + 1 := by simp
  have hg : Blk (w.alloc (.cells (cellsL (zeros n)).toArray 53)) w.heap.size 53 (cellsL (zeros n)).toArray := Blk.new w 53 _
  have hm := World.ownsMap_made (H := Unit) (w.alloc (.cells (cellsL (zeros n)).toArray 53)) Try.prog 3 (plainElem Try.prog 3)
  rw [s1] at hm
  have hlen : (zeros n).length = n := List.length_replicate
  have hz : ∀ i, (zeros n).getD i (0, 0) = (0, 0) := fun i => by
    unfold zeros
    rw [List.getD_eq_getElem?_getD, List.getElem?_replicate]
    split <;> rfl
  have hh := Blk.new ((w.alloc (.cells (cellsL (zeros n)).toArray 53)).alloc (.map #[] 0)) 28 #[.slice (some ⟨w.heap.size, 0, none⟩) n n, .map (some (w.heap.size + 1))]
  have s2 : ((w.alloc (.cells (cellsL (zeros n)).toArray 53)).alloc (.map #[] 0)).heap.size = w.heap.size + 1 + 1 := by simp
  rw [s2] at hh
  refine ⟨w.heap.size + 1 + 1, w.heap.size, w.heap.size + 1, .map [], ⟨?_, (hg.alloc _).alloc _, hm.alloc _, by rw [hlen]; exact h8, by rw [hlen]; exact h1, ?_, ?_⟩, by omega, Nat.le_refl _, by omega, ?_, rfl⟩
  · rw [hlen]; exact hh
  · intro c
    refine ⟨fun h => (by cases h), fun i _ h => ?_⟩
    rw [hz i] at h
    injection h with h _
    cases h
  · intro p hp
    rw [List.eq_of_mem_replicate hp]; decide
  · exact (((Below.refl _ w).alloc (Nat.le_refl _) _).alloc (by simp) _).alloc (by simp; omega) _

end Go.Proofs.Ytecedgjahpjppaa
