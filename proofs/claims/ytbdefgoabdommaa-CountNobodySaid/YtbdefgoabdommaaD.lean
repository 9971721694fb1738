/-
  The walk of the law CountNobody: it returns true and leaves what was there as it was. No condition.
-/
import Derived.Test.YtbdefgoabdommaaB
namespace Go.Proofs.Ytbdefgoabdommaa
open Go.RowKit

theorem list_zero (g : Nat) (w : World) (hg : w.cell? ⟨g, 0, none⟩ = some (.pointer none)) :
    Calls Try.prog 8 #[.pointer (some ⟨g, 0, none⟩)] w fun e w' => e = .returned (.slice none 0 0) ∧ w = w' := by
  go_enter Try.func8, Try.ntmps8
  go_wp2
  all_goals go_returns
  all_goals simp

theorem list_nil (w : World) :
    Calls Try.prog 8 #[.pointer none] w fun e w' => e = .returned (.slice none 0 0) ∧ w = w' := by
  go_enter Try.func8, Try.ntmps8
  go_wp2
  all_goals go_returns
  all_goals simp

theorem total_zero (g : Nat) (w : World) (hg : w.cell? ⟨g, 0, none⟩ = some (.pointer none)) :
    Calls Try.prog 9 #[.pointer (some ⟨g, 0, none⟩)] w fun e w' => e = .returned (.int .i64 0) ∧ w = w' := by
  go_enter Try.func9, Try.ntmps9
  go_wp2_with fail
  refine (list_zero g _ hg).mono ?_
  rintro e w1 ⟨rfl, rfl⟩
  go_wp2_with fail
  go_rounds 1
  all_goals go_returns
  all_goals simp

theorem countNobody_any (a b : Int) (w : World) :
    Calls Try.prog 4 #[.agg #[.int .i64 a, .int .i64 b]] w fun e w' => e = .returned (.bool true) ∧ Below w.heap.size w w' := by
  go_enter Try.func4, Try.ntmps4
  go_wp2_with (first
    | (go_at_call 8; refine (list_nil _).mono ?_; rintro e w1 ⟨rfl, rfl⟩)
    | (go_at_call 9; refine (total_zero _ _ (by simp)).mono ?_; rintro e w1 ⟨rfl, rfl⟩)
    | (go_at_call 10; refine (awake_any _).mono ?_; rintro e w1 ⟨rfl, hb1⟩)
    | go_in)
  go_returns
  refine ⟨rfl, Below.trans ?_ (hb1.mono ?_)⟩
  · go_grown
  · simp; omega
end Go.Proofs.Ytbdefgoabdommaa
