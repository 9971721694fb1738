/-
  What Failed, Ready, own and awake compute. No condition.
-/
import Derived.Test.YtnemnnmlhnccdaaA
namespace Go.Proofs.Ytnemnnmlhnccdaa
open Go.RowKit

theorem failed_any (s : Sk) (k : Int) (w : World) :
    Calls Try.prog 10 #[sk s, .int .i64 k] w fun e w' => e = .returned (sk (failed s k)) ∧ Below w.heap.size w w' := by
  obtain ⟨a, b, c⟩ := s
  unfold sk
  go_enter Try.func10, Try.ntmps10
  go_wp2
  all_goals go_returns
  all_goals refine ⟨?_, by go_grown⟩
  all_goals simp_all [failed]

theorem failedR_any (s : Sk) (k : Int) (w : World) :
    Calls Try.prog 11 #[sk s, .int .i64 k] w fun e w' => e = .returned (sk (failed s k)) ∧ Below w.heap.size w w' := by
  obtain ⟨a, b, c⟩ := s
  unfold sk
  go_enter Try.func11, Try.ntmps11
  go_wp2
  all_goals go_returns
  all_goals refine ⟨?_, by go_grown⟩
  all_goals simp_all [failed]

theorem ready_any (s : Sk) (w : World) :
    Calls Try.prog 12 #[sk s] w fun e w' => e = .returned (sk (ready s)) ∧ Below w.heap.size w w' := by
  obtain ⟨a, b, c⟩ := s
  unfold sk
  go_enter Try.func12, Try.ntmps12
  go_wp2
  all_goals go_returns
  all_goals refine ⟨?_, by go_grown⟩
  all_goals simp_all [ready]

theorem readyR_any (s : Sk) (w : World) :
    Calls Try.prog 13 #[sk s] w fun e w' => e = .returned (sk (ready s)) ∧ Below w.heap.size w w' := by
  obtain ⟨a, b, c⟩ := s
  unfold sk
  go_enter Try.func13, Try.ntmps13
  go_wp2
  all_goals go_returns
  all_goals refine ⟨?_, by go_grown⟩
  all_goals simp_all [ready]

theorem own_any (s : Sk) (w : World) :
    Calls Try.prog 5 #[sk s] w fun e w' => e = .returned (sk s) ∧ Below w.heap.size w w' := by
  obtain ⟨a, b, c⟩ := s
  unfold sk
  go_enter Try.func5, Try.ntmps5
  go_wp2
  all_goals go_returns
  all_goals refine ⟨?_, by go_grown⟩
  all_goals simp_all

theorem awake_any (w : World) :
    Calls Try.prog 14 #[] w fun e w' => e = .returned (.bool true) ∧ Below w.heap.size w w' := by
  go_enter Try.func14, Try.ntmps14
  go_wp2
  all_goals go_returns
  all_goals refine ⟨?_, by go_grown⟩
  all_goals simp_all
end Go.Proofs.Ytnemnnmlhnccdaa
