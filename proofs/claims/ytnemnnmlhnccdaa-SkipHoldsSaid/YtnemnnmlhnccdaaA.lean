/-
  What Verdict and Sent of the program and of the document's package compute, as one plain function each. No condition.
-/
import Derived.Test.YtnemnnmlhnccdaaRows
import Derived.Test.YtnemnnmlhnccdaaAft
import Derived.Handy
namespace Go.Proofs.Ytnemnnmlhnccdaa
open Go.RowKit

structure Sk where
  on : Bool
  wait : Bool
  dirty : Bool
def sk (s : Sk) : Value := .agg #[.bool s.on, .bool s.wait, .bool s.dirty]

def verdict (s : Sk) (k : Int) : Int := if k = 88 then 0 else if s.wait then 2 else if s.on && decide (k ≠ 83) then 1 else 0
def sent (s : Sk) (k : Int) : Sk := if k = 83 then ⟨false, true, true⟩ else if k = 81 then ⟨s.on, true, true⟩ else if k = 72 ∨ k = 88 then s else ⟨s.on, s.wait, true⟩
def failed (s : Sk) (n : Int) : Sk := ⟨decide (n ≤ 0), s.wait && !decide (n ≤ 0), s.dirty⟩
def ready (s : Sk) : Sk := ⟨s.on, false, false⟩

theorem verdict_any (s : Sk) (k : Int) (w : World) :
    Calls Try.prog 6 #[sk s, .int .u8 k] w fun e w' => e = .returned (.int .i64 (verdict s k)) ∧ Below w.heap.size w w' := by
  obtain ⟨a, b, c⟩ := s
  unfold sk
  go_enter Try.func6, Try.ntmps6
  go_wp2
  all_goals go_returns
  all_goals refine ⟨?_, by go_grown⟩
  all_goals simp_all [verdict]

theorem verdictR_any (s : Sk) (k : Int) (w : World) :
    Calls Try.prog 7 #[sk s, .int .u8 k] w fun e w' => e = .returned (.int .i64 (verdict s k)) ∧ Below w.heap.size w w' := by
  obtain ⟨a, b, c⟩ := s
  unfold sk
  go_enter Try.func7, Try.ntmps7
  go_wp2
  all_goals go_returns
  all_goals refine ⟨?_, by go_grown⟩
  all_goals simp_all [verdict]

theorem sent_any (s : Sk) (k : Int) (w : World) :
    Calls Try.prog 8 #[sk s, .int .u8 k] w fun e w' => e = .returned (sk (sent s k)) ∧ Below w.heap.size w w' := by
  obtain ⟨a, b, c⟩ := s
  unfold sk
  go_enter Try.func8, Try.ntmps8
  go_wp2
  all_goals go_returns
  all_goals refine ⟨?_, by go_grown⟩
  all_goals simp_all [sent]

theorem sentR_any (s : Sk) (k : Int) (w : World) :
    Calls Try.prog 9 #[sk s, .int .u8 k] w fun e w' => e = .returned (sk (sent s k)) ∧ Below w.heap.size w w' := by
  obtain ⟨a, b, c⟩ := s
  unfold sk
  go_enter Try.func9, Try.ntmps9
  go_wp2
  all_goals go_returns
  all_goals refine ⟨?_, by go_grown⟩
  all_goals simp_all [sent]
end Go.Proofs.Ytnemnnmlhnccdaa
