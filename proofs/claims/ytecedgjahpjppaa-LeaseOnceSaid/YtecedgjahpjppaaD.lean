/-
  Leases that were made: the calls that turn a server. No condition.
-/
import Derived.Test.YtecedgjahpjppaaC
namespace Go.Proofs.Ytecedgjahpjppaa
open Go.RowKit Go.Maps
set_option linter.unusedVariables false
set_option linter.unusedSimpArgs false

theorem start_live (a g m k : Nat) (st : List (Int × Int)) (D : DataW Unit) (s : Int) (w : World) (h : Live w a g m k st D) :
    Calls Try.prog 22 #[.pointer (some ⟨a, 0, none⟩), .int .i64 s] w fun e w' => e = .returned (.int .i64 (turnE st s mayStart)) ∧ Kept g m w w' ∧ ∃ D', Live w' a g m k (turnS st s 1 mayStart) D' := by
  have Hl := hide h
  clear h
  go_enter Try.func22, Try.ntmps22
  go_wp2_with fail
  refine (turn_start a g m k st D s 1 (by decide) _ Hl.out).mono ?_
  rintro e w2 ⟨rfl, hk, D', hl⟩
  have HK := hide hk
  have HL := hide hl
  clear hk hl
  go_wp2_with fail
  go_returns
  exact ⟨rfl, HK.out, D', HL.out⟩
theorem up_live (a g m k : Nat) (st : List (Int × Int)) (D : DataW Unit) (s : Int) (w : World) (h : Live w a g m k st D) :
    Calls Try.prog 23 #[.pointer (some ⟨a, 0, none⟩), .int .i64 s] w fun e w' => e = .returned (.int .i64 (turnE st s mayUp)) ∧ Kept g m w w' ∧ ∃ D', Live w' a g m k (turnS st s 2 mayUp) D' := by
  have Hl := hide h
  clear h
  go_enter Try.func23, Try.ntmps23
  go_wp2_with fail
  refine (turn_up a g m k st D s 2 (by decide) _ Hl.out).mono ?_
  rintro e w2 ⟨rfl, hk, D', hl⟩
  have HK := hide hk
  have HL := hide hl
  clear hk hl
  go_wp2_with fail
  go_returns
  exact ⟨rfl, HK.out, D', HL.out⟩
theorem drain_live (a g m k : Nat) (st : List (Int × Int)) (D : DataW Unit) (s : Int) (w : World) (h : Live w a g m k st D) :
    Calls Try.prog 24 #[.pointer (some ⟨a, 0, none⟩), .int .i64 s] w fun e w' => e = .returned (.int .i64 (turnE st s mayDrain)) ∧ Kept g m w w' ∧ ∃ D', Live w' a g m k (turnS st s 4 mayDrain) D' := by
  have Hl := hide h
  clear h
  go_enter Try.func24, Try.ntmps24
  go_wp2_with fail
  refine (turn_drain a g m k st D s 4 (by decide) _ Hl.out).mono ?_
  rintro e w2 ⟨rfl, hk, D', hl⟩
  have HK := hide hk
  have HL := hide hl
  clear hk hl
  go_wp2_with fail
  go_returns
  exact ⟨rfl, HK.out, D', HL.out⟩
theorem down_live (a g m k : Nat) (st : List (Int × Int)) (D : DataW Unit) (s : Int) (w : World) (h : Live w a g m k st D) :
    Calls Try.prog 26 #[.pointer (some ⟨a, 0, none⟩), .int .i64 s] w fun e w' => e = .returned (.int .i64 (turnE st s mayDown)) ∧ Kept g m w w' ∧ ∃ D', Live w' a g m k (turnS st s 0 mayDown) D' := by
  have Hl := hide h
  clear h
  go_enter Try.func26, Try.ntmps26
  go_wp2_with fail
  refine (turn_down a g m k st D s 0 (by decide) _ Hl.out).mono ?_
  rintro e w2 ⟨rfl, hk, D', hl⟩
  have HK := hide hk
  have HL := hide hl
  clear hk hl
  go_wp2_with fail
  go_returns
  exact ⟨rfl, HK.out, D', HL.out⟩

end Go.Proofs.Ytecedgjahpjppaa
