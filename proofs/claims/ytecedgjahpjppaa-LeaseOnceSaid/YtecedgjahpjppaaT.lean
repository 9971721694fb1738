/-
  The walk of the law LeaseLives where no servers may be; both ways together. No condition.
-/
import Derived.Test.YtecedgjahpjppaaS
namespace Go.Proofs.Ytecedgjahpjppaa
open Go.RowKit Go.Maps
set_option linter.unusedVariables false
set_option linter.unusedSimpArgs false

set_option maxRecDepth 100000 in
set_option maxHeartbeats 2000000 in
theorem lives_no (n : Int) (h : n < 1 ∨ 8 < n) (a : Option Addr) (len c : Nat) (Z : Nat → Nat → Int) (w : World) (hlen : len ≤ maxLen) (hZ : IntStructs w a len 4 Z) :
    Calls Try.prog 4 #[.int .i64 n, .slice a len c] w fun e w' => e = .returned (.bool true) ∧ Below w.heap.size w w' := by
  unfold maxLen at hlen
  have Hh := hide h
  clear h
  go_enter Try.func4, Try.ntmps4
  go_wp2_with fail
  refine (new_bad _ _ Hh.out).mono ?_
  rintro e w1 ⟨rfl, rfl⟩
  go_wp2_with fail
  refine (rnew_bad _ _ Hh.out).mono ?_
  rintro e w1 ⟨rfl, rfl⟩
  go_upto_block 0 with fail
  clear Hh
  go_cut [] (fun W => Below w.heap.size w W)
  case first =>
    go_wp2_with fail
    by_cases h0 : len = 0
    · subst h0
      go_rounds 1
      all_goals go_meet
      all_goals exact Below.refl _ _
    · rcases hZ with h0' | ⟨b, off, rfl, hbw, hcell⟩
      · omega
      have hZ0 := (hcell 0 0 (by omega) (by omega)).1
      have hZ1 := (hcell 0 1 (by omega) (by omega)).1
      have hZ2 := (hcell 0 2 (by omega) (by omega)).1
      have hZ3 := (hcell 0 3 (by omega) (by omega)).1
      simp only [Nat.add_zero, Nat.zero_mul] at hZ0 hZ1 hZ2 hZ3
      have h1 : (0 : Int) < len := by omega
      clear hcell
      generalize Z 0 0 = z0 at hZ0
      generalize Z 0 1 = z1 at hZ1
      generalize Z 0 2 = z2 at hZ2
      generalize Z 0 3 = z3 at hZ3
      go_rounds 1
      all_goals go_meet
      all_goals exact (Below.refl _ _).alloc (Nat.le_refl _) _
  case rest =>
    have HB := hide hcut
    clear hcut
    go_wp2_with fail
    refine (awake_any _).mono ?_
    rintro e w4 ⟨rfl, hb4⟩
    have Hb4 := hide (below_via HB.out hb4)
    clear hb4 HB
    go_wp2
    go_returns
    exact ⟨rfl, Hb4.out⟩

theorem lives_any (n : Int) (a : Option Addr) (len c : Nat) (Z : Nat → Nat → Int) (w : World) (hlen : len ≤ maxLen) (hZ : IntStructs w a len 4 Z) :
    Calls Try.prog 4 #[.int .i64 n, .slice a len c] w fun e w' => e = .returned (.bool true) ∧ Below w.heap.size w w' := by
  by_cases h : n < 1 ∨ 8 < n
  · exact lives_no n h a len c Z w hlen hZ
  · obtain ⟨m, rfl⟩ : ∃ m : Nat, n = m := ⟨n.toNat, by omega⟩
    exact lives_yes m (by omega) (by omega) a len c Z w hlen hZ

end Go.Proofs.Ytecedgjahpjppaa
