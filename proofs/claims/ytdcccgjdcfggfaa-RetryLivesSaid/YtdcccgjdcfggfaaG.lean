/-
  The walk of the law RetryLives where the bounds may not be; both ways together. No condition.
-/
import Derived.Test.YtdcccgjdcfggfaaF
namespace Go.Proofs.Ytdcccgjdcfggfaa
open Go.RowKit
set_option linter.unusedVariables false
set_option linter.unusedSimpArgs false

set_option maxRecDepth 100000 in
set_option maxHeartbeats 2000000 in
theorem lives_no (l m f : Int) (a : Option Addr) (len c : Nat) (Z : Nat → Nat → Int) (w : World) (hf : f ≤ 9223372036854775807) (h : l < 1 ∨ m < l ∨ 1048576 < m) (hlen : len ≤ maxLen) (hZ : IntStructs w a len 2 Z) :
    Calls Try.prog 4 #[.int .i64 l, .int .i64 m, .int .i64 f, .slice a len c] w fun e w' => e = .returned (.bool true) ∧ Below w.heap.size w w' := by
  unfold maxLen at hlen
  have Hh := hide h
  clear h
  go_enter Try.func4, Try.ntmps4
  go_wp2_with fail
  refine (new_no _ _ _ Hh.out).mono ?_
  rintro e w1 ⟨rfl, rfl⟩
  go_wp2_with fail
  refine (rnew_no _ _ _ Hh.out).mono ?_
  rintro e w1 ⟨rfl, rfl⟩
  go_wp2_with fail
  refine (delay_any _ _ _ _ hf).mono ?_
  rintro e w3 ⟨rfl, rfl⟩
  go_wp2_with fail
  refine (rdelay_any _ _ _ _ hf).mono ?_
  rintro e w3 ⟨rfl, rfl⟩
  have hdd : (delay l m f != delay l m f) = false := by simp
  go_upto_block 0 with fail
  clear hdd Hh
  go_cut [] (fun W => Below w.heap.size w W)
  case first =>
    go_wp2_with fail
    by_cases h0 : len = 0
    · subst h0
      go_rounds 1
      all_goals go_meet
      all_goals exact Below.refl _ _
    · rcases hZ with h0' | ⟨b, off, rfl, hbw, hcell⟩
      · omega
      have hZ0 := (hcell 0 0 (by omega) (by omega)).1
      have hZ1 := (hcell 0 1 (by omega) (by omega)).1
      simp only [Nat.add_zero, Nat.zero_mul] at hZ0 hZ1
      have h1 : (0 : Int) < len := by omega
      clear hcell
      generalize Z 0 0 = z0 at hZ0
      generalize Z 0 1 = z1 at hZ1
      go_rounds 1
      all_goals go_meet
      all_goals exact (Below.refl _ _).alloc (Nat.le_refl _) _
  case rest =>
    have HB := hide hcut
    clear hcut
    go_wp2_with fail
    refine (awake_any _).mono ?_
    rintro e w4 ⟨rfl, hb4⟩
    have Hb4 := hide (below_via HB.out hb4)
    clear hb4 HB
    go_wp2
    go_returns
    exact ⟨rfl, Hb4.out⟩

theorem lives_any (l m f : Int) (a : Option Addr) (len c : Nat) (Z : Nat → Nat → Int) (w : World) (hf : f ≤ 9223372036854775807) (hlen : len ≤ maxLen) (hZ : IntStructs w a len 2 Z) :
    Calls Try.prog 4 #[.int .i64 l, .int .i64 m, .int .i64 f, .slice a len c] w fun e w' => e = .returned (.bool true) ∧ Below w.heap.size w w' := by
  by_cases h : l < 1 ∨ m < l ∨ 1048576 < m
  · exact lives_no l m f a len c Z w hf h hlen hZ
  · exact lives_yes l m f a len c Z w hf (by omega) (by omega) (by omega) hlen hZ

end Go.Proofs.Ytdcccgjdcfggfaa
