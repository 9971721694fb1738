/-
  What Parse computes. No condition.
-/
import Derived.Test.YtpaodffckhnieaaDoorDigits
import Derived.Test.YtpaodffckhnieaaDoorParsePlain
namespace Go.Proofs.YtpaodffckhnieaaDoor
open Go.RowKit
set_option linter.unusedVariables false
set_option linter.unusedSimpArgs false
set_option maxRecDepth 100000

theorem digit_any (c : Int) (w : World) (h0 : 0 ≤ c) (h1 : c ≤ 255) :
    Calls Tryd.prog 72 #[.int .u8 c] w fun e w' => w = w' ∧ e = .returned (if c < 48 ∨ 57 < c then .tuple #[.int .i64 0, .bool false] else .tuple #[.int .i64 (c - 48), .bool true]) := by
  by_cases hd : c < 48
  · rw [if_pos (Or.inl hd)]
    go_enter Tryd.func72, Tryd.ntmps72
    go_wp2
    all_goals go_returns
    all_goals exact ⟨rfl, rfl⟩
  · by_cases hd2 : 57 < c
    · rw [if_pos (Or.inr hd2)]
      go_enter Tryd.func72, Tryd.ntmps72
      go_wp2
      all_goals go_returns
      all_goals exact ⟨rfl, rfl⟩
    · rw [if_neg (by omega)]
      go_enter Tryd.func72, Tryd.ntmps72
      go_wp2
      all_goals go_returns
      all_goals exact ⟨rfl, rfl⟩

theorem empty_size (s : ByteArray) : (s.toList.isEmpty = true) ↔ s.size = 0 := by
  rw [List.isEmpty_iff_length_eq_zero, ByteArray.toList_eq, Array.length_toList]
  rfl

set_option maxHeartbeats 1000000 in
theorem parse_any (s : ByteArray) (most : Int) (w : World) :
    Calls Tryd.prog 62 #[.string s, .int .i64 most] w fun e w' => w = w' ∧ e = .returned (parseV (parseN s most)) := by
  by_cases h0 : s.size = 0
  · have hem : s.toList.isEmpty = true := (empty_size s).2 h0
    have hR : Hid (parseV (parseN s most) = .tuple #[.int .i64 0, .bool false]) := by unfold parseN; rw [if_pos (Or.inl h0)]; rfl
    clear h0
    go_enter Tryd.func62, Tryd.ntmps62
    go_wp2
    go_returns
    exact ⟨rfl, congrArg Ending.returned hR.out.symm⟩
  have hem : s.toList.isEmpty = false := by
    rcases h : s.toList.isEmpty with _ | _
    · rfl
    · exact absurd ((empty_size s).1 h) h0
  by_cases h1 : 10 < s.size
  · have hR : Hid (parseV (parseN s most) = .tuple #[.int .i64 0, .bool false]) := by unfold parseN; rw [if_pos (Or.inr (Or.inl h1))]; rfl
    go_enter Tryd.func62, Tryd.ntmps62
    go_wp2
    all_goals go_returns
    all_goals exact ⟨rfl, congrArg Ending.returned hR.out.symm⟩
  have hs0 : 0 < s.size := by omega
  have hg0 := sb_get s 0 hs0
  by_cases h2 : sb s 0 = 48 ∧ 1 < s.size
  · have hR : Hid (parseV (parseN s most) = .tuple #[.int .i64 0, .bool false]) := by unfold parseN; rw [if_pos (Or.inr (Or.inr h2))]; rfl
    obtain ⟨h2, h3⟩ := h2
    rw [h2] at hg0
    go_enter Tryd.func62, Tryd.ntmps62
    go_wp2
    all_goals go_returns
    all_goals exact ⟨rfl, congrArg Ending.returned hR.out.symm⟩
  have hR : Hid (parseN s most = match runN s s.size 0 0 with | none => none | some n => if most < n then none else some n) := by
    unfold parseN
    rw [if_neg (by rintro (h | h | h) <;> omega)]
    rfl
  have h3 : (sb s 0 = 48 ∧ s.size = 1) ∨ sb s 0 ≠ 48 := by omega
  clear h2
  go_enter Tryd.func62, Tryd.ntmps62
  have hle : s.size ≤ 10 := by omega
  clear h1
  rcases h3 with ⟨h3, h4⟩ | h3
  all_goals
    first
      | (rw [h3] at hg0
         have hd1 : ¬ (1 : Int) < s.size := by omega
         clear h3)
      | (have hd2 : ((sb s 0) == 48) = false := by simp [h3]
         clear h3)
    have Hle := hide hle
    go_wp2_with fail
    go_loop [6, 27] (fun v i => ∃ (k r : Nat) (m : Int), v = .int .i64 m ∧ i = .int .i64 k ∧ Hid (k + r = s.size) ∧ k + r ≤ 10 ∧ 0 ≤ m ∧ Hid (m < 10 ^ k) ∧ Hid (runN s r k m = runN s s.size 0 0)) (fun _ i => (s.size - (intOf i).toNat))
    case atStart => exact ⟨0, s.size, 0, rfl, rfl, Nat.zero_add _, by have := Hle.out; omega, by omega, (by show (0 : Int) < 10 ^ 0; decide), rfl⟩
    case round =>
      obtain ⟨k, r, m, rfl, rfl, Hkr, hkr, hm0, Hm, Hrun⟩ := hrel
      have hmle : m ≤ 10000000000 := by
        have h1 := Hm.out
        have h2 : (10 : Int) ^ k ≤ 10 ^ 10 := by
          have : (10 : Nat) ^ k ≤ 10 ^ 10 := Nat.pow_le_pow_right (by omega) (by omega)
          exact_mod_cast this
        omega
      rcases r with _ | r
      · have hk : ¬ (k : Int) < s.size := by have := Hkr.out; omega
        have Hrun' : Hid (runN s s.size 0 0 = some m) := Hrun.out.symm
        by_cases hmost : most < m
        · have hR2 : Hid (parseV (parseN s most) = .tuple #[.int .i64 0, .bool false]) := by show _ = _; rw [hR.out, Hrun'.out]; simp only []; rw [if_pos hmost]; rfl
          go_wp2
          all_goals go_returns
          all_goals exact ⟨rfl, congrArg Ending.returned hR2.out.symm⟩
        · have hR2 : Hid (parseV (parseN s most) = .tuple #[.int .i64 m, .bool true]) := by show _ = _; rw [hR.out, Hrun'.out]; simp only []; rw [if_neg hmost]; rfl
          go_wp2
          all_goals go_returns
          all_goals exact ⟨rfl, congrArg Ending.returned hR2.out.symm⟩
      · have hk : (k : Int) < s.size := by have := Hkr.out; omega
        have hkn : k < s.size := by omega
        have hg := sb_get s k hkn
        have hc := sb_in s k
        by_cases hd : sb s k < 48 ∨ 57 < sb s k
        · have hR2 : Hid (parseV (parseN s most) = .tuple #[.int .i64 0, .bool false]) := by
            have h1 : runN s s.size 0 0 = none := by rw [← Hrun.out, runN, if_pos hd]
            show _ = _; rw [hR.out, h1]; rfl
          go_wp2_with fail
          refine (digit_any (sb s k) _ hc.1 hc.2).mono ?_
          rintro e w1 ⟨rfl, rfl⟩
          rw [if_pos hd]
          go_wp2_with fail
          go_returns
          exact ⟨rfl, congrArg Ending.returned hR2.out.symm⟩
        · go_wp2_with fail
          refine (digit_any (sb s k) _ hc.1 hc.2).mono ?_
          rintro e w1 ⟨rfl, rfl⟩
          rw [if_neg hd]
          have Hrun2 : Hid (runN s r (k + 1) (10 * m + (sb s k - 48)) = runN s s.size 0 0) := by
            have h1 := Hrun.out
            rw [runN, if_neg hd] at h1
            exact h1
          have hd2 : 48 ≤ sb s k ∧ sb s k ≤ 57 := by omega
          have Hm2 : Hid (10 * m + (sb s k - 48) < 10 ^ (k + 1)) := by
            have h1 := Hm.out
            show _ < _
            rw [Int.pow_succ]
            omega
          clear hd
          go_wp2_with fail
          go_round
          case rel => exact ⟨k + 1, r, _, rfl, rfl, by have := Hkr.out; show k + 1 + r = _; omega, by omega, by omega, Hm2, Hrun2⟩
          case measure => simp [intOf]; omega

end Go.Proofs.YtpaodffckhnieaaDoor
