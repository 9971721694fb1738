/-
  The law's own awake; the walks of the laws RetryGrows and RetryNobody. No condition.
-/
import Derived.Test.YtdcccgjdcfggfaaC
namespace Go.Proofs.Ytdcccgjdcfggfaa
open Go.RowKit
set_option linter.unusedVariables false
set_option linter.unusedSimpArgs false

theorem grown_below {w0 w w' : World} {r B : Nat} (h : Below B w0 w) (hg : w.grownBy w' (some r)) (hB : B ≤ w.heap.size) (hr : B ≤ r) : Below B w0 w' :=
  h.grown hg hB (fun k hk => by injection hk with e; omega)

set_option maxRecDepth 100000 in
theorem awake_any (w : World) : Calls Try.prog 8 #[] w fun e w' => e = .returned (.bool true) ∧ Below w.heap.size w w' := by
  have e1 : (failS (newS 1 8) 0).next = 1 := by decide +kernel
  have e2 : (failS (failS (newS 1 8) 0) 1).next = 3 := by decide +kernel
  have e3 : (failS (failS (failS (newS 1 8) 0) 1) 3).next = 7 := by decide +kernel
  have e4 : (waitN (failS (failS (failS (newS 1 8) 0) 1) 3) 6 == 0) = false := by decide +kernel
  have e5 : (waitN (passS (failS (failS (failS (newS 1 8) 0) 1) 3) 6) 7 == 0) = true := by decide +kernel
  have e6 : (passS (passS (failS (failS (failS (newS 1 8) 0) 1) 3) 6) 7).fails = 3 := by decide +kernel
  have e7 : delay 1 8 5 = 8 := by decide +kernel
  go_enter Try.func8, Try.ntmps8
  go_wp2_with fail
  refine (new_yes 1 8 _ (by omega) (by omega) (by omega)).mono ?_
  rintro e w1 ⟨g, rfl, h1, hg, hb⟩
  have H1 := hide h1; have B1 := hide hb; clear h1 hb
  go_wp2_with fail
  refine (fail_c g _ 0 _ H1.out).mono ?_
  rintro e w2 ⟨rfl, h2, hw⟩
  rw [e1]
  have H2 := hide h2; have B2 := hide (grown_below B1.out hw B1.out.size hg); clear h2 hw H1 B1 e1
  go_wp2_with fail
  refine (fail_c g _ 1 _ H2.out).mono ?_
  rintro e w3 ⟨rfl, h2, hw⟩
  rw [e2]
  have H3 := hide h2; have B3 := hide (grown_below B2.out hw B2.out.size hg); clear h2 hw H2 B2 e2
  go_wp2_with fail
  refine (fail_c g _ 3 _ H3.out).mono ?_
  rintro e w4 ⟨rfl, h2, hw⟩
  rw [e3]
  have H4 := hide h2; have B4 := hide (grown_below B3.out hw B3.out.size hg); clear h2 hw H3 B3 e3
  go_wp2_with fail
  refine (readyN_c g _ 6 _ H4.out).mono ?_
  rintro e w5 ⟨rfl, h2, hw⟩
  rw [e4]
  have H5 := hide h2; have B5 := hide (grown_below B4.out hw B4.out.size hg); clear h2 hw H4 B4 e4
  go_wp2_with fail
  refine (readyN_c g _ 7 _ H5.out).mono ?_
  rintro e w6 ⟨rfl, h2, hw⟩
  rw [e5]
  have H6 := hide h2; have B6 := hide (grown_below B5.out hw B5.out.size hg); clear h2 hw H5 B5 e5
  go_wp2_with fail
  refine (fails_c g _ _ H6.out).mono ?_
  rintro e w7 ⟨rfl, rfl⟩
  rw [e6]
  clear H6 e6
  go_wp2_with fail
  refine (delay_any 1 8 5 _ (by omega)).mono ?_
  rintro e w7 ⟨rfl, rfl⟩
  rw [e7]
  clear e7
  go_wp2
  go_returns
  exact ⟨rfl, B6.out⟩

theorem held_id (a : Int) (h1 : 1 ≤ a) (h2 : a ≤ 1048576) : held a = a := by unfold held; omega

theorem grows (a b n : Int) (ha : 1 ≤ a) (hab : a ≤ b) (hb : b ≤ 131071) (hn : 0 ≤ n) (hn2 : n ≤ 255) :
    ∃ d x : Int, delay a b n = d ∧ delay a b (n + 1) = x ∧ 0 ≤ d ∧ d ≤ 131071 ∧ d ≤ x ∧ x ≤ b ∧ a ≤ x ∧ ((n == 0) == (d == 0)) = true ∧ (x = b ∨ (2 * d < a ∧ x = a ∨ a ≤ 2 * d ∧ x = 2 * d)) ∧ delay a b 40 = b := by
  have h1 := held_id a (by omega) (by omega)
  have h2 := held_id b (by omega) (by omega)
  have h40 : delay a b 40 = b := by
    unfold delay
    rw [if_neg (by omega), h1, h2]
    show cap a b 39 = b
    unfold cap
    rw [show (2 : Int) ^ 39 = 549755813888 by decide +kernel]
    omega
  obtain ⟨N, rfl⟩ := Int.eq_ofNat_of_zero_le hn
  have hx : delay a b ((N : Int) + 1) = cap a b N := by
    unfold delay
    rw [if_neg (by omega), h1, h2]
    congr 1
    omega
  refine ⟨_, _, rfl, rfl, ?_⟩
  rw [hx]
  cases N with
  | zero =>
    have hd : delay a b ((0 : Nat) : Int) = 0 := by unfold delay; rw [if_pos (by omega)]
    rw [hd, cap_zero]
    refine ⟨by omega, by omega, by omega, by omega, by omega, rfl, by omega, h40⟩
  | succ N =>
    have hd : delay a b ((N + 1 : Nat) : Int) = cap a b N := by
      unfold delay
      rw [if_neg (by omega), h1, h2]
      congr 1
      omega
    rw [hd]
    have hc := cap_bounds a b N ha (by omega)
    have hc2 := cap_bounds a b (N + 1) ha (by omega)
    have hle : a ≤ cap a b N := by
      unfold cap
      have h3 : (1 : Int) ≤ 2 ^ N := by have : (0 : Int) < 2 ^ N := Int.pow_pos (by decide); omega
      have h4 : a * 1 ≤ a * 2 ^ N := Int.mul_le_mul_of_nonneg_left h3 (by omega)
      omega
    have hs : cap a b (N + 1) = min (2 * cap a b N) b := by
      unfold cap
      rw [Int.pow_succ, ← Int.mul_assoc]
      omega
    refine ⟨by omega, by omega, by omega, by omega, by omega, ?_, by omega, h40⟩
    have e1 : (((N + 1 : Nat) : Int) == 0) = false := by simp; omega
    have e2 : (cap a b N == 0) = false := by simp; omega
    rw [e1, e2]; rfl

theorem grows_any (l m n : Int) (w : World) (hl : 0 ≤ l ∧ l ≤ 65535) (hm : 0 ≤ m ∧ m ≤ 65535) (hn : 0 ≤ n ∧ n ≤ 255) :
    Calls Try.prog 3 #[.int .u16 l, .int .u16 m, .int .u8 n] w fun e w' => e = .returned (.bool true) ∧ Below w.heap.size w w' := by
  obtain ⟨d, x, h1, h2, h3, h4, h5, h6, h7, h8, h9, h10⟩ := grows (1 + l) (1 + l + m) n (by omega) (by omega) (by omega) hn.1 hn.2
  have H1 := hide h1; have H2 := hide h2; have H10 := hide h10
  clear h1 h2 h10
  have hcase : ((x == 1 + l + m) = true) ∨ (((x == 1 + l + m) = false) ∧ ((2 * d < 1 + l ∧ (x == 1 + l) = true) ∨ (1 + l ≤ 2 * d ∧ (x == 2 * d) = true))) := by
    by_cases hxb : x = 1 + l + m
    · left; simpa using hxb
    · right
      refine ⟨by simpa using hxb, ?_⟩
      rcases h9 with h | ⟨h, h'⟩ | ⟨h, h'⟩
      · exact absurd h hxb
      · left; exact ⟨h, by simpa using h'⟩
      · right; exact ⟨h, by simpa using h'⟩
  clear h9
  rcases hcase with b1 | ⟨b1, ⟨b2, b3⟩ | ⟨b2, b3⟩⟩
  all_goals
    go_enter Try.func3, Try.ntmps3
    go_wp2_with fail
    refine (delay_any _ _ _ _ (by omega)).mono ?_
    rintro e w1 ⟨rfl, rfl⟩
    rw [H1.out]
    go_wp2_with fail
    refine (delay_any _ _ _ _ (by omega)).mono ?_
    rintro e w1 ⟨rfl, rfl⟩
    rw [H2.out]
    go_wp2_with fail
    refine (delay_any _ _ _ _ (by omega)).mono ?_
    rintro e w1 ⟨rfl, rfl⟩
    rw [H10.out]
    go_wp2_with fail
    refine (awake_any _).mono ?_
    rintro e w1 ⟨rfl, hb⟩
    go_wp2
    go_returns
    exact ⟨rfl, hb⟩

theorem nobody_any (n : Int) (w : World) :
    Calls Try.prog 6 #[.int .i64 n] w fun e w' => e = .returned (.bool true) ∧ Below w.heap.size w w' := by
  go_enter Try.func6, Try.ntmps6
  go_wp2_with (first
    | (go_at_call 8; refine (awake_any _).mono ?_; rintro e w1 ⟨rfl, hb1⟩)
    | go_in)
  go_returns
  refine ⟨rfl, below_via ?_ hb1⟩
  go_grown

end Go.Proofs.Ytdcccgjdcfggfaa
