/-
  The walks of the laws TxTells and TxLeads: each returns true and leaves what was there as it was. No condition.
-/
import Derived.Test.YtknohffoffhjeaaA
namespace Go.Proofs.Ytknohffoffhjeaa
open Go.RowKit
set_option linter.unusedVariables false
set_option linter.unusedSimpArgs false

set_option maxHeartbeats 1000000 in
theorem tells_any (s k n : Int) (c : ByteArray) (w : World) :
    Calls Try.prog 3 #[.int .u8 s, .agg #[.int .i64 k, .int .i64 n, .string c]] w fun e w' => e = .returned (.bool true) ∧ Below w.heap.size w w' := by
  go_enter Try.func3, Try.ntmps3
  go_wp2_with fail
  refine (next_any s k n c _).mono ?_
  rintro e w1 ⟨rfl, hb1⟩
  obtain ⟨hc1, hf1⟩ := bcell hb1
  have Hb1 := hide (below_via (w := w) (by go_grown) hb1)
  clear hb1
  go_wp2_with fail
  refine (rnext_any s k n c _).mono ?_
  rintro e w2 ⟨rfl, hb2⟩
  have Hb2 := hide (below_via Hb1.out hb2)
  clear hb2 Hb1 hc1 hf1
  go_wp2_with fail
  refine (fail_any s _).mono ?_
  rintro e w3 ⟨rfl, rfl⟩
  go_wp2_with fail
  refine (rfail_any s _).mono ?_
  rintro e w3 ⟨rfl, rfl⟩
  go_wp2_with fail
  refine (right_any s _).mono ?_
  rintro e w3 ⟨rfl, rfl⟩
  go_wp2_with fail
  refine (rright_any s _).mono ?_
  rintro e w3 ⟨rfl, rfl⟩
  go_wp2_with fail
  refine (awake_any _).mono ?_
  rintro e w4 ⟨rfl, hb4⟩
  have Hb4 := hide (below_via Hb2.out hb4)
  clear hb4 Hb2
  go_wp2
  go_returns
  exact ⟨rfl, Hb4.out⟩

theorem leads_any (s k : Int) (w : World) :
    Calls Try.prog 4 #[.int .u8 s, .int .i64 k] w fun e w' => e = .returned (.bool true) ∧ Below w.heap.size w w' := by
  have h1 : nextS s 3 = 73 := by simp [nextS]
  have h2 : nextS s 4 = 73 := by simp [nextS]
  have h3 : right (failW s) = true := by unfold failW; split <;> rfl
  have h4 : ((nextS 73 k != 73) == (k == 2)) = true := by
    rcases kinds k with rfl | rfl | rfl | ⟨k1, k2, k3⟩
    · rfl
    · rfl
    · rfl
    · simp_all [nextS, held, right]
  have H1 := hide h1
  have H2 := hide h2
  clear h1 h2
  rcases four s with rfl | rfl | rfl | ⟨s1, s2, s3⟩
  all_goals have h6 : failW 69 = 69 := rfl
  all_goals have h7 : failW 84 = 69 := rfl
  all_goals have h8 : failW 73 = 73 := rfl
  all_goals try have h5 : (failW s == 73) = true := by simp_all [failW]
  all_goals try have s4 : (s != 84) = true := by simp_all
  all_goals try have s5 : (s != 69) = true := by simp_all
  all_goals
    go_enter Try.func4, Try.ntmps4
    go_wp2_with fail
    refine (next_any _ _ 0 ⟨#[]⟩ _).mono ?_
    rintro e w1 ⟨rfl, hb1⟩
    go_wp2_with fail
    refine (next_any _ _ 0 ⟨#[]⟩ _).mono ?_
    rintro e w2 ⟨rfl, hb2⟩
    rw [H1.out]
    go_wp2_with fail
    refine (next_any _ _ 0 ⟨#[]⟩ _).mono ?_
    rintro e w3 ⟨rfl, hb3⟩
    rw [H2.out]
    have Hb := hide (below_via (below_via hb1 hb2) hb3)
    clear hb1 hb2 hb3
    go_wp2_with (first
      | (go_at_call 7; refine (fail_any _ _).mono ?_; rintro e w4 ⟨rfl, rfl⟩)
      | (go_at_call 9; refine (right_any _ _).mono ?_; rintro e w4 ⟨rfl, rfl⟩)
      | (go_at_call 11; refine (awake_any _).mono ?_; rintro e w4 ⟨rfl, hb4⟩))
    go_returns
    exact ⟨by first | rfl | simp_all [failW, right], below_via Hb.out hb4⟩

end Go.Proofs.Ytknohffoffhjeaa
