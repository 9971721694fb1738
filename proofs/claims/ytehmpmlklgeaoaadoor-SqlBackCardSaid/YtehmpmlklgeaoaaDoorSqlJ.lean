/-
  The law's awake. No condition.
-/
import Derived.Test.YtehmpmlklgeaoaaDoorSqlI
namespace Go.Proofs.YtehmpmlklgeaoaaDoor
open Go.RowKit
set_option linter.unusedVariables false
set_option linter.unusedSimpArgs false

theorem aw_parse : parseP ⟨#[32, 115, 101, 108, 101, 99, 116, 32, 55, 32]⟩ = (5, 7, ⟨#[]⟩) := by kernel_rfl
theorem aw_commit : parseP ⟨#[99, 111, 109, 109, 105, 116]⟩ = (3, 0, ⟨#[]⟩) := by kernel_rfl
theorem aw_print : printP 5 7 ⟨#[]⟩ = ⟨#[115, 101, 108, 101, 99, 116, 32, 55]⟩ := by kernel_rfl

theorem verb_same (k n : Int) (c : ByteArray) (w : World) : (binOp .eql 23 (.agg #[.int .i64 k, .int .i64 n, .string c]) (.agg #[.int .i64 k, .int .i64 n, .string c])).run Tryd.prog w = .ok (.bool true) w := by
  rw [verb_eql, show vEq (k, n, c) (k, n, c) = true from decide_eq_true rfl]
theorem awake_any (w : World) :
    Calls Tryd.prog 5 #[] w fun e w' => e = .returned (.bool true) ∧ Below w.heap.size w w' := by
  go_enter Tryd.func5, Tryd.ntmps5
  go_wp2_with fail
  refine (sparse_any ⟨#[32, 115, 101, 108, 101, 99, 116, 32, 55, 32]⟩ _ (by decide)).mono ?_
  rintro e w1 ⟨rfl, hb1⟩
  rw [aw_parse, show verbV (5, 7, ⟨#[]⟩) = .agg #[.int .i64 5, .int .i64 7, .string ⟨#[]⟩] from rfl]
  go_upto_region 2 with fail
  refine Code.wp_named (fun W => W.cell? ⟨w1.heap.size, 0, none⟩ = some (.int .i64 5) ∧ W.cell? ⟨w1.heap.size, 1, none⟩ = some (.int .i64 7) ∧ W.cell? ⟨w1.heap.size, 2, none⟩ = some (.string ⟨#[]⟩) ∧ Below w.heap.size w W ∧ w1.heap.size < W.heap.size) ⟨by simp [go_sem], by simp [go_sem], by simp [go_sem], hb1.alloc hb1.size _, by simp⟩ ?_
  generalize w1.heap.size = g
  rintro w2 ⟨e0, e1, e2, hB, hlt2⟩
  have HB2 := hide hB
  clear hB hb1
  go_wp2_with fail
  refine (rows_any 5 7 ⟨#[]⟩ _).mono ?_
  rintro e w3 ⟨rfl, hb⟩
  rw [show rowsP 5 = true from rfl]
  have hb2 := bcell hb
  rw [← hb2.1 _ _ hlt2] at e0 e1 e2
  have hlt3 := Nat.lt_of_lt_of_le hlt2 hb.size
  have HB3 := hide (below_via HB2.out hb)
  clear hb hb2 HB2 hlt2
  go_wp2_with fail
  refine (columns_any 5 7 3 ⟨#[]⟩ _).mono ?_
  rintro e w4 ⟨rfl, hb⟩
  rw [show colsP 5 3 = 1 from rfl]
  have hb2 := bcell hb
  rw [← hb2.1 _ _ hlt3] at e0 e1 e2
  have hlt4 := Nat.lt_of_lt_of_le hlt3 hb.size
  have HB4 := hide (below_via HB3.out hb)
  clear hb hb2 HB3 hlt3
  go_wp2_with fail
  refine (sparse_any ⟨#[99, 111, 109, 109, 105, 116]⟩ _ (by decide)).mono ?_
  rintro e w5 ⟨rfl, hb⟩
  rw [aw_commit, show verbV (3, 0, ⟨#[]⟩) = .agg #[.int .i64 3, .int .i64 0, .string ⟨#[]⟩] from rfl]
  have hb2 := bcell hb
  rw [← hb2.1 _ _ hlt4] at e0 e1 e2
  have hlt5 := Nat.lt_of_lt_of_le hlt4 hb.size
  have HB5 := hide (below_via HB4.out hb)
  clear hb hb2 HB4 hlt4
  go_wp2_with fail
  refine (exit_any 3 0 ⟨#[]⟩ _).mono ?_
  rintro e w6 ⟨rfl, hb⟩
  rw [show exitP 3 = true from rfl]
  have hb2 := bcell hb
  rw [← hb2.1 _ _ hlt5] at e0 e1 e2
  have hlt6 := Nat.lt_of_lt_of_le hlt5 hb.size
  have HB6 := hide (below_via HB5.out hb)
  clear hb hb2 HB5 hlt5
  go_wp2_with fail
  refine (print_any 5 7 ⟨#[]⟩ _ (by decide) (by decide) (by decide)).mono ?_
  rintro e w7 ⟨rfl, hb⟩
  rw [aw_print]
  have hb2 := bcell hb
  rw [← hb2.1 _ _ hlt6] at e0 e1 e2
  have hlt7 := Nat.lt_of_lt_of_le hlt6 hb.size
  have HB7 := hide (below_via HB6.out hb)
  clear hb hb2 HB6 hlt6
  go_wp2_with fail
  go_returns
  exact ⟨rfl, HB7.out⟩

theorem tells_any (s c : ByteArray) (k m n : Int) (w : World) (h0 : -9223372036854775808 ≤ m) (h1 : m ≤ 9223372036854775807) :
    Calls Tryd.prog 3 #[.string s, verbV (k, m, c), .int .i64 n] w fun e w' => e = .returned (.bool true) ∧ Below w.heap.size w w' := by
  unfold verbV
  by_cases hg : 1000 < s.size ∨ 300 < c.size
  · have hg2 : 1000 < s.size ∨ (s.size ≤ 1000 ∧ 300 < c.size) := by omega
    clear hg
    rcases hg2 with hg | ⟨hg, hg2⟩
    · have z1 : (1000 : Int) < (s.size : Int) := by omega
      go_enter Tryd.func3, Tryd.ntmps3
      go_wp2_with fail
      refine (awake_any _).mono ?_
      rintro e w1 ⟨rfl, hb⟩
      have HB : Hid (Below w.heap.size w w1) := Below.trans (by go_grown) (hb.mono (by simp))
      clear hb
      go_wp2_with fail
      go_returns
      exact ⟨rfl, HB.out⟩
    · have z1 : ¬ (1000 : Int) < (s.size : Int) := by omega
      have z2 : (300 : Int) < (c.size : Int) := by omega
      go_enter Tryd.func3, Tryd.ntmps3
      go_wp2_with fail
      refine (awake_any _).mono ?_
      rintro e w1 ⟨rfl, hb⟩
      have HB : Hid (Below w.heap.size w w1) := Below.trans (by go_grown) (hb.mono (by simp))
      clear hb
      go_wp2_with fail
      go_returns
      exact ⟨rfl, HB.out⟩
  have hs : s.size ≤ 1000 := by omega
  have hc : c.size ≤ 300 := by omega
  have z1 : ¬ (1000 : Int) < (s.size : Int) := by omega
  have z2 : ¬ (300 : Int) < (c.size : Int) := by omega
  clear hg
  go_enter Tryd.func3, Tryd.ntmps3
  go_upto_region 3 with fail
  refine Code.wp_named (fun W => W.cell? ⟨w.heap.size, 0, none⟩ = some (.int .i64 k) ∧ W.cell? ⟨w.heap.size, 1, none⟩ = some (.int .i64 m) ∧ W.cell? ⟨w.heap.size, 2, none⟩ = some (.string c) ∧ Below w.heap.size w W ∧ w.heap.size < W.heap.size) ⟨by simp [go_sem], by simp [go_sem], by simp [go_sem], by go_grown, by simp⟩ ?_
  rintro w1 ⟨e0, e1, e2, hB, hlt⟩
  have HB1 := hide hB
  clear hB
  obtain ⟨⟨k', n', c'⟩, hv⟩ : ∃ v, parseP s = v := ⟨_, rfl⟩
  have g0 : ∀ n : Aft w1, n.out.cell? ⟨w.heap.size, 0, none⟩ = some (.int .i64 k) := fun n => n.cell e0
  have g1 : ∀ n : Aft w1, n.out.cell? ⟨w.heap.size, 1, none⟩ = some (.int .i64 m) := fun n => n.cell e1
  have g2 : ∀ n : Aft w1, n.out.cell? ⟨w.heap.size, 2, none⟩ = some (.string c) := fun n => n.cell e2
  have hsm := verb_same
  have hgd := verb_guard
  have hP : ∀ W', Calls Tryd.prog 6 #[.string s] W' fun e w' => e = .returned (.agg #[.int .i64 k', .int .i64 n', .string c']) ∧ Below W'.heap.size W' w' := fun W' => by
    have h := sparse_any s W' (by omega)
    rw [hv] at h
    exact h
  have hRP : ∀ W', Calls Tryd.prog 7 #[.string s] W' fun e w' => e = .returned (.agg #[.int .i64 k', .int .i64 n', .string c']) ∧ Below W'.heap.size W' w' := fun W' => by
    have h := rparse_v s W' (by omega)
    rw [hv] at h
    exact h
  clear hv
  refine wp_region_aft (by kernel_rfl) (by kernel_rfl) ?_
  repeat (first
    | go_big_quiet_skip
    | (go_big_quiet_want; go_big_quiet_op; first
       | go_big_quiet_on
       | (apply Exists.intro
          refine ⟨fun N => ?_, ?_⟩
          · first
            | (go_at_call 6; exact Calls.aft N (hP _))
            | (go_at_call 7; exact Calls.aft N (hRP _))
            | (go_at_call 8; exact Calls.aft N (print_any k m c _ h0 h1 (by omega)))
            | (go_at_call 9; exact Calls.aft N (rprint_any k m c _ h0 h1 (by omega)))
            | (go_at_call 10; exact Calls.aft N (exit_any k m c _))
            | (go_at_call 11; exact Calls.aft N (rexit_any k m c _))
            | (go_at_call 12; exact Calls.aft N (rows_any k m c _))
            | (go_at_call 13; exact Calls.aft N (rrows_any k m c _))
            | (go_at_call 14; exact Calls.aft N (columns_any k m n c _))
            | (go_at_call 15; exact Calls.aft N (rcolumns_any k m n c _))
            | (go_at_call 5; exact Calls.aft N (awake_any _))
          go_big_quiet_on)))
  refine wpQuiet_nil ?_
  rintro w' ⟨N, rfl⟩
  go_wp2
  go_returns
  exact ⟨rfl, HB1.out.trans (N.below.mono HB1.out.size)⟩
end Go.Proofs.YtehmpmlklgeaoaaDoor
