/-
  The law SqlBack, walked. No condition.
-/
import Derived.Test.YtehmpmlklgeaoaaDoorSqlK
namespace Go.Proofs.YtehmpmlklgeaoaaDoor
open Go.RowKit
set_option linter.unusedVariables false
set_option linter.unusedSimpArgs false

theorem blanks_any (a : Int) (w : World) (h0 : 0 ≤ a) (h1 : a ≤ 255) :
    Calls Tryd.prog 16 #[.int .u8 a] w fun e w' => w = w' ∧ e = .returned (.string (blanksB (a % 20).toNat)) := by
  go_enter Tryd.func16, Tryd.ntmps16
  go_wp2_with fail
  go_loop [3, 6] (fun v i => ∃ (j r : Nat), v = .string (blanksB j) ∧ i = .int .u8 j ∧ Hid (j + r = (a % 20).toNat) ∧ j + r ≤ 19) (fun _ i => (a % 20).toNat - (intOf i).toNat)
  case atStart => exact ⟨0, (a % 20).toNat, rfl, rfl, Nat.zero_add _, by omega⟩
  case round =>
    obtain ⟨j, r, rfl, rfl, Hj, hj⟩ := hrel
    rcases r with _ | r
    · have hc : ¬ (j : Int) < a % 20 := by have := Hj.out; omega
      have HR : Hid (blanksB (a % 20).toNat = blanksB j) := by show _ = _; rw [← Hj.out]; rfl
      go_wp2
      go_returns
      exact ⟨rfl, by rw [HR.out]; rfl⟩
    · have hc : (j : Int) < a % 20 := by have := Hj.out; omega
      have hz := blanksB_size j
      have hz1 : ((⟨#[32]⟩ : ByteArray)).size = 1 := rfl
      have hE : blanksB j ++ ⟨#[32]⟩ = blanksB (j + 1) := by
        rw [ext_iff, cat_list]
        show List.replicate j 32 ++ [32] = List.replicate (j + 1) 32
        rw [List.replicate_succ']
      go_wp2_with fail
      go_round
      case rel => exact ⟨j + 1, r, rfl, rfl, by have := Hj.out; show j + 1 + r = _; omega, by omega⟩
      case measure => have := Hj.out; simp [intOf]; omega
set_option maxHeartbeats 8000000 in
theorem back_any (s c : ByteArray) (k m a b : Int) (w : World) (h0 : -9223372036854775808 ≤ m) (h1 : m ≤ 9223372036854775807) (a0 : 0 ≤ a) (a1 : a ≤ 255) (b0 : 0 ≤ b) (b1 : b ≤ 255) :
    Calls Tryd.prog 4 #[.string s, verbV (k, m, c), .int .u8 a, .int .u8 b] w fun e w' => e = .returned (.bool true) ∧ Below w.heap.size w w' := by
  unfold verbV
  by_cases hg : 1000 < s.size ∨ 300 < c.size
  · have hg2 : 1000 < s.size ∨ (s.size ≤ 1000 ∧ 300 < c.size) := by omega
    clear hg
    rcases hg2 with hg | ⟨hg, hg2⟩
    · have z1 : (1000 : Int) < (s.size : Int) := by omega
      go_enter Tryd.func4, Tryd.ntmps4
      go_wp2_with fail
      refine (awake_any _).mono ?_
      rintro e w1 ⟨rfl, hb⟩
      have HB : Hid (Below w.heap.size w w1) := Below.trans (by go_grown) (hb.mono (by simp))
      clear hb
      go_wp2_with fail
      go_returns
      exact ⟨rfl, HB.out⟩
    · have z1 : ¬ (1000 : Int) < (s.size : Int) := by omega
      have z2 : (300 : Int) < (c.size : Int) := by omega
      go_enter Tryd.func4, Tryd.ntmps4
      go_wp2_with fail
      refine (awake_any _).mono ?_
      rintro e w1 ⟨rfl, hb⟩
      have HB : Hid (Below w.heap.size w w1) := Below.trans (by go_grown) (hb.mono (by simp))
      clear hb
      go_wp2_with fail
      go_returns
      exact ⟨rfl, HB.out⟩
  have hs : s.size ≤ 1000 := by omega
  have hc : c.size ≤ 300 := by omega
  have z1 : ¬ (1000 : Int) < (s.size : Int) := by omega
  have z2 : ¬ (300 : Int) < (c.size : Int) := by omega
  clear hg
  -- what the calls yield
  have hA : ∀ W', Calls Tryd.prog 16 #[.int .u8 a] W' fun e w' => e = .returned (.string (blanksB (a % 20).toNat)) ∧ Below W'.heap.size W' w' := fun W' => (blanks_any a W' a0 a1).mono fun e w' ⟨h, e⟩ => ⟨e, by rw [← h]; exact Below.refl _ _⟩
  have hBl : ∀ W', Calls Tryd.prog 16 #[.int .u8 b] W' fun e w' => e = .returned (.string (blanksB (b % 20).toNat)) ∧ Below W'.heap.size W' w' := fun W' => (blanks_any b W' b0 b1).mono fun e w' ⟨h, e⟩ => ⟨e, by rw [← h]; exact Below.refl _ _⟩
  have zA : (blanksB (a % 20).toNat).size ≤ 19 := by rw [blanksB_size]; omega
  have zB : (blanksB (b % 20).toNat).size ≤ 19 := by rw [blanksB_size]; omega
  have HPB : Hid ((printP k m c).size ≠ 0 → parseP (blanksB (a % 20).toNat ++ printP k m c ++ blanksB (b % 20).toNat) = (k, m, c)) := print_back k m c _ _
  have HSB : Hid (parseP (blanksB (a % 20).toNat ++ s) = parseP s) := ahead_says s _
  have zt : (printP k m c).size ≤ 1000 := by
    have h := saysP_size k m c
    unfold printP
    by_cases hq : parseP (saysP k m c) = (k, m, c)
    · rw [if_pos hq]; omega
    · rw [if_neg hq]; decide
  have hPt := fun W' => print_any k m c W' h0 h1 (by omega)
  generalize printP k m c = t at HPB zt hPt
  generalize blanksB (a % 20).toNat = bA at hA zA HPB HSB
  generalize blanksB (b % 20).toNat = bB at hBl zB HPB
  go_enter Tryd.func4, Tryd.ntmps4
  go_upto_region 3 with fail
  refine Code.wp_named (fun W => W.cell? ⟨w.heap.size, 0, none⟩ = some (.int .i64 k) ∧ W.cell? ⟨w.heap.size, 1, none⟩ = some (.int .i64 m) ∧ W.cell? ⟨w.heap.size, 2, none⟩ = some (.string c) ∧ Below w.heap.size w W ∧ w.heap.size < W.heap.size) ⟨by simp [go_sem], by simp [go_sem], by simp [go_sem], by go_grown, by simp⟩ ?_
  rintro w1 ⟨e0, e1, e2, hB, hlt⟩
  have HB1 := hide hB
  clear hB
  go_wp2_with fail
  refine (hPt _).mono ?_
  rintro e w2 ⟨rfl, hb⟩
  have hb2 := bcell hb
  rw [← hb2.1 _ _ hlt] at e0 e1 e2
  have hlt2 := Nat.lt_of_lt_of_le hlt hb.size
  have HB2 := hide (below_via HB1.out hb)
  clear hb hb2 HB1 hlt hPt
  have hsm := verb_same
  have hnq : ∀ (k n : Int) (c : ByteArray) (w : World), (binOp .neq 23 (.agg #[.int .i64 k, .int .i64 n, .string c]) (.agg #[.int .i64 k, .int .i64 n, .string c])).run Tryd.prog w = .ok (.bool false) w := fun k n c w => by
    rw [verb_neq, show vEq (k, n, c) (k, n, c) = true from decide_eq_true rfl]; rfl
  have hgd := verb_guard
  have ht : t = ⟨#[]⟩ ∨ (t.toList.isEmpty = false ∧ ¬ t.toList = [] ∧ parseP (bA ++ t ++ bB) = (k, m, c)) := by
    by_cases h : t.size = 0
    · left
      rw [ext_iff]
      exact List.eq_nil_of_length_eq_zero (by rw [Array.length_toList]; exact h)
    · have hne : t ≠ ByteArray.empty := by intro e; rw [e] at h; exact h rfl
      exact Or.inr ⟨by simpa using str_ne_empty hne, str_ne_empty hne, HPB.out h⟩
  clear HPB
  go_upto_region 5 with fail
  have g0 : ∀ n : Aft w2, n.out.cell? ⟨w.heap.size, 0, none⟩ = some (.int .i64 k) := fun n => n.cell e0
  have g1 : ∀ n : Aft w2, n.out.cell? ⟨w.heap.size, 1, none⟩ = some (.int .i64 m) := fun n => n.cell e1
  have g2 : ∀ n : Aft w2, n.out.cell? ⟨w.heap.size, 2, none⟩ = some (.string c) := fun n => n.cell e2
  have q1 : ∀ W', parseP (bA ++ t ++ bB) = (k, m, c) → Calls Tryd.prog 6 #[.string (bA ++ t ++ bB)] W' fun e w' => e = .returned (.agg #[.int .i64 k, .int .i64 m, .string c]) ∧ Below W'.heap.size W' w' := fun W' hq => by
    have h := sparse_any (bA ++ t ++ bB) W' (by rw [ByteArray.size_append, ByteArray.size_append]; omega)
    rw [hq] at h
    exact h
  rcases ht with rfl | ⟨ht1, ht2, ht3⟩
  all_goals
    try have q2 := fun W' => q1 W' ht3
    try clear ht3
    clear q1
    refine wp_region_aft (by kernel_rfl) (by kernel_rfl) ?_
    repeat (first
      | go_big_quiet_skip
      | (go_big_quiet_want; go_big_quiet_op; first
         | go_big_quiet_on
         | (apply Exists.intro
            refine ⟨fun N => ?_, ?_⟩
            · first
              | (go_at_call 6; exact Calls.aft N (q2 _))
              | (go_at_call 16; first | (with_reducible exact Calls.aft N (hA _)) | (with_reducible exact Calls.aft N (hBl _)))
            go_big_quiet_on)))
    refine wpQuiet_nil ?_
    rintro w' ⟨N, rfl⟩
    have HB3 := hide (HB2.out.trans (N.below.mono HB2.out.size))
    clear hnq g0 g1 g2 HB2 hBl zB
    try clear q2
    go_wp2_with fail
    refine (sparse_any s _ (by omega)).mono ?_
    obtain ⟨⟨k', n', c'⟩, hv⟩ : ∃ v, parseP s = v := ⟨_, rfl⟩
    rintro e w3 ⟨rfl, hb⟩
    have hb4 := below_via HB3.out hb
    rw [hv, show verbV (k', n', c') = .agg #[.int .i64 k', .int .i64 n', .string c'] from rfl]
    rw [hv] at HSB
    obtain ⟨j0, j1, j2⟩ := parse_sizes s k' n' c' hv
    have j3 := back_says s k' n' c' hv
    have jz := saysP_size k' n' c'
    have jp : (printP k' n' c').size ≤ 1000 := by
      unfold printP
      by_cases hq : parseP (saysP k' n' c') = (k', n', c')
      · rw [if_pos hq]; omega
      · rw [if_neg hq]; decide
    have q4 : ∀ W', Calls Tryd.prog 6 #[.string (bA ++ s)] W' fun e w' => e = .returned (.agg #[.int .i64 k', .int .i64 n', .string c']) ∧ Below W'.heap.size W' w' := fun W' => by
      have h := sparse_any (bA ++ s) W' (by rw [ByteArray.size_append]; omega)
      rw [HSB.out] at h
      exact h
    have q5 : k' ≠ 0 → ∀ W', Calls Tryd.prog 6 #[.string (printP k' n' c')] W' fun e w' => e = .returned (.agg #[.int .i64 k', .int .i64 n', .string c']) ∧ Below W'.heap.size W' w' := fun hk W' => by
      have h := sparse_any (printP k' n' c') W' (by omega)
      rw [j3 hk] at h
      exact h
    have q6 : ∀ W', Calls Tryd.prog 8 #[.agg #[.int .i64 k', .int .i64 n', .string c']] W' fun e w' => e = .returned (.string (printP k' n' c')) ∧ Below W'.heap.size W' w' := fun W' => print_any k' n' c' W' j0 j1 (by omega)
    clear hv HSB j0 j1 j2 j3 jz hb
    go_upto_region 8 with fail
    refine Code.wp_named (fun W => W.cell? ⟨w3.heap.size, 0, none⟩ = some (.int .i64 k') ∧ W.cell? ⟨w3.heap.size, 1, none⟩ = some (.int .i64 n') ∧ W.cell? ⟨w3.heap.size, 2, none⟩ = some (.string c') ∧ Below w.heap.size w W ∧ w3.heap.size < W.heap.size) ⟨by simp [go_sem], by simp [go_sem], by simp [go_sem], hb4.alloc hb4.size _, by simp⟩ ?_
    generalize w3.heap.size = g
    rintro w4 ⟨e0', e1', e2', hB4, hlt4⟩
    have HB4 := hide hB4
    clear hB4 hb4 HB3
    have g0 : ∀ n : Aft w4, n.out.cell? ⟨g, 0, none⟩ = some (.int .i64 k') := fun n => n.cell e0'
    have g1 : ∀ n : Aft w4, n.out.cell? ⟨g, 1, none⟩ = some (.int .i64 n') := fun n => n.cell e1'
    have g2 : ∀ n : Aft w4, n.out.cell? ⟨g, 2, none⟩ = some (.string c') := fun n => n.cell e2'
    by_cases hk : k' = 0
    all_goals
      first
        | subst hk
        | (have q7 := q5 hk
           have d0 : (k' == 0) = false := by simpa using hk
           clear hk)
      clear q5
      refine wp_region_aft (by kernel_rfl) (by kernel_rfl) ?_
      repeat (first
        | go_big_quiet_skip
        | (go_big_quiet_want; go_big_quiet_op; first
           | go_big_quiet_on
           | (apply Exists.intro
              refine ⟨fun N => ?_, ?_⟩
              · first
                | (go_at_call 6; first | (with_reducible exact Calls.aft N (q4 _)) | (with_reducible exact Calls.aft N (q7 _)))
                | (go_at_call 8; exact Calls.aft N (q6 _))
                | (go_at_call 16; exact Calls.aft N (hA _))
                | (go_at_call 5; exact Calls.aft N (awake_any _))
              go_big_quiet_on)))
      refine wpQuiet_nil ?_
      rintro w' ⟨N, rfl⟩
      go_wp2
      go_returns
      exact ⟨rfl, HB4.out.trans (N.below.mono HB4.out.size)⟩
end Go.Proofs.YtehmpmlklgeaoaaDoor
