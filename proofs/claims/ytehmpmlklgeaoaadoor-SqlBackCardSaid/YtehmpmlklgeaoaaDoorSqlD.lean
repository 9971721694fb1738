/-
  What says a verb, and what it does. No condition but on lengths.
-/
import Derived.Test.YtehmpmlklgeaoaaDoorSqlC
namespace Go.Proofs.YtehmpmlklgeaoaaDoor
open Go.RowKit
set_option linter.unusedVariables false
set_option linter.unusedSimpArgs false

def selB : ByteArray := ⟨#[115, 101, 108, 101, 99, 116, 32]⟩
def failB : ByteArray := ⟨#[102, 97, 105, 108, 32]⟩
/-- What says a verb, whether it may be or not. -/
def saysP (k n : Int) (c : ByteArray) : ByteArray :=
  if k = 2 then ⟨#[98, 101, 103, 105, 110]⟩ else if k = 3 then ⟨#[99, 111, 109, 109, 105, 116]⟩ else if k = 4 then ⟨#[114, 111, 108, 108, 98, 97, 99, 107]⟩
  else if k = 5 then selB ++ text n else if k = 6 then ⟨#[101, 99, 104, 111]⟩ else if k = 7 then ⟨#[110, 101, 120, 116]⟩ else if k = 8 then failB ++ c else ⟨#[]⟩

theorem says_any (k n : Int) (c : ByteArray) (w : World) (h0 : -9223372036854775808 ≤ n) (h1 : n ≤ 9223372036854775807) (hc : c.size ≤ 100000) :
    Calls Tryd.prog 24 #[verbV (k, n, c)] w fun e w' => e = .returned (.string (saysP k n c)) ∧ Below w.heap.size w w' := by
  unfold verbV
  by_cases k5 : k = 5
  · subst k5
    have hz : ((⟨#[115, 101, 108, 101, 99, 116, 32]⟩ : ByteArray)).size = 7 := rfl
    have hz2 : (text n).size ≤ 21 := by show (textL n).toArray.size ≤ 21; rw [List.size_toArray]; exact textL_length n
    go_enter Tryd.func24, Tryd.ntmps24
    go_upto_region 2 with fail
    refine Code.wp_named (fun W => W.cell? ⟨w.heap.size, 0, none⟩ = some (.int .i64 5) ∧ W.cell? ⟨w.heap.size, 1, none⟩ = some (.int .i64 n) ∧ Below w.heap.size w W) ⟨by simp [go_sem], by simp [go_sem], by go_grown⟩ ?_
    rintro W ⟨e0, e1, hB⟩
    have HB := hide hB
    clear hB
    go_wp2_with fail
    refine (text_any n _ h0 h1).mono ?_
    rintro e w1 ⟨rfl, hb1⟩
    have HB1 := hide (below_via HB.out hb1)
    clear hb1
    go_wp2_with fail
    go_returns
    exact ⟨rfl, HB1.out⟩
  by_cases k8 : k = 8
  · subst k8
    have hz : ((⟨#[102, 97, 105, 108, 32]⟩ : ByteArray)).size = 5 := rfl
    go_enter Tryd.func24, Tryd.ntmps24
    go_wp2_with fail
    go_returns
    refine ⟨rfl, ?_⟩
    go_grown
  by_cases k2 : k = 2
  · subst k2
    go_enter Tryd.func24, Tryd.ntmps24
    go_wp2_with fail
    go_returns
    refine ⟨rfl, ?_⟩
    go_grown
  by_cases k3 : k = 3
  · subst k3
    go_enter Tryd.func24, Tryd.ntmps24
    go_wp2_with fail
    go_returns
    refine ⟨rfl, ?_⟩
    go_grown
  by_cases k4 : k = 4
  · subst k4
    go_enter Tryd.func24, Tryd.ntmps24
    go_wp2_with fail
    go_returns
    refine ⟨rfl, ?_⟩
    go_grown
  by_cases k6 : k = 6
  · subst k6
    go_enter Tryd.func24, Tryd.ntmps24
    go_wp2_with fail
    go_returns
    refine ⟨rfl, ?_⟩
    go_grown
  by_cases k7 : k = 7
  · subst k7
    go_enter Tryd.func24, Tryd.ntmps24
    go_wp2_with fail
    go_returns
    refine ⟨rfl, ?_⟩
    go_grown
  have hR : Hid (saysP k n c = ⟨#[]⟩) := by
    show _ = _
    unfold saysP
    rw [if_neg k2, if_neg k3, if_neg k4, if_neg k5, if_neg k6, if_neg k7, if_neg k8]
  have d2 : (k == 2) = false := by simpa using k2
  have d3 : (k == 3) = false := by simpa using k3
  have d4 : (k == 4) = false := by simpa using k4
  have d5 : (k == 5) = false := by simpa using k5
  have d6 : (k == 6) = false := by simpa using k6
  have d7 : (k == 7) = false := by simpa using k7
  have d8 : (k == 8) = false := by simpa using k8
  clear k2 k3 k4 k5 k6 k7 k8
  go_enter Tryd.func24, Tryd.ntmps24
  go_wp2_with fail
  go_returns
  refine ⟨by rw [hR.out]; rfl, ?_⟩
  go_grown

/-- The text that says a verb. -/
def printP (k n : Int) (c : ByteArray) : ByteArray := if parseP (saysP k n c) = (k, n, c) then saysP k n c else ⟨#[]⟩
theorem saysP_size (k n : Int) (c : ByteArray) : (saysP k n c).size ≤ 28 + c.size := by
  have hz2 : (text n).size ≤ 21 := by show (textL n).toArray.size ≤ 21; rw [List.size_toArray]; exact textL_length n
  have z1 : selB.size = 7 := rfl
  have z2 : failB.size = 5 := rfl
  unfold saysP
  repeat' split
  all_goals first
    | (rw [ByteArray.size_append]; omega)
    | (refine Nat.le_trans (m := 8) (by decide) (by omega))

def vEq (a b : Int × Int × ByteArray) : Bool := decide (a = b)
theorem verb_equal (k n k' n' : Int) (c c' : ByteArray) (w : World) : (Op.equalIn 10000 23 (.agg #[.int .i64 k, .int .i64 n, .string c]) (.agg #[.int .i64 k', .int .i64 n', .string c'])).run Tryd.prog w = .ok (vEq (k, n, c) (k', n', c')) w := by
  have hc : (c.toList == c'.toList) = decide (c = c') := by
    by_cases h : c = c'
    · subst h; simp
    · have h2 : c.toList ≠ c'.toList := by
        rw [ByteArray.toList_eq, ByteArray.toList_eq]
        intro e
        apply h
        obtain ⟨x⟩ := c
        obtain ⟨y⟩ := c'
        congr 1
        exact Array.toList_inj.1 e
      rw [decide_eq_false h]
      simpa using h2
  rw [run_equalIn_struct w 9999 23 _ _ (by kernel_rfl) (by kernel_rfl)]
  simp only [Program.fieldsOf, Tryd.underlying23]
  by_cases hk : k = k' <;> by_cases hn : n = n' <;> simp [Op.eqFields, go_sem, hc, hk, hn]
  all_goals unfold vEq
  all_goals by_cases h : c = c' <;> simp [h, hk, hn]
theorem verb_neq (k n k' n' : Int) (c c' : ByteArray) (w : World) : (binOp .neq 23 (.agg #[.int .i64 k, .int .i64 n, .string c]) (.agg #[.int .i64 k', .int .i64 n', .string c'])).run Tryd.prog w = .ok (.bool (!vEq (k, n, c) (k', n', c'))) w := by
  rw [run_neq_struct, verb_equal]; rfl
theorem verb_eql (k n k' n' : Int) (c c' : ByteArray) (w : World) : (binOp .eql 23 (.agg #[.int .i64 k, .int .i64 n, .string c]) (.agg #[.int .i64 k', .int .i64 n', .string c'])).run Tryd.prog w = .ok (.bool (vEq (k, n, c) (k', n', c'))) w := by
  rw [run_eql_struct, verb_equal]; rfl
theorem verb_guard (op : BinOp) (x y : Operand) (xs ys : Array Value) (w : World) : (eqGuard op 23 x y (.agg xs) (.agg ys)).run Tryd.prog w = .ok () w :=
  run_eqGuard_agg w op _ x y xs ys (by kernel_rfl)
theorem print_any (k n : Int) (c : ByteArray) (w : World) (h0 : -9223372036854775808 ≤ n) (h1 : n ≤ 9223372036854775807) (hc : c.size ≤ 50000) :
    Calls Tryd.prog 8 #[verbV (k, n, c)] w fun e w' => e = .returned (.string (printP k n c)) ∧ Below w.heap.size w w' := by
  have hz := saysP_size k n c
  obtain ⟨⟨k', n', c'⟩, hv⟩ : ∃ v, parseP (saysP k n c) = v := ⟨_, rfl⟩
  have Hv := hide hv
  have HR : Hid (printP k n c = if (k', n', c') = (k, n, c) then saysP k n c else ⟨#[]⟩) := by show _ = _; unfold printP; rw [hv]
  clear hv
  go_enter Tryd.func8, Tryd.ntmps8
  go_upto_region 1 with fail
  unfold verbV
  refine Code.wp_named (fun W => W.cell? ⟨w.heap.size, 0, none⟩ = some (.int .i64 k) ∧ W.cell? ⟨w.heap.size, 1, none⟩ = some (.int .i64 n) ∧ W.cell? ⟨w.heap.size, 2, none⟩ = some (.string c) ∧ Below w.heap.size w W ∧ w.heap.size < W.heap.size) ⟨by simp [go_sem], by simp [go_sem], by simp [go_sem], by go_grown, by simp⟩ ?_
  rintro W ⟨e0, e1, e2, hB, hlt⟩
  have HB := hide hB
  clear hB
  go_wp2_with fail
  refine (says_any k n c _ h0 h1 (by omega)).mono ?_
  rintro e w1 ⟨rfl, hb1⟩
  have HB1 := hide (below_via HB.out hb1)
  have hb2 := bcell hb1
  rw [← hb2.1 _ _ hlt] at e0 e1 e2
  have hlt1 := Nat.lt_of_lt_of_le hlt hb1.size
  clear hb1 hb2
  go_upto_region 2 with fail
  have g0 : ∀ n : Aft w1, n.out.cell? ⟨w.heap.size, 0, none⟩ = some (.int .i64 k) := fun n => n.cell e0
  have g1 : ∀ m : Aft w1, m.out.cell? ⟨w.heap.size, 1, none⟩ = some (.int .i64 n) := fun n => n.cell e1
  have g2 : ∀ m : Aft w1, m.out.cell? ⟨w.heap.size, 2, none⟩ = some (.string c) := fun n => n.cell e2
  have hs := verb_neq
  have hg := verb_guard
  have hP : ∀ W', Calls Tryd.prog 6 #[.string (saysP k n c)] W' fun e w' => e = .returned (.agg #[.int .i64 k', .int .i64 n', .string c']) ∧ Below W'.heap.size W' w' := fun W' => by
    have h := sparse_any (saysP k n c) W' (by omega)
    rw [Hv.out] at h
    exact h
  refine wp_region_aft (by kernel_rfl) (by kernel_rfl) ?_
  repeat (first
    | go_big_quiet_skip
    | (go_big_quiet_want; go_big_quiet_op; first
       | go_big_quiet_on
       | (apply Exists.intro
          refine ⟨fun n => ?_, ?_⟩
          · (go_at_call 6; exact Calls.aft n (hP _))
          go_big_quiet_on)))
  refine wpQuiet_nil ?_
  rintro w' ⟨N, rfl⟩
  by_cases hq : (k', n', c') = (k, n, c)
  · have hR : Hid (printP k n c = saysP k n c) := by show _ = _; rw [HR.out, if_pos hq]
    have hd : vEq (k', n', c') (k, n, c) = true := decide_eq_true hq
    rw [hd]
    clear hq hd hs
    go_wp2_with fail
    go_returns
    exact ⟨by rw [hR.out]; rfl, HB1.out.trans (N.below.mono HB1.out.size)⟩
  · have hR : Hid (printP k n c = ⟨#[]⟩) := by show _ = _; rw [HR.out, if_neg hq]
    have hd : vEq (k', n', c') (k, n, c) = false := decide_eq_false hq
    rw [hd]
    clear hq hd hs
    go_wp2_with fail
    go_returns
    exact ⟨by rw [hR.out]; rfl, HB1.out.trans (N.below.mono HB1.out.size)⟩
end Go.Proofs.YtehmpmlklgeaoaaDoor
