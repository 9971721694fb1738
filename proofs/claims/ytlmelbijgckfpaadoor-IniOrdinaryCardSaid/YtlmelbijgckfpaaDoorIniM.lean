/-
  Equal settings: the model's comparisons. No condition.
-/
import Derived.Test.YtlmelbijgckfpaaDoorRows
import Derived.Test.YtlmelbijgckfpaaDoorKit
import Derived.Laws.StructEq
import Derived.ChangeKeysEq
namespace Go.Proofs.YtlmelbijgckfpaaDoor
open Go.RowKit
set_option linter.unusedVariables false
set_option linter.unusedSimpArgs false
set_option maxRecDepth 100000

/-- Whether two pairs are one. -/
def pEq (a b : ByteArray × ByteArray) : Bool := decide (a = b)
theorem beqList_decide (c c' : ByteArray) : (c.toList == c'.toList) = decide (c = c') := by
  by_cases h : c = c'
  · subst h; simp
  · have h2 : c.toList ≠ c'.toList := by
      rw [ByteArray.toList_eq, ByteArray.toList_eq]
      intro e
      apply h
      obtain ⟨x⟩ := c
      obtain ⟨y⟩ := c'
      congr 1
      exact Array.toList_inj.1 e
    rw [decide_eq_false h]
    simpa using h2
theorem pair_equal (a b c d : ByteArray) (w : World) : (Op.equalIn 10000 40 (.agg #[.string a, .string b]) (.agg #[.string c, .string d])).run Tryd.prog w = .ok (pEq (a, b) (c, d)) w := by
  rw [run_equalIn_struct w 9999 40 _ _ (by kernel_rfl) (by kernel_rfl)]
  simp only [Program.fieldsOf, Tryd.underlying40]
  simp [Op.eqFields, go_sem, beqList_decide]
  unfold pEq
  by_cases h : a = c <;> by_cases h' : b = d <;> simp [h, h']
theorem pair_neq (a b c d : ByteArray) (w : World) : (binOp .neq 40 (.agg #[.string a, .string b]) (.agg #[.string c, .string d])).run Tryd.prog w = .ok (.bool (!pEq (a, b) (c, d))) w := by
  rw [run_neq_struct, pair_equal]; rfl
theorem pair_guard (op : BinOp) (x y : Operand) (xs ys : Array Value) (w : World) : (eqGuard op 40 x y (.agg xs) (.agg ys)).run Tryd.prog w = .ok () w :=
  run_eqGuard_agg w op _ x y xs ys (by kernel_rfl)
/-- Whether two rows of six numbers are one. -/
def sixEq (a b : List Int) : Bool := decide (a = b)
theorem info3 : ∃ i, Tryd.prog.info? 3 = some i := by
  cases h : Tryd.prog.info? 3 with
  | some i => exact ⟨i, rfl⟩
  | none =>
    have : (Tryd.prog.info? 3).isSome = true := by kernel_rfl
    rw [h] at this; cases this
theorem six_equal (a b c d e f a' b' c' d' e' f' : Int) (w : World) : (Op.equalIn 10000 89 (.agg #[.int .i64 a, .int .i64 b, .int .i64 c, .int .i64 d, .int .i64 e, .int .i64 f]) (.agg #[.int .i64 a', .int .i64 b', .int .i64 c', .int .i64 d', .int .i64 e', .int .i64 f'])).run Tryd.prog w = .ok (sixEq [a, b, c, d, e, f] [a', b', c', d', e', f']) w := by
  obtain ⟨i, hi⟩ := info3
  rw [run_equalIn_array (w := w) 9999 _ _ (show Tryd.prog.underlying 89 = some (.array 6 3) by kernel_rfl) hi]
  rw [show Tryd.prog.cellsOf 3 = 1 by kernel_rfl]
  rw [show List.range 6 = [0, 1, 2, 3, 4, 5] from rfl]
  have step : ∀ (j : Nat) (js : List Nat) (xs ys : Array Value) (x y : Int) (r : Bool), (part 3 xs j).run Tryd.prog w = .ok (.int .i64 x) w → (part 3 ys j).run Tryd.prog w = .ok (.int .i64 y) w → (Op.eqItems 9999 3 1 xs ys js).run Tryd.prog w = .ok r w → (Op.eqItems 9999 3 1 xs ys (j :: js)).run Tryd.prog w = .ok (decide (x = y) && r) w := by
    intro j js xs ys x y r h1 h2 h3
    rw [Op.eqItems, Nat.mul_one, Sem.run_bind, h1, Result.andThen_ok, Sem.run_bind, h2, Result.andThen_ok, Sem.run_bind, run_equalIn_int w 9998 3 .i64 .i64 x y (by kernel_rfl), Result.andThen_ok]
    by_cases h : x = y
    · subst h; simpa using h3
    · simp [h]
  have fin : ∀ xs ys : Array Value, (Op.eqItems 9999 3 1 xs ys []).run Tryd.prog w = .ok true w := fun xs ys => by simp [Op.eqItems]
  rw [step 0 _ _ _ a a' _ (by simp [go_sem]) (by simp [go_sem]) (step 1 _ _ _ b b' _ (by simp [go_sem]) (by simp [go_sem]) (step 2 _ _ _ c c' _ (by simp [go_sem]) (by simp [go_sem]) (step 3 _ _ _ d d' _ (by simp [go_sem]) (by simp [go_sem]) (step 4 _ _ _ e e' _ (by simp [go_sem]) (by simp [go_sem]) (step 5 _ _ _ f f' _ (by simp [go_sem]) (by simp [go_sem]) (fin _ _))))))]
  unfold sixEq
  congr 1
  simp [Bool.decide_and]
theorem six_eql (a b c d e f a' b' c' d' e' f' : Int) (w : World) : (binOp .eql 89 (.agg #[.int .i64 a, .int .i64 b, .int .i64 c, .int .i64 d, .int .i64 e, .int .i64 f]) (.agg #[.int .i64 a', .int .i64 b', .int .i64 c', .int .i64 d', .int .i64 e', .int .i64 f'])).run Tryd.prog w = .ok (.bool (sixEq [a, b, c, d, e, f] [a', b', c', d', e', f'])) w := by
  rw [run_eql_struct, six_equal]; rfl
theorem six_guard (op : BinOp) (x y : Operand) (xs ys : Array Value) (w : World) : (eqGuard op 89 x y (.agg xs) (.agg ys)).run Tryd.prog w = .ok () w :=
  run_eqGuard_agg w op _ x y xs ys (by kernel_rfl)
end Go.Proofs.YtlmelbijgckfpaaDoor
