/-
  What a verb does. No condition.
-/
import Derived.Test.YtehmpmlklgeaoaaDoorSqlD
namespace Go.Proofs.YtehmpmlklgeaoaaDoor
open Go.RowKit
set_option linter.unusedVariables false
set_option linter.unusedSimpArgs false

def hasI (zs : List Int) (k : Int) : Bool := zs.contains k
def exitP (k : Int) : Bool := decide (k = 3 ∨ k = 4)
def rowsP (k : Int) : Bool := decide (k = 5 ∨ k = 6 ∨ k = 7)
theorem one_any (k n : Int) (c : ByteArray) (b : Nat) (cp : Nat) (zs : List Int) (w : World) (hz : zs.length ≤ 1000) (hc : ∀ j, j < zs.length → w.cell? ⟨b, j, none⟩ = some (.int .i64 (zs.getD j 0))) :
    Calls Tryd.prog 26 #[verbV (k, n, c), .slice (some ⟨b, 0, none⟩) zs.length cp] w fun e w' => e = .returned (.bool (hasI zs k)) ∧ Below w.heap.size w w' := by
  have Hc := hide hc
  clear hc
  unfold verbV
  go_enter Tryd.func26, Tryd.ntmps26
  go_wp2_with fail
  refine (Tryd.slices_Contains_int b 0 zs.length cp zs k _ (Nat.le_refl _) (by omega) (fun j hj => ?_)).mono ?_
  · rw [World.cell?_alloc_old _ _ _ (by
      have h := Hc.out j hj
      rcases Nat.lt_or_ge b w.heap.size with h1 | h1
      · exact Nat.ne_of_lt h1
      · simp [World.cell?, Array.getElem?_eq_none h1] at h), Nat.zero_add]
    exact Hc.out j hj
  rintro e w1 ⟨rfl, rfl⟩
  rw [List.take_length, show zs.contains k = hasI zs k from rfl]
  go_wp2_with fail
  go_returns
  exact ⟨rfl, (Below.refl _ _).alloc (Nat.le_refl _) _⟩

theorem exit_any (k n : Int) (c : ByteArray) (w : World) :
    Calls Tryd.prog 10 #[verbV (k, n, c)] w fun e w' => e = .returned (.bool (exitP k)) ∧ Below w.heap.size w w' := by
  have HR : Hid (hasI [3, 4] k = exitP k) := by
    show _ = _
    unfold hasI exitP
    by_cases h : k = 3 <;> by_cases h2 : k = 4 <;> simp [h, h2]
  unfold verbV
  go_enter Tryd.func10, Tryd.ntmps10
  go_wp2_with fail
  refine (one_any k n c (w.heap.size + 1) 2 [3, 4] _ (by decide) (fun j hj => ?_)).mono ?_
  · have : j = 0 ∨ j = 1 := by simp at hj; omega
    rcases this with rfl | rfl <;> simp [go_sem]
  rintro e w1 ⟨rfl, hb⟩
  rw [HR.out]
  have HB : Hid (Below w.heap.size w w1) := Below.trans (by go_grown) (hb.mono (by simp; omega))
  clear hb
  go_wp2_with fail
  go_returns
  exact ⟨rfl, HB.out⟩
theorem rows_any (k n : Int) (c : ByteArray) (w : World) :
    Calls Tryd.prog 12 #[verbV (k, n, c)] w fun e w' => e = .returned (.bool (rowsP k)) ∧ Below w.heap.size w w' := by
  have HR : Hid (hasI [5, 6, 7] k = rowsP k) := by
    show _ = _
    unfold hasI rowsP
    by_cases h : k = 5 <;> by_cases h2 : k = 6 <;> by_cases h3 : k = 7 <;> simp [h, h2, h3]
  unfold verbV
  go_enter Tryd.func12, Tryd.ntmps12
  go_wp2_with fail
  refine (one_any k n c (w.heap.size + 1) 3 [5, 6, 7] _ (by decide) (fun j hj => ?_)).mono ?_
  · have : j = 0 ∨ j = 1 ∨ j = 2 := by simp at hj; omega
    rcases this with rfl | rfl | rfl <;> simp [go_sem]
  rintro e w1 ⟨rfl, hb⟩
  rw [HR.out]
  have HB : Hid (Below w.heap.size w w1) := Below.trans (by go_grown) (hb.mono (by simp; omega))
  clear hb
  go_wp2_with fail
  go_returns
  exact ⟨rfl, HB.out⟩

/-- How many columns a verb's rows have. -/
def colsP (k o : Int) : Int := if k = 6 then min (max o 0) 1000 else if k = 5 ∨ k = 7 then 1 else 0
theorem columns_any (k n o : Int) (c : ByteArray) (w : World) :
    Calls Tryd.prog 14 #[verbV (k, n, c), .int .i64 o] w fun e w' => e = .returned (.int .i64 (colsP k o)) ∧ Below w.heap.size w w' := by
  unfold verbV
  by_cases h6 : k = 6
  · subst h6
    have HR : Hid (colsP 6 o = min (max o 0) 1000) := rfl
    go_enter Tryd.func14, Tryd.ntmps14
    go_wp2_with fail
    go_returns
    refine ⟨by rw [HR.out]; rfl, ?_⟩
    go_grown
  have hd : (k == 6) = false := by simpa using h6
  have HR : Hid (colsP k o = if rowsP k = true then 1 else 0) := by
    show _ = _; unfold colsP rowsP; rw [if_neg h6]
    by_cases h : k = 5 <;> by_cases h3 : k = 7 <;> simp [h, h3, h6]
  clear h6
  go_enter Tryd.func14, Tryd.ntmps14
  go_wp2_with fail
  refine (rows_any k n c _).mono ?_
  rintro e w1 ⟨rfl, hb⟩
  have HB : Hid (Below w.heap.size w w1) := Below.trans (by go_grown) (hb.mono (by simp))
  clear hb
  cases hq : rowsP k with
  | true =>
    have HR2 : Hid (colsP k o = 1) := by show _ = _; rw [HR.out, hq]; rfl
    clear hq
    go_wp2_with fail
    go_returns
    exact ⟨by rw [HR2.out]; rfl, HB.out⟩
  | false =>
    have HR2 : Hid (colsP k o = 0) := by show _ = _; rw [HR.out, hq]; rfl
    clear hq
    go_wp2_with fail
    go_returns
    exact ⟨by rw [HR2.out]; rfl, HB.out⟩
end Go.Proofs.YtehmpmlklgeaoaaDoor
