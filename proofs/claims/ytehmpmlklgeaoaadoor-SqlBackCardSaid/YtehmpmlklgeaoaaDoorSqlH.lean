/-
  The reference's other functions. No condition but on lengths.
-/
import Derived.Test.YtehmpmlklgeaoaaDoorSqlG
namespace Go.Proofs.YtehmpmlklgeaoaaDoor
open Go.RowKit
set_option linter.unusedVariables false
set_option linter.unusedSimpArgs false

theorem rsays_any (k n : Int) (c : ByteArray) (w : World) (h0 : -9223372036854775808 ≤ n) (h1 : n ≤ 9223372036854775807) (hc : c.size ≤ 100000) :
    Calls Tryd.prog 25 #[verbV (k, n, c)] w fun e w' => e = .returned (.string (saysP k n c)) ∧ Below w.heap.size w w' := by
  unfold verbV
  by_cases k5 : k = 5
  · subst k5
    have hz : ((⟨#[115, 101, 108, 101, 99, 116, 32]⟩ : ByteArray)).size = 7 := rfl
    have hz2 : (text n).size ≤ 21 := by show (textL n).toArray.size ≤ 21; rw [List.size_toArray]; exact textL_length n
    go_enter Tryd.func25, Tryd.ntmps25
    go_upto_region 2 with fail
    refine Code.wp_named (fun W => W.cell? ⟨w.heap.size, 0, none⟩ = some (.int .i64 5) ∧ W.cell? ⟨w.heap.size, 1, none⟩ = some (.int .i64 n) ∧ Below w.heap.size w W) ⟨by simp [go_sem], by simp [go_sem], by go_grown⟩ ?_
    rintro W ⟨e0, e1, hB⟩
    have HB := hide hB
    clear hB
    go_wp2_with fail
    refine (rtext_any n _ h0 h1).mono ?_
    rintro e w1 ⟨rfl, rfl⟩
    go_wp2_with fail
    go_returns
    exact ⟨rfl, HB.out⟩
  by_cases k8 : k = 8
  · subst k8
    have hz : ((⟨#[102, 97, 105, 108, 32]⟩ : ByteArray)).size = 5 := rfl
    go_enter Tryd.func25, Tryd.ntmps25
    go_wp2_with fail
    go_returns
    refine ⟨rfl, ?_⟩
    go_grown
  by_cases k2 : k = 2
  · subst k2
    go_enter Tryd.func25, Tryd.ntmps25
    go_wp2_with fail
    go_returns
    refine ⟨rfl, ?_⟩
    go_grown
  by_cases k3 : k = 3
  · subst k3
    go_enter Tryd.func25, Tryd.ntmps25
    go_wp2_with fail
    go_returns
    refine ⟨rfl, ?_⟩
    go_grown
  by_cases k4 : k = 4
  · subst k4
    go_enter Tryd.func25, Tryd.ntmps25
    go_wp2_with fail
    go_returns
    refine ⟨rfl, ?_⟩
    go_grown
  by_cases k6 : k = 6
  · subst k6
    go_enter Tryd.func25, Tryd.ntmps25
    go_wp2_with fail
    go_returns
    refine ⟨rfl, ?_⟩
    go_grown
  by_cases k7 : k = 7
  · subst k7
    go_enter Tryd.func25, Tryd.ntmps25
    go_wp2_with fail
    go_returns
    refine ⟨rfl, ?_⟩
    go_grown
  have hR : Hid (saysP k n c = ⟨#[]⟩) := by
    show _ = _
    unfold saysP
    rw [if_neg k2, if_neg k3, if_neg k4, if_neg k5, if_neg k6, if_neg k7, if_neg k8]
  have d2 : (k == 2) = false := by simpa using k2
  have d3 : (k == 3) = false := by simpa using k3
  have d4 : (k == 4) = false := by simpa using k4
  have d5 : (k == 5) = false := by simpa using k5
  have d6 : (k == 6) = false := by simpa using k6
  have d7 : (k == 7) = false := by simpa using k7
  have d8 : (k == 8) = false := by simpa using k8
  clear k2 k3 k4 k5 k6 k7 k8
  go_enter Tryd.func25, Tryd.ntmps25
  go_wp2_with fail
  go_returns
  refine ⟨by rw [hR.out]; rfl, ?_⟩
  go_grown

theorem rexit_any (k n : Int) (c : ByteArray) (w : World) :
    Calls Tryd.prog 11 #[verbV (k, n, c)] w fun e w' => e = .returned (.bool (exitP k)) ∧ Below w.heap.size w w' := by
  unfold verbV
  by_cases h3 : k = 3
  · have HR : Hid (exitP k = true) := by show _ = _; unfold exitP; simp [h3]
    subst h3
    go_enter Tryd.func11, Tryd.ntmps11
    go_wp2_with fail
    go_returns
    refine ⟨by rw [HR.out]; rfl, ?_⟩
    go_grown
  by_cases h4 : k = 4
  · have HR : Hid (exitP k = true) := by show _ = _; unfold exitP; simp [h4]
    subst h4
    go_enter Tryd.func11, Tryd.ntmps11
    go_wp2_with fail
    go_returns
    refine ⟨by rw [HR.out]; rfl, ?_⟩
    go_grown
  have HR : Hid (exitP k = false) := by show _ = _; unfold exitP; simp [h3, h4]
  have d3 : (k == 3) = false := by simpa using h3
  have d4 : (k == 4) = false := by simpa using h4
  clear h3 h4
  go_enter Tryd.func11, Tryd.ntmps11
  go_wp2_with fail
  go_returns
  refine ⟨by rw [HR.out]; rfl, ?_⟩
  go_grown
theorem rrows_any (k n : Int) (c : ByteArray) (w : World) :
    Calls Tryd.prog 13 #[verbV (k, n, c)] w fun e w' => e = .returned (.bool (rowsP k)) ∧ Below w.heap.size w w' := by
  unfold verbV
  by_cases h5 : k = 5
  · have HR : Hid (rowsP k = true) := by show _ = _; unfold rowsP; simp [h5]
    subst h5
    go_enter Tryd.func13, Tryd.ntmps13
    go_wp2_with fail
    go_returns
    refine ⟨by rw [HR.out]; rfl, ?_⟩
    go_grown
  by_cases h6 : k = 6
  · have HR : Hid (rowsP k = true) := by show _ = _; unfold rowsP; simp [h6]
    subst h6
    go_enter Tryd.func13, Tryd.ntmps13
    go_wp2_with fail
    go_returns
    refine ⟨by rw [HR.out]; rfl, ?_⟩
    go_grown
  by_cases h7 : k = 7
  · have HR : Hid (rowsP k = true) := by show _ = _; unfold rowsP; simp [h7]
    subst h7
    go_enter Tryd.func13, Tryd.ntmps13
    go_wp2_with fail
    go_returns
    refine ⟨by rw [HR.out]; rfl, ?_⟩
    go_grown
  have HR : Hid (rowsP k = false) := by show _ = _; unfold rowsP; simp [h5, h6, h7]
  have d5 : (k == 5) = false := by simpa using h5
  have d6 : (k == 6) = false := by simpa using h6
  have d7 : (k == 7) = false := by simpa using h7
  clear h5 h6 h7
  go_enter Tryd.func13, Tryd.ntmps13
  go_wp2_with fail
  go_returns
  refine ⟨by rw [HR.out]; rfl, ?_⟩
  go_grown
theorem rcolumns_any (k n o : Int) (c : ByteArray) (w : World) :
    Calls Tryd.prog 15 #[verbV (k, n, c), .int .i64 o] w fun e w' => e = .returned (.int .i64 (colsP k o)) ∧ Below w.heap.size w w' := by
  unfold verbV
  by_cases h6 : k = 6
  · subst h6
    have HR : Hid (colsP 6 o = min (max o 0) 1000) := rfl
    go_enter Tryd.func15, Tryd.ntmps15
    go_wp2_with fail
    go_returns
    refine ⟨by rw [HR.out]; rfl, ?_⟩
    go_grown
  by_cases h5 : k = 5
  · have HR : Hid (colsP k o = 1) := by show _ = _; unfold colsP; simp [h5]
    subst h5
    go_enter Tryd.func15, Tryd.ntmps15
    go_wp2_with fail
    go_returns
    refine ⟨by rw [HR.out]; rfl, ?_⟩
    go_grown
  by_cases h7 : k = 7
  · have HR : Hid (colsP k o = 1) := by show _ = _; unfold colsP; simp [h7]
    subst h7
    go_enter Tryd.func15, Tryd.ntmps15
    go_wp2_with fail
    go_returns
    refine ⟨by rw [HR.out]; rfl, ?_⟩
    go_grown
  have HR : Hid (colsP k o = 0) := by show _ = _; unfold colsP; simp [h5, h6, h7]
  have d5 : (k == 5) = false := by simpa using h5
  have d6 : (k == 6) = false := by simpa using h6
  have d7 : (k == 7) = false := by simpa using h7
  clear h5 h6 h7
  go_enter Tryd.func15, Tryd.ntmps15
  go_wp2_with fail
  go_returns
  refine ⟨by rw [HR.out]; rfl, ?_⟩
  go_grown
end Go.Proofs.YtehmpmlklgeaoaaDoor
