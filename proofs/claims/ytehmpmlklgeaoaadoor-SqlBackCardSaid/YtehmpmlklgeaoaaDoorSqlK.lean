/-
  What says a verb, said again: no program in sight. No condition.
-/
import Derived.Test.YtehmpmlklgeaoaaDoorSqlJ
namespace Go.Proofs.YtehmpmlklgeaoaaDoor
open Go.RowKit
set_option linter.unusedVariables false
set_option linter.unusedSimpArgs false

def blanksB (n : Nat) : ByteArray := ⟨(List.replicate n 32).toArray⟩
theorem blanksB_size (n : Nat) : (blanksB n).size = n := by show (List.replicate n (32 : UInt8)).toArray.size = n; simp
theorem cat_list (a b : ByteArray) : (a ++ b).data.toList = a.data.toList ++ b.data.toList := by
  rw [ByteArray.data_append, Array.toList_append]
theorem dropWhile_blanks (a : Nat) (l : List UInt8) : (List.replicate a 32 ++ l).dropWhile (· == 32) = l.dropWhile (· == 32) := by
  induction a with
  | zero => rfl
  | succ a ih => rw [List.replicate_succ, List.cons_append, List.dropWhile_cons]; exact ih
theorem rdrop_blanks (b : Nat) (l : List UInt8) : rdrop (· == 32) (l ++ List.replicate b 32) = rdrop (· == 32) l := by
  induction b with
  | zero => rw [List.replicate_zero, List.append_nil]
  | succ b ih => rw [List.replicate_succ', ← List.append_assoc, rdrop_snoc]; exact ih
theorem trim_around (a b : Nat) (t : ByteArray) : trimS (blanksB a ++ t ++ blanksB b) = trimS t := by
  unfold trimS
  rw [trimB_eq, trimB_eq, ← trim_swap, cat_list, cat_list]
  show (⟨(List.dropWhile _ (rdrop _ (_ ++ List.replicate b 32))).toArray⟩ : ByteArray) = _
  rw [rdrop_blanks, trim_swap]
  show (⟨(rdrop _ (List.dropWhile _ (List.replicate a 32 ++ _))).toArray⟩ : ByteArray) = _
  rw [dropWhile_blanks]
theorem trim_ahead (a : Nat) (t : ByteArray) : trimS (blanksB a ++ t) = trimS t := by
  have h := trim_around a 0 t
  have e : blanksB a ++ t ++ blanksB 0 = blanksB a ++ t := by
    rw [ext_iff, cat_list]; show _ ++ [] = _; rw [List.append_nil]
  rwa [e] at h
theorem trim_id (t : ByteArray) (h0 : 0 < t.size) (h1 : sb t 0 ≠ 32) (h2 : sb t (t.size - 1) ≠ 32) : trimS t = t := by
  have d1 : (sb t 0 == 32) = false := by simpa using h1
  have d2 : (sb t (t.size - 1) == 32) = false := by simpa using h2
  have e1 : t.data.toList.dropWhile (· == 32) = t.data.toList := by
    rw [bytes_cons t h0, List.dropWhile_cons, sb_blank, d1]; rfl
  have e2 : rdrop (· == 32) t.data.toList = t.data.toList := by
    rw [bytes_snoc t h0, rdrop_snoc, sb_blank, d2]; rfl
  unfold trimS
  rw [trimB_eq, e1, e2]

theorem runN_pos (s : ByteArray) (r k : Nat) (m n : Int) (h0 : 0 ≤ m) (h : runN s r k m = some n) : 0 ≤ n := by
  induction r generalizing k m with
  | zero => unfold runN at h; cases h; exact h0
  | succ r ih =>
    unfold runN at h
    split at h
    · cases h
    · exact ih _ _ (by omega) h
theorem parseN_in {b : ByteArray} {n : Int} (h : parseN b 99 = some n) : 0 ≤ n ∧ n ≤ 99 := by
  unfold parseN at h
  split at h
  · cases h
  · cases hr : runN b b.size 0 0 with
    | none => rw [hr] at h; cases h
    | some m =>
      rw [hr] at h
      have hm := runN_pos b b.size 0 0 m (by decide) hr
      by_cases hq : 99 < m
      · simp [hq] at h
      · simp [hq] at h; omega
theorem sel_all : ((List.range 100).all fun n => vEq (parseP (selB ++ text n)) (5, n, ⟨#[]⟩)) = true := by kernel_rfl
theorem sel_law (n : Int) (h0 : 0 ≤ n) (h1 : n ≤ 99) : parseP (selB ++ text n) = (5, n, ⟨#[]⟩) := by
  have h := List.all_eq_true.1 sel_all n.toNat (by rw [List.mem_range]; omega)
  have e : ((n.toNat : Nat) : Int) = n := by omega
  rw [e] at h
  exact of_decide_eq_true h

theorem codeN_all (s : ByteArray) (r k : Nat) (h : codeN s r k = true) (j : Nat) (h1 : k ≤ j) (h2 : j < k + r) : okI (sb s j) = true := by
  induction r generalizing k with
  | zero => omega
  | succ r ih =>
    unfold codeN at h
    cases ho : okI (sb s k) with
    | false => rw [ho, if_pos rfl] at h; cases h
    | true =>
      rw [ho, if_neg (by decide)] at h
      rcases Nat.lt_or_eq_of_le h1 with h3 | h3
      · exact ih (k + 1) h h3 (by omega)
      · rw [← h3]; exact ho
theorem wordK_none {t : ByteArray} (h : 8 < t.size) : wordK t = none := by
  have hn : ∀ l : ByteArray, l.size ≤ 8 → t ≠ l := fun l hl e => by rw [e] at h; omega
  unfold wordK
  rw [if_neg (hn _ (by decide)), if_neg (hn _ (by decide)), if_neg (hn _ (by decide)), if_neg (hn _ (by decide)), if_neg (hn _ (by decide)), if_neg (hn _ (by decide))]
theorem fail_law (c : ByteArray) (h : codeS c = true) : parseP (failB ++ c) = (8, 0, c) := by
  have h' := h
  unfold codeS at h'
  rw [Bool.and_eq_true] at h'
  obtain ⟨h5, hN⟩ := h'
  have h5 := of_decide_eq_true h5
  have hz : (failB ++ c).size = 10 := by rw [ByteArray.size_append, h5]; rfl
  have hl : (failB ++ c).data.toList = [102, 97, 105, 108, 32] ++ c.data.toList := cat_list _ _
  have h4 : okI (sb c 4) = true := codeN_all c c.size 0 hN 4 (by omega) (by omega)
  have s0 : sb (failB ++ c) 0 = 102 := by unfold sb; rw [hl]; rfl
  have s9 : sb (failB ++ c) 9 = sb c 4 := by unfold sb; rw [hl]; rfl
  have ht : trimS (failB ++ c) = failB ++ c := by
    refine trim_id _ (by omega) (by rw [s0]; decide) ?_
    rw [hz]
    show sb (failB ++ c) 9 ≠ 32
    rw [s9]
    intro e
    rw [e] at h4
    exact absurd h4 (by decide)
  unfold parseP
  rw [ht, ← rsay_eq]
  unfold rsayP
  rw [wordK_none (by omega)]
  have e5 : (failB ++ c).extract 0 5 = ⟨#[102, 97, 105, 108, 32]⟩ := by rw [ext_iff, ext_head, hl]; rfl
  have e7 : ¬ (failB ++ c).extract 0 7 = ⟨#[115, 101, 108, 101, 99, 116, 32]⟩ := by
    rw [ext_iff, ext_head, hl]
    simp
  have et : (failB ++ c).extract 5 (failB ++ c).size = c := by rw [ext_iff, ext_tail, hl]; rfl
  show (if 7 < (failB ++ c).size ∧ (failB ++ c).extract 0 7 = ⟨#[115, 101, 108, 101, 99, 116, 32]⟩ then _ else _) = _
  rw [if_neg (fun h => e7 h.2), if_pos ⟨by omega, e5⟩, et, if_pos h]

theorem say_none {t : ByteArray} (hk : wordK t = none) : sayP t = badV ∨ ∃ a b, sayP t = pairP a b := by
  unfold sayP
  rw [hk]
  by_cases hc : Lib.indexByte t.data.toList 32 < 0
  · exact Or.inl (if_pos hc)
  · exact Or.inr ⟨_, _, if_neg hc⟩
theorem say_some {t : ByteArray} {k : Int} (hk : wordK t = some k) : sayP t = (k, 0, ⟨#[]⟩) := by unfold sayP; rw [hk]
/-- What a text says: of what kinds that may be. -/
theorem parse_kinds (s : ByteArray) : (∃ k, parseP s = (k, 0, ⟨#[]⟩) ∧ (k = 0 ∨ k = 1 ∨ k = 2 ∨ k = 3 ∨ k = 4 ∨ k = 6 ∨ k = 7)) ∨ (∃ n, parseP s = (5, n, ⟨#[]⟩) ∧ 0 ≤ n ∧ n ≤ 99) ∨ (∃ c, parseP s = (8, 0, c) ∧ codeS c = true) := by
  unfold parseP
  cases hk : wordK (trimS s) with
  | some k =>
    refine Or.inl ⟨k, say_some hk, ?_⟩
    unfold wordK at hk
    repeat' split at hk
    all_goals simp at hk
    all_goals omega
  | none =>
    rcases say_none hk with h | ⟨a, b, h⟩
    · exact Or.inl ⟨0, h, Or.inl rfl⟩
    · rw [h]
      unfold pairP
      by_cases ha : a = ⟨#[115, 101, 108, 101, 99, 116]⟩
      · rw [if_pos ha]
        cases hn : parseN b 99 with
        | none => exact Or.inl ⟨0, rfl, Or.inl rfl⟩
        | some n => exact Or.inr (Or.inl ⟨n, rfl, parseN_in hn⟩)
      · rw [if_neg ha]
        by_cases hb : a = ⟨#[102, 97, 105, 108]⟩
        · rw [if_pos hb]
          by_cases hc : codeS b = true
          · rw [if_pos hc]; exact Or.inr (Or.inr ⟨_, rfl, hc⟩)
          · rw [if_neg hc]; exact Or.inl ⟨0, rfl, Or.inl rfl⟩
        · rw [if_neg hb]; exact Or.inl ⟨0, rfl, Or.inl rfl⟩
theorem words_law : ([1, 2, 3, 4, 6, 7].all fun k => vEq (parseP (printP k 0 ⟨#[]⟩)) (k, 0, ⟨#[]⟩)) = true := by kernel_rfl
theorem back_says (s : ByteArray) (k n : Int) (c : ByteArray) (h : parseP s = (k, n, c)) (hk : k ≠ 0) : parseP (printP k n c) = (k, n, c) := by
  rcases parse_kinds s with ⟨k', h1, h2⟩ | ⟨n', h1, h2⟩ | ⟨c', h1, h2⟩
  · rw [h] at h1
    cases h1
    have hm : k ∈ [1, 2, 3, 4, 6, 7] := by simp; omega
    exact of_decide_eq_true (List.all_eq_true.1 words_law k hm)
  · rw [h] at h1
    cases h1
    have e := sel_law n h2.1 h2.2
    have e2 : saysP 5 n ⟨#[]⟩ = selB ++ text n := rfl
    unfold printP
    rw [e2, if_pos e]
    exact e
  · rw [h] at h1
    cases h1
    have e := fail_law c h2
    have e2 : saysP 8 0 c = failB ++ c := rfl
    unfold printP
    rw [e2, if_pos e]
    exact e
theorem parse_sizes (s : ByteArray) (k n : Int) (c : ByteArray) (h : parseP s = (k, n, c)) : -9223372036854775808 ≤ n ∧ n ≤ 9223372036854775807 ∧ c.size ≤ 5 := by
  rcases parse_kinds s with ⟨k', h1, h2⟩ | ⟨n', h1, h2⟩ | ⟨c', h1, h2⟩
  · rw [h] at h1
    cases h1
    exact ⟨by omega, by omega, by decide⟩
  · rw [h] at h1
    cases h1
    exact ⟨by omega, by omega, by decide⟩
  · rw [h] at h1
    cases h1
    unfold codeS at h2
    rw [Bool.and_eq_true] at h2
    have := of_decide_eq_true h2.1
    exact ⟨by omega, by omega, by omega⟩
theorem print_back (k n : Int) (c : ByteArray) (a b : Nat) (h : (printP k n c).size ≠ 0) : parseP (blanksB a ++ printP k n c ++ blanksB b) = (k, n, c) := by
  have h1 : parseP (blanksB a ++ printP k n c ++ blanksB b) = parseP (printP k n c) := by unfold parseP; rw [trim_around]
  rw [h1]
  unfold printP at h ⊢
  by_cases hq : parseP (saysP k n c) = (k, n, c)
  · rw [if_pos hq]; exact hq
  · rw [if_neg hq] at h; exact absurd rfl h
theorem ahead_says (s : ByteArray) (a : Nat) : parseP (blanksB a ++ s) = parseP s := by unfold parseP; rw [trim_ahead]
end Go.Proofs.YtehmpmlklgeaoaaDoor
