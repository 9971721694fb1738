/-
  Reading what was written, and writing what was read: no program in sight. No condition.
-/
import Derived.Test.YtpaodffckhnieaaDoorParsePlain
namespace Go.Proofs.YtpaodffckhnieaaDoor
open Go.RowKit
set_option linter.unusedVariables false
set_option linter.unusedSimpArgs false
set_option maxRecDepth 100000

/-- Digits, read behind m. -/
def runL : Int → List UInt8 → Option Int
  | m, [] => some m
  | m, c :: l => if (c.toNat : Int) < 48 ∨ 57 < (c.toNat : Int) then none else runL (10 * m + ((c.toNat : Int) - 48)) l
theorem runN_eq (s : ByteArray) (r k : Nat) (m : Int) (h : k + r = s.size) : runN s r k m = runL m (s.data.toList.drop k) := by
  induction r generalizing k m with
  | zero =>
    rw [List.drop_eq_nil_of_le (by rw [Array.length_toList]; show s.size ≤ k; omega)]; rfl
  | succ r ih =>
    have hk : k < s.data.toList.length := by rw [Array.length_toList]; show k < s.size; omega
    rw [List.drop_eq_getElem_cons hk, runL, runN]
    have e : sb s k = ((s.data.toList[k]'hk).toNat : Int) := by
      unfold sb; rw [List.getD_eq_getElem?_getD, List.getElem?_eq_getElem hk]; rfl
    rw [e]
    split
    · rfl
    · exact ih (k + 1) _ (by omega)
theorem runL_append (m : Int) (l r : List UInt8) : runL m (l ++ r) = (runL m l).bind fun n => runL n r := by
  induction l generalizing m with
  | nil => rfl
  | cons c l ih =>
    rw [List.cons_append, runL, runL]
    split
    · rfl
    · exact ih _
theorem runL_one (m : Int) (c : UInt8) : runL m [c] = if (c.toNat : Int) < 48 ∨ 57 < (c.toNat : Int) then none else some (10 * m + ((c.toNat : Int) - 48)) := by
  rw [runL]; rfl
theorem dg_int (n : Nat) : ((dg n).toNat : Int) = 48 + (n % 10 : Nat) := by rw [dg_toNat]; push_cast; rfl
theorem runL_dig (n : Nat) (hn : n < 10 ^ 20) : runL 0 (dig n) = some (n : Int) := by
  induction n using Nat.strongRecOn with
  | _ n ih =>
    by_cases h : n < 10
    · rw [dig_small n h, runL_one, dg_int, if_neg (by omega)]
      congr 1; omega
    · rw [dig_step n (by omega) hn, runL_append, ih (n / 10) (by omega) (by omega)]
      show runL _ _ = _
      rw [runL_one, dg_int, if_neg (by omega)]
      congr 1; omega
theorem dig_head (n : Nat) (h1 : 1 ≤ n) (hn : n < 10 ^ 20) : (dig n).getD 0 0 ≠ 48 := by
  induction n using Nat.strongRecOn with
  | _ n ih =>
    by_cases h : n < 10
    · rw [dig_small n h]
      intro he
      have e2 : (dg n).toNat = 48 := by
        have : dg n = 48 := he
        rw [this]; rfl
      rw [dg_toNat] at e2
      omega
    · rw [dig_step n (by omega) hn]
      have h2 := ih (n / 10) (by omega) (by omega) (by omega)
      have h3 := List.length_pos_iff.2 (dig_ne (n / 10))
      rw [List.getD_eq_getElem?_getD] at h2 ⊢
      rwa [List.getElem?_append_left h3]
theorem dig_length10 (n : Nat) (hn : n < 10 ^ 10) : (dig n).length ≤ 10 := by
  have h := digF_more 10 20 n hn (by omega) (by omega)
  show (digF 20 n).length ≤ 10
  rw [h]
  exact digF_length 10 n
theorem sb_text (x : Int) (h : 0 ≤ x) : sb (text x) 0 = (((dig x.natAbs).getD 0 0).toNat : Int) := by
  unfold sb text textL
  rw [if_neg (by omega)]
theorem text_size (x : Int) (h : 0 ≤ x) : (text x).size = (dig x.natAbs).length := by
  show (textL x).toArray.size = _
  unfold textL
  rw [if_neg (by omega)]
  simp
theorem text_data (x : Int) (h : 0 ≤ x) : (text x).data.toList = dig x.natAbs := by
  unfold text textL
  rw [if_neg (by omega)]
/-- What was written is read. -/
theorem parse_text_most (x most : Int) (h0 : 0 ≤ x) (h1 : x ≤ 9999999999) (hm : x ≤ most) : parseN (text x) most = some x := by
  have hn : x.natAbs < 10 ^ 10 := by
    have : (10 : Nat) ^ 10 = 10000000000 := by decide
    omega
  have hn2 : x.natAbs < 10 ^ 20 := by
    have : (10 : Nat) ^ 10 ≤ 10 ^ 20 := by decide
    omega
  have hl := dig_length10 _ hn
  have hp := List.length_pos_iff.2 (dig_ne x.natAbs)
  unfold parseN
  rw [text_size x h0, sb_text x h0]
  rw [if_neg ?c]
  case c =>
    rintro (h | h | ⟨h, h'⟩)
    · omega
    · omega
    · by_cases hx : x.natAbs < 10
      · rw [dig_small _ hx] at h'; simp at h'
      · refine dig_head x.natAbs (by omega) hn2 ?_
        apply UInt8.toNat.inj
        show _ = 48
        omega
  rw [runN_eq (text x) (dig x.natAbs).length 0 0 (by rw [text_size x h0]; omega), text_data x h0, List.drop_zero, runL_dig _ hn2]
  show (if most < ((x.natAbs : Nat) : Int) then none else some ((x.natAbs : Nat) : Int)) = some x
  rw [if_neg (by omega)]
  congr 1; omega
theorem parse_text (x : Int) (h0 : 0 ≤ x) (h1 : x ≤ 9999999999) : parseN (text x) x = some x := parse_text_most x x h0 h1 (Int.le_refl _)
theorem runL_bound (l : List UInt8) (m : Int) (k : Nat) (n : Int) (hm : 0 ≤ m) (hmk : m < 10 ^ k) (h : runL m l = some n) : 0 ≤ n ∧ n < 10 ^ (k + l.length) := by
  induction l generalizing m k with
  | nil =>
    rw [runL] at h
    injection h with h
    subst h
    exact ⟨hm, by simpa using hmk⟩
  | cons c l ih =>
    rw [runL] at h
    split at h
    · cases h
    · rename_i hc
      have h2 := ih _ (k + 1) (by omega) (by rw [Int.pow_succ]; omega) h
      rw [List.length_cons, show k + (l.length + 1) = k + 1 + l.length from by omega]
      exact h2
theorem dig_of_run (r : List UInt8) : ∀ (n : Int), r.reverse ≠ [] → r.reverse.length ≤ 10 → ¬ (r.reverse.getD 0 0 = 48 ∧ 1 < r.reverse.length) → runL 0 r.reverse = some n → dig n.natAbs = r.reverse := by
  induction r with
  | nil => intro n h; exact absurd rfl h
  | cons c r ih =>
    intro n _ hl hz hrun
    rw [List.reverse_cons] at hl hz hrun ⊢
    rw [runL_append] at hrun
    have hcast : ∀ d : UInt8, (d.toNat : Int) < 48 ∨ 57 < (d.toNat : Int) ∨ (48 ≤ (d.toNat : Int) ∧ (d.toNat : Int) ≤ 57) := fun d => by omega
    by_cases hr : r = []
    · subst hr
      simp only [List.reverse_nil, List.nil_append] at hrun ⊢
      have h1 : runL 0 [c] = some n := hrun
      rw [runL_one] at h1
      split at h1
      · cases h1
      · rename_i hc
        injection h1 with h1
        have hn : n.natAbs < 10 := by omega
        rw [dig_small _ hn]
        congr 1
        apply UInt8.toNat.inj
        rw [dg_toNat]
        omega
    · have hrl : 0 < r.length := List.length_pos_iff.2 hr
      rcases hm : runL 0 r.reverse with _ | m
      · rw [hm] at hrun; cases hrun
      · rw [hm] at hrun
        have h1 : runL m [c] = some n := hrun
        rw [runL_one] at h1
        have hhead : (r.reverse ++ [c]).getD 0 0 = r.reverse.getD 0 0 := by
          rw [List.getD_eq_getElem?_getD, List.getD_eq_getElem?_getD, List.getElem?_append_left (by simpa using hrl)]
        have hne : r.reverse.getD 0 0 ≠ 48 := fun h => hz ⟨by rw [hhead]; exact h, by simp; omega⟩
        simp only [List.length_append, List.length_reverse, List.length_cons, List.length_nil] at hl
        have h2 := ih m (by simpa using hr) (by simp; omega) (fun h => hne h.1) hm
        have hb := runL_bound _ 0 0 m (by omega) (by decide) hm
        split at h1
        · cases h1
        · rename_i hc
          injection h1 with h1
          have hm1 : 1 ≤ m := by
            rcases Int.lt_or_le 0 m with h | h
            · omega
            · have hm0 : m = 0 := by omega
              rw [hm0] at h2
              exact absurd (show r.reverse.getD 0 0 = 48 by rw [← h2]; rfl) hne
          have hb2 : m < 10 ^ 10 := by
            have e : (10 : Int) ^ (0 + r.reverse.length) ≤ 10 ^ 10 := by
              have : (10 : Nat) ^ (0 + r.reverse.length) ≤ 10 ^ 10 := Nat.pow_le_pow_right (by omega) (by simp; omega)
              exact_mod_cast this
            omega
          have hn20 : n.natAbs < 10 ^ 20 := by
            have e1 : (10 : Int) ^ 10 = 10000000000 := by decide
            have e2 : (10 : Nat) ^ 20 = 100000000000000000000 := by decide
            omega
          rw [dig_step n.natAbs (by omega) hn20, show n.natAbs / 10 = m.natAbs from by omega, h2]
          congr 2
          apply UInt8.toNat.inj
          rw [dg_toNat]
          omega
/-- What was read is written as it stood. -/
theorem text_parse (s : ByteArray) (most n : Int) (h : parseN s most = some n) : text n = s := by
  unfold parseN at h
  split at h
  · cases h
  · rename_i hc
    rw [runN_eq s s.size 0 0 (by omega), List.drop_zero] at h
    rcases hr : runL 0 s.data.toList with _ | m
    · rw [hr] at h; cases h
    · rw [hr] at h
      have h' : (if most < m then none else some m) = some n := h
      split at h'
      · cases h'
      · injection h' with h'
        subst h'
        have hb := runL_bound _ 0 0 m (by omega) (by decide) hr
        have hsz : s.data.toList.length = s.size := Array.length_toList
        have h2 := dig_of_run s.data.toList.reverse m (by rw [List.reverse_reverse]; intro e; rw [e] at hsz; simp at hsz; omega) (by rw [List.reverse_reverse]; omega)
          (by
            rw [List.reverse_reverse]
            rintro ⟨h3, h4⟩
            refine hc (Or.inr (Or.inr ⟨?_, by omega⟩))
            unfold sb
            rw [h3]; rfl) (by rw [List.reverse_reverse]; exact hr)
        rw [List.reverse_reverse] at h2
        unfold text textL
        rw [if_neg (by omega), h2]
theorem parse_nonneg (s : ByteArray) (most n : Int) (h : parseN s most = some n) : 0 ≤ n ∧ n ≤ most := by
  unfold parseN at h
  split at h
  · cases h
  · rename_i hc
    rw [runN_eq s s.size 0 0 (by omega), List.drop_zero] at h
    rcases hr : runL 0 s.data.toList with _ | m
    · rw [hr] at h; cases h
    · rw [hr] at h
      have h' : (if most < m then none else some m) = some n := h
      split at h'
      · cases h'
      · injection h' with h'
        subst h'
        have hb := runL_bound _ 0 0 m (by omega) (by decide) hr
        omega

end Go.Proofs.YtpaodffckhnieaaDoor
