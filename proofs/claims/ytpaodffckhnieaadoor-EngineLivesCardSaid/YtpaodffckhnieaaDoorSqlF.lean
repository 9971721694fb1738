/-
  The reference's trim, code and Parse. No condition but on lengths.
-/
import Derived.Test.YtpaodffckhnieaaDoorSqlC
import Derived.Test.YtpaodffckhnieaaDoorRParse
namespace Go.Proofs.YtpaodffckhnieaaDoor
open Go.RowKit
set_option linter.unusedVariables false
set_option linter.unusedSimpArgs false
set_option maxRecDepth 100000

/-- A list without what p holds at its end. -/
def rdrop (p : UInt8 → Bool) (l : List UInt8) : List UInt8 := (l.reverse.dropWhile p).reverse
theorem rdrop_snoc (p : UInt8 → Bool) (l : List UInt8) (x : UInt8) : rdrop p (l ++ [x]) = if p x then rdrop p l else l ++ [x] := by
  unfold rdrop
  rw [List.reverse_append]
  show (List.dropWhile p (x :: l.reverse)).reverse = _
  rw [List.dropWhile_cons]
  split <;> simp
theorem dropWhile_eq_nil (p : UInt8 → Bool) (l : List UInt8) : l.dropWhile p = [] ↔ ∀ x ∈ l, p x = true := by
  induction l with
  | nil => simp
  | cons x l ih =>
    rw [List.dropWhile_cons]
    cases h : p x <;> simp [h, ih]
theorem rdrop_cons (p : UInt8 → Bool) (x : UInt8) (l : List UInt8) : rdrop p (x :: l) = if rdrop p l = [] then (if p x then [] else [x]) else x :: rdrop p l := by
  unfold rdrop
  rw [List.reverse_cons, List.dropWhile_append]
  cases h : l.reverse.dropWhile p with
  | nil =>
    simp
    cases hp : p x <;> simp [hp, List.dropWhile]
  | cons y t => simp
theorem trim_swap (p : UInt8 → Bool) (l : List UInt8) : (rdrop p l).dropWhile p = rdrop p (l.dropWhile p) := by
  induction l with
  | nil => rfl
  | cons x l ih =>
    rw [rdrop_cons, List.dropWhile_cons]
    cases hp : p x with
    | true =>
      by_cases hr : rdrop p l = []
      · rw [if_pos hr]; simp only [if_true]; rw [← ih, hr]
      · rw [if_neg hr, List.dropWhile_cons]; simp only [hp, if_true]; exact ih
    | false =>
      simp only [Bool.false_eq_true, if_false]
      rw [rdrop_cons, hp]
      by_cases hr : rdrop p l = []
      · simp [hr, List.dropWhile, hp]
      · simp [hr, List.dropWhile_cons, hp]
theorem trimB_eq (l : List UInt8) : Lib.trimB l 32 = rdrop (· == 32) (l.dropWhile (· == 32)) := trim_swap _ _

theorem bytes_cons (t : ByteArray) (h : 0 < t.size) : t.data.toList = t.data.toList.getD 0 0 :: (t.extract 1 t.size).data.toList := by
  have h1 : t.data.toList.length = t.size := Array.length_toList
  cases hl : t.data.toList with
  | nil => rw [hl] at h1; simp at h1; omega
  | cons x l =>
    have h2 : (t.extract 1 t.size).data.toList = t.data.toList.drop 1 := by
      rw [ByteArray.data_extract, Array.toList_extract, List.extract_eq_take_drop, ← h1]
      rw [List.take_of_length_le (by simp)]
    rw [h2, hl]; rfl
theorem bytes_snoc (t : ByteArray) (h : 0 < t.size) : t.data.toList = (t.extract 0 (t.size - 1)).data.toList ++ [t.data.toList.getD (t.size - 1) 0] := by
  have h1 : t.data.toList.length = t.size := Array.length_toList
  have h2 : (t.extract 0 (t.size - 1)).data.toList = t.data.toList.take (t.size - 1) := by
    rw [ByteArray.data_extract, Array.toList_extract, List.extract_eq_take_drop]
    simp
  rw [h2, List.getD_eq_getElem?_getD, List.getElem?_eq_getElem (by omega)]
  have h3 : t.data.toList.take (t.size - 1 + 1) = t.data.toList := List.take_of_length_le (by omega)
  rw [List.take_add_one, List.getElem?_eq_getElem (by omega)] at h3
  exact h3.symm
theorem sb_blank (t : ByteArray) (k : Nat) : (t.data.toList.getD k 0 == 32) = (sb t k == 32) := by
  unfold sb
  generalize t.data.toList.getD k 0 = b
  by_cases h : b = 32
  · subst h; rfl
  · have h1 : ¬ (b.toNat : Int) = 32 := fun e => h (UInt8.toNat.inj (show _ = 32 by omega))
    have h2 : (b == 32) = false := by simpa using h
    rw [h2]
    have h3 : ((b.toNat : Int) == 32) = false := by simpa using h1
    exact h3.symm

theorem rtrim_any (s : ByteArray) (w : World) (hs : s.size ≤ 100000) :
    Calls Tryd.prog 51 #[.string s] w fun e w' => e = .returned (.string (trimS s)) ∧ w = w' := by
  have HT : Hid (trimS s = ⟨(rdrop (· == 32) (s.data.toList.dropWhile (· == 32))).toArray⟩) := by show _ = _; unfold trimS; rw [trimB_eq]
  go_enter Tryd.func51, Tryd.ntmps51
  go_wp2_with fail
  go_loop [0] (fun v => ∃ t : ByteArray, v = .string t ∧ t.size ≤ 100000 ∧ Hid (t.data.toList.dropWhile (· == 32) = s.data.toList.dropWhile (· == 32))) (fun v => match v with | .string t => t.size | _ => 0)
  case atStart => exact ⟨s, rfl, hs, rfl⟩
  case round =>
    obtain ⟨t, rfl, ht, Hl⟩ := hrel
    by_cases h0 : 0 < t.size ∧ sb t 0 = 32
    · obtain ⟨h0, h1⟩ := h0
      have hi : (0 : Int) < (t.size : Int) := by omega
      have hg := sb_get t 0 h0
      rw [h1] at hg
      have h1i : (1 : Int) ≤ (t.size : Int) := by omega
      have hb := bytes_cons t h0
      have Hl2 : Hid ((t.extract 1 t.size).data.toList.dropWhile (· == 32) = s.data.toList.dropWhile (· == 32)) := by
        show _ = _
        rw [← Hl.out, hb, List.dropWhile_cons, sb_blank, h1]
        rfl
      have hz : (t.extract 1 t.size).size = t.size - 1 := by rw [ByteArray.size_extract]; omega
      clear hb
      go_wp2_with fail
      go_round
      case rel => exact ⟨_, rfl, by omega, Hl2⟩
      case measure => show (t.extract 1 t.size).size < t.size; omega
    · have h0c : t.size = 0 ∨ (0 < t.size ∧ sb t 0 ≠ 32) := by omega
      have HL : Hid (t.data.toList = s.data.toList.dropWhile (· == 32)) := by
        show _ = _
        rw [← Hl.out]
        rcases h0c with h | ⟨h, h2⟩
        · rw [show t.data.toList = [] from List.eq_nil_of_length_eq_zero (by rw [Array.length_toList]; exact h)]; rfl
        · rw [bytes_cons t h, List.dropWhile_cons, sb_blank]
          have : (sb t 0 == 32) = false := by simpa using h2
          rw [this]; rfl
      clear Hl h0
      rcases h0c with h0 | ⟨h0, h1⟩
      · have hi2 : ¬ (0 : Int) < (t.size : Int) := by omega
        go_wp2_with fail
        go_loop [0] (fun v => ∃ r : ByteArray, v = .string r ∧ r.size ≤ 100000 ∧ Hid (rdrop (· == 32) r.data.toList = rdrop (· == 32) t.data.toList)) (fun v => match v with | .string t => t.size | _ => 0)
        case atStart => exact ⟨t, rfl, ht, rfl⟩
        case round =>
          obtain ⟨r, rfl, hr, Hr⟩ := hrel
          by_cases q0 : 0 < r.size
          · have qi : (0 : Int) < (r.size : Int) := by omega
            have qj : (0 : Int) ≤ (r.size : Int) - 1 := by omega
            have qk : (r.size : Int) - 1 < (r.size : Int) := by omega
            have qt : ((r.size : Int) - 1).toNat = r.size - 1 := by omega
            have qg := sb_get r (r.size - 1) (by omega)
            by_cases q1 : sb r (r.size - 1) = 32
            · rw [q1] at qg
              have hb := bytes_snoc r q0
              have Hr2 : Hid (rdrop (· == 32) (r.extract 0 (r.size - 1)).data.toList = rdrop (· == 32) t.data.toList) := by
                show _ = _
                rw [← Hr.out, hb, rdrop_snoc, sb_blank, q1]
                rfl
              have hz : (r.extract 0 (r.size - 1)).size = r.size - 1 := by rw [ByteArray.size_extract]; omega
              clear hb
              go_wp2_with fail
              go_round
              case rel => exact ⟨_, rfl, by omega, Hr2⟩
              case measure => show (r.extract 0 (r.size - 1)).size < r.size; omega
            · have hb := bytes_snoc r q0
              have HE : Hid (trimS s = r) := by
                show _ = _
                have e1 : rdrop (· == 32) r.data.toList = r.data.toList := by
                  rw [hb, rdrop_snoc, sb_blank]
                  have : (sb r (r.size - 1) == 32) = false := by simpa using q1
                  rw [this]; rfl
                rw [HT.out, ← HL.out, ← Hr.out, e1]
              have qd : (sb r (r.size - 1) == 32) = false := by simpa using q1
              clear hb q1
              go_wp2_with fail
              go_returns
              exact ⟨by rw [HE.out]; rfl, rfl⟩
          · have HE : Hid (trimS s = r) := by
              show _ = _
              have e0 : r.data.toList = [] := List.eq_nil_of_length_eq_zero (by rw [Array.length_toList]; show r.size = 0; omega)
              have e1 : rdrop (· == 32) r.data.toList = r.data.toList := by rw [e0]; rfl
              rw [HT.out, ← HL.out, ← Hr.out, e1]
            have qi : ¬ (0 : Int) < (r.size : Int) := by omega
            go_wp2_with fail
            go_returns
            exact ⟨by rw [HE.out]; rfl, rfl⟩
      · have hi : (0 : Int) < (t.size : Int) := by omega
        have hg := sb_get t 0 h0
        have hd : (sb t 0 == 32) = false := by simpa using h1
        go_wp2_with fail
        go_loop [0] (fun v => ∃ r : ByteArray, v = .string r ∧ r.size ≤ 100000 ∧ Hid (rdrop (· == 32) r.data.toList = rdrop (· == 32) t.data.toList)) (fun v => match v with | .string t => t.size | _ => 0)
        case atStart => exact ⟨t, rfl, ht, rfl⟩
        case round =>
          obtain ⟨r, rfl, hr, Hr⟩ := hrel
          by_cases q0 : 0 < r.size
          · have qi : (0 : Int) < (r.size : Int) := by omega
            have qj : (0 : Int) ≤ (r.size : Int) - 1 := by omega
            have qk : (r.size : Int) - 1 < (r.size : Int) := by omega
            have qt : ((r.size : Int) - 1).toNat = r.size - 1 := by omega
            have qg := sb_get r (r.size - 1) (by omega)
            by_cases q1 : sb r (r.size - 1) = 32
            · rw [q1] at qg
              have hb := bytes_snoc r q0
              have Hr2 : Hid (rdrop (· == 32) (r.extract 0 (r.size - 1)).data.toList = rdrop (· == 32) t.data.toList) := by
                show _ = _
                rw [← Hr.out, hb, rdrop_snoc, sb_blank, q1]
                rfl
              have hz : (r.extract 0 (r.size - 1)).size = r.size - 1 := by rw [ByteArray.size_extract]; omega
              clear hb
              go_wp2_with fail
              go_round
              case rel => exact ⟨_, rfl, by omega, Hr2⟩
              case measure => show (r.extract 0 (r.size - 1)).size < r.size; omega
            · have hb := bytes_snoc r q0
              have HE : Hid (trimS s = r) := by
                show _ = _
                have e1 : rdrop (· == 32) r.data.toList = r.data.toList := by
                  rw [hb, rdrop_snoc, sb_blank]
                  have : (sb r (r.size - 1) == 32) = false := by simpa using q1
                  rw [this]; rfl
                rw [HT.out, ← HL.out, ← Hr.out, e1]
              have qd : (sb r (r.size - 1) == 32) = false := by simpa using q1
              clear hb q1
              go_wp2_with fail
              go_returns
              exact ⟨by rw [HE.out]; rfl, rfl⟩
          · have HE : Hid (trimS s = r) := by
              show _ = _
              have e0 : r.data.toList = [] := List.eq_nil_of_length_eq_zero (by rw [Array.length_toList]; show r.size = 0; omega)
              have e1 : rdrop (· == 32) r.data.toList = r.data.toList := by rw [e0]; rfl
              rw [HT.out, ← HL.out, ← Hr.out, e1]
            have qi : ¬ (0 : Int) < (r.size : Int) := by omega
            go_wp2_with fail
            go_returns
            exact ⟨by rw [HE.out]; rfl, rfl⟩
theorem rcode_any (s : ByteArray) (w : World) (hs : s.size ≤ 100000) :
    Calls Tryd.prog 53 #[.string s] w fun e w' => e = .returned (.bool (codeS s)) ∧ w = w' := by
  have HR : Hid (codeS s = (codeN s s.size 0 && decide (s.size = 5))) := Bool.and_comm _ _
  go_enter Tryd.func53, Tryd.ntmps53
  go_wp2_with fail
  go_loop [3] (fun i => ∃ (k r : Nat), i = .int .i64 k ∧ Hid (k + r = s.size) ∧ k + r ≤ 100000 ∧ Hid (codeN s r k = codeN s s.size 0)) (fun i => (s.size - (intOf i).toNat))
  case atStart => exact ⟨0, s.size, rfl, Nat.zero_add _, by omega, rfl⟩
  case round =>
    obtain ⟨k, r, rfl, Hkr, hkr, Hc⟩ := hrel
    rcases r with _ | r
    · have hk : ¬ (k : Int) < s.size := by have := Hkr.out; omega
      by_cases h5 : s.size = 5
      · have Hc2 : Hid (codeS s = true) := by show _ = _; rw [HR.out, ← Hc.out, decide_eq_true h5]; rfl
        have h5i : (s.size : Int) = 5 := by omega
        go_wp2
        go_returns
        exact ⟨by rw [Hc2.out]; rfl, rfl⟩
      · have Hc2 : Hid (codeS s = false) := by show _ = _; rw [HR.out, decide_eq_false h5, Bool.and_false]
        have h5i : ((s.size : Int) == 5) = false := by
          have : (s.size : Int) ≠ 5 := by omega
          simpa using this
        clear h5
        go_wp2
        go_returns
        exact ⟨by rw [Hc2.out]; rfl, rfl⟩
    · have hk : (k : Int) < s.size := by have := Hkr.out; omega
      have hkn : k < s.size := by omega
      have hg := sb_get s k hkn
      obtain ⟨h0, h255⟩ := sb_in s k
      rcases okI_cases (sb s k) h0 h255 with ⟨c1, c2⟩ | ⟨c0, c1, c2⟩ | ⟨c0, c1, c2⟩ | ⟨c0, c1, c2⟩ | ⟨c1, c2⟩
      all_goals
        first
          | have Hc2 : Hid (codeS s = false) := by show _ = _; rw [HR.out, ← Hc.out, codeN, if_pos c2]; rfl
          | have Hc2 : Hid (codeN s r (k + 1) = codeN s s.size 0) := by show _ = _; rw [← Hc.out, codeN, if_neg (by rw [c2]; decide)]
      all_goals
        clear c2
        go_wp2_with fail
      all_goals try (exfalso; rename_i hz; simp only [Bool.not_eq_false', decide_eq_true_eq] at hz; omega)
      all_goals
        first
          | (go_returns; exact ⟨congrArg (fun b => Ending.returned (.bool b)) Hc2.out.symm, rfl⟩)
          | skip
      all_goals
        go_round
        case rel => exact ⟨k + 1, r, rfl, by have := Hkr.out; show k + 1 + r = _; omega, by omega, Hc2⟩
        case measure => simp [intOf]; omega
end Go.Proofs.YtpaodffckhnieaaDoor
