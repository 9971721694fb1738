/-
  Texts as lists of bytes: plain lemmas. No condition.
-/
import Derived.Test.YtlmelbijgckfpaaDoorRows
import Derived.Test.YtlmelbijgckfpaaDoorKit
import Derived.Test.YtlmelbijgckfpaaDoorParsePlain
import Derived.Handy
import Derived.WalkKit
import Derived.WalkSpells
import Derived.Deep.QuietTactic
import Derived.BigQuiet
import Derived.Deep.DeepCutAuto
import Derived.Deep.CutBlock
import Derived.Lib.ConvBytes
import Derived.Lib.IndexBytes
namespace Go.Proofs.YtlmelbijgckfpaaDoor
open Go.RowKit
set_option linter.unusedVariables false
set_option linter.unusedSimpArgs false
set_option maxRecDepth 100000

theorem str_ne {s : ByteArray} {l : List UInt8} (h : s ≠ ⟨l.toArray⟩) : (s.toList == l) = false := by
  have : s.toList ≠ l := by
    rw [ByteArray.toList_eq]
    intro e
    exact h (by
      obtain ⟨a⟩ := s
      congr 1
      exact Array.toList_inj.1 e)
  simpa using this
theorem str_ne_empty {s : ByteArray} (h : s ≠ ByteArray.empty) : ¬ s.toList = [] := by
  have h2 : s ≠ ⟨([] : List UInt8).toArray⟩ := h
  have := str_ne h2
  simpa using this
theorem ext_iff (a b : ByteArray) : a = b ↔ a.data.toList = b.data.toList := by
  constructor
  · rintro rfl; rfl
  · intro h
    obtain ⟨x⟩ := a
    obtain ⟨y⟩ := b
    congr 1
    exact Array.toList_inj.1 h
theorem size_zero {s : ByteArray} (h : s.size = 0) : s = ByteArray.empty := by
  rw [ext_iff]
  exact List.eq_nil_of_length_eq_zero (by rw [Array.length_toList]; exact h)
theorem empty_tests (s : ByteArray) : (s.size = 0 ∧ s = ByteArray.empty) ∨ (0 < s.size ∧ ¬ s.toList = [] ∧ s.toList.isEmpty = false) := by
  by_cases h : s.size = 0
  · exact Or.inl ⟨h, size_zero h⟩
  · have hne : s ≠ ByteArray.empty := by intro e; rw [e] at h; exact h rfl
    exact Or.inr ⟨by omega, str_ne_empty hne, by simpa using str_ne_empty hne⟩
theorem eq_tests (a b : ByteArray) : (a = b ∧ (a.toList == b.toList) = true) ∨ (a ≠ b ∧ (a.toList == b.toList) = false) := by
  by_cases h : a = b
  · subst h; exact Or.inl ⟨rfl, by simp⟩
  · refine Or.inr ⟨h, ?_⟩
    have h2 : a.toList ≠ b.toList := by
      rw [ByteArray.toList_eq, ByteArray.toList_eq]
      intro e
      exact h ((ext_iff a b).2 e)
    simpa using h2

/-- A list of bytes as a text. -/
def bs (l : List UInt8) : ByteArray := ⟨l.toArray⟩
theorem bs_list (l : List UInt8) : (bs l).data.toList = l := by simp [bs]
theorem bs_of (s : ByteArray) : bs s.data.toList = s := by
  rw [ext_iff, bs_list]
theorem bs_size (l : List UInt8) : (bs l).size = l.length := by show l.toArray.size = _; simp
theorem list_size (s : ByteArray) : s.data.toList.length = s.size := Array.length_toList
theorem ext_drop (s : ByteArray) (i : Nat) : s.extract i s.size = bs (s.data.toList.drop i) := by
  rw [ext_iff, bs_list, ByteArray.data_extract, Array.toList_extract, List.extract_eq_take_drop]
  exact List.take_of_length_le (by rw [List.length_drop, list_size]; exact Nat.le_refl _)
theorem ext_take (s : ByteArray) (i : Nat) : s.extract 0 i = bs (s.data.toList.take i) := by
  rw [ext_iff, bs_list, ByteArray.data_extract, Array.toList_extract, List.extract_eq_take_drop]
  simp
theorem ext_mid (s : ByteArray) (a b : Nat) : s.extract a b = bs ((s.data.toList.drop a).take (b - a)) := by
  rw [ext_iff, bs_list, ByteArray.data_extract, Array.toList_extract, List.extract_eq_take_drop]
theorem app_bs (a b : List UInt8) : bs a ++ bs b = bs (a ++ b) := by
  rw [ext_iff, bs_list, ByteArray.data_append, Array.toList_append, bs_list, bs_list]
theorem app_list (a b : ByteArray) : (a ++ b).data.toList = a.data.toList ++ b.data.toList := by
  rw [ByteArray.data_append, Array.toList_append]
theorem drop_cons (s : ByteArray) (k : Nat) (h : k < s.size) : s.data.toList.drop k = s.data.toList.getD k 0 :: s.data.toList.drop (k + 1) := by
  have h' : k < s.data.toList.length := by rw [list_size]; exact h
  rw [List.drop_eq_getElem_cons h', List.getD_eq_getElem?_getD, List.getElem?_eq_getElem h']; rfl
theorem drop_none (s : ByteArray) (k : Nat) (h : s.size ≤ k) : s.data.toList.drop k = [] := List.drop_eq_nil_of_le (by rw [list_size]; exact h)
theorem drop_len (s : ByteArray) (k : Nat) : (s.data.toList.drop k).length = s.size - k := by rw [List.length_drop, list_size]
theorem sb_is (s : ByteArray) (k : Nat) (c : UInt8) : sb s k = (c.toNat : Int) ↔ s.data.toList.getD k 0 = c := by
  unfold sb
  constructor
  · intro h
    exact UInt8.toNat.inj (by omega)
  · intro h; rw [h]
theorem one_byte (s : ByteArray) (k : Nat) (h : k < s.size) : s.extract k (k + 1) = bs [s.data.toList.getD k 0] := by
  rw [ext_mid, drop_cons s k h, Nat.add_sub_cancel_left]; rfl
theorem take_snoc (s : ByteArray) (k : Nat) (h : k < s.size) : s.data.toList.take (k + 1) = s.data.toList.take k ++ [s.data.toList.getD k 0] := by
  rw [List.take_add_one, List.getD_eq_getElem?_getD, List.getElem?_eq_getElem (by rw [list_size]; exact h)]; rfl
theorem mid_snoc (s : ByteArray) (a k : Nat) (ha : a ≤ k) (h : k < s.size) : (s.extract a (k + 1)).data.toList = (s.extract a k).data.toList ++ [s.data.toList.getD k 0] := by
  rw [ext_mid, ext_mid, bs_list, bs_list, show k + 1 - a = (k - a) + 1 by omega, List.take_add_one, List.getElem?_drop, show a + (k - a) = k by omega, List.getD_eq_getElem?_getD, List.getElem?_eq_getElem (by rw [list_size]; exact h)]
  rfl

theorem indexByte_cons (x : UInt8) (l : List UInt8) (c : UInt8) (h : x ≠ c) : Lib.indexByte (x :: l) c = if Lib.indexByte l c < 0 then -1 else Lib.indexByte l c + 1 := by
  have hge := Lib.indexByte_ge l c
  rw [Lib.indexByte, if_neg (by simpa using h)]
  by_cases h2 : Lib.indexByte l c = -1
  · rw [h2]; rfl
  · rw [if_neg (by simpa using h2), if_neg (by omega)]
theorem indexByte_self (x : UInt8) (l : List UInt8) : Lib.indexByte (x :: l) x = 0 := by
  rw [Lib.indexByte, if_pos (by simp)]
theorem indexByte_lt (l : List UInt8) (b : UInt8) : Lib.indexByte l b < l.length := by
  induction l with
  | nil => simp [Lib.indexByte]
  | cons x l ih =>
    unfold Lib.indexByte
    simp only [List.length_cons]
    repeat' split
    all_goals omega

/-! Rows of one's own. -/
def lenOf : Value → Nat | .slice _ n _ => n | _ => 0
theorem own_len {w : World} {base e size n : Nat} {v : Value} {xs : List Value} (h : w.ownsRow base e size v n xs) : lenOf v = n := by
  rcases h.2 with ⟨rfl, h0⟩ | ⟨g, cap, cur, rfl, _⟩
  · simp [lenOf]; omega
  · rfl
theorem own_slice {w : World} {base e size n : Nat} {v : Value} {xs : List Value} (h : w.ownsRow base e size v n xs) : ∃ a c, v = .slice a n c := by
  rcases h.2 with ⟨rfl, h0⟩ | ⟨g, cap, cur, rfl, _⟩
  · exact ⟨none, 0, by rw [h0]⟩
  · exact ⟨_, _, rfl⟩
theorem own_apart {w : World} {base e size n b : Nat} {t : TypeId} {cs : Array Value} {v : Value} {xs : List Value} (h : w.ownsRow base e size v n xs) (hb : Blk w b t cs) (ht : e ≠ t) : v.ownBlock ≠ some b := by
  rcases h.2 with ⟨rfl, h0⟩ | ⟨g, cap, cur, rfl, h1, hg, _⟩
  · simp [Value.ownBlock]
  · intro e
    have e2 : g = b := by simpa [Value.ownBlock] using e
    subst e2
    exact Blk.apart (show Blk w g _ _ from hg) hb ht rfl

/-- Text j of a row. -/
def tj (ps : List ByteArray) (j : Nat) : ByteArray := ps.getD j default
/-- Slice v is the texts ps. -/
def TextsAt (w : World) (v : Value) (ps : List ByteArray) : Prop :=
  ∃ a cap, v = .slice a ps.length cap ∧ ps.length ≤ cap ∧ (ps = [] ∨ ∃ b off, a = some ⟨b, off, none⟩ ∧ b < w.heap.size ∧ ∀ j, j < ps.length → w.cell? ⟨b, off + j, none⟩ = some (.string (tj ps j)))
theorem TextsAt.below {w w' : World} {v : Value} {ps : List ByteArray} (h : TextsAt w v ps) (hb : Below w.heap.size w w') : TextsAt w' v ps := by
  obtain ⟨a, cap, rfl, hc, h⟩ := h
  refine ⟨a, cap, rfl, hc, h.imp id ?_⟩
  rintro ⟨b, off, rfl, hlt, hc⟩
  refine ⟨b, off, rfl, Nat.lt_of_lt_of_le hlt hb.size, fun j hj => ?_⟩
  rw [hb.cell (p := ⟨b, off + j, none⟩) hlt]
  exact hc j hj
theorem TextsAt.of_own {w : World} {base e : Nat} {v : Value} {ps : List ByteArray} (h : w.ownsRow base e 1 v ps.length (ps.map Value.string)) : TextsAt w v ps := by
  cases ps with
  | nil =>
    rcases h.2 with ⟨rfl, h0⟩ | ⟨g, cap, cur, rfl, h1, hg, _⟩
    · exact ⟨none, 0, rfl, Nat.le_refl _, Or.inl rfl⟩
    · exact ⟨_, cap, rfl, Nat.zero_le _, Or.inl rfl⟩
  | cons p ps =>
    obtain ⟨g, cap, rfl, _, hg, hc0, _, _, hc⟩ := own_form h (by simp)
    refine ⟨_, cap, rfl, hc0, Or.inr ⟨g, 0, rfl, hg, fun j hj => ?_⟩⟩
    rw [Nat.zero_add, hc _ (by omega), List.getElem?_map]
    unfold tj
    rw [List.getD_eq_getElem?_getD, List.getElem?_eq_getElem hj]; rfl
end Go.Proofs.YtlmelbijgckfpaaDoor
