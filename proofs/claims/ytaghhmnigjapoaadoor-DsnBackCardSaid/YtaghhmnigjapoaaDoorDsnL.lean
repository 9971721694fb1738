/-
  What escaped yields, here and in the reference. No condition but on lengths.
-/
import Derived.Test.YtaghhmnigjapoaaDoorDsnK
import Derived.Laws.IdiomStrings
namespace Go.Proofs.YtaghhmnigjapoaaDoor
open Go.RowKit
set_option linter.unusedVariables false
set_option linter.unusedSimpArgs false

def escB (s : ByteArray) : ByteArray := bs (escL s.data.toList)
theorem escB_size (s : ByteArray) : (escB s).size ≤ 2 * s.size := by
  unfold escB; rw [bs_size]; have := escL_length s.data.toList; rw [list_size] at this; exact this
theorem countB_le (s : ByteArray) (c : UInt8) : Lib.countB s ⟨#[c]⟩ ≤ s.size := by
  have := Lib.countB_mul_le ⟨#[c]⟩ (Nat.le_refl 1) s.size s (Nat.le_refl _)
  have e : ((⟨#[c]⟩ : ByteArray)).size = 1 := rfl
  rw [e, Nat.mul_one] at this; exact this
/-- The cell of the library's own bound on lengths is there. -/
def MaxAt (w : World) : Prop := 0 < w.heap.size ∧ ∃ m, w.cell? ⟨0, 0, none⟩ = some (.int .i64 m)
theorem MaxAt.below {w w' : World} (h : MaxAt w) (hb : Below w.heap.size w w') : MaxAt w' := by
  obtain ⟨h0, m, hm⟩ := h
  exact ⟨Nat.lt_of_lt_of_le h0 hb.size, m, by rw [hb.cell h0]; exact hm⟩
theorem replace_any (s : ByteArray) (c : UInt8) (n : ByteArray) (hn : n.size = 2) (hne : [c] ≠ n.data.toList) (w : World) (hs : s.size ≤ 1000000) (hM : MaxAt w) :
    Calls Tryd.prog 28 #[.string s, .string ⟨#[c]⟩, .string n] w fun e w' => e = .returned (.string (bs (flat c n.data.toList s.data.toList))) ∧ Below w.heap.size w w' := by
  obtain ⟨h0, m, hm⟩ := hM
  have hc := countB_le s c
  have := Tryd.strings_ReplaceAll s ⟨#[c]⟩ n m w (by omega) hm (Nat.le_refl 1) (by rw [hn]; omega)
  have e : ((⟨#[c]⟩ : ByteArray)).data.toList = [c] := rfl
  rw [e, replaceAll_one c _ _ hne] at this
  exact this
theorem escaped_any (s : ByteArray) (w : World) (hs : s.size ≤ 400000) (hM : MaxAt w) :
    Calls Tryd.prog 19 #[.string s] w fun e w' => e = .returned (.string (escB s)) ∧ Below w.heap.size w w' := by
  have HM := hide hM
  clear hM
  have H2 : Hid (bs (flat 39 [92, 39] (flat 92 [92, 92] s.data.toList)) = escB s) := by show _ = _; rw [escL_eq]; rfl
  have hz := flat_length 92 92 92 s.data.toList
  rw [list_size] at hz
  go_enter Tryd.func19, Tryd.ntmps19
  go_wp2_with fail
  refine (replace_any s 92 ⟨#[92, 92]⟩ rfl (by decide) _ (by omega) HM.out).mono ?_
  rintro e w1 ⟨rfl, hb1⟩
  have HM1 := hide (HM.out.below hb1)
  have HB1 := hide hb1
  clear hb1
  go_wp2_with fail
  refine (replace_any _ 39 ⟨#[92, 39]⟩ rfl (by decide) _ (by rw [bs_size]; show (flat 92 [92, 92] s.data.toList).length ≤ _; omega) HM1.out).mono ?_
  rintro e w2 ⟨rfl, hb2⟩
  rw [bs_list, show ((⟨#[92, 39]⟩ : ByteArray)).data.toList = [92, 39] from rfl, H2.out]
  have HB2 := hide (below_via HB1.out hb2)
  clear hb2
  go_wp2_with fail
  go_returns
  exact ⟨rfl, HB2.out⟩

/-- A made slice of one byte, as a text. -/
theorem mark_text (w : World) (t : TypeId) : (convert 53 9 (.slice (some ⟨w.heap.size, 0, none⟩) 1 1)).run Tryd.prog (w.alloc (.cells #[.int .u8 92] t)) = .ok (.string ⟨#[92]⟩) (w.alloc (.cells #[.int .u8 92] t)) := by
  refine run_convert_bytes_back _ 53 9 5 ⟨w.heap.size, 0, none⟩ 1 [92] Tryd.underlying53 Tryd.underlying5 Tryd.underlying9 ?_
  intro j hj
  have hj0 : j = 0 := by simp at hj; exact hj
  subst hj0
  show (w.alloc _).cell? ⟨w.heap.size, 0, none⟩ = _
  rw [World.cell?_alloc_new]
  rfl
theorem take_snoc (s : ByteArray) (k : Nat) (h : k < s.size) : s.data.toList.take (k + 1) = s.data.toList.take k ++ [s.data.toList.getD k 0] := by
  rw [List.take_add_one, List.getD_eq_getElem?_getD, List.getElem?_eq_getElem (by rw [list_size]; exact h)]; rfl
theorem escB_other (s t : ByteArray) (k : Nat) (h : k < s.size) (ht : t = bs (escL (s.data.toList.take k))) (h1 : sb s k ≠ 39) (h2 : sb s k ≠ 92) : t ++ s.extract k (k + 1) = bs (escL (s.data.toList.take (k + 1))) := by
  rw [ht, one_byte s k h, app_bs, take_snoc s k h, escL_snoc, if_neg (fun e => e.elim (fun e => h1 ((sb_is s k 39).2 e)) (fun e => h2 ((sb_is s k 92).2 e)))]
theorem escB_mark (s t : ByteArray) (k : Nat) (h : k < s.size) (ht : t = bs (escL (s.data.toList.take k))) (h1 : sb s k = 39 ∨ sb s k = 92) : t ++ ⟨#[92]⟩ ++ s.extract k (k + 1) = bs (escL (s.data.toList.take (k + 1))) := by
  rw [ht, one_byte s k h, show (⟨#[92]⟩ : ByteArray) = bs [92] from rfl, app_bs, app_bs, take_snoc s k h, escL_snoc, if_pos (h1.imp (sb_is s k 39).1 (sb_is s k 92).1), List.append_assoc]
  rfl

set_option maxHeartbeats 1000000 in
theorem rescaped_any (s : ByteArray) (w : World) (hs : s.size ≤ 400000) :
    Calls Tryd.prog 22 #[.string s] w fun e w' => e = .returned (.string (escB s)) ∧ Below w.heap.size w w' := by
  have z92 : ((⟨#[92]⟩ : ByteArray)).size = 1 := rfl
  go_enter Tryd.func22, Tryd.ntmps22
  go_wp2_with fail
  go_loopw [3, 4] (fun v i wr => ∃ (k : Nat) (t : ByteArray), v = .string t ∧ i = .int .i64 k ∧ k ≤ s.size ∧ t.size ≤ 2 * k ∧ Hid (t = bs (escL (s.data.toList.take k))) ∧ Below w.heap.size w wr) (fun _ i _ => (s.size - (intOf i).toNat))
  case atStart => exact ⟨0, ⟨#[]⟩, rfl, rfl, Nat.zero_le _, Nat.zero_le _, rfl, Below.refl _ _⟩
  case round =>
    obtain ⟨k, t, rfl, rfl, hk, ht, Ht, hB⟩ := hrel
    have HB := hide hB
    have hBs := hB.size
    clear hB
    by_cases hkk : k < s.size
    · have hki : (k : Int) < (s.size : Int) := by omega
      have hki1 : (k : Int) + 1 ≤ (s.size : Int) := by omega
      have hg := sb_get s k hkk
      have hz : (s.extract k (k + 1)).size = 1 := by rw [ByteArray.size_extract]; omega
      have hz2 : (t ++ ⟨#[92]⟩).size = t.size + 1 := by rw [ByteArray.size_append]; rfl
      by_cases h39 : sb s k = 39
      · have HE := hide (escB_mark s t k hkk Ht.out (Or.inl h39))
        have HZ : Hid ((t ++ ⟨#[92]⟩ ++ s.extract k (k + 1)).size ≤ 2 * (k + 1)) := by show _ ≤ _; rw [ByteArray.size_append, ByteArray.size_append, hz, z92]; omega
        rw [h39] at hg
        clear h39
        go_wp2_with fail
        rw [mark_text]
        simp only [Result.andThen]
        rw [Oper.upon_value]
        go_wp2_with fail
        go_roundw
        case rel => exact ⟨k + 1, _, rfl, by go_num, by omega, HZ.out, HE.out, HB.out.alloc hBs _⟩
        case measure => simp [intOf]; omega
      · have d39 : (sb s k == 39) = false := by simpa using h39
        by_cases h92 : sb s k = 92
        · have HE := hide (escB_mark s t k hkk Ht.out (Or.inr h92))
          have HZ : Hid ((t ++ ⟨#[92]⟩ ++ s.extract k (k + 1)).size ≤ 2 * (k + 1)) := by show _ ≤ _; rw [ByteArray.size_append, ByteArray.size_append, hz, z92]; omega
          rw [h92] at hg d39
          clear h92 h39
          go_wp2_with fail
          rw [mark_text]
          simp only [Result.andThen]
          rw [Oper.upon_value]
          go_wp2_with fail
          go_roundw
          case rel => exact ⟨k + 1, _, rfl, by go_num, by omega, HZ.out, HE.out, HB.out.alloc hBs _⟩
          case measure => simp [intOf]; omega
        · have HE := hide (escB_other s t k hkk Ht.out h39 h92)
          have HZ : Hid ((t ++ s.extract k (k + 1)).size ≤ 2 * (k + 1)) := by show _ ≤ _; rw [ByteArray.size_append, hz]; omega
          have d92 : (sb s k == 92) = false := by simpa using h92
          clear h92 h39
          go_wp2_with fail
          go_roundw
          case rel => exact ⟨k + 1, _, rfl, by go_num, by omega, HZ.out, HE.out, HB.out⟩
          case measure => simp [intOf]; omega
    · have hki : ¬ (k : Int) < (s.size : Int) := by omega
      have HE : Hid (t = escB s) := by
        show _ = _
        rw [Ht.out, List.take_of_length_le (by rw [list_size]; omega)]; rfl
      go_wp2_with fail
      go_returns
      exact ⟨by rw [HE.out]; rfl, HB.out⟩
end Go.Proofs.YtaghhmnigjapoaaDoor
