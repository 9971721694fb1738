/-
  The reference's quoted and bare. No condition but on lengths.
-/
import Derived.Test.YtaghhmnigjapoaaDoorDsnE
namespace Go.Proofs.YtaghhmnigjapoaaDoor
open Go.RowKit
set_option linter.unusedVariables false
set_option linter.unusedSimpArgs false

/-- What the reference answers of a value: it, and where it ends; n: the text's size. -/
def rvalV (n : Nat) (o : Option (List UInt8 × List UInt8)) : Value :=
  match o with
  | none => .tuple #[.string ⟨#[]⟩, .int .i64 (-1)]
  | some (v, r) => .tuple #[.string (bs v), .int .i64 ((n - r.length : Nat) : Int)]
theorem one_byte (s : ByteArray) (k : Nat) (h : k < s.size) : s.extract k (k + 1) = bs [s.data.toList.getD k 0] := by
  rw [ext_mid, drop_cons s k h, Nat.add_sub_cancel_left]; rfl
theorem app_list (a b : ByteArray) : (a ++ b).data.toList = a.data.toList ++ b.data.toList := by
  rw [ByteArray.data_append, Array.toList_append]
theorem drop_len (s : ByteArray) (k : Nat) : (s.data.toList.drop k).length = s.size - k := by rw [List.length_drop, list_size]

theorem rquoted_any (s : ByteArray) (k0 : Nat) (w : World) (hs : s.size ≤ 100000) (hk0 : k0 ≤ s.size) :
    Calls Tryd.prog 26 #[.string s, .int .i64 k0] w fun e w' => e = .returned (rvalV s.size (qL (s.data.toList.drop k0))) ∧ Below w.heap.size w w' := by
  obtain ⟨o0, ho0⟩ : ∃ o, qL (s.data.toList.drop k0) = o := ⟨_, rfl⟩
  rw [ho0]
  have H0 := hide ho0
  clear ho0
  go_enter Tryd.func26, Tryd.ntmps26
  go_wp2_with fail
  go_loopw [1, 6] (fun i v wr => ∃ (k : Nat) (t : ByteArray), i = .int .i64 k ∧ v = .string t ∧ k ≤ s.size ∧ t.size ≤ k ∧ Hid (ahead t.data.toList (qL (s.data.toList.drop k)) = o0) ∧ Below w.heap.size w wr) (fun i _ _ => (s.size - (intOf i).toNat))
  case atStart => exact ⟨k0, ⟨#[]⟩, rfl, rfl, hk0, Nat.zero_le _, by show _ = _; rw [show ((⟨#[]⟩ : ByteArray)).data.toList = [] from rfl, ahead_nil]; exact H0.out, Below.refl _ _⟩
  case round =>
    obtain ⟨k, t, rfl, rfl, hk, htk, Ho, hB⟩ := hrel
    have HB := hide hB
    clear hB
    by_cases hkk : k < s.size
    · have hki : (k : Int) < (s.size : Int) := by omega
      have hg := sb_get s k hkk
      by_cases h39 : sb s k = 39
      · have HE : Hid (o0 = some (t.data.toList, s.data.toList.drop (k + 1))) := by
          show _ = _
          rw [← Ho.out, q_quote s k hkk h39]
          simp [ahead]
        have HZ : Hid (((s.size - (s.data.toList.drop (k + 1)).length : Nat) : Int) = (k : Int) + 1) := by
          show _ = _
          rw [drop_len]; omega
        rw [h39] at hg
        go_wp2_with fail
        go_returns
        rw [HE.out]
        refine ⟨?_, HB.out⟩
        show _ = Ending.returned (.tuple #[.string (bs t.data.toList), .int .i64 ((s.size - (s.data.toList.drop (k + 1)).length : Nat) : Int)])
        rw [HZ.out, bs_of]; rfl
      · by_cases h92 : sb s k = 92
        · rw [h92] at hg
          by_cases hk1 : k + 1 < s.size
          · have hk1i : (k : Int) + 1 < (s.size : Int) := by omega
            have hk2i : (k : Int) + 2 ≤ (s.size : Int) := by omega
            have hl : (t ++ s.extract (k + 1) (k + 2)).data.toList = t.data.toList ++ [s.data.toList.getD (k + 1) 0] := by
              rw [app_list, one_byte s (k + 1) hk1, bs_list]
            have HE : Hid (ahead (t ++ s.extract (k + 1) (k + 2)).data.toList (qL (s.data.toList.drop (k + 2))) = o0) := by
              show _ = _
              rw [hl, ← Ho.out, q_esc s k hk1 h92, ahead_cons]
            have hz : (s.extract (k + 1) (k + 2)).size = 1 := by rw [ByteArray.size_extract]; omega
            have HZ : Hid ((t ++ s.extract (k + 1) (k + 2)).size ≤ k + 2) := by show _ ≤ _; rw [ByteArray.size_append, hz]; omega
            clear hl
            go_wp2_with fail
            go_roundw
            case rel => exact ⟨k + 2, _, by go_num, rfl, by omega, HZ.out, HE.out, HB.out⟩
            case measure => simp [intOf]; omega
          · have HE : Hid (o0 = none) := by
              show _ = _
              rw [← Ho.out, q_esc_end s k (by omega) h92]; rfl
            have hk1i : ¬ (k : Int) + 1 < (s.size : Int) := by omega
            go_wp2_with fail
            go_returns
            rw [HE.out]
            exact ⟨rfl, HB.out⟩
        · have hl : (t ++ s.extract k (k + 1)).data.toList = t.data.toList ++ [s.data.toList.getD k 0] := by
            rw [app_list, one_byte s k hkk, bs_list]
          have HE : Hid (ahead (t ++ s.extract k (k + 1)).data.toList (qL (s.data.toList.drop (k + 1))) = o0) := by
            show _ = _
            rw [hl, ← Ho.out, q_other s k hkk h39 h92, ahead_cons]
          have hz : (s.extract k (k + 1)).size = 1 := by rw [ByteArray.size_extract]; omega
          have HZ : Hid ((t ++ s.extract k (k + 1)).size ≤ k + 1) := by show _ ≤ _; rw [ByteArray.size_append, hz]; omega
          have d39 : (sb s k == 39) = false := by simpa using h39
          have d92 : (sb s k == 92) = false := by simpa using h92
          have hk1i : (k : Int) + 1 ≤ (s.size : Int) := by omega
          clear h39 h92 hl
          go_wp2_with fail
          go_roundw
          case rel => exact ⟨k + 1, _, by go_num, rfl, by omega, HZ.out, HE.out, HB.out⟩
          case measure => simp [intOf]; omega
    · have HE : Hid (o0 = none) := by
        show _ = _
        rw [← Ho.out, q_end s k (by omega)]; rfl
      have hki : ¬ (k : Int) < (s.size : Int) := by omega
      go_wp2_with fail
      go_returns
      rw [HE.out]
      exact ⟨rfl, HB.out⟩

theorem b_end (s : ByteArray) (k : Nat) (h : s.size ≤ k) : bL (s.data.toList.drop k) = some ([], []) := by
  rw [drop_none s k h]; rfl
theorem b_blank (s : ByteArray) (k : Nat) (h : k < s.size) (hc : sb s k = 32) : bL (s.data.toList.drop k) = some ([], s.data.toList.drop k) := by
  rw [drop_cons s k h, (sb_is s k 32).1 hc, bL, if_pos rfl]
theorem b_bad (s : ByteArray) (k : Nat) (h : k < s.size) (hc : sb s k = 39 ∨ sb s k = 92) : bL (s.data.toList.drop k) = none := by
  rw [drop_cons s k h, bL]
  rcases hc with hc | hc
  · rw [(sb_is s k 39).1 hc]; rfl
  · rw [(sb_is s k 92).1 hc]; rfl
theorem b_other (s : ByteArray) (k : Nat) (h : k < s.size) (h0 : sb s k ≠ 32) (h1 : sb s k ≠ 39) (h2 : sb s k ≠ 92) : bL (s.data.toList.drop k) = (bL (s.data.toList.drop (k + 1))).map fun p => (s.data.toList.getD k 0 :: p.1, p.2) := by
  rw [drop_cons s k h, bL, if_neg (fun e => h0 ((sb_is s k 32).2 e)), if_neg (fun e => e.elim (fun e => h1 ((sb_is s k 39).2 e)) (fun e => h2 ((sb_is s k 92).2 e)))]
theorem mid_snoc (s : ByteArray) (a k : Nat) (ha : a ≤ k) (h : k < s.size) : (s.extract a (k + 1)).data.toList = (s.extract a k).data.toList ++ [s.data.toList.getD k 0] := by
  rw [ext_mid, ext_mid, bs_list, bs_list, show k + 1 - a = (k - a) + 1 by omega, List.take_add_one, List.getElem?_drop, show a + (k - a) = k by omega, List.getD_eq_getElem?_getD, List.getElem?_eq_getElem (by rw [list_size]; exact h)]
  rfl

theorem rbare_any (s : ByteArray) (k0 : Nat) (w : World) (hs : s.size ≤ 100000) (hk0 : k0 ≤ s.size) :
    Calls Tryd.prog 27 #[.string s, .int .i64 k0] w fun e w' => e = .returned (rvalV s.size (bL (s.data.toList.drop k0))) ∧ Below w.heap.size w w' := by
  obtain ⟨o0, ho0⟩ : ∃ o, bL (s.data.toList.drop k0) = o := ⟨_, rfl⟩
  rw [ho0]
  have H0 := hide ho0
  clear ho0
  go_enter Tryd.func27, Tryd.ntmps27
  go_wp2_with fail
  go_loopw [1] (fun i wr => ∃ (k : Nat), i = .int .i64 k ∧ k0 ≤ k ∧ k ≤ s.size ∧ Hid (ahead (s.extract k0 k).data.toList (bL (s.data.toList.drop k)) = o0) ∧ Below w.heap.size w wr) (fun i _ => (s.size - (intOf i).toNat))
  case atStart => exact ⟨k0, rfl, Nat.le_refl _, hk0, by show _ = _; rw [ext_mid, bs_list, Nat.sub_self, List.take_zero, ahead_nil]; exact H0.out, Below.refl _ _⟩
  case round =>
    obtain ⟨k, rfl, hk0k, hk, Ho, hB⟩ := hrel
    have HB := hide hB
    clear hB
    have hk0i : (k0 : Int) ≤ (k : Int) := by omega
    have hki2 : (k : Int) ≤ (s.size : Int) := by omega
    by_cases hkk : k < s.size
    · have hki : (k : Int) < (s.size : Int) := by omega
      have hg := sb_get s k hkk
      by_cases h32 : sb s k = 32
      · have HE : Hid (o0 = some ((s.extract k0 k).data.toList, s.data.toList.drop k)) := by
          show _ = _
          rw [← Ho.out, b_blank s k hkk h32]
          simp [ahead]
        have HZ : Hid (((s.size - (s.data.toList.drop k).length : Nat) : Int) = (k : Int)) := by
          show _ = _
          rw [drop_len]; omega
        rw [h32] at hg
        go_wp2_with fail
        go_returns
        rw [HE.out]
        refine ⟨?_, HB.out⟩
        show _ = Ending.returned (.tuple #[.string (bs (s.extract k0 k).data.toList), .int .i64 ((s.size - (s.data.toList.drop k).length : Nat) : Int)])
        rw [HZ.out, bs_of]; rfl
      · have d32 : (sb s k == 32) = false := by simpa using h32
        by_cases h39 : sb s k = 39
        · have HE : Hid (o0 = none) := by
            show _ = _
            rw [← Ho.out, b_bad s k hkk (Or.inl h39)]; rfl
          rw [h39] at hg d32
          clear h32
          go_wp2_with fail
          go_returns
          rw [HE.out]
          exact ⟨rfl, HB.out⟩
        · by_cases h92 : sb s k = 92
          · have HE : Hid (o0 = none) := by
              show _ = _
              rw [← Ho.out, b_bad s k hkk (Or.inr h92)]; rfl
            rw [h92] at hg d32
            clear h32 h39
            go_wp2_with fail
            go_returns
            rw [HE.out]
            exact ⟨rfl, HB.out⟩
          · have HE : Hid (ahead (s.extract k0 (k + 1)).data.toList (bL (s.data.toList.drop (k + 1))) = o0) := by
              show _ = _
              rw [mid_snoc s k0 k hk0k hkk, ← Ho.out, b_other s k hkk h32 h39 h92, ahead_cons]
            have d39 : (sb s k == 39) = false := by simpa using h39
            have d92 : (sb s k == 92) = false := by simpa using h92
            clear h32 h39 h92
            go_wp2_with fail
            go_roundw
            case rel => exact ⟨k + 1, by go_num, by omega, by omega, HE.out, HB.out⟩
            case measure => simp [intOf]; omega
    · have HE : Hid (o0 = some ((s.extract k0 k).data.toList, [])) := by
        show _ = _
        rw [← Ho.out, b_end s k (by omega)]; simp [ahead]
      have HZ : Hid ((s.size : Int) = (k : Int)) := by show _ = _; omega
      have hki : ¬ (k : Int) < (s.size : Int) := by omega
      go_wp2_with fail
      go_returns
      rw [HE.out]
      refine ⟨?_, HB.out⟩
      show _ = Ending.returned (.tuple #[.string (bs (s.extract k0 k).data.toList), .int .i64 ((s.size : Nat) : Int)])
      rw [HZ.out, bs_of]; rfl
end Go.Proofs.YtaghhmnigjapoaaDoor
