/-
  What the reference's Texts answers. No condition but on lengths.
-/
import Derived.Test.YtmmfipkdkofdkaaDoorSplE
namespace Go.Proofs.YtmmfipkdkofdkaaDoor
open Go.RowKit
set_option linter.unusedVariables false
set_option linter.unusedSimpArgs false

theorem m_semi (s : ByteArray) (k : Nat) (pre : List UInt8) (h : k < s.size) (hc : sb s k = 59) : fieldsM 0 pre (s.data.toList.drop k) = pre :: fieldsM 0 [] (s.data.toList.drop (k + 1)) := by
  rw [drop_cons s k h, (sb_is s k 59).1 hc, fieldsM_cut]
theorem m_open (s : ByteArray) (k : Nat) (pre : List UInt8) (c : UInt8) (h : k < s.size) (hc : sb s k = (c.toNat : Int)) (h2 : c = 39 ∨ c = 34) : fieldsM 0 pre (s.data.toList.drop k) = fieldsM c (pre ++ [s.data.toList.getD k 0]) (s.data.toList.drop (k + 1)) := by
  have h59 : c ≠ 59 := by rcases h2 with rfl | rfl <;> decide
  rw [drop_cons s k h, (sb_is s k c).1 hc]
  exact fieldsM_step 0 c c pre _ (by rw [cutM, if_pos rfl, if_neg h59, if_pos h2])
theorem m_plain (s : ByteArray) (k : Nat) (pre : List UInt8) (h : k < s.size) (h1 : sb s k ≠ 59) (h2 : sb s k ≠ 39) (h3 : sb s k ≠ 34) : fieldsM 0 pre (s.data.toList.drop k) = fieldsM 0 (pre ++ [s.data.toList.getD k 0]) (s.data.toList.drop (k + 1)) := by
  have h4 := cut_plain s k h h1 h2 h3
  rw [drop_cons s k h] at h4 ⊢
  exact fieldsM_step 0 0 _ pre _ h4
theorem m_close (s : ByteArray) (k : Nat) (pre : List UInt8) (c : UInt8) (h : k < s.size) (h0 : c ≠ 0) (hc : sb s k = (c.toNat : Int)) : fieldsM c pre (s.data.toList.drop k) = fieldsM 0 (pre ++ [s.data.toList.getD k 0]) (s.data.toList.drop (k + 1)) := by
  rw [drop_cons s k h, (sb_is s k c).1 hc]
  exact fieldsM_step c 0 c pre _ (by rw [cutM, if_neg h0, if_pos rfl])
theorem m_inside (s : ByteArray) (k : Nat) (pre : List UInt8) (c : UInt8) (h : k < s.size) (h0 : c ≠ 0) (hc : sb s k ≠ (c.toNat : Int)) : fieldsM c pre (s.data.toList.drop k) = fieldsM c (pre ++ [s.data.toList.getD k 0]) (s.data.toList.drop (k + 1)) := by
  rw [drop_cons s k h]
  exact fieldsM_step c c _ pre _ (by rw [cutM, if_neg h0, if_neg (fun e => hc ((sb_is s k c).2 e))])
def texV (acc : List ByteArray) : List Value := acc.map Value.string
theorem texV_snoc (acc : List ByteArray) (t : ByteArray) : texV (acc ++ [t]) = texV acc ++ [.string t] := by unfold texV; rw [List.map_append]; rfl
theorem keep_one (p : ByteArray) (l : List (List UInt8)) (acc : List ByteArray) : acc ++ keepT (p.data.toList :: l) = (if (trimS p).size = 0 then acc else acc ++ [trimS p]) ++ keepT l := by
  rw [keepT_cons, bs_of]
  split
  · rfl
  · rw [List.append_assoc]; rfl


set_option maxHeartbeats 2000000 in
theorem rtexts_any (s : ByteArray) (w : World) (hs : s.size ≤ 100000) :
    Calls Tryd.prog 11 #[.string s] w fun e w' => ∃ v, e = .returned v ∧ w'.ownsRow w.heap.size 9 1 v (textsP s).length ((textsP s).map Value.string) ∧ Below w.heap.size w w' := by
  obtain ⟨i0, hi, hz0, hz1, hz2⟩ := info_parts infoStr
  obtain ⟨T, hT⟩ : ∃ T, textsP s = T := ⟨_, rfl⟩
  rw [hT]
  have HT := hide hT
  clear hT
  go_enter Tryd.func11, Tryd.ntmps11
  go_wp2_with fail
  go_loopw [3, 4, 5, 6] (fun v mk fr i wr => ∃ (k : Nat) (m : UInt8) (f : Nat) (acc : List ByteArray),
    ((m = 0 ∨ m = 39 ∨ m = 34) ∧ mk = .int .u8 (m.toNat : Int) ∧ i = .int .i64 k ∧ fr = .int .i64 f ∧ k ≤ s.size ∧ f ≤ k ∧ acc.length ≤ k ∧ Hid (acc ++ keepT (fieldsM m (s.extract f k).data.toList (s.data.toList.drop k)) = T) ∧ wr.ownsRow w.heap.size 9 1 v acc.length (texV acc) ∧ Below w.heap.size w wr)
    ∨ (i = .int .i64 k ∧ s.size < k ∧ acc = T ∧ wr.ownsRow w.heap.size 9 1 v acc.length (texV acc) ∧ Below w.heap.size w wr)) (fun _ _ _ i _ => (s.size + 1 - (intOf i).toNat))
  case atStart => exact ⟨0, 0, 0, [], Or.inl ⟨Or.inl rfl, rfl, rfl, rfl, Nat.zero_le _, Nat.le_refl _, Nat.le_refl _, by show _ = _; rw [ext_mid, Nat.sub_self, bs_list, List.drop_zero]; show keepT (fieldsM 0 [] s.data.toList) = T; rw [fieldsM_nil]; exact HT.out, World.ownsRow_nil _ _ _ _, Below.refl _ _⟩⟩
  case round =>
    obtain ⟨k, m, f, acc, h⟩ := hrel
    rcases h with ⟨hm, rfl, rfl, rfl, hk, hf, hacc, He, hown, hB⟩ | ⟨rfl, hk, hE, hown, hB⟩
    · have HOwn := hide hown
      have HB := hide hB
      have hBs := hB.size
      obtain ⟨va, vc, rfl⟩ := own_slice hown
      clear hown hB
      have hfi : (f : Int) ≤ (k : Int) := by omega
      have hki2 : (k : Int) ≤ (s.size : Int) := by omega
      by_cases hkk : k < s.size
      · have hki : (k : Int) < (s.size : Int) := by omega
        have hne : ((k : Int) == (s.size : Int)) = false := by
          have : (k : Int) ≠ (s.size : Int) := by omega
          simpa using this
        have hne2 : (k == s.size) = false := by
          have : k ≠ s.size := by omega
          simpa using this
        have hg := sb_get s k hkk
        rcases hm with rfl | rfl | rfl
        · -- no quote is open
          by_cases h59 : sb s k = 59
          · have HE : Hid ((if (trimS (s.extract f k)).size = 0 then acc else acc ++ [trimS (s.extract f k)]) ++ keepT (fieldsM 0 [] (s.data.toList.drop (k + 1))) = T) := by
              show _ = _
              rw [← keep_one, ← He.out, m_semi s k _ hkk h59]
            rw [h59] at hg
            clear h59
            have hz : (s.extract f k).size ≤ 100000 := by rw [ByteArray.size_extract]; omega
            go_wp2_with fail
            refine (rtrim_any _ _ hz).mono ?_
            rintro e w1 ⟨rfl, rfl⟩
            obtain ⟨t, ht⟩ : ∃ t, trimS (s.extract f k) = t := ⟨_, rfl⟩
            rw [ht] at HE
            rw [ht]
            clear ht hz
            rcases empty_tests t with ⟨h0, rfl⟩ | ⟨h0, h1, h2⟩
            · have HE2 : Hid (acc ++ keepT (fieldsM 0 [] (s.data.toList.drop (k + 1))) = T) := by show _ = _; rw [← HE.out, if_pos h0]
              clear h0
              go_wp2_with fail
              go_roundw
              case rel => exact ⟨k + 1, 0, k + 1, acc, Or.inl ⟨Or.inl rfl, rfl, by go_num, by go_num, by omega, by omega, by omega, by show _ = _; rw [ext_mid, Nat.sub_self, bs_list]; exact HE2.out, HOwn.out, HB.out⟩⟩
              case measure => simp [intOf]; omega
            · have HE2 : Hid ((acc ++ [t]) ++ keepT (fieldsM 0 [] (s.data.toList.drop (k + 1))) = T) := by show _ = _; rw [← HE.out, if_neg (by omega)]
              clear h0
              go_wp2_with (at_builtin; refine wpList_append_one wr rfl _ _ 22 rfl w.heap.size 9 i0 (.string ⟨#[]⟩) 1 16 Tryd.underlying22 hi hz0 hz1 hz2 rfl (by decide) _ acc.length _ [.string t] HOwn.out rfl rfl (by simp [Value.oneCell']) rfl (by simp [maxLen]; omega) (by omega) hBs ?_; intro v1 w3 hown3 hb3 _)
              have HOwn3 := hide hown3
              have HB3 := hide (HB.out.trans hb3)
              clear hown3 hb3
              go_wp2_with fail
              go_roundw
              case rel => exact ⟨k + 1, 0, k + 1, acc ++ [t], Or.inl ⟨Or.inl rfl, rfl, by go_num, by go_num, by omega, by omega, by simp; omega, by show _ = _; rw [ext_mid, Nat.sub_self, bs_list]; exact HE2.out, (by rw [List.length_append, texV_snoc]; exact HOwn3.out), HB3.out⟩⟩
              case measure => simp [intOf]; omega
          · have d59 : (sb s k == 59) = false := by simpa using h59
            by_cases h39 : sb s k = 39
            · have HE : Hid (acc ++ keepT (fieldsM 39 (s.extract f (k + 1)).data.toList (s.data.toList.drop (k + 1))) = T) := by
                show _ = _
                rw [mid_snoc s f k hf hkk, ← He.out, m_open s k _ 39 hkk h39 (Or.inl rfl)]
              rw [h39] at hg d59
              clear h59 h39
              go_wp2_with fail
              go_roundw
              case rel => exact ⟨k + 1, 39, f, acc, Or.inl ⟨Or.inr (Or.inl rfl), rfl, by go_num, rfl, by omega, by omega, by omega, HE.out, HOwn.out, HB.out⟩⟩
              case measure => simp [intOf]; omega
            · have d39 : (sb s k == 39) = false := by simpa using h39
              by_cases h34 : sb s k = 34
              · have HE : Hid (acc ++ keepT (fieldsM 34 (s.extract f (k + 1)).data.toList (s.data.toList.drop (k + 1))) = T) := by
                  show _ = _
                  rw [mid_snoc s f k hf hkk, ← He.out, m_open s k _ 34 hkk h34 (Or.inr rfl)]
                rw [h34] at hg d59 d39
                clear h59 h39 h34
                go_wp2_with fail
                go_roundw
                case rel => exact ⟨k + 1, 34, f, acc, Or.inl ⟨Or.inr (Or.inr rfl), rfl, by go_num, rfl, by omega, by omega, by omega, HE.out, HOwn.out, HB.out⟩⟩
                case measure => simp [intOf]; omega
              · have HE : Hid (acc ++ keepT (fieldsM 0 (s.extract f (k + 1)).data.toList (s.data.toList.drop (k + 1))) = T) := by
                  show _ = _
                  rw [mid_snoc s f k hf hkk, ← He.out, m_plain s k _ hkk h59 h39 h34]
                have d34 : (sb s k == 34) = false := by simpa using h34
                by_cases h0 : sb s k = 0
                · rw [h0] at hg d59 d39 d34
                  clear h59 h39 h34 h0
                  go_wp2_with fail
                  go_roundw
                  case rel => exact ⟨k + 1, 0, f, acc, Or.inl ⟨Or.inl rfl, rfl, by go_num, rfl, by omega, by omega, by omega, HE.out, HOwn.out, HB.out⟩⟩
                  case measure => simp [intOf]; omega
                · have d0 : (sb s k == 0) = false := by simpa using h0
                  clear h59 h39 h34 h0
                  go_wp2_with fail
                  go_roundw
                  case rel => exact ⟨k + 1, 0, f, acc, Or.inl ⟨Or.inl rfl, rfl, by go_num, rfl, by omega, by omega, by omega, HE.out, HOwn.out, HB.out⟩⟩
                  case measure => simp [intOf]; omega
        · -- quote 39 is open
          by_cases hq : sb s k = 39
          · have HE : Hid (acc ++ keepT (fieldsM 0 (s.extract f (k + 1)).data.toList (s.data.toList.drop (k + 1))) = T) := by
              show _ = _
              rw [mid_snoc s f k hf hkk, ← He.out, m_close s k _ 39 hkk (by decide) hq]
            rw [hq] at hg
            clear hq
            go_wp2_with fail
            go_roundw
            case rel => exact ⟨k + 1, 0, f, acc, Or.inl ⟨Or.inl rfl, rfl, by go_num, rfl, by omega, by omega, by omega, HE.out, HOwn.out, HB.out⟩⟩
            case measure => simp [intOf]; omega
          · have HE : Hid (acc ++ keepT (fieldsM 39 (s.extract f (k + 1)).data.toList (s.data.toList.drop (k + 1))) = T) := by
              show _ = _
              rw [mid_snoc s f k hf hkk, ← He.out, m_inside s k _ 39 hkk (by decide) hq]
            have dq : (sb s k == 39) = false := by simpa using hq
            by_cases h59 : sb s k = 59
            · rw [h59] at hg dq
              clear hq h59
              go_wp2_with fail
              go_roundw
              case rel => exact ⟨k + 1, 39, f, acc, Or.inl ⟨Or.inr (Or.inl rfl), rfl, by go_num, rfl, by omega, by omega, by omega, HE.out, HOwn.out, HB.out⟩⟩
              case measure => simp [intOf]; omega
            · have d59 : (sb s k == 59) = false := by simpa using h59
              clear hq h59
              go_wp2_with fail
              go_roundw
              case rel => exact ⟨k + 1, 39, f, acc, Or.inl ⟨Or.inr (Or.inl rfl), rfl, by go_num, rfl, by omega, by omega, by omega, HE.out, HOwn.out, HB.out⟩⟩
              case measure => simp [intOf]; omega
        · -- quote 34 is open
          by_cases hq : sb s k = 34
          · have HE : Hid (acc ++ keepT (fieldsM 0 (s.extract f (k + 1)).data.toList (s.data.toList.drop (k + 1))) = T) := by
              show _ = _
              rw [mid_snoc s f k hf hkk, ← He.out, m_close s k _ 34 hkk (by decide) hq]
            rw [hq] at hg
            clear hq
            go_wp2_with fail
            go_roundw
            case rel => exact ⟨k + 1, 0, f, acc, Or.inl ⟨Or.inl rfl, rfl, by go_num, rfl, by omega, by omega, by omega, HE.out, HOwn.out, HB.out⟩⟩
            case measure => simp [intOf]; omega
          · have HE : Hid (acc ++ keepT (fieldsM 34 (s.extract f (k + 1)).data.toList (s.data.toList.drop (k + 1))) = T) := by
              show _ = _
              rw [mid_snoc s f k hf hkk, ← He.out, m_inside s k _ 34 hkk (by decide) hq]
            have dq : (sb s k == 34) = false := by simpa using hq
            by_cases h59 : sb s k = 59
            · rw [h59] at hg dq
              clear hq h59
              go_wp2_with fail
              go_roundw
              case rel => exact ⟨k + 1, 34, f, acc, Or.inl ⟨Or.inr (Or.inr rfl), rfl, by go_num, rfl, by omega, by omega, by omega, HE.out, HOwn.out, HB.out⟩⟩
              case measure => simp [intOf]; omega
            · have d59 : (sb s k == 59) = false := by simpa using h59
              clear hq h59
              go_wp2_with fail
              go_roundw
              case rel => exact ⟨k + 1, 34, f, acc, Or.inl ⟨Or.inr (Or.inr rfl), rfl, by go_num, rfl, by omega, by omega, by omega, HE.out, HOwn.out, HB.out⟩⟩
              case measure => simp [intOf]; omega
      · obtain rfl : k = s.size := by omega
        have HE : Hid ((if (trimS (s.extract f s.size)).size = 0 then acc else acc ++ [trimS (s.extract f s.size)]) = T) := by
          show _ = _
          rw [← He.out, drop_none s s.size (Nat.le_refl _), fieldsM_end, keep_one]
          exact (List.append_nil _).symm
        have hki3 : ((s.size : Int)) ≤ (s.size : Int) := Int.le_refl _
        have hz : (s.extract f s.size).size ≤ 100000 := by rw [ByteArray.size_extract]; omega
        go_wp2_with fail
        refine (rtrim_any _ _ hz).mono ?_
        rintro e w1 ⟨rfl, rfl⟩
        obtain ⟨t, ht⟩ : ∃ t, trimS (s.extract f s.size) = t := ⟨_, rfl⟩
        rw [ht] at HE
        rw [ht]
        clear ht hz
        rcases empty_tests t with ⟨h0, rfl⟩ | ⟨h0, h1, h2⟩
        · have HE2 : Hid (acc = T) := by show _ = _; rw [← HE.out, if_pos h0]
          clear h0
          go_wp2_with fail
          go_roundw
          case rel => exact ⟨s.size + 1, m, s.size + 1, acc, Or.inr ⟨by go_num, by omega, HE2.out, HOwn.out, HB.out⟩⟩
          case measure => simp [intOf]
        · have HE2 : Hid (acc ++ [t] = T) := by show _ = _; rw [← HE.out, if_neg (by omega)]
          clear h0
          go_wp2_with (at_builtin; refine wpList_append_one wr rfl _ _ 22 rfl w.heap.size 9 i0 (.string ⟨#[]⟩) 1 16 Tryd.underlying22 hi hz0 hz1 hz2 rfl (by decide) _ acc.length _ [.string t] HOwn.out rfl rfl (by simp [Value.oneCell']) rfl (by simp [maxLen]; omega) (by omega) hBs ?_; intro v1 w3 hown3 hb3 _)
          have HOwn3 := hide hown3
          have HB3 := hide (HB.out.trans hb3)
          clear hown3 hb3
          go_wp2_with fail
          go_roundw
          case rel => exact ⟨s.size + 1, m, s.size + 1, acc ++ [t], Or.inr ⟨by go_num, by omega, HE2.out, (by rw [List.length_append, texV_snoc]; exact HOwn3.out), HB3.out⟩⟩
          case measure => simp [intOf]
    · have HOwn := hide hown
      have HB := hide hB
      have HE := hide hE
      clear hown hB hE
      have hki : ¬ (k : Int) ≤ (s.size : Int) := by omega
      go_wp2_with fail
      go_returns
      rw [← HE.out]
      exact ⟨_, rfl, HOwn.out, HB.out⟩
end Go.Proofs.YtmmfipkdkofdkaaDoor
