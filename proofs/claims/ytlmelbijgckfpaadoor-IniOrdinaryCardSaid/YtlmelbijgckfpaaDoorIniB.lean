/-
  Lines; where a number is; whether a list has a text. No condition but on lengths.
-/
import Derived.Test.YtlmelbijgckfpaaDoorIniA
namespace Go.Proofs.YtlmelbijgckfpaaDoor
open Go.RowKit
set_option linter.unusedVariables false
set_option linter.unusedSimpArgs false
set_option maxRecDepth 100000

theorem infoStr : (Tryd.prog.info? 9).map (fun i => (i.zero, i.size, i.bytes)) = some (some (.string ⟨#[]⟩), 1, 16) := by kernel_rfl
def texV (acc : List ByteArray) : List Value := acc.map Value.string
theorem texV_snoc (acc : List ByteArray) (t : ByteArray) : texV (acc ++ [t]) = texV acc ++ [.string t] := by unfold texV; rw [List.map_append]; rfl
theorem texAt {w : World} {base : Nat} {v : Value} {ps : List ByteArray} (h : w.ownsRow base 9 1 v ps.length (texV ps)) : TextsAt w v ps := TextsAt.of_own h
theorem l_cut (s : ByteArray) (k : Nat) (pre : List UInt8) (h : k < s.size) (hc : sb s k = 10) : linesM pre (s.data.toList.drop k) = pre :: linesM [] (s.data.toList.drop (k + 1)) := by
  rw [drop_cons s k h, (sb_is s k 10).1 hc, linesM_cut]
theorem l_step (s : ByteArray) (k : Nat) (pre : List UInt8) (h : k < s.size) (hc : sb s k ≠ 10) : linesM pre (s.data.toList.drop k) = linesM (pre ++ [s.data.toList.getD k 0]) (s.data.toList.drop (k + 1)) := by
  rw [drop_cons s k h]
  exact linesM_step _ _ _ (fun e => hc ((sb_is s k 10).2 e))
theorem bs_cons (p : ByteArray) (l : List (List UInt8)) (acc : List ByteArray) : acc ++ (p.data.toList :: l).map bs = (acc ++ [p]) ++ l.map bs := by
  rw [List.map_cons, bs_of, List.append_assoc]; rfl

set_option maxHeartbeats 1000000 in
theorem rlines_any (s : ByteArray) (w : World) (hs : s.size ≤ 1000000) :
    Calls Tryd.prog 19 #[.string s] w fun e w' => ∃ v, e = .returned v ∧ w'.ownsRow w.heap.size 9 1 v (linesB s).length (texV (linesB s)) ∧ Below w.heap.size w w' := by
  obtain ⟨i0, hi, hz0, hz1, hz2⟩ := info_parts infoStr
  obtain ⟨T, hT⟩ : ∃ T, linesB s = T := ⟨_, rfl⟩
  rw [hT]
  have HT := hide hT
  clear hT
  go_enter Tryd.func19, Tryd.ntmps19
  go_wp2_with fail
  go_loopw [3, 4, 5] (fun v fr i wr => ∃ (k f : Nat) (acc : List ByteArray), i = .int .i64 k ∧ fr = .int .i64 f ∧ k ≤ s.size ∧ f ≤ k ∧ acc.length ≤ k ∧ Hid (acc ++ (linesM (s.extract f k).data.toList (s.data.toList.drop k)).map bs = T) ∧ wr.ownsRow w.heap.size 9 1 v acc.length (texV acc) ∧ Below w.heap.size w wr) (fun _ _ i _ => (s.size - (intOf i).toNat))
  case atStart => exact ⟨0, 0, [], rfl, rfl, Nat.zero_le _, Nat.le_refl _, Nat.le_refl _, by show _ = _; rw [ext_mid, Nat.sub_self, bs_list, List.drop_zero]; show (linesM [] s.data.toList).map bs = T; rw [linesM_nil]; exact HT.out, World.ownsRow_nil _ _ _ _, Below.refl _ _⟩
  case round =>
    obtain ⟨k, f, acc, rfl, rfl, hk, hf, hacc, He, hown, hB⟩ := hrel
    have HOwn := hide hown
    have HB := hide hB
    have hBs := hB.size
    obtain ⟨va, vc, rfl⟩ := own_slice hown
    clear hown hB
    have hfi : (f : Int) ≤ (k : Int) := by omega
    have hki2 : (k : Int) ≤ (s.size : Int) := by omega
    by_cases hkk : k < s.size
    · have hki : (k : Int) < (s.size : Int) := by omega
      have hg := sb_get s k hkk
      by_cases h10 : sb s k = 10
      · have HE : Hid ((acc ++ [s.extract f k]) ++ (linesM [] (s.data.toList.drop (k + 1))).map bs = T) := by
          show _ = _
          rw [← bs_cons, ← He.out, l_cut s k _ hkk h10]
        rw [h10] at hg
        clear h10
        obtain ⟨t, ht⟩ : ∃ t, s.extract f k = t := ⟨_, rfl⟩
        rw [ht] at HE
        have Ht := hide ht
        clear ht
        go_wp2_with (at_builtin; rw [Ht.out]; refine wpList_append_one wr rfl _ _ 48 rfl w.heap.size 9 i0 (.string ⟨#[]⟩) 1 16 Tryd.underlying48 hi hz0 hz1 hz2 rfl (by decide) _ acc.length _ [.string t] HOwn.out rfl rfl (by simp [Value.oneCell']) rfl (by simp [maxLen]; omega) (by omega) hBs ?_; intro v1 w3 hown3 hb3 _)
        have HOwn3 := hide hown3
        have HB3 := hide (HB.out.trans hb3)
        clear hown3 hb3
        go_wp2_with fail
        go_roundw
        case rel => exact ⟨k + 1, k + 1, acc ++ [t], by go_num, by go_num, by omega, by omega, by simp; omega, by show _ = _; rw [ext_mid, Nat.sub_self, bs_list]; exact HE.out, by rw [List.length_append, texV_snoc]; exact HOwn3.out, HB3.out⟩
        case measure => simp [intOf]; omega
      · have HE : Hid (acc ++ (linesM (s.extract f (k + 1)).data.toList (s.data.toList.drop (k + 1))).map bs = T) := by
          show _ = _
          rw [mid_snoc s f k hf hkk, ← He.out, l_step s k _ hkk h10]
        have d10 : (sb s k == 10) = false := by simpa using h10
        clear h10
        go_wp2_with fail
        go_roundw
        case rel => exact ⟨k + 1, f, acc, by go_num, rfl, by omega, by omega, by omega, HE.out, HOwn.out, HB.out⟩
        case measure => simp [intOf]; omega
    · obtain rfl : k = s.size := by omega
      have hki : ¬ (s.size : Int) < (s.size : Int) := by omega
      have HE : Hid (acc ++ [s.extract f s.size] = T) := by
        show _ = _
        rw [← He.out, drop_none s s.size (Nat.le_refl _), linesM_end, bs_cons]; exact (List.append_nil _).symm
      obtain ⟨t, ht⟩ : ∃ t, s.extract f s.size = t := ⟨_, rfl⟩
      rw [ht] at HE
      have Ht := hide ht
      clear ht
      go_wp2_with (at_builtin; rw [Ht.out]; refine wpList_append_one wr rfl _ _ 48 rfl w.heap.size 9 i0 (.string ⟨#[]⟩) 1 16 Tryd.underlying48 hi hz0 hz1 hz2 rfl (by decide) _ acc.length _ [.string t] HOwn.out rfl rfl (by simp [Value.oneCell']) rfl (by simp [maxLen]; omega) (by omega) hBs ?_; intro v1 w3 hown3 hb3 _)
      have HOwn3 := hide hown3
      have HB3 := hide (HB.out.trans hb3)
      clear hown3 hb3
      go_wp2_with fail
      go_returns
      rw [← HE.out]
      exact ⟨_, rfl, by rw [List.length_append, texV_snoc]; exact HOwn3.out, HB3.out⟩

theorem has_any (v : Value) (ps : List ByteArray) (x : ByteArray) (w : World) (hl : ps.length ≤ 1000000) (hv : TextsAt w v ps) :
    Calls Tryd.prog 37 #[v, .string x] w fun e w' => e = .returned (.bool (isIn x ps)) ∧ w = w' := by
  obtain ⟨a, cap, rfl, _, hv⟩ := hv
  have HV := hide hv
  clear hv
  go_enter Tryd.func37, Tryd.ntmps37
  go_wp2_with fail
  go_loop [5] (fun i => ∃ k : Nat, i = .int .i64 k ∧ k ≤ ps.length ∧ Hid (∀ j, j < k → tj ps j ≠ x)) (fun i => (ps.length - (intOf i).toNat))
  case atStart => exact ⟨0, rfl, Nat.zero_le _, (by intro j hj; omega)⟩
  case round =>
    obtain ⟨k, rfl, hk, Hn⟩ := hrel
    by_cases hkk : k < ps.length
    · have hki : (k : Int) < (ps.length : Int) := by omega
      have hk0 : (0 : Int) ≤ (k : Int) := by omega
      rcases HV.out with h0 | ⟨b, off, rfl, hb, hc⟩
      · subst h0; simp at hkk
      have c0 := hc k hkk
      obtain ⟨y, hy⟩ : ∃ y, tj ps k = y := ⟨_, rfl⟩
      rw [hy] at c0
      have Hy := hide hy
      clear hc hy
      rcases eq_tests y x with ⟨h1, h2⟩ | ⟨h1, h2⟩
      · have HE : Hid (isIn x ps = true) := by
          show _ = _
          show isIn x ps = true
          rw [isIn_mem, ← h1, ← Hy.out]
          unfold tj
          rw [List.getD_eq_getElem?_getD, List.getElem?_eq_getElem hkk]
          exact List.getElem_mem hkk
        clear h1
        go_wp2_with fail
        go_returns
        exact ⟨by rw [HE.out]; rfl, rfl⟩
      · have Hn2 : Hid (∀ j, j < k + 1 → tj ps j ≠ x) := by
          intro j hj
          rcases Nat.lt_or_eq_of_le (Nat.lt_succ_iff.1 hj) with h | rfl
          · exact Hn.out j h
          · rw [Hy.out]; exact h1
        clear h1
        go_wp2_with fail
        go_round
        case rel => exact ⟨k + 1, by go_num, by omega, Hn2.out⟩
        case measure => simp [intOf]; omega
    · have hki : ¬ (k : Int) < (ps.length : Int) := by omega
      have HE : Hid (isIn x ps = false) := by
        show _ = _
        show isIn x ps = false
        rw [Bool.eq_false_iff]
        intro h
        rw [isIn_mem] at h
        obtain ⟨j, hj, rfl⟩ := List.mem_iff_getElem.1 h
        refine Hn.out j (by omega) ?_
        unfold tj
        rw [List.getD_eq_getElem?_getD, List.getElem?_eq_getElem hj]; rfl
      go_wp2_with fail
      go_returns
      exact ⟨by rw [HE.out]; rfl, rfl⟩

/-- Where a number is: a pointer, or none. -/
def atV (T : Nat) (name : ByteArray) : Value := match nameIx name with | none => .pointer none | some i => .pointer (some ⟨T, i, none⟩)
theorem number_any (T : Nat) (name : ByteArray) (w : World) :
    Calls Tryd.prog 28 #[.pointer (some ⟨T, 0, none⟩), .string name] w fun e w' => e = .returned (atV T name) ∧ w = w' := by
  by_cases h0 : name = nServers
  · subst h0
    go_enter Tryd.func28, Tryd.ntmps28
    unfold nServers
    go_wp2
    all_goals go_returns
    all_goals exact ⟨rfl, rfl⟩
  by_cases h1 : name = nCache
  · subst h1
    go_enter Tryd.func28, Tryd.ntmps28
    unfold nCache
    go_wp2
    all_goals go_returns
    all_goals exact ⟨rfl, rfl⟩
  by_cases h2 : name = nTable
  · subst h2
    go_enter Tryd.func28, Tryd.ntmps28
    unfold nTable
    go_wp2
    all_goals go_returns
    all_goals exact ⟨rfl, rfl⟩
  by_cases h3 : name = nMessage
  · subst h3
    go_enter Tryd.func28, Tryd.ntmps28
    unfold nMessage
    go_wp2
    all_goals go_returns
    all_goals exact ⟨rfl, rfl⟩
  by_cases h4 : name = nBuffer
  · subst h4
    go_enter Tryd.func28, Tryd.ntmps28
    unfold nBuffer
    go_wp2
    all_goals go_returns
    all_goals exact ⟨rfl, rfl⟩
  by_cases h5 : name = nQueue
  · subst h5
    go_enter Tryd.func28, Tryd.ntmps28
    unfold nQueue
    go_wp2
    all_goals go_returns
    all_goals exact ⟨rfl, rfl⟩
  have HV : Hid (atV T name = .pointer none) := by
    have : nameIx name = none := by unfold nameIx; rw [if_neg h0, if_neg h1, if_neg h2, if_neg h3, if_neg h4, if_neg h5]
    show _ = _
    unfold atV; rw [this]
  have e0 := str_ne (l := [115, 101, 114, 118, 101, 114, 115]) h0
  have e1 := str_ne (l := [99, 97, 99, 104, 101]) h1
  have e2 := str_ne (l := [116, 97, 98, 108, 101]) h2
  have e3 := str_ne (l := [109, 101, 115, 115, 97, 103, 101]) h3
  have e4 := str_ne (l := [98, 117, 102, 102, 101, 114]) h4
  have e5 := str_ne (l := [113, 117, 101, 117, 101]) h5
  clear h0 h1 h2 h3 h4 h5
  go_enter Tryd.func28, Tryd.ntmps28
  go_wp2
  all_goals go_returns
  all_goals exact ⟨by rw [HV.out]; rfl, rfl⟩
theorem rat_any (T : Nat) (name : ByteArray) (w : World) :
    Calls Tryd.prog 32 #[.pointer (some ⟨T, 0, none⟩), .string name] w fun e w' => e = .returned (atV T name) ∧ w = w' := by
  by_cases h0 : name = nServers
  · subst h0
    go_enter Tryd.func32, Tryd.ntmps32
    unfold nServers
    go_wp2
    all_goals go_returns
    all_goals exact ⟨rfl, rfl⟩
  by_cases h1 : name = nCache
  · subst h1
    go_enter Tryd.func32, Tryd.ntmps32
    unfold nCache
    go_wp2
    all_goals go_returns
    all_goals exact ⟨rfl, rfl⟩
  by_cases h2 : name = nTable
  · subst h2
    go_enter Tryd.func32, Tryd.ntmps32
    unfold nTable
    go_wp2
    all_goals go_returns
    all_goals exact ⟨rfl, rfl⟩
  by_cases h3 : name = nMessage
  · subst h3
    go_enter Tryd.func32, Tryd.ntmps32
    unfold nMessage
    go_wp2
    all_goals go_returns
    all_goals exact ⟨rfl, rfl⟩
  by_cases h4 : name = nBuffer
  · subst h4
    go_enter Tryd.func32, Tryd.ntmps32
    unfold nBuffer
    go_wp2
    all_goals go_returns
    all_goals exact ⟨rfl, rfl⟩
  by_cases h5 : name = nQueue
  · subst h5
    go_enter Tryd.func32, Tryd.ntmps32
    unfold nQueue
    go_wp2
    all_goals go_returns
    all_goals exact ⟨rfl, rfl⟩
  have HV : Hid (atV T name = .pointer none) := by
    have : nameIx name = none := by unfold nameIx; rw [if_neg h0, if_neg h1, if_neg h2, if_neg h3, if_neg h4, if_neg h5]
    show _ = _
    unfold atV; rw [this]
  have e0 := str_ne (l := [115, 101, 114, 118, 101, 114, 115]) h0
  have e1 := str_ne (l := [99, 97, 99, 104, 101]) h1
  have e2 := str_ne (l := [116, 97, 98, 108, 101]) h2
  have e3 := str_ne (l := [109, 101, 115, 115, 97, 103, 101]) h3
  have e4 := str_ne (l := [98, 117, 102, 102, 101, 114]) h4
  have e5 := str_ne (l := [113, 117, 101, 117, 101]) h5
  clear h0 h1 h2 h3 h4 h5
  go_enter Tryd.func32, Tryd.ntmps32
  go_wp2
  all_goals go_returns
  all_goals exact ⟨by rw [HV.out]; rfl, rfl⟩
end Go.Proofs.YtlmelbijgckfpaaDoor
