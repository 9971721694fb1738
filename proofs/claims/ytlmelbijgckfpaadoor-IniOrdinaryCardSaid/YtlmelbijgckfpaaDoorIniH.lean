/-
  The program's line. No condition but on lengths.
-/
import Derived.Test.YtlmelbijgckfpaaDoorIniG
namespace Go.Proofs.YtlmelbijgckfpaaDoor
open Go.RowKit Go.Maps
set_option linter.unusedVariables false
set_option linter.unusedSimpArgs false
set_option maxRecDepth 100000

theorem RTxt.below {w w' : World} {T M base : Nat} {st : St} (h : RTxt w T M base st) (hb : Below w.heap.size w w') : RTxt w' T M base st := by
  obtain ⟨h6, hne, hset, v, hblk, hrow⟩ := h
  exact ⟨h6, hne, hset.same (hb.block M hset.lt), v, hblk.below hb hblk.lt, own_below hrow hb⟩
theorem cut_yes (name : ByteArray) (h : isParam name = true) : (⟨(Lib.trimPrefix name.data.toList nParam.data.toList).toArray⟩ : ByteArray) = name.extract 6 name.size ∧ Lib.hasPrefix name.data.toList nParam.data.toList = true ∧ 0 < (name.extract 6 name.size).size := by
  obtain ⟨h6, _⟩ := (isParam_iff name).1 h
  have hp : Lib.hasPrefix name.data.toList nParam.data.toList = true := by
    unfold isParam at h
    exact (Bool.and_eq_true _ _ ▸ h).1
  refine ⟨?_, hp, by rw [ByteArray.size_extract]; omega⟩
  unfold Lib.trimPrefix
  rw [if_pos hp]
  have e : nParam.data.toList.length = 6 := rfl
  rw [e]
  exact (ext_drop name 6).symm
theorem cut_no (name : ByteArray) (h : isParam name = false) : Lib.hasPrefix name.data.toList nParam.data.toList = false ∨ (Lib.hasPrefix name.data.toList nParam.data.toList = true ∧ (⟨(Lib.trimPrefix name.data.toList nParam.data.toList).toArray⟩ : ByteArray) = ⟨#[]⟩) := by
  cases hp : Lib.hasPrefix name.data.toList nParam.data.toList with
  | false => exact .inl rfl
  | true =>
    refine .inr ⟨rfl, ?_⟩
    unfold isParam at h
    rw [hp] at h
    have h6 : ¬ 6 < name.size := by simpa using h
    unfold Lib.trimPrefix
    rw [if_pos hp]
    have e : nParam.data.toList.length = 6 := rfl
    have e2 : name.data.toList.length = name.size := Array.length_toList
    rw [e, List.drop_eq_nil_of_le (by omega)]

set_option maxHeartbeats 4000000 in
theorem line_any (T M base : Nat) (st : St) (s : ByteArray) (w : World) (hT : T < base) (hM : M < base) (hb : base ≤ w.heap.size) (hs : s.size ≤ 1000000) (hps : st.c.ps.length ≤ 1000000) (hse : st.seen.length ≤ 1000000) (hr : RTxt w T M base st) :
    Calls Tryd.prog 18 #[.pointer (some ⟨T, 0, none⟩), .string s] w fun e w' => e = .returned (.int .i64 (lineP st s).1) ∧ RTxt w' T M base (lineP st s).2 ∧ Low T M base w w' := by
  have HR := hide hr
  clear hr
  obtain ⟨t, ht⟩ : ∃ t, trimS s = t := ⟨_, rfl⟩
  have Ht := hide ht
  cases hid : idleP s with
  | true =>
    have HE := hide (lineP_idle st s hid)
    have hor := idle_yes s hid
    rw [ht] at hor
    rw [HE.out]
    clear hid ht
    rcases hor with h0 | ⟨h0, h35⟩
    · obtain rfl := size_zero h0
      clear h0
      go_enter Tryd.func18, Tryd.ntmps18
      go_wp2_with fail
      refine (trim_any s _ (by omega)).mono ?_
      rintro e w1 ⟨rfl, hb1⟩
      rw [Ht.out]
      have HB1 := hide hb1
      clear hb1
      go_wp2_with fail
      go_returns
      exact ⟨rfl, HR.out.below HB1.out, Low.of_below _ _ _ hb HB1.out⟩
    · rcases empty_tests t with ⟨h1, _⟩ | ⟨_, hn1, hn2⟩
      · omega
      have hg := sb_get t 0 h0
      rw [h35] at hg
      have h0i : (0 : Int) < (t.size : Int) := by omega
      clear h35
      go_enter Tryd.func18, Tryd.ntmps18
      go_wp2_with fail
      refine (trim_any s _ (by omega)).mono ?_
      rintro e w1 ⟨rfl, hb1⟩
      rw [Ht.out]
      have HB1 := hide hb1
      clear hb1
      go_wp2_with fail
      go_returns
      exact ⟨rfl, HR.out.below HB1.out, Low.of_below _ _ _ hb HB1.out⟩
  | false =>
    rw [lineP_not st s hid]
    obtain ⟨h0, h35⟩ := idle_no s hid
    rw [ht] at h0 h35
    rcases empty_tests t with ⟨h1, _⟩ | ⟨_, hn1, hn2⟩
    · omega
    have hg := sb_get t 0 h0
    have h0i : (0 : Int) < (t.size : Int) := by omega
    have d35 : (sb t 0 == 35) = false := by simpa using h35
    clear hid ht h35
    rcases hk : keyP s with _ | ⟨name, value⟩
    · have HE := hide (oneP_none st s hk)
      have HKV : Hid (keyV s = .tuple #[.string ⟨#[]⟩, .string ⟨#[]⟩, .bool false]) := by show _ = _; unfold keyV; rw [hk]
      rw [HE.out]
      clear hk
      go_enter Tryd.func18, Tryd.ntmps18
      go_wp2_with fail
      refine (trim_any s _ (by omega)).mono ?_
      rintro e w1 ⟨rfl, hb1⟩
      rw [Ht.out]
      have HB1 := hide hb1
      clear hb1
      go_wp2_with fail
      refine (key_any s _ (by omega)).mono ?_
      rintro e w2 ⟨rfl, hb2⟩
      rw [HKV.out]
      have HB2 := hide (below_via HB1.out hb2)
      clear hb2
      go_wp2_with fail
      go_returns
      exact ⟨rfl, HR.out.below HB2.out, Low.of_below _ _ _ hb HB2.out⟩
    have HKV : Hid (keyV s = .tuple #[.string name, .string value, .bool true]) := by show _ = _; unfold keyV; rw [hk]
    rcases empty_tests name with ⟨hz, hze⟩ | ⟨hz, hm1, hm2⟩
    · have HE := hide (oneP_empty st s name value hk hz)
      rw [HE.out]
      subst hze
      clear hk hz
      go_enter Tryd.func18, Tryd.ntmps18
      go_wp2_with fail
      refine (trim_any s _ (by omega)).mono ?_
      rintro e w1 ⟨rfl, hb1⟩
      rw [Ht.out]
      have HB1 := hide hb1
      clear hb1
      go_wp2_with fail
      refine (key_any s _ (by omega)).mono ?_
      rintro e w2 ⟨rfl, hb2⟩
      rw [HKV.out]
      have HB2 := hide (below_via HB1.out hb2)
      clear hb2
      go_wp2_with fail
      go_returns
      exact ⟨rfl, HR.out.below HB2.out, Low.of_below _ _ _ hb HB2.out⟩
    have hz2 : name.size ≠ 0 := by omega
    have hnz : name.size ≤ 1000000 := by
      unfold keyP at hk
      split at hk
      · cases hk
      · cases hk
        have := trimS_size (s.extract 0 (Lib.indexByte s.data.toList 61).toNat)
        rw [ByteArray.size_extract] at this
        omega
    cases hp : isParam name with
    | true =>
      have HE := hide (oneP_param st s name value hk hz2 hp)
      rw [HE.out]
      obtain ⟨p1, p2, p3⟩ := cut_yes name hp
      rcases empty_tests (name.extract 6 name.size) with ⟨hy, _⟩ | ⟨_, hy1, hy2⟩
      · omega
      have P1 := hide p1
      have P2 := hide p2
      obtain ⟨a, ha⟩ : ∃ a, name.extract 6 name.size = a := ⟨_, rfl⟩
      rw [ha] at hy1 hy2 P1
      have HA := hide ha
      clear hk hz hz2 hp p1 p2 p3 ha
      go_enter Tryd.func18, Tryd.ntmps18
      go_wp2_with fail
      refine (trim_any s _ (by omega)).mono ?_
      rintro e w1 ⟨rfl, hb1⟩
      rw [Ht.out]
      have HB1 := hide hb1
      clear hb1
      go_wp2_with fail
      refine (key_any s _ (by omega)).mono ?_
      rintro e w2 ⟨rfl, hb2⟩
      rw [HKV.out]
      have HB2 := hide (below_via HB1.out hb2)
      clear hb2
      go_wp2_with fail
      refine (Tryd.strings_CutPrefix name nParam _).mono ?_
      rintro e w3 ⟨rfl, rfl⟩
      rw [P1.out, P2.out]
      obtain ⟨i0, hi, hi0, hi1, hi2⟩ := info_parts infoPair
      obtain ⟨h6, hne, hset, v, hblk, hrow⟩ := HR.out.below HB2.out
      obtain ⟨va, vc, rfl⟩ := own_slice hrow
      have c6 := hblk.cell 6
      rw [txtL_ps _ _ _ h6] at c6
      have f6 := hblk.frozen 6
      have HSet := hide hset
      have HBlk := hide hblk
      have HRow := hide hrow
      have hbs : base ≤ w3.heap.size := Nat.le_trans hb HB2.out.size
      have HNT : Hid (some T ≠ (Value.slice va st.c.ps.length vc).ownBlock) := fun e => by have := own_ge HRow.out e.symm; omega
      have HNM : Hid (some M ≠ (Value.slice va st.c.ps.length vc).ownBlock) := fun e => by have := own_ge HRow.out e.symm; omega
      clear hset hblk hrow
      go_wp2_with (at_builtin; refine wpList_append_grown w3 rfl _ _ 23 rfl base 40 i0 (.agg #[.string ⟨#[]⟩, .string ⟨#[]⟩]) 2 32 Tryd.underlying23 hi hi0 hi1 hi2 rfl (by decide) _ st.c.ps.length _ [.string a, .string value] HRow.out rfl rfl (by simp [Value.oneCell']) rfl (by simp [maxLen]; omega) (by omega) hbs ?_; intro v4 w4 hown4 hg4; obtain ⟨da, dc, hd⟩ := own_slice hown4; subst hd; have hbT := (HBlk.out.alloc (.cells #[.string a, .string value] 40)).grown hg4 HNT.out; have c64 := hbT.cell 6; rw [txtL_ps _ _ _ h6] at c64; have f64 := hbT.frozen 6; have HbT := hide hbT; have HG4 := hide hg4; have HOwn4 := hide hown4; clear hbT hg4 hown4)
      go_wp2_with fail
      go_returns
      refine ⟨rfl, ⟨h6, hne, ((HSet.out.kept (World.grownBy_alloc w3 (.cells #[.string a, .string value] 40) none) (by simp)).kept HG4.out HNM.out).same (Below.heap_setCell w4 ⟨T, 6, none⟩ _ M hne), .slice da (st.c.ps.length + 1) dc, ?_, ?_⟩, ?_⟩
      · have := HbT.out.put 6 (.slice da (st.c.ps.length + 1) dc)
        rw [txtL_row _ _ _ _ h6] at this
        exact this
      · rw [pairCells_snoc, List.length_append, HA.out]; exact own_cells2 HOwn4.out hT 6 _
      · exact (((Low.of_below T M base hb HB2.out).trans (Low.of_below T M base hbs ((Below.refl _ _).alloc (Nat.le_refl _) (.cells #[.string a, .string value] 40)))).trans (Low.grown (HRow.out.alloc (.cells #[.string a, .string value] 40)) HG4.out (Nat.le_refl _) (by simp; omega))).trans (Low.put _ hT 6 _)
    | false =>
      have HE := hide (oneP_set st s name value hk hz2 hp)
      rw [HE.out]
      have hcut := cut_no name hp
      clear hk hz hz2 hp
      rcases hcut with hc | ⟨hc1, hc2⟩
      · have P1 := hide hc
        obtain ⟨a, ha⟩ : ∃ a : ByteArray, ⟨(Lib.trimPrefix name.data.toList nParam.data.toList).toArray⟩ = a := ⟨_, rfl⟩
        have HA := hide ha
        clear hc ha
        go_enter Tryd.func18, Tryd.ntmps18
        go_wp2_with fail
        refine (trim_any s _ (by omega)).mono ?_
        rintro e w1 ⟨rfl, hb1⟩
        rw [Ht.out]
        have HB1 := hide hb1
        clear hb1
        go_wp2_with fail
        refine (key_any s _ (by omega)).mono ?_
        rintro e w2 ⟨rfl, hb2⟩
        rw [HKV.out]
        have HB2 := hide (below_via HB1.out hb2)
        clear hb2
        go_wp2_with fail
        refine (Tryd.strings_CutPrefix name nParam _).mono ?_
        rintro e w3 ⟨rfl, rfl⟩
        rw [P1.out, HA.out]
        go_wp2_with fail
        refine (set_any T M base st name value _ hT hM (Nat.le_trans hb HB2.out.size) hnz hse (HR.out.below HB2.out)).mono ?_
        rintro e w4 ⟨rfl, hr4, hl4⟩
        have HR4 := hide hr4
        have HL4 := hide ((Low.of_below T M base hb HB2.out).trans hl4)
        clear hr4 hl4
        go_wp2_with fail
        go_returns
        exact ⟨rfl, HR4.out, HL4.out⟩
      · have P1 := hide hc1
        have HA := hide hc2
        clear hc1 hc2
        go_enter Tryd.func18, Tryd.ntmps18
        go_wp2_with fail
        refine (trim_any s _ (by omega)).mono ?_
        rintro e w1 ⟨rfl, hb1⟩
        rw [Ht.out]
        have HB1 := hide hb1
        clear hb1
        go_wp2_with fail
        refine (key_any s _ (by omega)).mono ?_
        rintro e w2 ⟨rfl, hb2⟩
        rw [HKV.out]
        have HB2 := hide (below_via HB1.out hb2)
        clear hb2
        go_wp2_with fail
        refine (Tryd.strings_CutPrefix name nParam _).mono ?_
        rintro e w3 ⟨rfl, rfl⟩
        rw [P1.out, HA.out]
        go_wp2_with fail
        refine (set_any T M base st name value _ hT hM (Nat.le_trans hb HB2.out.size) hnz hse (HR.out.below HB2.out)).mono ?_
        rintro e w4 ⟨rfl, hr4, hl4⟩
        have HR4 := hide hr4
        have HL4 := hide ((Low.of_below T M base hb HB2.out).trans hl4)
        clear hr4 hl4
        go_wp2_with fail
        go_returns
        exact ⟨rfl, HR4.out, HL4.out⟩
end Go.Proofs.YtlmelbijgckfpaaDoor
