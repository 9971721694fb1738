/-
  The laws SplitParts and SplitBack, walked. No condition.
-/
import Derived.Test.YtmmfipkdkofdkaaDoorSplG
import Derived.Test.YtmmfipkdkofdkaaDoorOpen
namespace Go.Proofs.YtmmfipkdkofdkaaDoor
open Go.RowKit
set_option linter.unusedVariables false
set_option linter.unusedSimpArgs false

theorem index_any (v : Value) (ps : List ByteArray) (w : World) (hl : ps.length ≤ 1000000) (hne : ∀ j, j < ps.length → 0 < (tj ps j).size) (hv : TextsAt w v ps) :
    Calls Tryd.prog 19 #[v, .string ⟨#[]⟩] w fun e w' => e = .returned (.int .i64 (-1)) ∧ w = w' := by
  obtain ⟨a, cap, rfl, _, hv⟩ := hv
  have HV := hide hv
  have HN := hide hne
  clear hv hne
  go_enter Tryd.func19, Tryd.ntmps19
  go_wp2_with fail
  go_loop [8] (fun i => ∃ k : Nat, i = .int .i64 k ∧ k ≤ ps.length) (fun i => (ps.length - (intOf i).toNat))
  case atStart => exact ⟨0, rfl, Nat.zero_le _⟩
  case round =>
    obtain ⟨k, rfl, hk⟩ := hrel
    by_cases hkk : k < ps.length
    · have hki : (k : Int) < (ps.length : Int) := by omega
      have hk0 : (0 : Int) ≤ (k : Int) := by omega
      rcases HV.out with h0 | ⟨b, off, rfl, hb, hc⟩
      · subst h0; simp at hkk
      have c0 := hc k hkk
      have hp := HN.out k hkk
      generalize tj ps k = x at c0 hp
      rcases empty_tests x with ⟨h1, _⟩ | ⟨_, h1, h2⟩
      · omega
      have h3 : ([] == x.toList) = false := by
        cases hx : x.toList with
        | nil => exact absurd hx h1
        | cons y t => rfl
      clear hc
      go_wp2_with fail
      go_round
      case rel => exact ⟨k + 1, by go_num, by omega⟩
      case measure => simp [intOf]; omega
    · have hki : ¬ (k : Int) < (ps.length : Int) := by omega
      go_wp2_with fail
      go_returns
      exact ⟨rfl, rfl⟩
theorem contains_any (v : Value) (ps : List ByteArray) (w : World) (hl : ps.length ≤ 1000000) (hne : ∀ j, j < ps.length → 0 < (tj ps j).size) (hv : TextsAt w v ps) :
    Calls Tryd.prog 13 #[v, .string ⟨#[]⟩] w fun e w' => e = .returned (.bool false) ∧ w = w' := by
  have HV := hide hv
  have HN := hide hne
  obtain ⟨a, cap, rfl, _⟩ := hv
  clear hne
  go_enter Tryd.func13, Tryd.ntmps13
  go_wp2_with fail
  refine (index_any _ ps _ hl HN.out HV.out).mono ?_
  rintro e w1 ⟨rfl, rfl⟩
  go_wp2_with fail
  go_returns
  exact ⟨rfl, rfl⟩
theorem textsP_full (s : ByteArray) : ∀ j, j < (textsP s).length → 0 < (tj (textsP s) j).size := by
  intro j hj
  unfold tj
  rw [List.getD_eq_getElem?_getD, List.getElem?_eq_getElem hj]
  have hm : (textsP s)[j] ∈ textsP s := List.getElem_mem hj
  have h2 : (textsP s)[j] ∈ (((fields s.data.toList).map fun p => trimS (bs p)).filter fun t => decide (t.size ≠ 0)) := hm
  exact Nat.pos_of_ne_zero (of_decide_eq_true (List.mem_filter.1 h2).2)

theorem read_texts_arg {H : Type} {enc : TypeId × Value → H} {w : World} {v : Value} {d : DataW H} {p : List MemPlace} {r : Reach} {b0 : Nat} (hv : Value.okWide Tryd.prog w r b0 22 v) (h : DataW.Trod enc Tryd.prog w 0 (fun _ => true) true 22 v d p) :
    ∃ L, L.length ≤ maxLen ∧ TextsAt w v L := by
  obtain ⟨a, L, cap, rfl, h1, h2, h3, _⟩ := read_strs_arg Tryd.underlying22 Tryd.underlying9 (by kernel_rfl) hv h
  exact ⟨L, Nat.le_trans h1 h2, a, cap, rfl, h1, h3⟩
theorem sample_one : textsP ⟨#[97, 59, 32, 39, 98, 59, 99, 39, 32, 59]⟩ = [⟨#[97]⟩, ⟨#[39, 98, 59, 99, 39]⟩] := by kernel_rfl
theorem sample_two : (textsP ⟨#[97, 59, 98]⟩).length = 2 := by kernel_rfl
theorem awake_any (w : World) : Calls Tryd.prog 6 #[] w fun e w' => e = .returned (.bool true) ∧ Below w.heap.size w w' := by
  have H1 := hide sample_one
  have H2 := hide sample_two
  go_enter Tryd.func6, Tryd.ntmps6
  go_wp2_with fail
  refine (texts_any _ _ (by decide)).mono ?_
  rintro e w1 ⟨v, rfl, hown, hb1⟩
  rw [H1.out] at hown
  have HT := hide (TextsAt.of_own hown)
  have HB1 := hide hb1
  have hbs := hb1.size
  obtain ⟨a, c, rfl⟩ := own_slice hown
  clear hown hb1
  have hbx : Below w1.heap.size w1 (w1.alloc (.cells #[.string ⟨#[97]⟩, .string ⟨#[39, 98, 59, 99, 39]⟩] 9)) := (Below.refl _ _).alloc (Nat.le_refl _) _
  have hl : TextsAt (w1.alloc (.cells #[.string ⟨#[97]⟩, .string ⟨#[39, 98, 59, 99, 39]⟩] 9)) (.slice (some ⟨w1.heap.size, 0, none⟩) 2 2) [⟨#[97]⟩, ⟨#[39, 98, 59, 99, 39]⟩] :=
    TextsAt.of_own (own_new w1 9 #[.string ⟨#[97]⟩, .string ⟨#[39, 98, 59, 99, 39]⟩] (by decide))
  have HL := hide hl
  have HT2 := hide (HT.out.below hbx)
  have HB2 := hide (below_via HB1.out hbx)
  clear hl hbx
  go_wp2_with fail
  refine (equal_any _ _ _ _ _ (by decide) (by decide) HT2.out HL.out).mono ?_
  rintro e w3 ⟨rfl, hb3⟩
  have HB3 := hide (below_via HB2.out hb3)
  clear hb3
  go_wp2_with fail
  refine (many_any _ _ (by decide)).mono ?_
  rintro e w4 ⟨rfl, hb4⟩
  rw [H2.out]
  have HB4 := hide (below_via HB3.out hb4)
  clear hb4
  go_wp2_with fail
  go_returns
  exact ⟨rfl, HB4.out⟩

theorem joinV_form (l : List ByteArray) : ∃ q b, joinV l = .tuple #[.string q, .bool b] ∧ (b = true → textsP q = l ∧ q = joinB l) := by
  unfold joinV joinP
  split
  · rename_i h
    exact ⟨_, _, rfl, fun _ => ⟨h, rfl⟩⟩
  · exact ⟨_, _, rfl, fun h => by cases h⟩

set_option maxHeartbeats 1000000 in
theorem parts_law (s : ByteArray) (v : Value) (ps : List ByteArray) (w : World) (hl : ps.length ≤ 9223372036854775807) (hv : TextsAt w v ps) :
    Calls Tryd.prog 3 #[.string s, v] w fun e w' => e = .returned (.bool true) ∧ Below w.heap.size w w' := by
  have HV := hide hv
  obtain ⟨a, cap, rfl, _⟩ := hv
  by_cases h2 : 2000 < s.size
  · have h2i : (2000 : Int) < (s.size : Int) := by omega
    go_enter Tryd.func3, Tryd.ntmps3
    go_wp2_with fail
    refine (awake_any _).mono ?_
    rintro e w2 ⟨rfl, hb2⟩
    have HB2 := hide hb2
    clear hb2
    go_wp2_with fail
    go_returns
    exact ⟨rfl, HB2.out⟩
  have h2i : ¬ (2000 : Int) < (s.size : Int) := by omega
  have hlen := textsP_length s
  obtain ⟨q, b, hj, _⟩ := joinV_form ps
  have HJ := hide hj
  clear hj
  go_enter Tryd.func3, Tryd.ntmps3
  go_wp2_with fail
  refine (far_any _ ps _ hl HV.out).mono ?_
  rintro e w1 ⟨hf, hb1⟩
  have HV1 := hide (HV.out.below hb1)
  have HB1 := hide hb1
  clear hb1 HV
  rcases hf with rfl | ⟨rfl, hn⟩
  · go_wp2_with fail
    refine (awake_any _).mono ?_
    rintro e w2 ⟨rfl, hb2⟩
    have HB2 := hide (below_via HB1.out hb2)
    clear hb2
    go_wp2_with fail
    go_returns
    exact ⟨rfl, HB2.out⟩
  · have HN := hide hn
    clear hn
    go_wp2_with fail
    refine (join_any ps _ _ HN.out HV1.out).mono ?_
    rintro e w2 ⟨rfl, hb2⟩
    rw [HJ.out]
    have HV2 := hide (HV1.out.below hb2)
    have HB2 := hide (below_via HB1.out hb2)
    clear hb2
    go_wp2_with fail
    refine (rjoin_any ps _ _ HN.out HV2.out).mono ?_
    rintro e w3 ⟨rfl, hb3⟩
    rw [HJ.out]
    have HB3 := hide (below_via HB2.out hb3)
    clear hb3
    go_wp2_with fail
    refine (texts_any s _ (by omega)).mono ?_
    rintro e w4 ⟨v4, rfl, hown4, hb4⟩
    have HT4 := hide (TextsAt.of_own hown4)
    have HB4 := hide (below_via HB3.out hb4)
    obtain ⟨a4, c4, rfl⟩ := own_slice hown4
    clear hown4 hb4
    go_wp2_with fail
    refine (rtexts_any s _ (by omega)).mono ?_
    rintro e w5 ⟨v5, rfl, hown5, hb5⟩
    have HT5 := hide (TextsAt.of_own hown5)
    have HT45 := hide (HT4.out.below hb5)
    have HB5 := hide (below_via HB4.out hb5)
    obtain ⟨a5, c5, rfl⟩ := own_slice hown5
    clear hown5 hb5
    go_wp2_with fail
    refine (equal_any _ _ (textsP s) (textsP s) _ (by omega) (by omega) HT45.out HT5.out).mono ?_
    rintro e w6 ⟨rfl, hb6⟩
    rw [show decide (textsP s = textsP s) = true from decide_eq_true rfl]
    have HB6 := hide (below_via HB5.out hb6)
    clear hb6
    go_wp2_with fail
    refine (many_any s _ (by omega)).mono ?_
    rintro e w7 ⟨rfl, hb7⟩
    have HB7 := hide (below_via HB6.out hb7)
    clear hb7
    go_wp2_with fail
    refine (rtexts_any s _ (by omega)).mono ?_
    rintro e w8 ⟨v8, rfl, hown8, hb8⟩
    have HB8 := hide (below_via HB7.out hb8)
    obtain ⟨a8, c8, rfl⟩ := own_slice hown8
    clear hown8 hb8
    go_wp2_with fail
    refine (awake_any _).mono ?_
    rintro e w9 ⟨rfl, hb9⟩
    have HB9 := hide (below_via HB8.out hb9)
    clear hb9
    go_wp2_with fail
    go_returns
    exact ⟨rfl, HB9.out⟩

set_option maxHeartbeats 1000000 in
theorem back_law (s : ByteArray) (v : Value) (ps : List ByteArray) (w : World) (hl : ps.length ≤ 9223372036854775807) (hv : TextsAt w v ps) :
    Calls Tryd.prog 4 #[.string s, v] w fun e w' => e = .returned (.bool true) ∧ Below w.heap.size w w' := by
  have HV := hide hv
  obtain ⟨a, cap, rfl, _⟩ := hv
  by_cases h2 : 2000 < s.size
  · have h2i : (2000 : Int) < (s.size : Int) := by omega
    go_enter Tryd.func4, Tryd.ntmps4
    go_wp2_with fail
    refine (awake_any _).mono ?_
    rintro e w2 ⟨rfl, hb2⟩
    have HB2 := hide hb2
    clear hb2
    go_wp2_with fail
    go_returns
    exact ⟨rfl, HB2.out⟩
  have h2i : ¬ (2000 : Int) < (s.size : Int) := by omega
  have hlen := textsP_length s
  obtain ⟨q, b, hj, hjb⟩ := joinV_form ps
  have HJ := hide hj
  have HJB := hide hjb
  clear hj hjb
  go_enter Tryd.func4, Tryd.ntmps4
  go_wp2_with fail
  refine (far_any _ ps _ hl HV.out).mono ?_
  rintro e w1 ⟨hf, hb1⟩
  have HV1 := hide (HV.out.below hb1)
  have HB1 := hide hb1
  clear hb1 HV
  rcases hf with rfl | ⟨rfl, hn⟩
  · go_wp2_with fail
    refine (awake_any _).mono ?_
    rintro e w2 ⟨rfl, hb2⟩
    have HB2 := hide (below_via HB1.out hb2)
    clear hb2
    go_wp2_with fail
    go_returns
    exact ⟨rfl, HB2.out⟩
  · have HN := hide hn
    have hz := joinB_size_all ps hn
    have hps := hn.1
    clear hn
    go_wp2_with fail
    refine (join_any ps _ _ HN.out HV1.out).mono ?_
    rintro e w2 ⟨rfl, hb2⟩
    rw [HJ.out]
    have HV2 := hide (HV1.out.below hb2)
    have HB2 := hide (below_via HB1.out hb2)
    clear hb2
    cases b with
    | true =>
      obtain ⟨hq, hqj⟩ := HJB.out rfl
      have hqz : q.size ≤ 3060 := by rw [hqj]; exact hz
      have HQ := hide hq
      clear hq hqj hz
      go_wp2_with fail
      refine (texts_any q _ (by omega)).mono ?_
      rintro e w3 ⟨v3, rfl, hown3, hb3⟩
      rw [HQ.out] at hown3
      have HT3 := hide (TextsAt.of_own hown3)
      have HV3 := hide (HV2.out.below hb3)
      have HB3 := hide (below_via HB2.out hb3)
      obtain ⟨a3, c3, rfl⟩ := own_slice hown3
      clear hown3 hb3
      go_wp2_with fail
      refine (equal_any _ _ ps ps _ (by omega) (by omega) HT3.out HV3.out).mono ?_
      rintro e w4 ⟨rfl, hb4⟩
      rw [show decide (ps = ps) = true from decide_eq_true rfl]
      have HB4 := hide (below_via HB3.out hb4)
      clear hb4
      go_wp2_with fail
      refine (texts_any s _ (by omega)).mono ?_
      rintro e w5 ⟨v5, rfl, hown5, hb5⟩
      have HT5 := hide (TextsAt.of_own hown5)
      have HB5 := hide (below_via HB4.out hb5)
      obtain ⟨a5, c5, rfl⟩ := own_slice hown5
      clear hown5 hb5
      go_wp2_with fail
      refine (contains_any _ (textsP s) _ (by omega) (textsP_full s) HT5.out).mono ?_
      rintro e w6 ⟨rfl, rfl⟩
      go_wp2_with fail
      refine (many_any s _ (by omega)).mono ?_
      rintro e w7 ⟨rfl, hb7⟩
      have HB7 := hide (below_via HB5.out hb7)
      clear hb7
      go_wp2_with fail
      refine (texts_any s _ (by omega)).mono ?_
      rintro e w8 ⟨v8, rfl, hown8, hb8⟩
      have HB8 := hide (below_via HB7.out hb8)
      obtain ⟨a8, c8, rfl⟩ := own_slice hown8
      clear hown8 hb8
      go_wp2_with fail
      refine (awake_any _).mono ?_
      rintro e w9 ⟨rfl, hb9⟩
      have HB9 := hide (below_via HB8.out hb9)
      clear hb9
      go_wp2_with fail
      go_returns
      exact ⟨rfl, HB9.out⟩
    | false =>
      go_wp2_with fail
      refine (texts_any s _ (by omega)).mono ?_
      rintro e w5 ⟨v5, rfl, hown5, hb5⟩
      have HT5 := hide (TextsAt.of_own hown5)
      have HB5 := hide (below_via HB2.out hb5)
      obtain ⟨a5, c5, rfl⟩ := own_slice hown5
      clear hown5 hb5
      go_wp2_with fail
      refine (contains_any _ (textsP s) _ (by omega) (textsP_full s) HT5.out).mono ?_
      rintro e w6 ⟨rfl, rfl⟩
      go_wp2_with fail
      refine (many_any s _ (by omega)).mono ?_
      rintro e w7 ⟨rfl, hb7⟩
      have HB7 := hide (below_via HB5.out hb7)
      clear hb7
      go_wp2_with fail
      refine (texts_any s _ (by omega)).mono ?_
      rintro e w8 ⟨v8, rfl, hown8, hb8⟩
      have HB8 := hide (below_via HB7.out hb8)
      obtain ⟨a8, c8, rfl⟩ := own_slice hown8
      clear hown8 hb8
      go_wp2_with fail
      refine (awake_any _).mono ?_
      rintro e w9 ⟨rfl, hb9⟩
      have HB9 := hide (below_via HB8.out hb9)
      clear hb9
      go_wp2_with fail
      go_returns
      exact ⟨rfl, HB9.out⟩
end Go.Proofs.YtmmfipkdkofdkaaDoor
