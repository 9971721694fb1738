/-
  The reader's walks: value, pair. No condition but on lengths.
-/
import Derived.Test.YtaghhmnigjapoaaDoorDsnB
namespace Go.Proofs.YtaghhmnigjapoaaDoor
open Go.RowKit
set_option linter.unusedVariables false
set_option linter.unusedSimpArgs false

theorem quote_prefix (l : List UInt8) : Lib.hasPrefix l [39] = decide (l.head? = some 39) := by
  cases l with
  | nil => rfl
  | cons x l =>
    unfold Lib.hasPrefix
    by_cases h : x = 39
    · subst h; simp [List.isPrefixOf]
    · have : ¬ (39 : UInt8) = x := fun e => h e.symm
      simp [List.isPrefixOf, h, this]
theorem value_any (b : Nat) (s : ByteArray) (w : World) (hs : s.size ≤ 100000) (hx : Blk w b 38 #[.string s]) :
    Calls Tryd.prog 25 #[.pointer (some ⟨b, 0, none⟩)] w (ValEnd (valL s.data.toList) b w) := by
  have e0 := hx.cell 0
  have f0 := hx.frozen 0
  simp at e0
  have HX := hide hx
  clear hx
  obtain ⟨o, ho⟩ : ∃ o, valL s.data.toList = o := ⟨_, rfl⟩
  rw [ho]
  have HO := hide ho
  clear ho
  by_cases hh : s.data.toList.head? = some 39
  · have HV : Hid (o = qL s.data.toList.tail) := by show _ = _; rw [← HO.out]; unfold valL; rw [if_pos hh]
    have HP : Hid (Lib.hasPrefix s.data.toList [39] = true) := by show _ = _; rw [quote_prefix, decide_eq_true hh]
    have HT : Hid ((⟨(Lib.trimPrefix s.data.toList [39]).toArray⟩ : ByteArray) = bs s.data.toList.tail) := by
      show _ = _
      unfold Lib.trimPrefix; rw [if_pos HP.out]
      show bs _ = _
      rw [← List.drop_one]; rfl
    clear hh
    go_enter Tryd.func25, Tryd.ntmps25
    go_wp2_with fail
    refine (Tryd.strings_CutPrefix s ⟨#[39]⟩ _).mono ?_
    rintro e w1 ⟨rfl, rfl⟩
    rw [show ((⟨#[39]⟩ : ByteArray)).data.toList = [39] from rfl, HP.out, HT.out]
    have HY := hide (HX.out.put 0 (.string (bs s.data.toList.tail)))
    have HB := hide ((But.refl b w1).put 0 (.string (bs s.data.toList.tail)))
    go_wp2_with fail
    generalize w1.setCell ⟨b, 0, none⟩ (.string (bs s.data.toList.tail)) = W at HY HB ⊢
    refine (quoted_any b (bs s.data.toList.tail) _ (by rw [bs_size, List.length_tail, list_size]; omega) HY.out).mono ?_
    intro e w2 hv
    rw [bs_list] at hv
    rw [← HV.out] at hv
    clear HV
    cases o with
    | none =>
      obtain ⟨v, rfl, hb⟩ := hv
      have HB2 := hide (HB.out.trans hb)
      clear hb
      go_wp2_with fail
      go_returns
      exact ⟨v, rfl, HB2.out⟩
    | some p =>
      obtain ⟨v, r⟩ := p
      obtain ⟨rfl, hy, hb⟩ := hv
      have HB2 := hide (HB.out.trans hb)
      have HY2 := hide hy
      clear hb hy
      go_wp2_with fail
      go_returns
      exact ⟨rfl, HY2.out, HB2.out⟩
  · have HV : Hid (o = bL s.data.toList) := by show _ = _; rw [← HO.out]; unfold valL; rw [if_neg hh]
    have HP : Hid (Lib.hasPrefix s.data.toList [39] = false) := by show _ = _; rw [quote_prefix, decide_eq_false hh]
    clear hh
    go_enter Tryd.func25, Tryd.ntmps25
    go_wp2_with fail
    refine (Tryd.strings_CutPrefix s ⟨#[39]⟩ _).mono ?_
    rintro e w1 ⟨rfl, rfl⟩
    rw [show ((⟨#[39]⟩ : ByteArray)).data.toList = [39] from rfl, HP.out]
    go_wp2_with fail
    refine (bare_any b s _ hs HX.out).mono ?_
    intro e w2 hv
    rw [← HV.out] at hv
    clear HV
    cases o with
    | none =>
      obtain ⟨v, rfl, hb⟩ := hv
      have HB2 := hide hb
      clear hb
      go_wp2_with fail
      go_returns
      exact ⟨v, rfl, HB2.out⟩
    | some p =>
      obtain ⟨v, r⟩ := p
      obtain ⟨rfl, hy, hb⟩ := hv
      have HB2 := hide hb
      have HY2 := hide hy
      clear hb hy
      go_wp2_with fail
      go_returns
      exact ⟨rfl, HY2.out, HB2.out⟩

/-- strings.Cut at a byte 61. -/
theorem cut_none (s : ByteArray) (w : World) (h : Lib.indexByte s.data.toList 61 < 0) :
    Calls Tryd.prog 36 #[.string s, .string ⟨#[61]⟩] w fun e w' => w = w' ∧ e = .returned (.tuple #[.string s, .string ⟨#[]⟩, .bool false]) := by
  obtain ⟨i, hi⟩ : ∃ i, Lib.indexByte s.data.toList 61 = i := ⟨_, rfl⟩
  rw [hi] at h
  have Hi := hide hi
  clear hi
  go_enter Tryd.func36, Tryd.ntmps36
  go_wp2_with fail
  refine (Tryd.stringslite_Index_one s 61 _).mono ?_
  rintro e w1 ⟨rfl, rfl⟩
  rw [Hi.out]
  go_wp2_with fail
  go_returns
  exact ⟨rfl, rfl⟩
theorem scut_none (s : ByteArray) (w : World) (h : Lib.indexByte s.data.toList 61 < 0) :
    Calls Tryd.prog 24 #[.string s, .string ⟨#[61]⟩] w fun e w' => w = w' ∧ e = .returned (.tuple #[.string s, .string ⟨#[]⟩, .bool false]) := by
  have H := hide h
  clear h
  go_enter Tryd.func24, Tryd.ntmps24
  go_wp2_with fail
  refine (cut_none s _ H.out).mono ?_
  rintro e w1 ⟨rfl, rfl⟩
  go_wp2_with fail
  go_returns
  exact ⟨rfl, rfl⟩
theorem cut_some (s : ByteArray) (i : Nat) (w : World) (hs : s.size ≤ 1000000) (h : Lib.indexByte s.data.toList 61 = (i : Int)) (hi : i < s.size) :
    Calls Tryd.prog 36 #[.string s, .string ⟨#[61]⟩] w fun e w' => Below w.heap.size w w' ∧ e = .returned (.tuple #[.string (s.extract 0 i), .string (s.extract (i + 1) s.size), .bool true]) := by
  have Hi := hide h
  have k0 : (0 : Int) ≤ (i : Int) := by omega
  have k1 : (i : Int) ≤ (s.size : Int) := by omega
  have k2 : (i : Int) + 1 ≤ (s.size : Int) := by omega
  have k3 : IntKind.i64.wrap ((i : Int) + 1) = (i : Int) + 1 := by
    rw [IntKind.wrap_i64]; omega
  have k4 : (0 : Int) ≤ (i : Int) + 1 := by omega
  have k5 : ((i : Int) + 1).toNat = i + 1 := by omega
  clear h
  go_enter Tryd.func36, Tryd.ntmps36
  go_wp2_with fail
  refine (Tryd.stringslite_Index_one s 61 _).mono ?_
  rintro e w1 ⟨rfl, rfl⟩
  rw [Hi.out]
  go_wp2_with fail
  go_quiet (fail)
  go_wp2_with fail
  go_returns
  exact ⟨below_drewN (Below.refl _ _) _, rfl⟩
theorem scut_some (s : ByteArray) (i : Nat) (w : World) (hs : s.size ≤ 1000000) (h : Lib.indexByte s.data.toList 61 = (i : Int)) (hi : i < s.size) :
    Calls Tryd.prog 24 #[.string s, .string ⟨#[61]⟩] w fun e w' => Below w.heap.size w w' ∧ e = .returned (.tuple #[.string (s.extract 0 i), .string (s.extract (i + 1) s.size), .bool true]) := by
  have H := hide h
  clear h
  go_enter Tryd.func24, Tryd.ntmps24
  go_wp2_with fail
  refine (cut_some s i _ hs H.out hi).mono ?_
  rintro e w1 ⟨hb, rfl⟩
  have HB := hide hb
  clear hb
  go_wp2_with fail
  go_returns
  exact ⟨HB.out, rfl⟩
end Go.Proofs.YtaghhmnigjapoaaDoor
