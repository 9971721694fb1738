/-
  What the calls of names compute. No condition.
-/
import Derived.Test.YthcmceemimkgiaaRParse
import Derived.Test.YthcmceemimkgiaaNamesLaw
namespace Go.Proofs.Ythcmceemimkgiaa
open Go.RowKit
set_option linter.unusedVariables false
set_option linter.unusedSimpArgs false

theorem cut_any (s : ByteArray) (w : World) :
    Calls Try.prog 14 #[.string s, .string ⟨#[95, 112]⟩] w fun e w' => e = .returned (.tuple #[.string (tl s), .bool (hp s)]) ∧ w' = w := Try.strings_CutPrefix s ⟨#[95, 112]⟩ w

theorem id_any (s : ByteArray) (w : World) :
    Calls Try.prog 6 #[.string s] w fun e w' => w = w' ∧ e = .returned (parseV (idN s)) := by
  rcases hh : hp s with _ | _
  · have hR : Hid (parseV (idN s) = .tuple #[.int .i64 0, .bool false]) := by unfold idN; rw [hh]; rfl
    have Hh := hide hh
    clear hh
    go_enter Try.func6, Try.ntmps6
    go_wp2_with fail
    refine (cut_any s _).mono ?_
    rintro e w1 ⟨rfl, rfl⟩
    rw [Hh.out]
    go_wp2_with fail
    go_returns
    exact ⟨rfl, congrArg Ending.returned hR.out.symm⟩
  · have Hh := hide hh
    rcases hq : parseN (tl s) 2147483648 with _ | n
    · have hR : Hid (parseV (idN s) = .tuple #[.int .i64 0, .bool false]) := by unfold idN; rw [hh, hq]; rfl
      have Hq : Hid (parseV (parseN (tl s) 2147483648) = .tuple #[.int .i64 0, .bool false]) := by rw [hq]; rfl
      clear hh hq
      go_enter Try.func6, Try.ntmps6
      go_wp2_with fail
      refine (cut_any s _).mono ?_
      rintro e w1 ⟨rfl, rfl⟩
      rw [Hh.out]
      go_wp2_with fail
      refine (parse_any (tl s) _ _).mono ?_
      rintro e w1 ⟨rfl, rfl⟩
      rw [Hq.out]
      go_wp2_with fail
      go_returns
      exact ⟨rfl, congrArg Ending.returned hR.out.symm⟩
    · have Hq : Hid (parseV (parseN (tl s) 2147483648) = .tuple #[.int .i64 n, .bool true]) := by rw [hq]; rfl
      by_cases h0 : n = 0
      · have hR : Hid (parseV (idN s) = .tuple #[.int .i64 0, .bool false]) := by unfold idN; rw [hh, hq]; simp only [h0]; rfl
        subst h0
        clear hh hq
        go_enter Try.func6, Try.ntmps6
        go_wp2_with fail
        refine (cut_any s _).mono ?_
        rintro e w1 ⟨rfl, rfl⟩
        rw [Hh.out]
        go_wp2_with fail
        refine (parse_any (tl s) _ _).mono ?_
        rintro e w1 ⟨rfl, rfl⟩
        rw [Hq.out]
        go_wp2_with fail
        go_returns
        exact ⟨rfl, congrArg Ending.returned hR.out.symm⟩
      · have hR : Hid (parseV (idN s) = .tuple #[.int .i64 n, .bool true]) := by
          unfold idN; rw [hh, hq]
          show parseV (if n = 0 then none else some n) = _
          rw [if_neg h0]; rfl
        have h0b : (n == 0) = false := by simpa using h0
        clear hh hq
        go_enter Try.func6, Try.ntmps6
        go_wp2_with fail
        refine (cut_any s _).mono ?_
        rintro e w1 ⟨rfl, rfl⟩
        rw [Hh.out]
        go_wp2_with fail
        refine (parse_any (tl s) _ _).mono ?_
        rintro e w1 ⟨rfl, rfl⟩
        rw [Hq.out]
        go_wp2_with fail
        go_returns
        exact ⟨rfl, congrArg Ending.returned hR.out.symm⟩

theorem server_any (x : Int) (w : World) (h0 : -9223372036854775808 ≤ x) (h1 : x ≤ 9223372036854775807) :
    Calls Try.prog 8 #[.int .i64 x] w fun e w' => Below w.heap.size w w' ∧ e = .returned (.string (server x)) := by
  by_cases hx : x < 1 ∨ 2147483648 < x
  · have hR : Hid (server x = ⟨#[]⟩) := by unfold server; rw [if_pos hx]; rfl
    rcases hx with hx | hx
    all_goals
      go_enter Try.func8, Try.ntmps8
      go_wp2
      all_goals go_returns
      all_goals exact ⟨Below.refl _ _, by rw [hR.out]; rfl⟩
  · have hR : Hid (server x = ⟨#[95, 112]⟩ ++ text x) := by unfold server; rw [if_neg hx]; rfl
    have ha : 1 ≤ x ∧ x ≤ 2147483648 := by omega
    have hb : (⟨#[95, 112]⟩ : ByteArray).size = 2 := rfl
    have hc : (text x).size ≤ 21 := by
      show (textL x).toArray.size ≤ 21
      rw [List.size_toArray]
      exact textL_length x
    clear hx
    go_enter Try.func8, Try.ntmps8
    go_wp2_with fail
    refine (text_any x _ h0 h1).mono ?_
    rintro e w1 ⟨rfl, hB⟩
    have HB := hide hB
    clear hB
    go_wp2_with fail
    go_returns
    exact ⟨HB.out, by rw [hR.out]; rfl⟩
theorem rserver_any (x : Int) (w : World) (h0 : -9223372036854775808 ≤ x) (h1 : x ≤ 9223372036854775807) :
    Calls Try.prog 9 #[.int .i64 x] w fun e w' => w = w' ∧ e = .returned (.string (server x)) := by
  by_cases hx : x < 1 ∨ 2147483648 < x
  · have hR : Hid (server x = ⟨#[]⟩) := by unfold server; rw [if_pos hx]; rfl
    rcases hx with hx | hx
    all_goals
      go_enter Try.func9, Try.ntmps9
      go_wp2
      all_goals go_returns
      all_goals exact ⟨rfl, by rw [hR.out]; rfl⟩
  · have hR : Hid (server x = ⟨#[95, 112]⟩ ++ text x) := by unfold server; rw [if_neg hx]; rfl
    have ha : 1 ≤ x ∧ x ≤ 2147483648 := by omega
    have hb : (⟨#[95, 112]⟩ : ByteArray).size = 2 := rfl
    have hc : (text x).size ≤ 21 := by
      show (textL x).toArray.size ≤ 21
      rw [List.size_toArray]
      exact textL_length x
    clear hx
    go_enter Try.func9, Try.ntmps9
    go_wp2_with fail
    refine (rtext_any x _ h0 h1).mono ?_
    rintro e w1 ⟨rfl, rfl⟩
    go_wp2_with fail
    go_returns
    exact ⟨rfl, by rw [hR.out]; rfl⟩
theorem rid_any (s : ByteArray) (w : World) :
    Calls Try.prog 7 #[.string s] w fun e w' => w = w' ∧ e = .returned (parseV (idN s)) := by
  by_cases hs : s.size < 3
  · have hR : Hid (parseV (idN s) = .tuple #[.int .i64 0, .bool false]) := by show _ = _; rw [id_short s hs]; rfl
    go_enter Try.func7, Try.ntmps7
    go_wp2
    all_goals go_returns
    all_goals exact ⟨rfl, congrArg Ending.returned hR.out.symm⟩
  have hs2 : 2 ≤ s.size := by omega
  rcases hh : hp s with _ | _
  · have hR : Hid (parseV (idN s) = .tuple #[.int .i64 0, .bool false]) := by unfold idN; rw [hh]; rfl
    have hraw := hp_raw s hs2
    rw [hh] at hraw
    clear hh
    go_enter Try.func7, Try.ntmps7
    go_wp2
    all_goals go_returns
    all_goals exact ⟨rfl, congrArg Ending.returned hR.out.symm⟩
  have hraw := hp_raw s hs2
  rw [hh] at hraw
  have htl := tl_raw s hs2 hh
  rcases hq : parseN (tl s) 2147483648 with _ | n
  · have hR : Hid (parseV (idN s) = .tuple #[.int .i64 0, .bool false]) := by unfold idN; rw [hh, hq]; rfl
    have Hq : Hid (parseV (parseN (tl s) 2147483648) = .tuple #[.int .i64 0, .bool false]) := by rw [hq]; rfl
    clear hh hq
    go_enter Try.func7, Try.ntmps7
    go_wp2_with fail
    refine (rparse_any (tl s) _ _).mono ?_
    rintro e w1 ⟨rfl, rfl⟩
    rw [Hq.out]
    go_wp2_with fail
    go_returns
    exact ⟨rfl, congrArg Ending.returned hR.out.symm⟩
  · have Hq : Hid (parseV (parseN (tl s) 2147483648) = .tuple #[.int .i64 n, .bool true]) := by rw [hq]; rfl
    have hn := (parse_nonneg _ _ _ hq).1
    by_cases h0 : n = 0
    · have hR : Hid (parseV (idN s) = .tuple #[.int .i64 0, .bool false]) := by unfold idN; rw [hh, hq]; simp only [h0]; rfl
      subst h0
      clear hh hq
      go_enter Try.func7, Try.ntmps7
      go_wp2_with fail
      refine (rparse_any (tl s) _ _).mono ?_
      rintro e w1 ⟨rfl, rfl⟩
      rw [Hq.out]
      go_wp2_with fail
      go_returns
      exact ⟨rfl, congrArg Ending.returned hR.out.symm⟩
    · have hR : Hid (parseV (idN s) = .tuple #[.int .i64 n, .bool true]) := by
        unfold idN; rw [hh, hq]
        show parseV (if n = 0 then none else some n) = _
        rw [if_neg h0]; rfl
      have h0b : ¬ n < 1 := by omega
      clear hh hq
      go_enter Try.func7, Try.ntmps7
      go_wp2_with fail
      refine (rparse_any (tl s) _ _).mono ?_
      rintro e w1 ⟨rfl, rfl⟩
      rw [Hq.out]
      go_wp2_with fail
      go_returns
      exact ⟨rfl, congrArg Ending.returned hR.out.symm⟩

end Go.Proofs.Ythcmceemimkgiaa
