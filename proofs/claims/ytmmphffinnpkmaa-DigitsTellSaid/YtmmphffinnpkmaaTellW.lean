/-
  What DigitsTell computes. No condition.
-/
import Derived.Test.YtmmphffinnpkmaaRClean
namespace Go.Proofs.Ytmmphffinnpkmaa
open Go.RowKit
set_option linter.unusedVariables false
set_option linter.unusedSimpArgs false

theorem parseV_eq (o : Option Int) : ∃ (n : Int) (b : Bool), parseV o = .tuple #[.int .i64 n, .bool b] := ⟨_, _, rfl⟩

set_option maxHeartbeats 1000000 in
theorem tell_any (x most : Int) (s : ByteArray) (w : World) (h0 : -9223372036854775808 ≤ x) (h1 : x ≤ 9223372036854775807) :
    Calls Try.prog 3 #[.int .i64 x, .int .i64 most, .string s] w fun e w' => e = .returned (.bool true) ∧ Below w.heap.size w w' := by
  by_cases hs : 2000 < s.size
  · go_enter Try.func3, Try.ntmps3
    go_wp2_with fail
    refine (awake_any _).mono ?_
    rintro e w1 ⟨rfl, hB⟩
    have HB := hide hB
    clear hB
    go_wp2_with fail
    go_returns
    exact ⟨rfl, HB.out⟩
  · obtain ⟨n, b, hp⟩ := parseV_eq (parseN s most)
    have Hp := hide hp
    clear hp
    have hss : ∀ a : ByteArray, (a.toList == a.toList) = true := fun a => by simp
    have Hss := hide hss
    clear hss
    go_enter Try.func3, Try.ntmps3
    go_wp2_with fail
    refine (parse_any s most _).mono ?_
    rintro e w1 ⟨rfl, rfl⟩
    rw [Hp.out]
    go_wp2_with fail
    refine (rparse_any s most _).mono ?_
    rintro e w1 ⟨rfl, rfl⟩
    rw [Hp.out]
    go_wp2_with fail
    refine (text_any x _ h0 h1).mono ?_
    rintro e w1 ⟨rfl, hB⟩
    have HB := hide hB
    clear hB
    go_wp2_with fail
    refine (rtext_any x _ h0 h1).mono ?_
    rintro e w2 ⟨rfl, rfl⟩
    have ht := Hss.out (text x)
    generalize text x = t at *
    go_wp2_with fail
    refine (clean_any s _).mono ?_
    rintro e w2 ⟨rfl, rfl⟩
    go_wp2_with fail
    refine (rclean_any s _ (by omega)).mono ?_
    rintro e w2 ⟨rfl, rfl⟩
    generalize clean s = c at *
    clear ht
    go_wp2_with fail
    refine (quote_any s _ (by omega)).mono ?_
    rintro e w2 ⟨rfl, rfl⟩
    go_wp2_with fail
    refine (rquote_any s _ (by omega)).mono ?_
    rintro e w2 ⟨hB2, rfl⟩
    have HB2 := hide hB2
    clear hB2
    have ht := Hss.out (⟨#[34]⟩ ++ s ++ ⟨#[34]⟩)
    generalize (⟨#[34]⟩ ++ s ++ ⟨#[34]⟩ : ByteArray) = t2 at *
    go_wp2_with fail
    refine (awake_any _).mono ?_
    rintro e w3 ⟨rfl, hB3⟩
    have HB3 := hide hB3
    clear hB3
    go_wp2_with fail
    go_returns
    exact ⟨rfl, below_via (below_via HB.out HB2.out) HB3.out⟩

end Go.Proofs.Ytmmphffinnpkmaa
