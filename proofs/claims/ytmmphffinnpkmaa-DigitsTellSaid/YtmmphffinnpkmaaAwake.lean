/-
  What Clean and Quote compute, and the law's own guard. No condition.
-/
import Derived.Test.YtmmphffinnpkmaaParse
import Derived.Test.YtmmphffinnpkmaaParseLaw
namespace Go.Proofs.Ytmmphffinnpkmaa
open Go.RowKit
set_option linter.unusedVariables false
set_option linter.unusedSimpArgs false

/-- A text without byte 0. -/
def clean (s : ByteArray) : Bool := decide (Lib.indexByte s.data.toList 0 < 0)
theorem clean_any (s : ByteArray) (w : World) :
    Calls Try.prog 10 #[.string s] w fun e w' => w = w' ∧ e = .returned (.bool (clean s)) := by
  go_enter Try.func10, Try.ntmps10
  go_wp2_with fail
  refine (Try.strings_IndexByte s 0 _).mono ?_
  rintro e w1 ⟨rfl, rfl⟩
  go_wp2_with fail
  go_returns
  exact ⟨rfl, rfl⟩
theorem quote_any (s : ByteArray) (w : World) (hs : s.size ≤ 1048576) :
    Calls Try.prog 12 #[.string s] w fun e w' => w = w' ∧ e = .returned (.string (⟨#[34]⟩ ++ s ++ ⟨#[34]⟩)) := by
  go_enter Try.func12, Try.ntmps12
  have h1 : ((⟨#[34]⟩ : ByteArray)).size = 1 := rfl
  have h2 : ((⟨#[34]⟩ : ByteArray) ++ s).size = 1 + s.size := by rw [ByteArray.size_append]; rfl
  go_wp2_with fail
  go_returns
  exact ⟨rfl, rfl⟩
theorem parse_120 : parseV (parseN ⟨#[49, 50, 48]⟩ 200) = .tuple #[.int .i64 120, .bool true] := congrArg parseV (show parseN ⟨#[49, 50, 48]⟩ 200 = some 120 by decide +kernel)
theorem text_12 : text (-12) = ⟨#[45, 49, 50]⟩ := by decide +kernel
theorem clean_a : clean ⟨#[97]⟩ = true := by decide +kernel
theorem quote_a : ((⟨#[34]⟩ : ByteArray) ++ ⟨#[97]⟩ ++ ⟨#[34]⟩) = ⟨#[34, 97, 34]⟩ := by decide +kernel
theorem awake_any (w : World) : Calls Try.prog 5 #[] w fun e w' => e = .returned (.bool true) ∧ Below w.heap.size w w' := by
  go_enter Try.func5, Try.ntmps5
  go_wp2_with fail
  refine (parse_any _ _ _).mono ?_
  rintro e w1 ⟨rfl, rfl⟩
  rw [parse_120]
  go_wp2_with fail
  refine (text_any _ _ (by decide) (by decide)).mono ?_
  rintro e w1 ⟨rfl, hB⟩
  rw [text_12]
  have HB := hide hB
  clear hB
  go_wp2_with fail
  refine (clean_any _ _).mono ?_
  rintro e w2 ⟨rfl, rfl⟩
  rw [clean_a]
  go_wp2_with fail
  refine (quote_any _ _ (by decide)).mono ?_
  rintro e w3 ⟨rfl, rfl⟩
  rw [quote_a]
  go_wp2_with fail
  go_returns
  exact ⟨rfl, HB.out⟩

end Go.Proofs.Ytmmphffinnpkmaa
