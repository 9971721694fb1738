/-
  What reading digits means: no program in sight. No condition.
-/
import Derived.Test.YtpaodffckhnieaaDoorDigitsPlain
namespace Go.Proofs.YtpaodffckhnieaaDoor
open Go.RowKit
set_option linter.unusedVariables false
set_option linter.unusedSimpArgs false
set_option maxRecDepth 100000

/-- Byte k of a text, as a number. -/
def sb (s : ByteArray) (k : Nat) : Int := ((s.data.toList.getD k 0).toNat : Int)
theorem sb_in (s : ByteArray) (k : Nat) : 0 ≤ sb s k ∧ sb s k ≤ 255 := by
  unfold sb
  have := (s.data.toList.getD k 0).toNat_lt
  omega
theorem sb_get (s : ByteArray) (k : Nat) (h : k < s.size) : ((s[k]'h).toNat : Int) = sb s k := by
  unfold sb
  have e : s.data.toList.getD k 0 = s[k]'h := by
    have h' : k < s.data.size := h
    rw [List.getD_eq_getElem?_getD, Array.getElem?_toList, Array.getElem?_eq_getElem h']
    rfl
  rw [e]
/-- The number that r digits from byte k on make behind m. -/
def runN (s : ByteArray) : Nat → Nat → Int → Option Int
  | 0, _, m => some m
  | r + 1, k, m => if sb s k < 48 ∨ 57 < sb s k then none else runN s r (k + 1) (10 * m + (sb s k - 48))
def parseN (s : ByteArray) (most : Int) : Option Int :=
  if s.size = 0 ∨ 10 < s.size ∨ (sb s 0 = 48 ∧ 1 < s.size) then none
  else match runN s s.size 0 0 with
    | none => none
    | some n => if most < n then none else some n
def parseV (o : Option Int) : Value := .tuple #[.int .i64 (o.getD 0), .bool o.isSome]

end Go.Proofs.YtpaodffckhnieaaDoor
