/-
  Plain facts on digits of numbers: no program in sight. No condition.
-/
import Derived.Test.YtpaodffckhnieaaDoorKit
namespace Go.Proofs.YtpaodffckhnieaaDoor
open Go.RowKit
set_option linter.unusedVariables false
set_option linter.unusedSimpArgs false
set_option maxRecDepth 100000

/-- The last digit, as a byte. -/
def dg (n : Nat) : UInt8 := UInt8.ofNat (48 + n % 10)
theorem dg_toNat (n : Nat) : (dg n).toNat = 48 + n % 10 := by
  unfold dg
  rw [UInt8.toNat_ofNat']
  omega
/-- The digits, from the first one on; at most f of them. -/
def digF : Nat → Nat → List UInt8
  | 0, _ => []
  | f + 1, n => if n < 10 then [dg n] else digF f (n / 10) ++ [dg n]
/-- The digits, from the last one on. -/
def revF : Nat → Nat → List UInt8
  | 0, _ => []
  | f + 1, n => dg n :: (if n < 10 then [] else revF f (n / 10))
theorem revF_eq (f n : Nat) : revF f n = (digF f n).reverse := by
  induction f generalizing n with
  | zero => rfl
  | succ f ih =>
    unfold revF digF
    split
    · rfl
    · rw [ih]; simp
theorem digF_length (f n : Nat) : (digF f n).length ≤ f := by
  induction f generalizing n with
  | zero => simp [digF]
  | succ f ih =>
    unfold digF
    split
    · simp
    · have := ih (n / 10); simp; omega
/-- More room turns nothing. -/
theorem digF_more (f g n : Nat) (h : n < 10 ^ f) (hf : 1 ≤ f) (hg : f ≤ g) : digF g n = digF f n := by
  induction f generalizing g n with
  | zero => omega
  | succ f ih =>
    obtain ⟨g', rfl⟩ : ∃ g', g = g' + 1 := ⟨g - 1, by omega⟩
    unfold digF
    split
    · rfl
    · rename_i hn
      have h1 : n / 10 < 10 ^ f := by
        rw [Nat.pow_succ] at h; omega
      have h2 : 1 ≤ f := by
        rcases Nat.eq_zero_or_pos f with h0 | h0
        · subst h0; simp at h; omega
        · exact h0
      rw [ih g' (n / 10) h1 h2 (by omega)]

def dig (n : Nat) : List UInt8 := digF 20 n
theorem dig_small (n : Nat) (h : n < 10) : dig n = [dg n] := by unfold dig digF; rw [if_pos h]
theorem dig_step (n : Nat) (h : 10 ≤ n) (hn : n < 10 ^ 20) : dig n = dig (n / 10) ++ [dg n] := by
  unfold dig
  rw [show (20 : Nat) = 19 + 1 from rfl]
  rw [digF, if_neg (by omega)]
  have : n / 10 < 10 ^ 19 := by
    rw [show (10 : Nat) ^ 20 = 10 ^ 19 * 10 from rfl] at hn; omega
  rw [digF_more 19 (19 + 1) (n / 10) this (by omega) (by omega)]
theorem dig_ne (n : Nat) : dig n ≠ [] := by
  unfold dig digF; split <;> simp

/-- A number's text: with a sign ahead where it is below 0. -/
def textL (n : Int) : List UInt8 := if n < 0 then 45 :: dig n.natAbs else dig n.natAbs
def text (n : Int) : ByteArray := ⟨(textL n).toArray⟩
theorem textL_pos (n : Int) : 0 < (textL n).length := by
  unfold textL
  have := List.length_pos_iff.2 (dig_ne n.natAbs)
  split
  · simp
  · exact this
theorem textL_length (n : Int) : (textL n).length ≤ 21 := by
  unfold textL
  have := digF_length 20 n.natAbs
  split
  · simp only [List.length_cons]; show (digF 20 n.natAbs).length + 1 ≤ 21; omega
  · show (digF 20 n.natAbs).length ≤ 21; omega

end Go.Proofs.YtpaodffckhnieaaDoor
