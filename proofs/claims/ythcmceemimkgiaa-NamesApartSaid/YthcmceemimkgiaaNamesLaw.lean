/-
  What names mean: no program in sight. No condition.
-/
import Derived.Test.YthcmceemimkgiaaParseLaw
import Derived.Lib.Strings
namespace Go.Proofs.Ythcmceemimkgiaa
open Go.RowKit
set_option linter.unusedVariables false
set_option linter.unusedSimpArgs false

def hp (s : ByteArray) : Bool := Lib.hasPrefix s.data.toList [95, 112]
def tl (s : ByteArray) : ByteArray := ⟨(Lib.trimPrefix s.data.toList [95, 112]).toArray⟩
def idN (s : ByteArray) : Option Int := if hp s = true then (match parseN (tl s) 2147483648 with | none => none | some n => if n = 0 then none else some n) else none
def server (x : Int) : ByteArray := if x < 1 ∨ 2147483648 < x then ⟨#[]⟩ else ⟨#[95, 112]⟩ ++ text x
def ownN (s : ByteArray) : Bool := (s.toList == [95, 100, 117, 112]) || ((s.toList == [95, 110, 111, 110, 101]) || (idN s).isSome)

theorem hp_raw (s : ByteArray) (h : 2 ≤ s.size) : ((s.extract 0 2).toList == [95, 112]) = hp s := by
  have h1 := Lib.hasPrefix_raw s ⟨#[95, 112]⟩
  have h2 : (⟨#[95, 112]⟩ : ByteArray).size = 2 := rfl
  have h3 : (⟨#[95, 112]⟩ : ByteArray).toList = [95, 112] := by decide +kernel
  rw [h2, h3, decide_eq_true h] at h1
  show _ = Lib.hasPrefix s.data.toList [95, 112]
  simpa using h1
theorem tl_raw (s : ByteArray) (h : 2 ≤ s.size) (hh : hp s = true) : s.extract 2 s.size = tl s := by
  have h1 : Lib.trimPrefix s.data.toList [95, 112] = s.data.toList.drop 2 := by
    unfold Lib.trimPrefix
    rw [if_pos (show Lib.hasPrefix s.data.toList [95, 112] = true from hh)]; rfl
  unfold tl
  rw [h1]
  apply ByteArray.ext
  rw [ByteArray.data_extract]
  apply Array.ext'
  rw [Array.toList_extract, List.extract_eq_take_drop]
  rw [List.take_of_length_le]
  rw [List.length_drop, Array.length_toList]
  exact Nat.le_refl _
theorem id_short (s : ByteArray) (h : s.size < 3) : idN s = none := by
  unfold idN
  split
  · rename_i hh
    have h1 : Lib.trimPrefix s.data.toList [95, 112] = s.data.toList.drop 2 := by
      unfold Lib.trimPrefix
      rw [if_pos (show Lib.hasPrefix s.data.toList [95, 112] = true from hh)]; rfl
    have h2 : tl s = ⟨#[]⟩ := by
      unfold tl
      rw [h1, List.drop_eq_nil_of_le (by rw [Array.length_toList]; show s.size ≤ 2; omega)]
    rw [h2]
    rfl
  · rfl
theorem server_data (x : Int) (h0 : 1 ≤ x) (h1 : x ≤ 2147483648) : (server x).data.toList = 95 :: 112 :: (text x).data.toList := by
  unfold server
  rw [if_neg (by omega), ByteArray.data_append]
  simp
theorem hp_server (x : Int) (h0 : 1 ≤ x) (h1 : x ≤ 2147483648) : hp (server x) = true := by
  unfold hp
  rw [server_data x h0 h1]
  rfl
theorem tl_server (x : Int) (h0 : 1 ≤ x) (h1 : x ≤ 2147483648) : tl (server x) = text x := by
  unfold tl Lib.trimPrefix
  rw [if_pos (show Lib.hasPrefix (server x).data.toList [95, 112] = true from hp_server x h0 h1), server_data x h0 h1]
  rfl
theorem id_server (x : Int) (h0 : 1 ≤ x) (h1 : x ≤ 2147483648) : idN (server x) = some x := by
  unfold idN
  rw [if_pos (hp_server x h0 h1), tl_server x h0 h1, parse_text_most x 2147483648 (by omega) (by omega) h1]
  show (if x = 0 then none else some x) = some x
  rw [if_neg (by omega)]
theorem server_inj (x y : Int) (h0 : 1 ≤ x) (h1 : x ≤ 2147483648) (h2 : 1 ≤ y) (h3 : y ≤ 2147483648) (h : server x = server y) : x = y := by
  have e1 := id_server x h0 h1
  have e2 := id_server y h2 h3
  rw [h, e2] at e1
  injection e1 with e1
  exact e1.symm
theorem server_size (x : Int) : (server x).size ≤ 23 := by
  unfold server
  split
  · exact Nat.zero_le _
  · rw [ByteArray.size_append]
    have h1 : (text x).size ≤ 21 := by
      show (textL x).toArray.size ≤ 21
      rw [List.size_toArray]
      exact textL_length x
    have h2 : (⟨#[95, 112]⟩ : ByteArray).size = 2 := rfl
    omega
theorem server_not (x : Int) (h0 : 1 ≤ x) (h1 : x ≤ 2147483648) (s : ByteArray) (hs : hp s = false) : server x ≠ s := by
  intro h
  rw [← h, hp_server x h0 h1] at hs
  cases hs
theorem id_pos (s : ByteArray) (n : Int) (h : idN s = some n) : 1 ≤ n := by
  unfold idN at h
  split at h
  · rcases hq : parseN (tl s) 2147483648 with _ | m
    · rw [hq] at h; cases h
    · rw [hq] at h
      have h' : (if m = 0 then none else some m) = some n := h
      have := parse_nonneg _ _ _ hq
      split at h'
      · cases h'
      · injection h' with h'; omega
  · cases h

end Go.Proofs.Ythcmceemimkgiaa
