/-
  What the reference's Clean and Quote compute. No condition.
-/
import Derived.Test.YtmmphffinnpkmaaRParse
import Derived.Laws.IdiomStrings
namespace Go.Proofs.Ytmmphffinnpkmaa
open Go.RowKit
set_option linter.unusedVariables false
set_option linter.unusedSimpArgs false

/-- No byte 0 among the r bytes from byte k on. -/
def cleanN (s : ByteArray) : Nat → Nat → Bool
  | 0, _ => true
  | r + 1, k => if sb s k = 0 then false else cleanN s r (k + 1)
theorem cleanN_eq (s : ByteArray) (r k : Nat) (h : k + r = s.size) : cleanN s r k = decide (Lib.indexByte (s.data.toList.drop k) 0 < 0) := by
  induction r generalizing k with
  | zero =>
    rw [List.drop_eq_nil_of_le (by rw [Array.length_toList]; show s.size ≤ k; omega)]; rfl
  | succ r ih =>
    have hk : k < s.data.toList.length := by rw [Array.length_toList]; show k < s.size; omega
    rw [List.drop_eq_getElem_cons hk, cleanN, Lib.indexByte]
    have e : sb s k = ((s.data.toList[k]'hk).toNat : Int) := by
      unfold sb; rw [List.getD_eq_getElem?_getD, List.getElem?_eq_getElem hk]; rfl
    rw [e]
    by_cases h0 : s.data.toList[k]'hk = 0
    · rw [h0]; rfl
    · have h1 : ¬ ((s.data.toList[k]'hk).toNat : Int) = 0 := by
        intro h; exact h0 (UInt8.toNat.inj (show _ = 0 by omega))
      have h2 : (s.data.toList[k]'hk == 0) = false := by simpa using h0
      rw [if_neg h1, h2, ih (k + 1) (by omega)]
      have hge := Lib.indexByte_ge (s.data.toList.drop (k + 1)) 0
      by_cases h3 : Lib.indexByte (s.data.toList.drop (k + 1)) 0 = -1
      · rw [h3]; rfl
      · have h4 : (Lib.indexByte (s.data.toList.drop (k + 1)) 0 == -1) = false := by simpa using h3
        rw [h4]
        simp only [Bool.false_eq_true, if_false]
        congr 1
        apply propext
        constructor <;> intro h <;> omega
theorem clean_eq (s : ByteArray) : cleanN s s.size 0 = clean s := by
  rw [cleanN_eq s s.size 0 (by omega), List.drop_zero]; rfl

theorem rclean_any (s : ByteArray) (w : World) (hs : s.size ≤ 1048576) :
    Calls Try.prog 11 #[.string s] w fun e w' => w = w' ∧ e = .returned (.bool (clean s)) := by
  have Hcl := hide (clean_eq s)
  go_enter Try.func11, Try.ntmps11
  go_wp2_with fail
  go_loop [3] (fun i => ∃ (k r : Nat), i = .int .i64 k ∧ Hid (k + r = s.size) ∧ k + r ≤ 1048576 ∧ Hid (cleanN s r k = clean s)) (fun i => (s.size - (intOf i).toNat))
  case atStart => exact ⟨0, s.size, rfl, Nat.zero_add _, by omega, Hcl.out⟩
  case round =>
    obtain ⟨k, r, rfl, Hkr, hkr, Hc⟩ := hrel
    rcases r with _ | r
    · have hk : ¬ (k : Int) < s.size := by have := Hkr.out; omega
      have Hc2 : Hid (clean s = true) := Hc.out.symm
      go_wp2
      go_returns
      exact ⟨rfl, congrArg (fun b => Ending.returned (.bool b)) Hc2.out.symm⟩
    · have hk : (k : Int) < s.size := by have := Hkr.out; omega
      have hkn : k < s.size := by omega
      have hg := sb_get s k hkn
      by_cases h0 : sb s k = 0
      · have Hc2 : Hid (clean s = false) := by show _ = _; rw [← Hc.out, cleanN, if_pos h0]
        rw [h0] at hg
        go_wp2
        go_returns
        exact ⟨rfl, congrArg (fun b => Ending.returned (.bool b)) Hc2.out.symm⟩
      · have Hc2 : Hid (cleanN s r (k + 1) = clean s) := by show _ = _; rw [← Hc.out, cleanN, if_neg h0]
        have h0b : (sb s k == 0) = false := by simpa using h0
        go_wp2_with fail
        go_round
        case rel => exact ⟨k + 1, r, rfl, by have := Hkr.out; show k + 1 + r = _; omega, by omega, Hc2⟩
        case measure => simp [intOf]; omega

/-- A made slice of one byte, as a text. -/
theorem mark_text (w : World) (t : TypeId) : (convert 31 9 (.slice (some ⟨w.heap.size, 0, none⟩) 1 1)).run Try.prog (w.alloc (.cells #[.int .u8 34] t)) = .ok (.string ⟨#[34]⟩) (w.alloc (.cells #[.int .u8 34] t)) := by
  refine run_convert_bytes_back _ 31 9 5 ⟨w.heap.size, 0, none⟩ 1 [34] Try.underlying31 Try.underlying5 Try.underlying9 ?_
  intro j hj
  have hj0 : j = 0 := by simp at hj; exact hj
  subst hj0
  show (w.alloc _).cell? ⟨w.heap.size, 0, none⟩ = _
  rw [World.cell?_alloc_new]
  rfl
theorem rquote_any (s : ByteArray) (w : World) (hs : s.size ≤ 1048576) :
    Calls Try.prog 13 #[.string s] w fun e w' => Below w.heap.size w w' ∧ e = .returned (.string (⟨#[34]⟩ ++ s ++ ⟨#[34]⟩)) := by
  have h1 : ((⟨#[34]⟩ : ByteArray)).size = 1 := rfl
  have h2 : ((⟨#[34]⟩ : ByteArray) ++ s).size = 1 + s.size := by rw [ByteArray.size_append]; rfl
  go_enter Try.func13, Try.ntmps13
  go_wp2_with fail
  rw [mark_text]
  simp only [Result.andThen]
  rw [Oper.upon_value]
  generalize hW1 : w.alloc (.cells #[.int .u8 34] 5) = W1
  have HB : Hid (Below w.heap.size w W1) := by subst hW1; exact (Below.refl _ _).alloc (Nat.le_refl _) _
  have hwb := HB.out.size
  clear hW1
  go_wp2_with fail
  rw [mark_text]
  simp only [Result.andThen]
  rw [Oper.upon_value]
  go_wp2_with fail
  go_returns
  exact ⟨HB.out.alloc hwb _, rfl⟩

end Go.Proofs.Ytmmphffinnpkmaa
