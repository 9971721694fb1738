/-
  The program's line. No condition.
-/
import Derived.Test.YtlcflajkpkgejaaRepA
namespace Go.Proofs.Ytlcflajkpkgejaa
open Go.RowKit
set_option linter.unusedVariables false
set_option linter.unusedSimpArgs false

/-- Texts of one's own. -/
def strs (l : List ByteArray) : List Value := l.map Value.string
theorem strs_one (l : List ByteArray) (s : ByteArray) : strs l ++ [.string s] = strs (l ++ [s]) := by simp [strs]

theorem line_any (word : ByteArray) (a : Option Addr) (L : List Int) (cap : Nat) (w : World) (h : IntsAt w a L) (hr : InRange L) (hn : L.length ≤ 64) (hw : word.size ≤ 20) :
    Calls Try.prog 16 #[.string word, .slice a L.length cap] w fun e w' => e = .returned (.string (lineB word L)) ∧ Below w.heap.size w w' := by
  obtain ⟨i0, hi, hz0, hz1, hz2⟩ := info_parts infoStr
  have H := hide h
  have HR := hide hr
  clear h hr
  go_enter Try.func16, Try.ntmps16
  go_wp2_with fail
  go_loopw [5, 12] (fun v i wr => ∃ j : Nat, j ≤ L.length ∧ i = .int .i64 j ∧ wr.ownsRow w.heap.size 9 1 v (j + 1) (strs (word :: (L.take j).map text)) ∧ Below w.heap.size w wr) (fun _ i _ => 64 - (intOf i).toNat)
  case atStart =>
    refine ⟨0, Nat.zero_le _, rfl, ?_, ?_⟩
    · exact own_new w 9 #[.string word] (by simp [maxLen])
    · go_grown
  case round =>
    obtain ⟨j, hj, rfl, hown, hB⟩ := hrel
    by_cases hlt : j < L.length
    · have hI := H.out.below hB
      rcases hI with h0 | ⟨b, off, rfl, hbl, hc⟩
      · subst h0; simp at hlt
      have hcj := hc j hlt
      have hrg := HR.out _ (getD_mem hlt)
      have hsn : strs (word :: (L.take (j + 1)).map text) = strs (word :: (L.take j).map text) ++ [.string (text (L.getD j 0))] := by rw [take_snocD hlt, strs_one]; simp
      have HS := hide hsn
      have HB := hide hB
      have Hown := hide hown
      generalize L.getD j 0 = x at hcj hrg HS
      have k0 : (0 : Int) ≤ (j : Int) := by omega
      have k1 : (j : Int) < (L.length : Int) := by omega
      clear hsn hB hc hown
      have Hrg := hide hrg
      clear hrg
      go_wp2_with fail
      refine (text_any x _ Hrg.out.1 Hrg.out.2).mono ?_
      rintro e w1 ⟨rfl, hb1⟩
      have hown1 := own_below Hown.out hb1
      have HB1 := hide (below_via HB.out hb1)
      have hbs := HB1.out.size
      clear hb1
      go_wp2_with (at_builtin; refine wpList_append_one w1 rfl _ _ 28 rfl w.heap.size 9 i0 (.string ByteArray.empty) 1 16 Try.underlying28 hi hz0 hz1 hz2 rfl (by decide) _ _ _ [.string (text x)] hown1 rfl rfl (by simp [Value.oneCell']) rfl (by simp [maxLen]; omega) (by omega) hbs ?_; intro v2 w2 hown2 hb2 _)
      go_roundw
      case rel => exact ⟨j + 1, by omega, by go_num, by rw [HS.out]; exact hown2, HB1.out.trans hb2⟩
      case measure => simp [intOf]; omega
    · have he : L.take j = L := List.take_of_length_le (by omega)
      rw [he] at hown
      obtain rfl : j = L.length := by omega
      obtain ⟨g, c, rfl, hg1, hg2, hg3, hg4, hg5, hg6⟩ := own_form hown (by omega)
      have hsz := lineB_size word L
      have hjoin := lineB_join word L
      have hJ := Try.strings_Join g 0 c (word :: L.map text) ⟨#[32]⟩ wr (fun i x hx => by
        have hlt : i < (word :: L.map text).length := by
          rcases Nat.lt_or_ge i (word :: L.map text).length with h | h
          · exact h
          · rw [List.getElem?_eq_none h] at hx; cases hx
        rw [Nat.zero_add, hg6 i (by simp at hlt; omega), strs, List.getElem?_map, hx]; rfl) hg2 (by simp; omega) (by simp; omega) (by
          have h2 : (lineB word L).size = (Lib.join ((word :: L.map text).map (·.data.toList)) [32]).length := by rw [← hjoin]; simp [ByteArray.size]
          show (Lib.join ((word :: L.map text).map (·.data.toList)) [32]).length ≤ _
          omega)
      rw [show (word :: L.map text).length = L.length + 1 from by simp] at hJ
      have hJ2 : Calls Try.prog 21 #[.slice (some ⟨g, 0, none⟩) (L.length + 1) c, .string ⟨#[32]⟩] wr fun e w' => e = .returned (.string (lineB word L)) ∧ Below wr.heap.size wr w' :=
        hJ.mono fun e w' ⟨he, hb⟩ => ⟨he.trans (congrArg (fun s => Ending.returned (Value.string s)) hjoin), hb⟩
      have HJ := hide hJ2
      have HB := hide hB
      clear hB hown hJ hJ2 hjoin hg6 hg5 he
      go_wp2_with fail
      refine HJ.out.mono ?_
      rintro e w1 ⟨rfl, hb1⟩
      have HB1 := hide (below_via HB.out hb1)
      clear hb1
      go_wp2_with fail
      go_returns
      exact ⟨rfl, HB1.out⟩
end Go.Proofs.Ytlcflajkpkgejaa
