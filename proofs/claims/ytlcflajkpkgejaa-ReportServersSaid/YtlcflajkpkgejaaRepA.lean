/-
  A line: a word and numbers behind it. No condition.
-/
import Derived.Test.YtlcflajkpkgejaaDigits
import Derived.Test.YtlcflajkpkgejaaRef02d
import Derived.Deep.DeepCutAuto
import Derived.Deep.CutBlock
import Derived.Lib.Join
namespace Go.Proofs.Ytlcflajkpkgejaa
open Go.RowKit
set_option linter.unusedVariables false
set_option linter.unusedSimpArgs false

def sp : ByteArray := ⟨#[32]⟩
def lineB (w : ByteArray) : List Int → ByteArray
  | [] => w
  | n :: L => lineB (w ++ sp ++ text n) L
theorem text_size21 (n : Int) : (text n).size ≤ 21 := by
  have := textL_length n
  show (textL n).toArray.size ≤ 21
  rw [List.size_toArray]; exact this
theorem lineB_size (w : ByteArray) (L : List Int) : (lineB w L).size ≤ w.size + 22 * L.length := by
  induction L generalizing w with
  | nil => exact Nat.le_add_right _ _
  | cons n L ih =>
    have h := ih (w ++ sp ++ text n)
    have h2 := text_size21 n
    have h3 : (w ++ sp ++ text n).size = w.size + 1 + (text n).size := by rw [ByteArray.size_append, ByteArray.size_append]; rfl
    simp only [lineB, List.length_cons]
    omega
theorem lineB_snoc (w : ByteArray) (L : List Int) (n : Int) : lineB w (L ++ [n]) = lineB w L ++ sp ++ text n := by
  induction L generalizing w with
  | nil => rfl
  | cons m L ih => exact ih _
theorem lineB_join (w : ByteArray) (L : List Int) : (⟨(Lib.join ((w :: L.map text).map (·.data.toList)) [32]).toArray⟩ : ByteArray) = lineB w L := by
  have h : ∀ (L : List Int) (w : ByteArray), Lib.join ((w :: L.map text).map (·.data.toList)) [32] = (lineB w L).data.toList := by
    intro L
    induction L with
    | nil => intro w; exact Lib.join_one _ _
    | cons n L ih =>
      intro w
      have h1 := ih (w ++ sp ++ text n)
      rw [show lineB w (n :: L) = lineB (w ++ sp ++ text n) L from rfl, ← h1]
      simp only [List.map_cons, Lib.join, List.intercalate, List.intersperse]
      cases L with
      | nil => simp [ByteArray.data_append, sp]
      | cons m L => simp [ByteArray.data_append, sp, List.intersperse]
  rw [h L w]

/-- Integers that lie in a row. -/
def IntsAt (w : World) (a : Option Addr) (L : List Int) : Prop :=
  L = [] ∨ ∃ b off, a = some ⟨b, off, none⟩ ∧ b < w.heap.size ∧ ∀ j, j < L.length → w.cell? ⟨b, off + j, none⟩ = some (.int .i64 (L.getD j 0))
theorem IntsAt.below {w w' : World} {a : Option Addr} {L : List Int} (h : IntsAt w a L) (hb : Below w.heap.size w w') : IntsAt w' a L := by
  rcases h with h | ⟨b, off, e, hlt, hc⟩
  · exact .inl h
  · exact .inr ⟨b, off, e, Nat.lt_of_lt_of_le hlt hb.size, fun j hj => (hb.cell (p := ⟨b, off + j, none⟩) hlt).trans (hc j hj)⟩
theorem IntsAt.of_own {w : World} {base e : Nat} {a : Option Addr} {n cap : Nat} {L : List Int} (h : w.ownsRow base e 1 (.slice a n cap) n (L.map (Value.int .i64))) : IntsAt w a L := by
  have hl : L.length = n := by have := h.1; simpa using this
  by_cases h0 : n = 0
  · left; exact List.length_eq_zero_iff.1 (by omega)
  · obtain ⟨g, c, hv, _, hlt, _, _, _, hc⟩ := own_form h (by omega)
    injection hv with hv _ _
    refine .inr ⟨g, 0, hv, hlt, fun j hj => ?_⟩
    rw [Nat.zero_add, hc j (by omega), List.getElem?_map, List.getElem?_eq_getElem hj, List.getD_eq_getElem?_getD, List.getElem?_eq_getElem hj]; rfl
def InRange (L : List Int) : Prop := ∀ x ∈ L, -9223372036854775808 ≤ x ∧ x ≤ 9223372036854775807
theorem getD_mem {L : List Int} {j : Nat} (h : j < L.length) : L.getD j 0 ∈ L := by
  rw [List.getD_eq_getElem?_getD, List.getElem?_eq_getElem h]; exact List.getElem_mem h
theorem take_snocD {L : List Int} {j : Nat} (h : j < L.length) : L.take (j + 1) = L.take j ++ [L.getD j 0] := by
  rw [List.take_succ_eq_append_getElem h, List.getD_eq_getElem?_getD, List.getElem?_eq_getElem h]; rfl

theorem infoStr : (Try.prog.info? 9).map (fun i => (i.zero, i.size, i.bytes)) = some (some (.string ByteArray.empty), 1, 16) := by kernel_rfl

theorem rline_any (word : ByteArray) (a : Option Addr) (L : List Int) (cap : Nat) (w : World) (h : IntsAt w a L) (hr : InRange L) (hn : L.length ≤ 64) (hw : word.size ≤ 20) :
    Calls Try.prog 17 #[.string word, .slice a L.length cap] w fun e w' => e = .returned (.string (lineB word L)) ∧ Below w.heap.size w w' := by
  have H := hide h
  have HR := hide hr
  clear h hr
  go_enter Try.func17, Try.ntmps17
  go_wp2_with fail
  go_loopw [0, 5] (fun s i wr => ∃ j : Nat, j ≤ L.length ∧ i = .int .i64 j ∧ s = .string (lineB word (L.take j)) ∧ Below w.heap.size w wr) (fun _ i _ => 64 - (intOf i).toNat)
  case atStart => exact ⟨0, Nat.zero_le _, rfl, rfl, Below.refl _ _⟩
  case round =>
    obtain ⟨j, hj, rfl, rfl, hB⟩ := hrel
    by_cases hlt : j < L.length
    · have hI := H.out.below hB
      rcases hI with h0 | ⟨b, off, rfl, hbl, hc⟩
      · subst h0; simp at hlt
      have hcj := hc j hlt
      have hsz := lineB_size word (L.take j)
      have htl : (L.take j).length ≤ j := List.length_take_le _ _
      have hrg := HR.out _ (getD_mem hlt)
      have hsn : lineB word (L.take (j + 1)) = lineB word (L.take j) ++ sp ++ text (L.getD j 0) := by rw [take_snocD hlt, lineB_snoc]
      have HS := hide hsn
      have HB := hide hB
      generalize L.getD j 0 = x at hcj hrg HS
      generalize lineB word (L.take j) = s at hsz HS ⊢
      have hs1 : (s ++ sp).size = s.size + 1 := by rw [ByteArray.size_append]; rfl
      have hs2 : (s ++ sp ++ text x).size = s.size + 1 + (text x).size := by rw [ByteArray.size_append, hs1]
      have ht := text_size21 x
      have k0 : (0 : Int) ≤ (j : Int) := by omega
      have k1 : (j : Int) < (L.length : Int) := by omega
      have hsp : (⟨#[32]⟩ : ByteArray) = sp := rfl
      have hspz : sp.size = 1 := rfl
      have hss : s.size ≤ 2000 := by omega
      clear hsz
      clear hsn hB hc
      have Hrg := hide hrg
      clear hrg
      go_wp2_with fail
      refine (rtext_any x _ Hrg.out.1 Hrg.out.2).mono ?_
      rintro e w1 ⟨rfl, rfl⟩
      go_wp2_with fail
      go_roundw
      case rel => exact ⟨j + 1, by omega, by go_num, by rw [HS.out], HB.out⟩
      case measure => simp [intOf]; omega
    · have he : L.take j = L := List.take_of_length_le (by omega)
      rw [he]
      have HB := hide hB
      clear hB he
      go_wp2_with fail
      go_returns
      exact ⟨rfl, HB.out⟩
end Go.Proofs.Ytlcflajkpkgejaa
