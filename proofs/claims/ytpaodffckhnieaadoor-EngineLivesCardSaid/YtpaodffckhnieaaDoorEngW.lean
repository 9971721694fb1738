/-
  Rows of cells; rows that are told by numbers. No condition but on lengths.
-/
import Derived.Test.YtpaodffckhnieaaDoorEngV
import Derived.Test.YtpaodffckhnieaaDoorRef02
import Derived.Lib.SliceRun
namespace Go.Proofs.YtpaodffckhnieaaDoor
open Go.RowKit Go.Maps
set_option linter.unusedVariables false
set_option linter.unusedSimpArgs false
set_option maxRecDepth 100000

/-- Slice v is the bytes L; they lie in no block g. -/
def BytesX (g : Option Nat) (W : World) (v : Value) (L : List UInt8) : Prop :=
  ∃ a cap, v = .slice a L.length cap ∧ (L = [] ∨ ∃ b off, a = some ⟨b, off, none⟩ ∧ g ≠ some b ∧ b < W.heap.size ∧ ∀ j, j < L.length → W.cell? ⟨b, off + j, none⟩ = some (.int .u8 (L.getD j 0).toNat))
def BytesAt (W : World) (v : Value) (L : List UInt8) : Prop := BytesX none W v L
theorem BytesX.any {g : Option Nat} {W : World} {v : Value} {L : List UInt8} (h : BytesX g W v L) : BytesAt W v L := by
  obtain ⟨a, cap, rfl, h⟩ := h
  refine ⟨a, cap, rfl, h.imp id ?_⟩
  rintro ⟨b, off, rfl, _, h1, h2⟩
  exact ⟨b, off, rfl, by simp, h1, h2⟩
theorem BytesX.below {g : Option Nat} {W W' : World} {v : Value} {L : List UInt8} (h : BytesX g W v L) (hb : Below W.heap.size W W') : BytesX g W' v L := by
  obtain ⟨a, cap, rfl, h⟩ := h
  refine ⟨a, cap, rfl, h.imp id ?_⟩
  rintro ⟨b, off, rfl, h0, h1, h2⟩
  exact ⟨b, off, rfl, h0, Nat.lt_of_lt_of_le h1 hb.size, fun j hj => (hb.cell (p := ⟨b, off + j, none⟩) h1).trans (h2 j hj)⟩
def gr (R : List (Bool × List UInt8)) (j : Nat) : Bool × List UInt8 := R.getD j default
/-- Slice v is a row of cells. -/
def RowAt (W : World) (v : Value) (R : List (Bool × List UInt8)) : Prop :=
  ∃ a cap, v = .slice a R.length cap ∧ (R = [] ∨ ∃ b off, a = some ⟨b, off, none⟩ ∧ b < W.heap.size ∧ ∀ j, j < R.length → ∃ u, W.cell? ⟨b, off + j * 2, none⟩ = some (.bool (gr R j).1) ∧ W.cell? ⟨b, off + j * 2 + 1, none⟩ = some u ∧ BytesAt W u (gr R j).2)
theorem RowAt.below {W W' : World} {v : Value} {R : List (Bool × List UInt8)} (h : RowAt W v R) (hb : Below W.heap.size W W') : RowAt W' v R := by
  obtain ⟨a, cap, rfl, h⟩ := h
  refine ⟨a, cap, rfl, h.imp id ?_⟩
  rintro ⟨b, off, rfl, h1, h2⟩
  refine ⟨b, off, rfl, Nat.lt_of_lt_of_le h1 hb.size, fun j hj => ?_⟩
  obtain ⟨u, k1, k2, k3⟩ := h2 j hj
  exact ⟨u, (hb.cell (p := ⟨b, off + j * 2, none⟩) h1).trans k1, (hb.cell (p := ⟨b, off + j * 2 + 1, none⟩) h1).trans k2, k3.below hb⟩
/-- Slice v is N rows. -/
def RowsAt (W : World) (v : Value) (N : Nat) (T : Nat → List (Bool × List UInt8)) : Prop :=
  ∃ a cap, v = .slice a N cap ∧ (N = 0 ∨ ∃ b off, a = some ⟨b, off, none⟩ ∧ b < W.heap.size ∧ ∀ i, i < N → ∃ u, W.cell? ⟨b, off + i, none⟩ = some u ∧ RowAt W u (T i))
theorem RowsAt.below {W W' : World} {v : Value} {N : Nat} {T : Nat → List (Bool × List UInt8)} (h : RowsAt W v N T) (hb : Below W.heap.size W W') : RowsAt W' v N T := by
  obtain ⟨a, cap, rfl, h⟩ := h
  refine ⟨a, cap, rfl, h.imp id ?_⟩
  rintro ⟨b, off, rfl, h1, h2⟩
  refine ⟨b, off, rfl, Nat.lt_of_lt_of_le h1 hb.size, fun j hj => ?_⟩
  obtain ⟨u, k1, k2⟩ := h2 j hj
  exact ⟨u, (hb.cell (p := ⟨b, off + j, none⟩) h1).trans k1, k2.below hb⟩

theorem conv_bytes {W : World} {u : Value} {L : List UInt8} (h : BytesAt W u L) : (convert 61 9 u).run Tryd.prog W = .ok (.string ⟨L.toArray⟩) W := by
  obtain ⟨a, cap, rfl, h⟩ := h
  rcases h with rfl | ⟨b, off, rfl, _, _, hc⟩
  · cases a with
    | some ad => exact run_convert_bytes_back W 61 9 5 ad cap [] Tryd.underlying61 Tryd.underlying5 Tryd.underlying9 fun j hj => absurd hj (Nat.not_lt_zero _)
    | none =>
      rw [run_convert_bytes_string W 61 9 5 none ([] : List UInt8).length cap Tryd.underlying61 Tryd.underlying5 Tryd.underlying9]
      kernel_rfl
  · refine run_convert_bytes_back W 61 9 5 ⟨b, off, none⟩ cap L Tryd.underlying61 Tryd.underlying5 Tryd.underlying9 fun j hj => ?_
    rw [Addr.add_lit, hc j hj, List.getD_eq_getElem?_getD, List.getElem?_eq_getElem hj]; rfl

theorem strs_same (s : ByteArray) : (s.toList == s.toList) = true := by simp
set_option maxHeartbeats 1000000 in
theorem cells_any (u v : Value) (R : List (Bool × List UInt8)) (w : World) (hl : R.length ≤ 1000000) (hu : RowAt w u R) (hv : RowAt w v R) :
    Calls Tryd.prog 27 #[u, v] w fun e w' => e = .returned (.bool true) ∧ Below w.heap.size w w' := by
  obtain ⟨a, cap, rfl, hu⟩ := hu
  obtain ⟨a', cap', rfl, hv⟩ := hv
  have HU := hide hu
  have HV := hide hv
  clear hu hv
  go_enter Tryd.func27, Tryd.ntmps27
  go_wp2_with fail
  go_loopw [5] (fun i wr => ∃ k : Nat, i = .int .i64 k ∧ k ≤ R.length ∧ Below w.heap.size w wr) (fun i _ => (R.length - (intOf i).toNat))
  case atStart => exact ⟨0, rfl, Nat.zero_le _, Below.refl _ _⟩
  case round =>
    obtain ⟨k, rfl, hk, hB⟩ := hrel
    have HB := hide hB
    have hBs := hB.size
    by_cases hkk : k < R.length
    · have hki : (k : Int) < (R.length : Int) := by omega
      have hk0 : (0 : Int) ≤ (k : Int) := by omega
      rcases HU.out with h0 | ⟨b, off, rfl, hb, hc⟩
      · subst h0; simp at hkk
      rcases HV.out with h0 | ⟨b', off', rfl, hb', hc'⟩
      · subst h0; simp at hkk
      obtain ⟨x, c0, c1, cb⟩ := hc k hkk
      obtain ⟨x', d0, d1, db⟩ := hc' k hkk
      rw [← hB.cell hb] at c0 c1
      rw [← hB.cell hb'] at d0 d1
      have cb2 : BytesAt wr x (gr R k).2 := cb.below hB
      have db2 : BytesAt wr x' (gr R k).2 := db.below hB
      have cv : ∀ n, (convert 61 9 x).run Tryd.prog (wr.drewN n) = .ok (.string ⟨(gr R k).2.toArray⟩) (wr.drewN n) := fun n => conv_bytes (W := wr.drewN n) cb2
      have dv : ∀ n, (convert 61 9 x').run Tryd.prog (wr.drewN n) = .ok (.string ⟨(gr R k).2.toArray⟩) (wr.drewN n) := fun n => conv_bytes (W := wr.drewN n) db2
      have hs := strs_same ⟨(gr R k).2.toArray⟩
      have hbb : ∀ y : Bool, (y != y) = false := by simp
      generalize (gr R k).1 = y at c0 d0
      generalize (⟨(gr R k).2.toArray⟩ : ByteArray) = z at cv dv hs
      clear hc hc' hB cb db cb2 db2
      go_wp2_with fail
      go_quiet (fail)
      go_wp2_with fail
      go_roundw
      case rel => exact ⟨k + 1, by go_num, by omega, below_drewN HB.out _⟩
      case measure => simp [intOf]; omega
    · have hki : ¬ (k : Int) < (R.length : Int) := by omega
      clear hB
      go_wp2_with fail
      go_returns
      exact ⟨rfl, HB.out⟩
end Go.Proofs.YtpaodffckhnieaaDoor
