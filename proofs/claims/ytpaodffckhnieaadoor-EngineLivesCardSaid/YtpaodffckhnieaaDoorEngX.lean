/-
  Rows compared; rows by their numbers. No condition but on lengths.
-/
import Derived.Test.YtpaodffckhnieaaDoorEngW
import Derived.Test.YtpaodffckhnieaaDoorDigits
import Derived.Lib.ConvBytes
namespace Go.Proofs.YtpaodffckhnieaaDoor
open Go.RowKit Go.Maps
set_option linter.unusedVariables false
set_option linter.unusedSimpArgs false
set_option maxRecDepth 100000

set_option maxHeartbeats 1000000 in
theorem rows_same (u v : Value) (M : Nat) (T : Nat → List (Bool × List UInt8)) (w : World) (hl : M ≤ 1000000) (hT : ∀ i, i < M → (T i).length ≤ 1000000) (hu : RowsAt w u M T) (hv : RowsAt w v M T) :
    Calls Tryd.prog 15 #[u, v] w fun e w' => e = .returned (.bool true) ∧ Below w.heap.size w w' := by
  obtain ⟨a, cap, rfl, hu⟩ := hu
  obtain ⟨a', cap', rfl, hv⟩ := hv
  have HU := hide hu
  have HV := hide hv
  have HT := hide hT
  clear hu hv hT
  go_enter Tryd.func15, Tryd.ntmps15
  go_wp2_with fail
  go_loopw [13] (fun i wr => ∃ k : Nat, i = .int .i64 k ∧ k ≤ M ∧ Below w.heap.size w wr) (fun i _ => (M - (intOf i).toNat))
  case atStart => exact ⟨0, rfl, Nat.zero_le _, Below.refl _ _⟩
  case round =>
    obtain ⟨k, rfl, hk, hB⟩ := hrel
    have HB := hide hB
    have hBs := hB.size
    by_cases hkk : k < M
    · have hki : (k : Int) < (M : Int) := by omega
      have hk0 : (0 : Int) ≤ (k : Int) := by omega
      rcases HU.out with h0 | ⟨b, off, rfl, hb, hc⟩
      · omega
      rcases HV.out with h0 | ⟨b', off', rfl, hb', hc'⟩
      · omega
      obtain ⟨x, c0, cb⟩ := hc k hkk
      obtain ⟨x', d0, db⟩ := hc' k hkk
      rw [← hB.cell hb] at c0
      rw [← hB.cell hb'] at d0
      have g0 : ∀ N : Aft wr, N.out.cell? ⟨b, off + k, none⟩ = some x := fun N => N.cell c0
      have g1 : ∀ N : Aft wr, N.out.cell? ⟨b', off' + k, none⟩ = some x' := fun N => N.cell d0
      have hP : ∀ N : Aft wr, Calls Tryd.prog 27 #[x, x'] N.out fun e w' => e = .returned (.bool true) ∧ Below N.out.heap.size N.out w' := fun N => cells_any x x' (T k) _ (HT.out k hkk) ((cb.below hB).below N.below) ((db.below hB).below N.below)
      clear hc hc' hB cb db c0 d0
      go_upto_region 6 with fail
      refine wp_region_aft (by kernel_rfl) (by kernel_rfl) ?_
      repeat (first
        | go_big_quiet_skip
        | (go_big_quiet_want; go_big_quiet_op; first
           | go_big_quiet_on
           | (apply Exists.intro
              refine ⟨fun N => ?_, ?_⟩
              · (go_at_call 27; exact Calls.aft N (hP _))
              go_big_quiet_on)))
      refine wpQuiet_nil ?_
      rintro w' ⟨N, rfl⟩
      have HB3 := hide (HB.out.trans (N.below.mono hBs))
      generalize N.out = W3 at HB3 ⊢
      clear g0 g1 hP
      go_wp2_with fail
      go_roundw
      case rel => exact ⟨k + 1, by go_num, by omega, HB3.out⟩
      case measure => simp [intOf]; omega
    · have hki : ¬ (k : Int) < (M : Int) := by omega
      clear hB
      go_wp2_with fail
      go_returns
      exact ⟨rfl, HB.out⟩

def heldN (n : Int) : Nat := (min (max n 0) 1000).toNat
theorem heldN_le (n : Int) : heldN n ≤ 1000 := by unfold heldN; omega
theorem held_any (n : Int) (w : World) : Calls Tryd.prog 65 #[.int .i64 n] w fun e w' => e = .returned (.int .i64 (heldN n)) ∧ w = w' := by
  by_cases h0 : n < 0
  · have HE : Hid (((heldN n : Nat) : Int) = 0) := by show _ = _; unfold heldN; omega
    have h0' : ¬ (0 : Int) ≤ n := by omega
    have h1 : max n 0 = 0 := by omega
    go_enter Tryd.func65, Tryd.ntmps65
    go_wp2_with fail
    all_goals first
      | (exfalso; omega)
      | (go_returns; exact ⟨by rw [HE.out]; first | rfl | (simp; omega), rfl⟩)
  · by_cases h1 : n ≤ 1000
    · have HE : Hid (((heldN n : Nat) : Int) = n) := by show _ = _; unfold heldN; omega
      go_enter Tryd.func65, Tryd.ntmps65
      go_wp2_with fail
      all_goals first
        | (exfalso; omega)
        | (go_returns; exact ⟨by rw [HE.out]; first | rfl | (simp; omega), rfl⟩)
    · have HE : Hid (((heldN n : Nat) : Int) = 1000) := by show _ = _; unfold heldN; omega
      go_enter Tryd.func65, Tryd.ntmps65
      go_wp2_with fail
      all_goals first
        | (exfalso; omega)
        | (go_returns; exact ⟨by rw [HE.out]; first | rfl | (simp; omega), rfl⟩)
theorem rheld_any (n : Int) (w : World) : Calls Tryd.prog 49 #[.int .i64 n] w fun e w' => e = .returned (.int .i64 (heldN n)) ∧ w = w' := by
  by_cases h0 : n < 0
  · have HE : Hid (((heldN n : Nat) : Int) = 0) := by show _ = _; unfold heldN; omega
    have h0' : ¬ (0 : Int) ≤ n := by omega
    have h1 : max n 0 = 0 := by omega
    go_enter Tryd.func49, Tryd.ntmps49
    go_wp2_with fail
    all_goals first
      | (exfalso; omega)
      | (go_returns; exact ⟨by rw [HE.out]; first | rfl | (simp; omega), rfl⟩)
  · by_cases h1 : n ≤ 1000
    · have HE : Hid (((heldN n : Nat) : Int) = n) := by show _ = _; unfold heldN; omega
      go_enter Tryd.func49, Tryd.ntmps49
      go_wp2_with fail
      all_goals first
        | (exfalso; omega)
        | (go_returns; exact ⟨by rw [HE.out]; first | rfl | (simp; omega), rfl⟩)
    · have HE : Hid (((heldN n : Nat) : Int) = 1000) := by show _ = _; unfold heldN; omega
      go_enter Tryd.func49, Tryd.ntmps49
      go_wp2_with fail
      all_goals first
        | (exfalso; omega)
        | (go_returns; exact ⟨by rw [HE.out]; first | rfl | (simp; omega), rfl⟩)

/-- A row that stays a row whatever turns but rows of rows. -/
def RowK (W : World) (u : Value) (R : List (Bool × List UInt8)) : Prop := ∀ W', Lib.OthersKept 27 none W W' → RowAt W' u R
theorem RowK.row {W : World} {u : Value} {R : List (Bool × List UInt8)} (h : RowK W u R) : RowAt W u R := h W (Lib.OthersKept.refl _ _ _)
theorem RowK.kept {W W' : World} {u : Value} {R : List (Bool × List UInt8)} (h : RowK W u R) (hk : Lib.OthersKept 27 none W W') : RowK W' u R := fun W'' h2 => h W'' (hk.trans h2)
theorem others_below {e : TypeId} {b : Option Nat} {W W' : World} (h : Below W.heap.size W W') : Lib.OthersKept e b W W' := fun k o hk _ _ => (h.block k (Array.getElem?_eq_some_iff.1 hk).1).trans hk
theorem RowK.below {W W' : World} {u : Value} {R : List (Bool × List UInt8)} (h : RowK W u R) (hb : Below W.heap.size W W') : RowK W' u R := h.kept (others_below hb)
theorem rowK_made {W : World} {g1 g2 cap : Nat} {L : List UInt8} {cs : Array Value} {fz : Nat × Nat} (h1 : Blk W g1 64 #[.bool false, .slice (some ⟨g2, 0, none⟩) L.length cap]) (h2 : W.heap[g2]? = some (.cells cs 5 fz))
    (hc : ∀ j, j < L.length → cs[j]? = some (.int .u8 (L.getD j 0).toNat)) : RowK W (.slice (some ⟨g1, 0, none⟩) 1 1) [(false, L)] := by
  intro W' hk
  have k1 : Blk W' g1 64 #[.bool false, .slice (some ⟨g2, 0, none⟩) L.length cap] := hk g1 _ h1 (by simp) (fun c fz e => by cases e)
  have k2 : W'.heap[g2]? = some (.cells cs 5 fz) := hk g2 _ h2 (by simp) (fun c fz e => by cases e)
  refine ⟨_, 1, rfl, .inr ⟨g1, 0, rfl, k1.lt, fun j hj => ?_⟩⟩
  have hj0 : j = 0 := by
    have : j < 1 := hj
    omega
  subst hj0
  refine ⟨_, k1.cell 0, k1.cell 1, _, cap, rfl, .inr ⟨g2, 0, rfl, by simp, (Array.getElem?_eq_some_iff.1 k2).1, fun j hj => ?_⟩⟩
  rw [Nat.zero_add, cell_of_row W' g2 j cs 5 fz k2]
  exact hc j hj
/-- The row of a number. -/
def numR (x : Int) : List (Bool × List UInt8) := [(false, textL x)]
theorem bytes_row {w : World} (s : ByteArray) (L : List UInt8) (hL : s = ⟨L.toArray⟩) : ∃ cs fz, (Lib.bytesWorld w 5 s).heap[w.heap.size]? = some (.cells cs 5 fz) ∧ ∀ j, j < L.length → cs[j]? = some (.int .u8 (L.getD j 0).toNat) := by
  refine ⟨_, _, Lib.bytesWorld_at_new w 5 s, fun j hj => ?_⟩
  have h := Lib.bytesWorld_cell w 5 s j (by rw [hL]; show j < L.toArray.size; rw [List.size_toArray]; exact hj)
  rw [cell_of_row _ _ j _ 5 _ (Lib.bytesWorld_at_new w 5 s)] at h
  rw [h, hL]
theorem text_sz (x : Int) : (text x).size = (textL x).length := by show (textL x).toArray.size = _; rw [List.size_toArray]

theorem row_any (x : Int) (w : World) (h0 : -9223372036854775808 ≤ x) (h1 : x ≤ 9223372036854775807) :
    Calls Tryd.prog 43 #[.int .i64 x] w fun e w' => ∃ u, e = .returned u ∧ RowK w' u (numR x) ∧ Below w.heap.size w w' ∧ (∃ a, u = .slice a 1 1) := by
  have Hz := hide (text_sz x)
  go_enter Tryd.func43, Tryd.ntmps43
  go_wp2_with fail
  refine (text_any x _ h0 h1).mono ?_
  rintro e w1 ⟨rfl, hb1⟩
  have HB1 := hide hb1
  clear hb1
  go_wp2_with fail
  rw [Lib.run_convert_string_bytes _ _ _ 5 _ Tryd.underlying9 Tryd.underlying61 Tryd.underlying5]
  simp only [Result.andThen]
  rw [Oper.upon_value, Hz.out]
  obtain ⟨cs, fz, k1, k2⟩ := bytes_row (w := w1) (text x) (textL x) rfl
  have hB : Below w1.heap.size w1 (Lib.bytesWorld w1 5 (text x)) := bytesWorld_below _ _ _
  generalize Lib.bytesWorld w1 5 (text x) = W at k1 hB ⊢
  generalize grownCap w1 (textL x).length 0 5 = cp
  have HK1 := hide k1
  have HK2 := hide k2
  have HB := hide (below_via HB1.out hB)
  clear k1 k2 hB
  go_wp2_with fail
  go_returns
  have hA : Below W.heap.size W (W.alloc (.cells #[.bool false, .slice (some ⟨w1.heap.size, 0, none⟩) (textL x).length cp] 64)) := (Below.refl _ _).alloc (Nat.le_refl _) _
  refine ⟨_, rfl, ?_, below_via HB.out hA, _, rfl⟩
  exact rowK_made (Blk.new W 64 _) ((hA.block _ (Array.getElem?_eq_some_iff.1 HK1.out).1).trans HK1.out) HK2.out
end Go.Proofs.YtpaodffckhnieaaDoor
