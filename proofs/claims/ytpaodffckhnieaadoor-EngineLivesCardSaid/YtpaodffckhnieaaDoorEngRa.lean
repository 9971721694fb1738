/-
  What verbs tell, by the program and by the reference. No condition but on lengths.
-/
import Derived.Test.YtpaodffckhnieaaDoorEngZ
namespace Go.Proofs.YtpaodffckhnieaaDoor
open Go.RowKit Go.Maps
set_option linter.unusedVariables false
set_option linter.unusedSimpArgs false
set_option maxRecDepth 100000

/-- Cells that may be copied. -/
def Fits (R : List (Bool × List UInt8)) : Prop := R.length ≤ 1000 ∧ ∀ j, j < R.length → (gr R j).2.length ≤ 140737488355328
set_option maxHeartbeats 1000000 in
theorem own_any (p : Value) (R : List (Bool × List UInt8)) (w : World) (hf : Fits R) (h : RowAt w p R) :
    Calls Tryd.prog 29 #[p] w fun e w' => ∃ u, e = .returned u ∧ RowAt w' u R ∧ Below w.heap.size w w' ∧ ∃ a n c, u = .slice a n c := by
  have hl := hf.1
  have HF := hide hf.2
  have HH := hide h
  clear hf h
  go_enter Tryd.func29, Tryd.ntmps29
  go_wp2_with fail
  refine (rclone_any p R _ hl HH.out).mono ?_
  rintro e w1 ⟨a, c, rfl, hor, hb1⟩
  have HO := hide hor
  have HB := hide hb1
  clear hor hb1
  go_wp2_with fail
  go_loopw [9] (fun i wr => ∃ k : Nat, i = .int .i64 k ∧ k ≤ R.length ∧ Hid (R = [] ∨ ∃ g, a = some ⟨g, 0, none⟩ ∧ w.heap.size ≤ g ∧ RowIn wr g R) ∧ Below w.heap.size w wr) (fun i _ => (R.length - (intOf i).toNat))
  case atStart => exact ⟨0, rfl, Nat.zero_le _, HO.out, HB.out⟩
  case round =>
    clear HO HB
    obtain ⟨k, rfl, hk, HI, hB⟩ := hrel
    have HB := hide hB
    have hBs := hB.size
    clear hB
    by_cases hkk : k < R.length
    · have hki : (k : Int) < (R.length : Int) := by omega
      have hk0 : (0 : Int) ≤ (k : Int) := by omega
      rcases HI.out with h0 | ⟨g, rfl, hg, hin⟩
      · rw [h0] at hkk; exact absurd hkk (Nat.not_lt_zero _)
      have HIn := hide hin
      obtain ⟨cur, h1, h2⟩ := hin
      obtain ⟨k1, x, k2, k3⟩ := h2 k hkk
      have c1 : wr.cell? ⟨g, k * 2 + 1, none⟩ = some x := (h1.cell _).trans k2
      have HK3 := hide k3.any
      have HBk := hide h1
      have HK2 := hide k2
      clear h1 h2 k1 k2 k3
      go_wp2_with fail
      refine (bclone_any x _ _ (HF.out k hkk) HK3.out).mono ?_
      rintro e w2 ⟨u, rfl, hu, hb2, ⟨ua, un, uc, huu⟩⟩
      subst huu
      have hblk := HBk.out.below hb2 HBk.out.lt
      have c2 : w2.cell? ⟨g, k * 2 + 1, none⟩ = some x := (hblk.cell _).trans HK2.out
      have f2 := hblk.frozen (k * 2 + 1)
      have HU := hide (hu g HBk.out.lt)
      have HIn2 := hide (HIn.out.below hb2)
      have HB2 := hide (HB.out.trans (hb2.mono hBs))
      clear hu hb2 hblk c1
      go_wp2_with fail
      go_roundw
      case rel => exact ⟨k + 1, by go_num, by omega, .inr ⟨g, rfl, hg, HIn2.out.put k hkk _ HU.out⟩, HB2.out.setCell (p := ⟨g, k * 2 + 1, none⟩) hg _⟩
      case measure => simp [intOf]; omega
    · have hki : ¬ (k : Int) < (R.length : Int) := by omega
      go_wp2_with fail
      go_returns
      refine ⟨_, rfl, ?_, HB.out, _, _, _, rfl⟩
      rcases HI.out with h0 | ⟨g, rfl, hg, hin⟩
      · subst h0; exact ⟨a, c, rfl, .inl rfl⟩
      · exact hin.row

theorem Kept.under {g m : Nat} {w w1 w2 : World} (h : Kept g m w w1) (hb : Below w1.heap.size w1 w2) : Kept g m w w2 :=
  ⟨hb.os.trans h.os, hb.tape.trans h.tape, hb.output.trans h.output, Nat.le_trans h.size hb.size, fun k hk h1 h2 => (hb.block k (Nat.lt_of_lt_of_le hk h.size)).trans (h.block k hk h1 h2)⟩
theorem RKept.under {G B : Nat} {w w1 w2 : World} (h : RKept G B w w1) (hb : Below w1.heap.size w1 w2) (hB : B ≤ w1.heap.size) : RKept G B w w2 :=
  ⟨hb.os.trans h.os, hb.tape.trans h.tape, hb.output.trans h.output, Nat.le_trans h.size hb.size, fun k h1 h2 => (hb.block k (by omega)).trans (h.low k h1 h2), h.other.trans (others_below hb)⟩
theorem one_row {W : World} {u : Value} {R : List (Bool × List UInt8)} (h : RowAt W u R) : RowsAt (W.alloc (.cells #[u] 27)) (.slice (some ⟨W.heap.size, 0, none⟩) 1 1) 1 (fun _ => R) := by
  refine ⟨_, 1, rfl, .inr ⟨W.heap.size, 0, rfl, by simp, fun i hi => ?_⟩⟩
  obtain rfl : i = 0 := by omega
  exact ⟨u, (Blk.new W 27 #[u]).cell 0, h.below ((Below.refl _ W).alloc (Nat.le_refl _) _)⟩
def cntN (kd nn : Int) : Nat := if kd = 5 then heldN nn else if kd = 6 ∨ kd = 7 then 1 else 0
def tabN (kd n : Int) (R : List (Bool × List UInt8)) : Nat → List (Bool × List UInt8) := if kd = 5 then numT else if kd = 6 then fun _ => R else fun _ => numR (n + 1)
def nextN (kd n : Int) : Int := if kd = 7 then n + 1 else n
theorem EngS.next {w : World} {g m k : Nat} {l : List ByteArray} {n : Int} (h : EngS w g m k l n) : ∃ D, Eng w g m k D n ∧ Says D l := h

theorem next_set (g m k : Nat) (l : List ByteArray) (n : Int) (w : World) (h : EngS w g m k l n) (h0 : 0 ≤ n) (h1 : n ≤ 1000) :
    Calls Tryd.prog 9 #[.pointer (some ⟨g, 0, none⟩)] w fun e w' => e = .returned (.int .i64 (n + 1)) ∧ EngS w' g m k l (n + 1) ∧ Kept g m w w' := by
  obtain ⟨D, hE, hs⟩ := h
  exact (next_live g m k D n w hE h0 h1).mono fun e w' ⟨k1, k2, k3⟩ => ⟨k1, ⟨D, k2, hs⟩, k3⟩
theorem ready_set (g m k : Nat) (l : List ByteArray) (n : Int) (w : World) (h : EngS w g m k l n) :
    Calls Tryd.prog 21 #[.pointer (some ⟨g, 0, none⟩)] w fun e w' => w = w' ∧ e = .returned (.bool true) := by
  obtain ⟨D, hE, hs⟩ := h
  exact ready_live g m k D n w hE
theorem count_set (g m k : Nat) (l : List ByteArray) (n : Int) (w : World) (h : EngS w g m k l n) :
    Calls Tryd.prog 10 #[.pointer (some ⟨g, 0, none⟩)] w fun e w' => w = w' ∧ e = .returned (.int .i64 n) := by
  obtain ⟨D, hE, hs⟩ := h
  exact count_live g m k D n w hE

set_option maxHeartbeats 2000000 in
theorem prows_any (g m k : Nat) (l : List ByteArray) (n : Int) (kd nn : Int) (c : ByteArray) (p : Value) (R : List (Bool × List UInt8)) (w : World) (h0 : 0 ≤ n) (h1 : n ≤ 1000) (hf : Fits R) (hp : RowAt w p R) (h : EngS w g m k l n) :
    Calls Tryd.prog 16 #[.pointer (some ⟨g, 0, none⟩), .agg #[.int .i64 kd, .int .i64 nn, .string c], p] w fun e w' =>
      ∃ v, e = .returned v ∧ RowsAt w' v (cntN kd nn) (tabN kd n R) ∧ EngS w' g m k l (nextN kd n) ∧ Kept g m w w' := by
  have HF := hide hf
  have hA : Below w.heap.size w (w.alloc (.cells #[.int .i64 kd, .int .i64 nn, .string c] 26)) := (Below.refl _ w).alloc (Nat.le_refl _) _
  have HV := hide (Blk.new w 26 #[.int .i64 kd, .int .i64 nn, .string c])
  have HE := hide (h.below hA)
  have HP := hide (hp.below hA)
  have HA := hide hA
  clear hf hp h hA
  by_cases k5 : kd = 5
  · subst k5
    have HR : Hid (cntN 5 nn = heldN nn ∧ tabN 5 n R = numT ∧ nextN 5 n = n) := ⟨rfl, rfl, rfl⟩
    rw [HR.out.1, HR.out.2.1, HR.out.2.2]
    go_enter Tryd.func16, Tryd.ntmps16
    go_wp2_with fail
    refine (ready_set g m k l n _ HE.out).mono ?_
    rintro e w1 ⟨rfl, rfl⟩
    go_wp2_with fail
    refine (crows_any nn _).mono ?_
    rintro e w2 ⟨v, rfl, hr, hb⟩
    have H1 := hide hr
    have H2 := hide (HE.out.below hb)
    have H3 := hide (Kept.of_below (g := g) (m := m) (below_via HA.out hb))
    clear hr hb
    go_wp2_with fail
    go_returns
    exact ⟨v, rfl, H1.out, H2.out, H3.out⟩
  have k5b : (kd == 5) = false := by simpa using k5
  by_cases k6 : kd = 6
  · subst k6
    have HR : Hid (cntN 6 nn = 1 ∧ tabN 6 n R = (fun _ => R) ∧ nextN 6 n = n) := ⟨rfl, rfl, rfl⟩
    rw [HR.out.1, HR.out.2.1, HR.out.2.2]
    go_enter Tryd.func16, Tryd.ntmps16
    go_wp2_with fail
    refine (ready_set g m k l n _ HE.out).mono ?_
    rintro e w1 ⟨rfl, rfl⟩
    go_wp2_with fail
    refine (own_any p R _ HF.out HP.out).mono ?_
    rintro e w2 ⟨u, rfl, hr, hb, ⟨ua, un, uc, huu⟩⟩
    subst huu
    have hb2 := (Below.refl w2.heap.size w2).alloc (Nat.le_refl _) (.cells #[.slice ua un uc] 27)
    have H1 := hide (one_row hr)
    have H2 := hide ((HE.out.below hb).below hb2)
    have H3 := hide (Kept.of_below (g := g) (m := m) (below_via (below_via HA.out hb) hb2))
    clear hr hb hb2
    go_wp2_with fail
    go_returns
    exact ⟨_, rfl, H1.out, H2.out, H3.out⟩
  have k6b : (kd == 6) = false := by simpa using k6
  by_cases k7 : kd = 7
  · subst k7
    have HR : Hid (cntN 7 nn = 1 ∧ tabN 7 n R = (fun _ => numR (n + 1)) ∧ nextN 7 n = n + 1) := ⟨rfl, rfl, rfl⟩
    rw [HR.out.1, HR.out.2.1, HR.out.2.2]
    have Hz := hide (text_sz (n + 1))
    go_enter Tryd.func16, Tryd.ntmps16
    go_wp2_with fail
    refine (ready_set g m k l n _ HE.out).mono ?_
    rintro e w1 ⟨rfl, rfl⟩
    go_wp2_with fail
    refine (next_set g m k l n _ HE.out h0 h1).mono ?_
    rintro e w2 ⟨rfl, hE2, hK2⟩
    have HE2 := hide hE2
    have HK2 := hide ((Kept.of_below (g := g) (m := m) HA.out))
    have hK : Kept g m w w2 := ⟨hK2.os.trans HA.out.os, hK2.tape.trans HA.out.tape, hK2.output.trans HA.out.output, Nat.le_trans HA.out.size hK2.size, fun j hj q1 q2 => (hK2.block j (Nat.lt_of_lt_of_le hj HA.out.size) q1 q2).trans (HA.out.block j hj)⟩
    have HK := hide hK
    clear hE2 hK2 HK2 hK
    go_wp2_with fail
    refine (text_any (n + 1) _ (by omega) (by omega)).mono ?_
    rintro e w3 ⟨rfl, hb3⟩
    have HE3 := hide (HE2.out.below hb3)
    have HK3 := hide (HK.out.under hb3)
    clear hb3
    go_wp2_with fail
    rw [Lib.run_convert_string_bytes _ _ _ 5 _ Tryd.underlying9 Tryd.underlying61 Tryd.underlying5]
    simp only [Result.andThen]
    rw [Oper.upon_value, Hz.out]
    obtain ⟨cs, fz, q1, q2⟩ := bytes_row (w := w3) (text (n + 1)) (textL (n + 1)) rfl
    have hBW : Below w3.heap.size w3 (Lib.bytesWorld w3 5 (text (n + 1))) := bytesWorld_below _ _ _
    generalize Lib.bytesWorld w3 5 (text (n + 1)) = W at q1 hBW ⊢
    generalize grownCap w3 (textL (n + 1)).length 0 5 = cp
    have hA2 : Below W.heap.size W (W.alloc (.cells #[.bool false, .slice (some ⟨w3.heap.size, 0, none⟩) (textL (n + 1)).length cp] 64)) := (Below.refl _ _).alloc (Nat.le_refl _) _
    have hu : RowK (W.alloc (.cells #[.bool false, .slice (some ⟨w3.heap.size, 0, none⟩) (textL (n + 1)).length cp] 64)) (.slice (some ⟨W.heap.size, 0, none⟩) 1 1) (numR (n + 1)) :=
      rowK_made (Blk.new W 64 _) ((hA2.block _ (Array.getElem?_eq_some_iff.1 q1).1).trans q1) q2
    obtain ⟨z, hz⟩ : ∃ z, (textL (n + 1)).length = z := ⟨_, rfl⟩
    rw [hz] at hu hA2 ⊢
    have hb4 := (Below.refl (W.alloc (.cells #[.bool false, .slice (some ⟨w3.heap.size, 0, none⟩) z cp] 64)).heap.size (W.alloc (.cells #[.bool false, .slice (some ⟨w3.heap.size, 0, none⟩) z cp] 64))).alloc (Nat.le_refl _) (.cells #[.slice (some ⟨W.heap.size, 0, none⟩) 1 1] 27)
    have H1 := one_row hu.row
    rw [World.size_alloc] at H1
    have H1' := hide H1
    have H2 := hide (((HE3.out.below hBW).below hA2).below hb4)
    have H3 := hide (((HK3.out.under hBW).under hA2).under hb4)
    clear q1 q2 hBW hA2 hu hb4 H1 hz Hz
    go_wp2_with fail
    go_returns
    exact ⟨_, rfl, H1'.out, H2.out, H3.out⟩
  have k7b : (kd == 7) = false := by simpa using k7
  have HR : Hid (cntN kd nn = 0 ∧ nextN kd n = n) := ⟨by unfold cntN; rw [if_neg k5, if_neg (by omega)], by unfold nextN; rw [if_neg k7]⟩
  rw [HR.out.1, HR.out.2]
  go_enter Tryd.func16, Tryd.ntmps16
  go_wp2_with fail
  refine (ready_set g m k l n _ HE.out).mono ?_
  rintro e w1 ⟨rfl, rfl⟩
  go_wp2_with fail
  go_returns
  exact ⟨_, rfl, ⟨none, 0, rfl, .inl rfl⟩, HE.out, Kept.of_below HA.out⟩
end Go.Proofs.YtpaodffckhnieaaDoor
