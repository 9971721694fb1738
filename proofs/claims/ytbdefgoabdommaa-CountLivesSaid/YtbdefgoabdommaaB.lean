/-
  What Total gives; and the law's own awake. No condition.
-/
import Derived.Test.YtbdefgoabdommaaA
namespace Go.Proofs.Ytbdefgoabdommaa
open Go.RowKit

def sumW (L : List Int) : Int := L.foldl (fun s x => wrap64 (s + x)) 0
theorem sumW_succ (L : List Int) (k : Nat) (h : k < L.length) : sumW (L.take (k + 1)) = wrap64 (sumW (L.take k) + L.getD k 0) := by
  rw [List.take_succ_eq_append_getElem h]
  unfold sumW
  rw [List.foldl_append]
  simp [List.getD, h]

theorem total_yes (g r : Nat) (L : List Int) (hL : L.length = 5) (w : World) (hg : w.cell? ⟨g, 0, none⟩ = some (.pointer (some ⟨r, 0, none⟩)))
    (hc : ∀ k, k < 5 → w.cell? ⟨r, k, none⟩ = some (.int .i64 (L.getD k 0))) :
    Calls Try.prog 9 #[.pointer (some ⟨g, 0, none⟩)] w fun e w' => e = .returned (.int .i64 (sumW L)) ∧ Below w.heap.size w w' := by
  go_enter Try.func9, Try.ntmps9
  go_wp2_with fail
  refine (list_yes g r L hL w hg hc).mono ?_
  rintro e w1 ⟨v, rfl, hown, hb1⟩
  obtain ⟨h, cap, rfl, -, -, -, -, -, hcell⟩ := own_form hown (by omega)
  have hcell' : ∀ j, j < 5 → w1.cell? ⟨h, j, none⟩ = some (.int .i64 (L.getD j 0)) := fun j hj => by
    rw [hcell j (by omega)]; simp [List.getD, hL, hj]
  have hC := hide hcell'
  have Hb := hide hb1
  clear hown hcell hcell' hg hc hb1
  go_wp2_with fail
  go_loop [3, 9] (fun s i => ∃ k : Nat, k ≤ 5 ∧ i = .int .i64 k ∧ s = .int .i64 (sumW (L.take k))) (fun _ i => 5 - (intOf i).toNat)
  case atStart => exact ⟨0, by omega, rfl, rfl⟩
  case round =>
    obtain ⟨k, hk, rfl, rfl⟩ := hrel
    by_cases hlt : k < 5
    · have hc := hC.out k hlt
      have hs := sumW_succ L k (by omega)
      generalize L.getD k 0 = x at hc hs
      generalize sumW (L.take k) = s at hs
      have Hs := hide hs
      clear hs
      go_wp2
      go_round
      case rel => exact ⟨k + 1, by omega, by go_num, by rw [Hs.out]⟩
      case measure => simp [intOf]; omega
    · obtain rfl : k = 5 := by omega
      go_wp2
      go_returns
      refine ⟨?_, Hb.out⟩
      rw [List.take_of_length_le (by omega)]
      rfl

/-- A counter of the program's: its block g, its row's block r, the numbers L. -/
def Ctr (w : World) (g r : Nat) (L : List Int) : Prop :=
  Blk w g 35 #[.pointer (some ⟨r, 0, none⟩)] ∧ Blk w r 49 (L.map (Value.int .i64)).toArray ∧ L.length = 5

theorem Ctr.head {w : World} {g r : Nat} {L : List Int} (h : Ctr w g r L) : w.cell? ⟨g, 0, none⟩ = some (.pointer (some ⟨r, 0, none⟩)) := by rw [h.1.cell]; rfl
theorem Ctr.at_ {w : World} {g r : Nat} {L : List Int} (h : Ctr w g r L) (k : Nat) (hk : k < 5) : w.cell? ⟨r, k, none⟩ = some (.int .i64 (L.getD k 0)) := by
  rw [h.2.1.cell]; have := h.2.2; simp [List.getD, this, hk]
theorem Ctr.grown {w w' : World} {g r : Nat} {L : List Int} {row : Option Nat} (h : Ctr w g r L) (hg : w.grownBy w' row) (h1 : some g ≠ row) (h2 : some r ≠ row) : Ctr w' g r L :=
  ⟨h.1.grown hg h1, h.2.1.grown hg h2, h.2.2⟩
theorem Ctr.below {w w' : World} {g r : Nat} {L : List Int} (h : Ctr w g r L) (hb : Below w.heap.size w w') : Ctr w' g r L :=
  ⟨h.1.below hb h.1.lt, h.2.1.below hb h.2.1.lt, h.2.2⟩
theorem Ctr.apart {w : World} {g r : Nat} {L : List Int} (h : Ctr w g r L) : g ≠ r := h.1.apart h.2.1 (by decide)

def okB (k n : Int) : Bool := decide (0 ≤ k ∧ k < 5 ∧ 0 ≤ n ∧ n ≤ 2147483648)
def addL (L : List Int) (k n : Int) : List Int := if okB k n then L.set k.toNat (wrap64 (L.getD k.toNat 0 + n)) else L
def getL (L : List Int) (k : Int) : Int := if 0 ≤ k ∧ k < 5 then L.getD k.toNat 0 else 0

theorem grownBy_set (w : World) (r : Nat) (k : Nat) (u : Value) : w.grownBy (w.setCell ⟨r, k, none⟩ u) (some r) :=
  ⟨rfl, rfl, rfl, by simp [World.setCell], fun i _ hne => Below.heap_setCell w _ u i (by rintro rfl; exact hne rfl)⟩

theorem add_c (g r : Nat) (L : List Int) (k n : Int) (w : World) (h : Ctr w g r L) :
    Calls Try.prog 7 #[.pointer (some ⟨g, 0, none⟩), .int .i64 k, .int .i64 n] w fun e w' => e = .returned (.bool (okB k n)) ∧ Ctr w' g r (addL L k n) ∧ w.grownBy w' (some r) := by
  by_cases hb : okB k n = true
  · have hb' : 0 ≤ k ∧ k < 5 ∧ 0 ≤ n ∧ n ≤ 2147483648 := by simpa [okB] using hb
    refine (add_yes g r k n (L.getD k.toNat 0) w hb'.1 hb'.2.1 hb'.2.2.1 hb'.2.2.2 h.head (h.at_ _ (by omega)) (h.2.1.frozen _)).mono ?_
    rintro e w' ⟨rfl, rfl⟩
    refine ⟨by rw [hb], ⟨h.1.far h.apart _, ?_, ?_⟩, grownBy_set _ _ _ _⟩
    · have := h.2.1.put k.toNat (.int .i64 (wrap64 (L.getD k.toNat 0 + n)))
      unfold addL
      rw [if_pos hb]
      rw [List.map_set]
      simpa using this
    · unfold addL; rw [if_pos hb, List.length_set]; exact h.2.2
  · have hb' : bad k n := by
      have : ¬ (0 ≤ k ∧ k < 5 ∧ 0 ≤ n ∧ n ≤ 2147483648) := by simpa [okB] using hb
      unfold bad; omega
    refine (add_no g r k n w hb' h.head).mono ?_
    rintro e w' ⟨rfl, rfl⟩
    refine ⟨by simp [hb], ?_, World.grownBy.refl _ _⟩
    unfold addL; rw [if_neg hb]; exact h

theorem get_c (g r : Nat) (L : List Int) (k : Int) (w : World) (h : Ctr w g r L) :
    Calls Try.prog 11 #[.pointer (some ⟨g, 0, none⟩), .int .i64 k] w fun e w' => e = .returned (.int .i64 (getL L k)) ∧ w = w' := by
  by_cases hk : 0 ≤ k ∧ k < 5
  · refine (get_yes g r k (L.getD k.toNat 0) w hk.1 hk.2 h.head (h.at_ _ (by omega))).mono ?_
    rintro e w' ⟨rfl, rfl⟩
    exact ⟨by rw [getL, if_pos hk], rfl⟩
  · refine (get_out g r k w (by omega) h.head).mono ?_
    rintro e w' ⟨rfl, rfl⟩
    exact ⟨by rw [getL, if_neg hk], rfl⟩

theorem total_c (g r : Nat) (L : List Int) (w : World) (h : Ctr w g r L) :
    Calls Try.prog 9 #[.pointer (some ⟨g, 0, none⟩)] w fun e w' => e = .returned (.int .i64 (sumW L)) ∧ Below w.heap.size w w' :=
  total_yes g r L h.2.2 w h.head (fun k hk => h.at_ k hk)

theorem list_c (g r : Nat) (L : List Int) (w : World) (h : Ctr w g r L) :
    Calls Try.prog 8 #[.pointer (some ⟨g, 0, none⟩)] w fun e w' => ∃ b cap, e = .returned (.slice (some ⟨b, 0, none⟩) 5 cap) ∧ w.heap.size ≤ b ∧ (∀ k, k < 5 → w'.cell? ⟨b, k, none⟩ = some (.int .i64 (L.getD k 0))) ∧ Below w.heap.size w w' := by
  refine (list_yes g r L h.2.2 w h.head (fun k hk => h.at_ k hk)).mono ?_
  rintro e w' ⟨v, rfl, hown, hb⟩
  obtain ⟨b, cap, rfl, hb0, -, -, -, -, hcell⟩ := own_form hown (by omega)
  refine ⟨b, cap, rfl, hb0, fun k hk => ?_, hb⟩
  rw [hcell k (by omega)]
  have := h.2.2
  simp [List.getD, this, hk]

/-- A fresh counter: two new blocks. -/
theorem new_c (w : World) : Calls Try.prog 6 #[] w fun e w' => ∃ g r, e = .returned (.pointer (some ⟨g, 0, none⟩)) ∧ Ctr w' g r [0, 0, 0, 0, 0] ∧ w.heap.size ≤ g ∧ w.heap.size ≤ r ∧ Below w.heap.size w w' := by
  go_enter Try.func6, Try.ntmps6
  go_wp2
  go_returns
  refine ⟨w.heap.size + 1, w.heap.size, rfl, ⟨?_, ?_, rfl⟩, by omega, by omega, by go_grown⟩
  · have := Blk.new (w.alloc (.cells #[.int .i64 0, .int .i64 0, .int .i64 0, .int .i64 0, .int .i64 0] 49)) 35 #[.pointer (some ⟨w.heap.size, 0, none⟩)]
    simpa using this
  · exact (Blk.new w 49 _).alloc _

/-- What the counter's own memory bears: below base nothing turns. -/
theorem grown_below {w0 w w' : World} {r B : Nat} (h : Below B w0 w) (hg : w.grownBy w' (some r)) (hB : B ≤ w.heap.size) (hr : B ≤ r) : Below B w0 w' :=
  h.grown hg hB (fun k hk => by injection hk with e; omega)

theorem awake_any (w : World) : Calls Try.prog 10 #[] w fun e w' => e = .returned (.bool true) ∧ Below w.heap.size w w' := by
  go_enter Try.func10, Try.ntmps10
  go_wp2_with fail
  refine (new_c _).mono ?_
  rintro e w1 ⟨g, r, rfl, hC, hg, hr, hb⟩
  have HC := hide hC; have Hb := hide hb; clear hC hb
  go_wp2_with fail
  refine (add_c g r _ _ _ _ HC.out).mono ?_
  rintro e w2 ⟨rfl, hC, hw⟩
  have HC2 := hide hC; have Hb2 := hide (grown_below Hb.out hw Hb.out.size hr); clear hC hw HC Hb
  have hk : okB 1 2 = true := by decide
  go_wp2_with fail
  refine (add_c g r _ _ _ _ HC2.out).mono ?_
  rintro e w3 ⟨rfl, hC, hw⟩
  have HC3 := hide hC; have Hb3 := hide (grown_below Hb2.out hw Hb2.out.size hr); clear hC hw HC2 Hb2
  have hk2 : okB 5 1 = false := by decide
  go_wp2_with fail
  refine (get_c g r _ _ _ HC3.out).mono ?_
  rintro e w4 ⟨rfl, rfl⟩
  have hk3 : getL (addL (addL [0, 0, 0, 0, 0] 1 2) 5 1) 1 = 2 := by decide +kernel
  go_wp2_with fail
  refine (total_c g r _ _ HC3.out).mono ?_
  rintro e w4 ⟨rfl, hb4⟩
  have HC4 := hide (HC3.out.below hb4); have Hb4 := hide (Hb3.out.trans (hb4.mono Hb3.out.size)); clear hb4 HC3 Hb3
  have hk4 : sumW (addL (addL [0, 0, 0, 0, 0] 1 2) 5 1) = 2 := by decide +kernel
  go_wp2_with fail
  refine (list_c g r _ _ HC4.out).mono ?_
  rintro e w5 ⟨b, cap, rfl, -, -, hb5⟩
  have Hb5 := hide (Hb4.out.trans (hb5.mono Hb4.out.size)); clear hb5 Hb4 HC4
  go_wp2
  go_returns
  exact ⟨rfl, Hb5.out⟩
end Go.Proofs.Ytbdefgoabdommaa
