/-
  The walk of the law CountLives: it returns true and leaves what was there as it was. No condition.
-/
import Derived.Test.YtbdefgoabdommaaE
import Derived.Deep.DeepCutAuto
import Derived.Deep.CutBlock
import Derived.Deep.RegionHeld3
namespace Go.Proofs.Ytbdefgoabdommaa
open Go.RowKit
set_option linter.unusedVariables false

/-- slices.Equal of two rows of n ints that hold the same: true. -/
theorem equal_yes (a b : Nat) (n : Nat) (c d : Nat) (f : Nat → Int) (w : World) (hn : n ≤ 1000) (ha : ∀ k, k < n → w.cell? ⟨a, k, none⟩ = some (.int .i64 (f k))) (hb : ∀ k, k < n → w.cell? ⟨b, k, none⟩ = some (.int .i64 (f k))) :
    Calls Try.prog 16 #[.slice (some ⟨a, 0, none⟩) n c, .slice (some ⟨b, 0, none⟩) n d] w fun e w' => e = .returned (.bool true) ∧ ∃ q, w.drewN q = w' := by
  have Ha := hide ha
  have Hb := hide hb
  clear ha hb
  go_enter Try.func16, Try.ntmps16
  go_wp2_with fail
  go_loopw [13] (fun i wr => ∃ k q : Nat, k ≤ n ∧ i = .int .i64 k ∧ wr = w.drewN q) (fun i _ => n - (intOf i).toNat)
  case atStart => exact ⟨0, 0, by omega, rfl, rfl⟩
  case round =>
    obtain ⟨k, q, hk, rfl, rfl⟩ := hrel
    by_cases hlt : k < n
    · have e1 := Ha.out k hlt
      have e2 := Hb.out k hlt
      have h3 : (0 : Int) ≤ k := by omega
      have h4 : (k : Int) < n := by omega
      generalize f k = x at e1 e2
      go_wp2_with fail
      go_quiet (fail)
      go_wp2
      go_roundw
      case rel => exact ⟨k + 1, _, by omega, by go_num, rfl⟩
      case measure => simp [intOf]; omega
    · obtain rfl : k = n := by omega
      go_wp2
      go_returns
      exact ⟨rfl, q, rfl⟩

/-- What holds between the rounds: both counters hold the same numbers. -/
def LivRel (w : World) (g r g' r' : Nat) (wr : World) : Prop := ∃ L, Ctr wr g r L ∧ RCtr wr g' r' L ∧ Below w.heap.size w wr

set_option maxHeartbeats 500000 in
theorem countLives_any (a : Option Addr) (len cap : Nat) (Z : Nat → Nat → Int) (w : World) (hlen : len ≤ maxLen) (hZ : IntStructs w a len 2 Z) :
    Calls Try.prog 5 #[.slice a len cap] w fun e w' => e = .returned (.bool true) ∧ Below w.heap.size w w' := by
  unfold maxLen at hlen
  go_enter Try.func5, Try.ntmps5
  go_wp2_with fail
  refine (new_c _).mono ?_
  rintro e w1 ⟨g, r, rfl, hC, hg, hr, hb⟩
  have HC := hide hC; have Hb := hide hb; clear hC hb
  go_wp2_with fail
  refine (rnew_c _).mono ?_
  rintro e w2 ⟨g', r', rfl, hX, hg', hr', hb⟩
  have hgr : g < w1.heap.size ∧ r < w1.heap.size := ⟨HC.out.1.lt, HC.out.2.1.lt⟩
  have hne : r ≠ g' ∧ r ≠ r' ∧ g ≠ g' ∧ g ≠ r' := by omega
  have hs1 := Hb.out.size
  have hB' : w.heap.size ≤ r' := by omega
  have hR : LivRel w g r g' r' w2 := ⟨_, HC.out.below hb, hX, Hb.out.trans (hb.mono Hb.out.size)⟩
  have HR := hide hR
  clear hb HC Hb hgr hs1 hR hX
  go_upto_block 0 with fail
  go_cut [] (fun W => LivRel w g r g' r' W)
  case first =>
    go_wp2_with fail
    go_loopw [11] (fun i wr => ∃ (k : Nat), k ≤ len ∧ k ≤ 100 ∧ i = .int .i64 k ∧ LivRel w g r g' r' wr) (fun i _ => 100 - (intOf i).toNat)
    case atStart => exact ⟨0, by omega, by omega, rfl, HR.out⟩
    case round =>
      clear HR
      obtain ⟨k, hk, hk1, rfl, hR⟩ := hrel
      have HR := hide hR
      clear hR
      by_cases hlt : k < len
      · rcases hZ with h0 | ⟨b, off, rfl, hbw, hcell⟩
        · omega
        obtain ⟨L, hC, hX, hB⟩ := HR.out
        have hZ0 := (hcell k 0 hlt (by omega)).1
        have hZ1 := (hcell k 1 hlt (by omega)).1
        rw [← hB.cell hbw] at hZ0 hZ1
        simp only [Nat.add_zero] at hZ0
        clear hcell HR
        generalize Z k 0 = z0 at hZ0
        generalize Z k 1 = z1 at hZ1
        by_cases h100 : k < 100
        · have HC := hide (hC.grown (World.grownBy_alloc wr (.cells #[.int .i64 z0, .int .i64 z1] 26) none) (by simp) (by simp))
          have HX := hide (hX.grown (World.grownBy_alloc wr (.cells #[.int .i64 z0, .int .i64 z1] 26) none) (by simp) (by simp))
          have HB := hide (hB.alloc hB.size (.cells #[.int .i64 z0, .int .i64 z1] 26))
          have hD : r ≠ wr.heap.size ∧ r' ≠ wr.heap.size := by have := hC.2.1.lt; have := hX.2.1.lt; omega
          clear hC hX hB
          go_wp2_with fail
          refine Code.wp_named (fun W => W.cell? ⟨wr.heap.size, 0, none⟩ = some (.int .i64 z0) ∧ W.cell? ⟨wr.heap.size, 1, none⟩ = some (.int .i64 z1) ∧ Ctr W g r L ∧ RCtr W g' r' L ∧ Below w.heap.size w W) ⟨by simp, by simp, HC.out, HX.out, HB.out⟩ ?_
          clear HC HX HB hZ0 hZ1
          rintro W ⟨d0, d1, hC, hX, hB⟩
          have HC := hide (show Ctr W.drew g r L from hC); have HX := hide (show RCtr W.drew g' r' L from hX); have HB := hide hB.drew; clear hC hX hB
          generalize wr.heap.size = D at d0 d1 hD ⊢
          have hk1 : ∀ b : Bool, (b != b) = false := by decide
          have hk2 : ∀ n : Int, (n != n) = false := by simp
          go_region_held3 (fun W => W.cell? ⟨D, 0, none⟩ = some (.int .i64 z0) ∧ W.cell? ⟨D, 1, none⟩ = some (.int .i64 z1)) ((refine ⟨?_, ?_⟩ <;> first | assumption | (simp [*]; done))) ((first
            | (go_at_call 7; refine (add_c g r L z0 z1 _ HC.out).mono ?_; rintro e W1 ⟨rfl, hC, hw⟩; have HC1 := hide hC; have HX1 := hide (HX.out.grown hw (by simp; omega) (by simp; omega)); have HB1 := hide (grown_below HB.out hw HB.out.size hr); have e0 : W1.cell? ⟨D, 0, none⟩ = some (.int .i64 z0) := hw.cell (by simpa using d0) (by simp; omega); have e1 : W1.cell? ⟨D, 1, none⟩ = some (.int .i64 z1) := hw.cell (by simpa using d1) (by simp; omega); clear hC hw)
            | (go_at_call 13; refine (radd_c g' r' L z0 z1 _ HX1.out).mono ?_; rintro e W2 ⟨rfl, hX, hw⟩; have HX2 := hide hX; have HC2 := hide (HC1.out.grown hw (by simp; omega) (by simp; omega)); have HB2 := hide (grown_below HB1.out hw HB1.out.size hB'); have f0 : W2.cell? ⟨D, 0, none⟩ = some (.int .i64 z0) := hw.cell e0 (by simp; omega); have f1 : W2.cell? ⟨D, 1, none⟩ = some (.int .i64 z1) := hw.cell e1 (by simp; omega); clear hX hw)
            | (go_at_call 11; refine (get_c g r _ z0 _ HC2.out).mono ?_; rintro e W3 ⟨rfl, rfl⟩)
            | (go_at_call 14; refine (rget_c g' r' _ z0 _ HX2.out).mono ?_; rintro e W3 ⟨rfl, rfl⟩)
            | (go_at_call 9; refine (total_c g r _ _ HC2.out).mono ?_; rintro e W3 ⟨rfl, hb3⟩; have HC3 := hide (HC2.out.below hb3); have HX3 := hide (HX2.out.below hb3); have HB3 := hide (HB2.out.trans (hb3.mono HB2.out.size)); have k0 : W3.cell? ⟨D, 0, none⟩ = some (.int .i64 z0) := (hb3.cell (World.block_lt_of_cell? _ _ f0)).trans f0; have k1 : W3.cell? ⟨D, 1, none⟩ = some (.int .i64 z1) := (hb3.cell (World.block_lt_of_cell? _ _ f1)).trans f1; clear hb3)
            | (go_at_call 15; refine (rtotal_c g' r' _ _ HX3.out).mono ?_; rintro e W4 ⟨rfl, rfl⟩)))
          have HR : LivRel w g r g' r' W3 := ⟨_, HC3.out, HX3.out, HB3.out⟩
          clear HC3 HX3 HB3
          go_wp2
          go_roundw
          case rel => exact ⟨k + 1, by omega, by omega, by go_num, HR⟩
          case measure => simp [intOf]; omega
        · have HR2 : LivRel w g r g' r' (wr.alloc (.cells #[.int .i64 z0, .int .i64 z1] 26)) := ⟨L, hC.grown (World.grownBy_alloc wr _ none) (by simp) (by simp), hX.grown (World.grownBy_alloc wr _ none) (by simp) (by simp), hB.alloc hB.size _⟩
          have HR3 := hide HR2
          have hBs := hB.size
          clear HR2 hC hX hB
          go_wp2
          go_meet
          case rel => exact HR3.out
      · go_wp2
        go_meet
        case rel => exact HR.out
  case rest =>
    clear HR
    obtain ⟨L, hC, hX, hB⟩ := hcut
    have hh : wc.cell? ⟨g', 0, none⟩ = some (.slice (some ⟨r', 0, none⟩) 5 5) := hX.head
    have HC := hide (show Ctr wc.drew g r L from hC); have HX := hide (show RCtr wc.drew g' r' L from hX); have HB := hide hB.drew
    clear hC hX hB
    go_wp2_with fail
    go_region_held3 (fun W => W.cell? ⟨g', 0, none⟩ = some (.slice (some ⟨r', 0, none⟩) 5 5)) ((first | assumption | (simp [*]; done))) ((first
      | (go_at_call 8; refine (list_c g r L _ HC.out).mono ?_; rintro e W1 ⟨bb, cc, rfl, -, hcell, hb1⟩; have Hcell := hide hcell; have HX1 := hide (HX.out.below hb1); have HB1 := hide (HB.out.trans (hb1.mono HB.out.size)); have e0 : W1.cell? ⟨g', 0, none⟩ = some (.slice (some ⟨r', 0, none⟩) 5 5) := HX1.out.head; clear hcell hb1)
      | (go_at_call 16; refine (equal_yes _ _ 5 _ _ (fun k => L.getD k 0) _ (by omega) Hcell.out (fun k hk => HX1.out.at_ k hk)).mono ?_; rintro e W2 ⟨rfl, q2, rfl⟩)
      | (go_at_call 10; refine (awake_any _).mono ?_; rintro e W3 ⟨rfl, hb3⟩; have HB3 := hide ((below_drewN HB1.out q2).trans (hb3.mono (below_drewN HB1.out q2).size)); have f0 : W3.cell? ⟨g', 0, none⟩ = some (.slice (some ⟨r', 0, none⟩) 5 5) := (hb3.cell (World.block_lt_of_cell? W1 _ e0)).trans e0; clear hb3)))
    go_wp2
    go_returns
    exact ⟨rfl, HB3.out⟩
end Go.Proofs.Ytbdefgoabdommaa
