/-
  The walk of the law RetryLives. No condition.
-/
import Derived.Test.YtdcccgjdcfggfaaD
namespace Go.Proofs.Ytdcccgjdcfggfaa
open Go.RowKit
set_option linter.unusedVariables false
set_option linter.unusedSimpArgs false

def LRel (w : World) (g g' : Nat) (wr : World) : Prop := ∃ S, Prt wr g S ∧ Rrt wr g' S ∧ Below w.heap.size w wr

theorem Prt.grown {w w' : World} {g : Nat} {s : RS} {r : Option Nat} (h : Prt w g s) (hg : w.grownBy w' r) (h1 : some g ≠ r) : Prt w' g s := ⟨h.1.grown hg h1, h.2⟩
theorem Rrt.grown {w w' : World} {g : Nat} {s : RS} {r : Option Nat} (h : Rrt w g s) (hg : w.grownBy w' r) (h1 : some g ≠ r) : Rrt w' g s := ⟨h.1.grown hg h1, h.2⟩
theorem Prt.apart {w : World} {g g' : Nat} {s s' : RS} (h : Prt w g s) (h' : Rrt w g' s') : g ≠ g' := h.1.apart h'.1 (by decide)

theorem ops_of (z : Int) : ((z == 0) = true) ∨ ((z == 0) = false ∧ (z == 1) = true) ∨ ((z == 0) = false ∧ (z == 1) = false ∧ (z == 2) = true) ∨ ((z == 0) = false ∧ (z == 1) = false ∧ (z == 2) = false ∧ (z == 3) = true) ∨ ((z == 0) = false ∧ (z == 1) = false ∧ (z == 2) = false ∧ (z == 3) = false) := by
  cases (z == 0) <;> cases (z == 1) <;> cases (z == 2) <;> cases (z == 3) <;> simp

set_option maxRecDepth 100000 in
set_option maxHeartbeats 4000000 in
theorem lives_yes (l m f : Int) (a : Option Addr) (len c : Nat) (Z : Nat → Nat → Int) (w : World) (hf : f ≤ 9223372036854775807) (h1 : 1 ≤ l) (h2 : l ≤ m) (h3 : m ≤ 1048576) (hlen : len ≤ maxLen) (hZ : IntStructs w a len 2 Z) :
    Calls Try.prog 4 #[.int .i64 l, .int .i64 m, .int .i64 f, .slice a len c] w fun e w' => e = .returned (.bool true) ∧ Below w.heap.size w w' := by
  unfold maxLen at hlen
  go_enter Try.func4, Try.ntmps4
  go_wp2_with fail
  refine (new_yes _ _ _ h1 h2 h3).mono ?_
  rintro e w1 ⟨g, rfl, hP, hg, hb⟩
  have HP := hide hP; have HB := hide hb; clear hP hb
  go_wp2_with fail
  refine (rnew_yes _ _ _ h1 h2 h3).mono ?_
  rintro e w2 ⟨g', rfl, hX, hg', hb⟩
  have hB' : w.heap.size ≤ g' := Nat.le_trans HB.out.size hg'
  have hR : LRel w g g' w2 := ⟨_, ⟨HP.out.1.below hb HP.out.1.lt, HP.out.2⟩, hX, below_via HB.out hb⟩
  have hgg : g ≠ g' := by have := HP.out.1.lt; omega
  have HR := hide hR
  clear HP HB hX hb hR hg'
  go_wp2_with fail
  refine (delay_any _ _ _ _ hf).mono ?_
  rintro e w3 ⟨rfl, rfl⟩
  go_wp2_with fail
  refine (rdelay_any _ _ _ _ hf).mono ?_
  rintro e w3 ⟨rfl, rfl⟩
  have hdd : (delay l m f != delay l m f) = false := by simp
  go_upto_block 0 with fail
  clear hdd
  go_cut [] (fun W => LRel w g g' W)
  case first =>
    go_wp2_with fail
    go_loopw [51] (fun i wr => ∃ (k : Nat), k ≤ len ∧ k ≤ 100 ∧ i = .int .i64 k ∧ LRel w g g' wr) (fun i _ => 100 - (intOf i).toNat)
    case atStart => exact ⟨0, by omega, by omega, rfl, HR.out⟩
    case round =>
      clear HR
      obtain ⟨k, hk, hk1, rfl, hR⟩ := hrel
      have HR := hide hR
      clear hR
      by_cases hlt : k < len
      · rcases hZ with h0 | ⟨b, off, rfl, hbw, hcell⟩
        · omega
        obtain ⟨S, hP, hX, hB⟩ := HR.out
        have hZ0 := (hcell k 0 hlt (by omega)).1
        have hZ1 := (hcell k 1 hlt (by omega)).1
        rw [← hB.cell hbw] at hZ0 hZ1
        simp only [Nat.add_zero] at hZ0
        clear hcell HR
        generalize Z k 0 = z0 at hZ0
        generalize Z k 1 = z1 at hZ1
        by_cases h100 : k < 100
        · have HP := hide (hP.grown (World.grownBy_alloc wr (.cells #[.int .i64 z0, .int .i64 z1] 35) none) (by simp))
          have HX := hide (hX.grown (World.grownBy_alloc wr (.cells #[.int .i64 z0, .int .i64 z1] 35) none) (by simp))
          have HB := hide (hB.alloc hB.size (.cells #[.int .i64 z0, .int .i64 z1] 35))
          have hD : g ≠ wr.heap.size ∧ g' ≠ wr.heap.size := by have := hP.1.lt; have := hX.1.lt; omega
          clear hP hX hB
          go_upto_region 10 with fail
          refine Code.wp_named (fun W => W.cell? ⟨wr.heap.size, 0, none⟩ = some (.int .i64 z0) ∧ W.cell? ⟨wr.heap.size, 1, none⟩ = some (.int .i64 z1) ∧ Prt W g S ∧ Rrt W g' S ∧ Below w.heap.size w W) ⟨by simp, by simp, HP.out, HX.out, HB.out⟩ ?_
          clear HP HX HB hZ0 hZ1
          rintro W ⟨d0, d1, hP, hX, hB⟩
          generalize wr.heap.size = D at d0 d1 hD ⊢
          have HP := hide (show Prt W.drew g S from hP); have HX := hide (show Rrt W.drew g' S from hX); have HB := hide hB.drew; clear hP hX hB
          rcases ops_of z0 with o0 | ⟨o0, o1⟩ | ⟨o0, o1, o2⟩ | ⟨o0, o1, o2, o3⟩ | ⟨o0, o1, o2, o3⟩
          · go_upto_region 14 with fail
            go_region_held3 (fun W => W.cell? ⟨D, 1, none⟩ = some (.int .i64 z1)) (first | assumption | (simp [*]; done)) ((first
              | (go_at_call 12; refine (fail_c g S z1 _ HP.out).mono ?_; rintro e W1 ⟨rfl, hP, hw⟩; have HP1 := hide hP; have HX1 := hide (HX.out.grown hw (by simp; omega)); have HB1 := hide (grown_below HB.out hw HB.out.size hg); have e1 : W1.cell? ⟨D, 1, none⟩ = some (.int .i64 z1) := hw.cell (by simpa using d1) (by simp; omega); clear hP hw)
              | (go_at_call 13; refine (rfail_c g' S z1 _ HX1.out).mono ?_; rintro e W2 ⟨rfl, hX, hw⟩; have HX2 := hide hX; have HP2 := hide (HP1.out.grown hw (by simp; omega)); have HB2 := hide (grown_below HB1.out hw HB1.out.size hB'); have f1 : W2.cell? ⟨D, 1, none⟩ = some (.int .i64 z1) := hw.cell e1 (by simp; omega); clear hX hw)))
            have q2 : W2.cell? ⟨g', 2, none⟩ = some (.int .i64 (failS S z1).fails) := (cells_of HX2.out.1).2.2.1
            have HP8 := hide (show Prt W2.drew g (failS S z1) from HP2.out)
            have HR9 := hide (show LRel w g g' W2.drew from ⟨_, HP2.out, HX2.out, HB2.out.drew⟩)
            generalize hffe : (failS S z1).fails = ff at q2
            have Hff := hide hffe
            clear hffe
            have hff : ∀ n : Int, (n != n) = false := by simp
            go_upto_region 20 with fail
            go_region_held3 (fun W => W.cell? ⟨g', 2, none⟩ = some (.int .i64 ff)) (first | assumption | (simp [*]; done)) ((first
              | (go_at_call 19; refine (fails_c g (failS S z1) _ HP8.out).mono ?_; rintro e W9 ⟨rfl, rfl⟩; rw [Hff.out])))
            clear HP8 HP2 HX2 HB2
            go_wp2
            go_roundw
            case rel => exact ⟨k + 1, by omega, by omega, by go_num, HR9.out⟩
            case measure => simp [intOf]; omega
          · go_upto_region 14 with fail
            go_region_held3 (fun W => W.cell? ⟨D, 1, none⟩ = some (.int .i64 z1)) (first | assumption | (simp [*]; done)) ((first
              | (go_at_call 12; refine (fail_c g S z1 _ HP.out).mono ?_; rintro e W1 ⟨rfl, hP, hw⟩; have HP1 := hide hP; have HX1 := hide (HX.out.grown hw (by simp; omega)); have HB1 := hide (grown_below HB.out hw HB.out.size hg); have e1 : W1.cell? ⟨D, 1, none⟩ = some (.int .i64 z1) := hw.cell (by simpa using d1) (by simp; omega); clear hP hw)
              | (go_at_call 13; refine (rfail_c g' S z1 _ HX1.out).mono ?_; rintro e W2 ⟨rfl, hX, hw⟩; have HX2 := hide hX; have HP2 := hide (HP1.out.grown hw (by simp; omega)); have HB2 := hide (grown_below HB1.out hw HB1.out.size hB'); have f1 : W2.cell? ⟨D, 1, none⟩ = some (.int .i64 z1) := hw.cell e1 (by simp; omega); clear hX hw)))
            have q2 : W2.cell? ⟨g', 2, none⟩ = some (.int .i64 (failS S z1).fails) := (cells_of HX2.out.1).2.2.1
            have HP8 := hide (show Prt W2.drew g (failS S z1) from HP2.out)
            have HR9 := hide (show LRel w g g' W2.drew from ⟨_, HP2.out, HX2.out, HB2.out.drew⟩)
            generalize hffe : (failS S z1).fails = ff at q2
            have Hff := hide hffe
            clear hffe
            have hff : ∀ n : Int, (n != n) = false := by simp
            go_upto_region 20 with fail
            go_region_held3 (fun W => W.cell? ⟨g', 2, none⟩ = some (.int .i64 ff)) (first | assumption | (simp [*]; done)) ((first
              | (go_at_call 19; refine (fails_c g (failS S z1) _ HP8.out).mono ?_; rintro e W9 ⟨rfl, rfl⟩; rw [Hff.out])))
            clear HP8 HP2 HX2 HB2
            go_wp2
            go_roundw
            case rel => exact ⟨k + 1, by omega, by omega, by go_num, HR9.out⟩
            case measure => simp [intOf]; omega
          · have HP := hide (show Prt W g S from HP.out); have HX := hide (show Rrt W g' S from HX.out); have HB := hide (show Below w.heap.size w W from ⟨HB.out.os, HB.out.tape, HB.out.output, HB.out.size, HB.out.block⟩)
            go_wp2_with fail
            refine (good_c g S z1 _ HP.out).mono ?_
            rintro e W1 ⟨rfl, hP, hw⟩
            have HP1 := hide hP; have HX1 := hide (HX.out.grown hw (by simp; omega)); have HB1 := hide (grown_below HB.out hw HB.out.size hg); have e1 : W1.cell? ⟨D, 1, none⟩ = some (.int .i64 z1) := hw.cell d1 (by simp; omega); clear hP hw
            go_wp2_with fail
            refine (rgood_c g' S z1 _ HX1.out).mono ?_
            rintro e W2 ⟨rfl, hX, hw⟩
            have HX2 := hide hX; have HP2 := hide (HP1.out.grown hw (by simp; omega)); have HB2 := hide (grown_below HB1.out hw HB1.out.size hB'); clear hX hw
            have q2 : W2.cell? ⟨g', 2, none⟩ = some (.int .i64 (goodS S z1).fails) := (cells_of HX2.out.1).2.2.1
            have HP8 := hide (show Prt W2.drew g (goodS S z1) from HP2.out)
            have HR9 := hide (show LRel w g g' W2.drew from ⟨_, HP2.out, HX2.out, HB2.out.drew⟩)
            generalize hffe : (goodS S z1).fails = ff at q2
            have Hff := hide hffe
            clear hffe
            have hff : ∀ n : Int, (n != n) = false := by simp
            go_upto_region 20 with fail
            go_region_held3 (fun W => W.cell? ⟨g', 2, none⟩ = some (.int .i64 ff)) (first | assumption | (simp [*]; done)) ((first
              | (go_at_call 19; refine (fails_c g (goodS S z1) _ HP8.out).mono ?_; rintro e W9 ⟨rfl, rfl⟩; rw [Hff.out])))
            clear HP8 HP2 HX2 HB2
            go_wp2
            go_roundw
            case rel => exact ⟨k + 1, by omega, by omega, by go_num, HR9.out⟩
            case measure => simp [intOf]; omega
          · go_upto_region 19 with fail
            go_region_held3 (fun W => W.cell? ⟨D, 1, none⟩ = some (.int .i64 z1)) (first | assumption | (simp [*]; done)) ((first
              | (go_at_call 16; refine (readyN_c g S z1 _ HP.out).mono ?_; rintro e W1 ⟨rfl, hP, hw⟩; have HP1 := hide hP; have HX1 := hide (HX.out.grown hw (by simp; omega)); have HB1 := hide (grown_below HB.out hw HB.out.size hg); have e1 : W1.cell? ⟨D, 1, none⟩ = some (.int .i64 z1) := hw.cell (by simpa using d1) (by simp; omega); clear hP hw)
              | (go_at_call 17; refine (rwait_c g' S z1 _ HX1.out).mono ?_; rintro e W2 ⟨rfl, hX, hw⟩; have HX2 := hide hX; have HP2 := hide (HP1.out.grown hw (by simp; omega)); have HB2 := hide (grown_below HB1.out hw HB1.out.size hB'); have f1 : W2.cell? ⟨D, 1, none⟩ = some (.int .i64 z1) := hw.cell e1 (by simp; omega); clear hX hw)))
            have q2 : W2.cell? ⟨g', 2, none⟩ = some (.int .i64 (passS S z1).fails) := (cells_of HX2.out.1).2.2.1
            have HP8 := hide (show Prt W2.drew g (passS S z1) from HP2.out)
            have HR9 := hide (show LRel w g g' W2.drew from ⟨_, HP2.out, HX2.out, HB2.out.drew⟩)
            generalize hffe : (passS S z1).fails = ff at q2
            have Hff := hide hffe
            clear hffe
            have hff : ∀ n : Int, (n != n) = false := by simp
            go_upto_region 20 with fail
            go_region_held3 (fun W => W.cell? ⟨g', 2, none⟩ = some (.int .i64 ff)) (first | assumption | (simp [*]; done)) ((first
              | (go_at_call 19; refine (fails_c g (passS S z1) _ HP8.out).mono ?_; rintro e W9 ⟨rfl, rfl⟩; rw [Hff.out])))
            clear HP8 HP2 HX2 HB2
            go_wp2
            go_roundw
            case rel => exact ⟨k + 1, by omega, by omega, by go_num, HR9.out⟩
            case measure => simp [intOf]; omega
          · go_upto_region 11 with fail
            go_region_held3 (fun W => W.cell? ⟨D, 1, none⟩ = some (.int .i64 z1)) (first | assumption | (simp [*]; done)) ((first
              | (go_at_call 18; refine (wait_c g S z1 _ HP.out).mono ?_; rintro e W1 ⟨rfl, hP, hw⟩; have HP1 := hide hP; have HX1 := hide (HX.out.grown hw (by simp; omega)); have HB1 := hide (grown_below HB.out hw HB.out.size hg); have e1 : W1.cell? ⟨D, 1, none⟩ = some (.int .i64 z1) := hw.cell (by simpa using d1) (by simp; omega); clear hP hw)
              | (go_at_call 17; refine (rwait_c g' S z1 _ HX1.out).mono ?_; rintro e W2 ⟨rfl, hX, hw⟩; have HX2 := hide hX; have HP2 := hide (HP1.out.grown hw (by simp; omega)); have HB2 := hide (grown_below HB1.out hw HB1.out.size hB'); have f1 : W2.cell? ⟨D, 1, none⟩ = some (.int .i64 z1) := hw.cell e1 (by simp; omega); clear hX hw)))
            have q2 : W2.cell? ⟨g', 2, none⟩ = some (.int .i64 (passS S z1).fails) := (cells_of HX2.out.1).2.2.1
            have HP8 := hide (show Prt W2.drew g (passS S z1) from HP2.out)
            have HR9 := hide (show LRel w g g' W2.drew from ⟨_, HP2.out, HX2.out, HB2.out.drew⟩)
            generalize hffe : (passS S z1).fails = ff at q2
            have Hff := hide hffe
            clear hffe
            have hff : ∀ n : Int, (n != n) = false := by simp
            go_upto_region 20 with fail
            go_region_held3 (fun W => W.cell? ⟨g', 2, none⟩ = some (.int .i64 ff)) (first | assumption | (simp [*]; done)) ((first
              | (go_at_call 19; refine (fails_c g (passS S z1) _ HP8.out).mono ?_; rintro e W9 ⟨rfl, rfl⟩; rw [Hff.out])))
            clear HP8 HP2 HX2 HB2
            go_wp2
            go_roundw
            case rel => exact ⟨k + 1, by omega, by omega, by go_num, HR9.out⟩
            case measure => simp [intOf]; omega
        · have HR3 : LRel w g g' (wr.alloc (.cells #[.int .i64 z0, .int .i64 z1] 35)) := ⟨S, hP.grown (World.grownBy_alloc wr _ none) (by simp), hX.grown (World.grownBy_alloc wr _ none) (by simp), hB.alloc hB.size _⟩
          have HR4 := hide HR3
          have hBs := hB.size
          clear HR3 hP hX hB
          go_wp2
          go_meet
          case rel => exact HR4.out
      · go_wp2
        go_meet
        case rel => exact HR.out
  case rest =>
    obtain ⟨S, hP, hX, hB⟩ := hcut
    have HB := hide hB
    clear hP hX hB
    go_wp2_with fail
    refine (awake_any _).mono ?_
    rintro e w4 ⟨rfl, hb4⟩
    have Hb4 := hide (below_via HB.out hb4)
    clear hb4 HB
    go_wp2
    go_returns
    exact ⟨rfl, Hb4.out⟩

end Go.Proofs.Ytdcccgjdcfggfaa
