/-
  The counts' lines. No condition.
-/
import Derived.Test.YtlcflajkpkgejaaRepG
namespace Go.Proofs.Ytlcflajkpkgejaa
open Go.RowKit
set_option linter.unusedVariables false
set_option linter.unusedSimpArgs false

def kindW : Nat → ByteArray
  | 0 => ⟨#[109, 101, 115, 115, 97, 103, 101, 115]⟩
  | 1 => ⟨#[108, 101, 97, 115, 101, 115]⟩
  | 2 => ⟨#[105, 110, 106, 101, 99, 116, 101, 100]⟩
  | 3 => ⟨#[102, 97, 117, 108, 116, 115]⟩
  | _ => ⟨#[108, 111, 115, 115, 101, 115]⟩
def cntN (L : List Int) : Nat → List ByteArray
  | 0 => []
  | k + 1 => cntN L k ++ [lineB (kindW k) [L.getD k 0]]
theorem cntN_length (L : List Int) (k : Nat) : (cntN L k).length = k := by
  induction k with
  | zero => rfl
  | succ k ih => unfold cntN; rw [List.length_append, ih]; rfl
theorem kindW_size (k : Nat) : (kindW k).size ≤ 20 := by
  unfold kindW
  split <;> decide
theorem word_any (k : Nat) (w : World) (hk : k < 5) :
    Calls Try.prog 18 #[.int .i64 k] w fun e w' => w = w' ∧ e = .returned (.string (kindW k)) := by
  have h : k = 0 ∨ k = 1 ∨ k = 2 ∨ k = 3 ∨ k = 4 := by omega
  clear hk
  rcases h with rfl | rfl | rfl | rfl | rfl
  all_goals
    go_enter Try.func18, Try.ntmps18
    go_wp2
    go_returns
    exact ⟨rfl, rfl⟩

theorem pair_alloc {W : World} (o : Obj) {A B i j : Nat} {x y : Value} (h : W.cell? ⟨A, i, none⟩ = some x ∧ W.cell? ⟨B, j, none⟩ = some y) : (W.alloc o).cell? ⟨A, i, none⟩ = some x ∧ (W.alloc o).cell? ⟨B, j, none⟩ = some y := by
  have hb : Below W.heap.size W (W.alloc o) := (Below.refl _ _).alloc (Nat.le_refl _) o
  exact ⟨(hb.cell (World.block_lt_of_cell? _ _ h.1)).trans h.1, (hb.cell (World.block_lt_of_cell? _ _ h.2)).trans h.2⟩
theorem pair_drew {W : World} {A B i j : Nat} {x y : Value} (h : W.cell? ⟨A, i, none⟩ = some x ∧ W.cell? ⟨B, j, none⟩ = some y) : W.drew.cell? ⟨A, i, none⟩ = some x ∧ W.drew.cell? ⟨B, j, none⟩ = some y := h

theorem counts_any (a : Option Addr) (L : List Int) (cap : Nat) (w : World) (h : IntsAt w a L) (hr : InRange L) (hn : L.length ≤ 40) (hcap : L.length ≤ cap) :
    Calls Try.prog 10 #[.slice a L.length cap] w (LinesOf w (cntN L (min L.length 5))) := by
  obtain ⟨i0, hi, hz0, hz1, hz2⟩ := info_parts infoStr
  have H := hide h
  have HR := hide hr
  clear h hr
  obtain ⟨m, hm⟩ : ∃ m, min L.length 5 = m := ⟨_, rfl⟩
  have hm5 : m ≤ 5 := by omega
  have hmL : m ≤ L.length := by omega
  have hmc : m ≤ cap := by omega
  have hmi : min (L.length : Int) 5 = (m : Int) := by omega
  rw [hm]
  clear hm
  have HA := hide True.intro
  rcases a with _ | ad
  · have hL0 : L = [] := by
      rcases H.out with h | ⟨b, off, e, _⟩
      · exact h
      · cases e
    subst hL0
    obtain rfl : m = 0 := by simpa using hmL
    go_enter Try.func10, Try.ntmps10
    go_wp2_with fail
    go_rounds 1
    all_goals go_returns
    all_goals exact ⟨_, rfl, World.ownsRow_nil w w.heap.size 9 1, Below.refl _ _⟩
  · go_enter Try.func10, Try.ntmps10
    go_wp2_with fail
    go_loopw [3, 12] (fun v i wr => ∃ j : Nat, j ≤ m ∧ i = .int .i64 j ∧ wr.ownsRow w.heap.size 9 1 v j (strs (cntN L j)) ∧ Below w.heap.size w wr) (fun _ i _ => 64 - (intOf i).toNat)
    case atStart => exact ⟨0, Nat.zero_le _, rfl, by simpa [cntN, strs] using World.ownsRow_nil w w.heap.size 9 1, Below.refl _ _⟩
    case round =>
      obtain ⟨j, hj, rfl, hown, hB⟩ := hrel
      by_cases hlt : j < m
      · rcases H.out.below hB with h0 | ⟨b, off, hb, hbl, hc⟩
        · subst h0; simp at hmL; omega
        injection hb with hb
        subst hb
        have hcj := hc j (by omega)
        have hrg := HR.out _ (getD_mem (show j < L.length by omega))
        have hstep : cntN L (j + 1) = cntN L j ++ [lineB (kindW j) [L.getD j 0]] := rfl
        generalize L.getD j 0 = x at hcj hrg hstep
        have hr1 : InRange [x] := fun y hy => by
          have hy := List.mem_singleton.1 hy
          subst hy; exact hrg
        have k0 : (0 : Int) ≤ (j : Int) := by omega
        have k1 : (j : Int) < (m : Int) := by omega
        have Hstep := hide hstep
        have Hr1 := hide hr1
        have HB := hide hB
        have Hown := hide hown
        clear hc hrg hr1 hstep hB hown
        go_wp2_with fail
        refine (word_any j _ (by omega)).mono ?_
        rintro e w1 ⟨rfl, rfl⟩
        go_wp2_with fail
        refine (line_one (kindW j) _ x _ (by simp) (by simp) Hr1.out (kindW_size j)).mono ?_
        rintro e w2 ⟨rfl, hb2⟩
        have hb3 := below_via ((Below.refl _ _).alloc (Nat.le_refl _) _) hb2
        have hown1 := own_below Hown.out hb3
        have HB2 := hide (below_via HB.out hb3)
        have hbs := HB2.out.size
        clear hb2 hb3
        go_wp2_with (at_builtin; refine wpList_append_one w2 rfl _ _ 28 rfl w.heap.size 9 i0 (.string ByteArray.empty) 1 16 Try.underlying28 hi hz0 hz1 hz2 rfl (by decide) _ _ _ [.string (lineB (kindW j) [x])] hown1 rfl rfl (by simp [Value.oneCell']) rfl (by simp [maxLen]; omega) (by omega) hbs ?_; intro v3 w3 hown3 hb4 _)
        go_roundw
        case rel => exact ⟨j + 1, by omega, by go_num, by rw [Hstep.out, ← strs_one]; exact hown3, HB2.out.trans hb4⟩
        case measure => simp [intOf]; omega
      · have he : j = m := by omega
        subst he
        have hge : ¬ ((j : Int) < (j : Int)) := by omega
        have Hown := hide hown
        have HB := hide hB
        clear hown hB
        go_wp2_with fail
        go_returns
        exact ⟨_, rfl, by rw [cntN_length]; exact Hown.out, HB.out⟩

theorem rcounts_any (a : Option Addr) (L : List Int) (cap : Nat) (w : World) (h : IntsAt w a L) (hr : InRange L) (hn : L.length ≤ 40) :
    Calls Try.prog 11 #[.slice a L.length cap] w (LinesOf w (cntN L (min L.length 5))) := by
  obtain ⟨i0, hi, hz0, hz1, hz2⟩ := info_parts infoStr
  have H := hide h
  have HR := hide hr
  clear h hr
  go_enter Try.func11, Try.ntmps11
  go_upto_region 2 with fail
  refine Code.wp_named (fun W => Blk W w.heap.size 9 #[.string (kindW 0), .string (kindW 1), .string (kindW 2), .string (kindW 3), .string (kindW 4)] ∧ Below w.heap.size w W) ⟨Blk.new w _ _, (Below.refl _ _).alloc (Nat.le_refl _) _⟩ ?_
  rintro W0 ⟨hx, hb0⟩
  have HX := hide hx
  have HB0 := hide hb0
  have hs0 : w.heap.size < W0.heap.size := hx.lt
  generalize hVe : w.heap.size = V at HX hs0 HB0 ⊢
  have HVe := hide hVe
  clear hx hb0 hVe
  go_wp2_with fail
  go_loopw [4, 5] (fun v i wr => ∃ j : Nat, j ≤ 5 ∧ j ≤ L.length ∧ i = .int .i64 j ∧ wr.ownsRow W0.heap.size 9 1 v j (strs (cntN L j)) ∧ Below W0.heap.size W0 wr) (fun _ i _ => 64 - (intOf i).toNat)
  case atStart => exact ⟨0, by omega, by omega, rfl, by simpa [cntN, strs] using World.ownsRow_nil W0 W0.heap.size 9 1, Below.refl _ _⟩
  case round =>
    obtain ⟨j, hj5, hjL, rfl, hown, hB⟩ := hrel
    by_cases hlt : j < 5 ∧ j < L.length
    · obtain ⟨hl5, hlL⟩ := hlt
      rcases H.out with h0 | ⟨b, off, rfl, hbl0, hc⟩
      · subst h0; simp at hlL
      rw [HVe.out] at hbl0
      have hbW : b < W0.heap.size := Nat.lt_trans hbl0 hs0
      have hbl : b < wr.heap.size := Nat.lt_of_lt_of_le hbW hB.size
      have hcj := ((HB0.out.trans (hB.mono (Nat.le_of_lt hs0))).cell (p := ⟨b, off + j, none⟩) hbl0).trans (hc j hlL)
      have hnm : wr.cell? ⟨V, j, none⟩ = some (.string (kindW j)) := by
        rw [(HX.out.below hB hs0).cell j]
        have h : j = 0 ∨ j = 1 ∨ j = 2 ∨ j = 3 ∨ j = 4 := by omega
        rcases h with rfl | rfl | rfl | rfl | rfl <;> rfl
      have hrg := HR.out _ (getD_mem hlL)
      have hstep : cntN L (j + 1) = cntN L j ++ [lineB (kindW j) [L.getD j 0]] := rfl
      generalize L.getD j 0 = x at hcj hrg hstep
      have hr1 : InRange [x] := fun y hy => by
        have hy := List.mem_singleton.1 hy
        subst hy; exact hrg
      have hks := kindW_size j
      generalize kindW j = nm at hnm hstep hks
      have k0 : (0 : Int) ≤ (j : Int) := by omega
      have k1 : (j : Int) < (L.length : Int) := by omega
      have k2 : (j : Int) < 5 := by omega
      have hV : V < wr.heap.size := Nat.lt_of_lt_of_le hs0 hB.size
      have Hstep := hide hstep
      have Hr1 := hide hr1
      have Hks := hide hks
      have HB := hide hB
      have Hown := hide hown
      clear hc hrg hr1 hstep hB hown hks
      go_upto_region 6 with fail
      go_region_held3 (fun W => W.cell? ⟨V, j, none⟩ = some (.string nm) ∧ W.cell? ⟨b, off + j, none⟩ = some (.int .i64 x)) (((try dsimp only); repeat (first | with_reducible assumption | exact ⟨by with_reducible assumption, by with_reducible assumption⟩ | (with_reducible refine pair_alloc _ ?_) | (with_reducible refine pair_drew ?_)))) ((first
        | (go_at_call 17; (with_reducible refine (rline_one nm wr.heap.size x _ (by simp) (by simp) Hr1.out Hks.out).mono ?_); rintro e wa ⟨rfl, hba⟩; have hwa := below_via (((Below.refl wr.heap.size wr).alloc (Nat.le_refl _) _).drew) hba; have e2a := (hwa.cell (p := ⟨V, j, none⟩) hV).trans hnm; have e3a := (hwa.cell (p := ⟨b, off + j, none⟩) hbl).trans hcj; have hVa : V < wa.heap.size := Nat.lt_of_lt_of_le hV hwa.size; have hba2 : b < wa.heap.size := Nat.lt_of_lt_of_le hbl hwa.size; have hownb := own_below Hown.out hwa; have HBb := hide (below_via HB.out hwa); have hsb := HBb.out.size; clear hba hwa)
        | (refine step_append_lies _ (by rfl) _ _ 28 (by rfl) W0.heap.size 9 i0 (.string ByteArray.empty) 1 16 Try.underlying28 hi hz0 hz1 hz2 rfl (by decide) _ j (strs (cntN L j)) (by rfl) (hownb.alloc _) ⟨wa.heap.size, 0, none⟩ 1 1 [.string (lineB nm [x])] (by rfl) rfl (World.news_of_block (heap_alloc_new wa _)) (by simp [Value.oneCell']) (by decide) (by simp [maxLen]; omega) (by omega) (by simp; omega) _ rfl ?_; intro g cap w3 hown3 hg3 hat hlt3; have hb3 := (Below.refl W0.heap.size (wa.alloc (.cells #[.string (lineB nm [x])] 9))).grown hg3 (by simp; omega) (fun k hk => (hownb.lt k hk).1); have h23 := pair_alloc (.cells #[.string (lineB nm [x])] 9) ⟨e2a, e3a⟩; have e2c := (hb3.cell (p := ⟨V, j, none⟩) hs0).trans h23.1; have e3c := (hb3.cell (p := ⟨b, off + j, none⟩) hbW).trans h23.2)))
      have HBz := hide ((HBb.out.alloc hsb _).trans hb3)
      have Hz := hide hown3
      clear hown3 hb3 hg3 e2c e3c h23 e2a e3a
      go_wp2_with fail
      go_roundw
      case rel => exact ⟨j + 1, by omega, by omega, by go_num, by rw [Hstep.out, ← strs_one]; exact Hz.out, HBz.out⟩
      case measure => simp [intOf]; omega
    · have he : min L.length 5 = j := by omega
      have Hown := hide hown
      have HB := hide hB
      have He := hide he
      clear hown hB he
      by_cases h5 : j < 5
      · have h5' : (j : Int) < 5 := by omega
        have hL' : ¬ (j : Int) < (L.length : Int) := by omega
        clear hlt
        go_wp2_with fail
        go_returns
        exact ⟨_, rfl, by rw [He.out, cntN_length, HVe.out]; exact own_base Hown.out (Nat.le_of_lt hs0), by rw [HVe.out]; exact HB0.out.trans (HB.out.mono (Nat.le_of_lt hs0))⟩
      · have h5' : ¬ (j : Int) < 5 := by omega
        clear hlt
        go_wp2_with fail
        go_returns
        exact ⟨_, rfl, by rw [He.out, cntN_length, HVe.out]; exact own_base Hown.out (Nat.le_of_lt hs0), by rw [HVe.out]; exact HB0.out.trans (HB.out.mono (Nat.le_of_lt hs0))⟩
end Go.Proofs.Ytlcflajkpkgejaa
