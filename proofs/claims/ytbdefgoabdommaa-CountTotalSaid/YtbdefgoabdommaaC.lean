/-
  The walk of the law CountTotal: it returns true and leaves what was there as it was. No condition.
-/
import Derived.Test.YtbdefgoabdommaaB
import Derived.Deep.DeepCutAuto
import Derived.Deep.CutBlock
namespace Go.Proofs.Ytbdefgoabdommaa
open Go.RowKit

def total (L : List Int) : Int := L.foldl (· + ·) 0

/-- What is counted after k rounds: no number below 0, all together at most k times the most. -/
def Small (L : List Int) (k : Nat) : Prop := (∀ x ∈ L, 0 ≤ x) ∧ L.sum ≤ (k : Int) * 2147483648

theorem sum_nonneg {L : List Int} (h : ∀ x ∈ L, 0 ≤ x) : 0 ≤ L.sum := by
  induction L with
  | nil => simp
  | cons a l ih => simp only [List.sum_cons]; have := h a (by simp); have := ih (fun x hx => h x (by simp [hx])); omega
theorem le_sum {L : List Int} (h : ∀ x ∈ L, 0 ≤ x) : ∀ x ∈ L, x ≤ L.sum := by
  induction L with
  | nil => simp
  | cons a l ih =>
    intro x hx
    have h1 := h a (by simp)
    have h2 := sum_nonneg (fun x hx => h x (by simp [hx]) : ∀ x ∈ l, 0 ≤ x)
    simp only [List.sum_cons]
    rcases List.mem_cons.1 hx with rfl | hx
    · omega
    · have := ih (fun x hx => h x (by simp [hx])) x hx; omega
theorem wrap_in {n : Int} (h0 : 0 ≤ n) (h1 : n ≤ 4611686018427387904) : wrap64 n = n := IntWalk.wrap64_in n ⟨by omega, by omega⟩
theorem foldl_wrap {L : List Int} (h : ∀ x ∈ L, 0 ≤ x) : ∀ s : Int, 0 ≤ s → s + L.sum ≤ 4611686018427387904 → L.foldl (fun s x => wrap64 (s + x)) s = s + L.sum := by
  induction L with
  | nil => simp
  | cons a l ih =>
    intro s hs hb
    have h1 := h a (by simp)
    have h2 := sum_nonneg (fun x hx => h x (by simp [hx]) : ∀ x ∈ l, 0 ≤ x)
    simp only [List.sum_cons] at hb ⊢
    simp only [List.foldl_cons]
    rw [wrap_in (by omega) (by omega), ih (fun x hx => h x (by simp [hx])) (s + a) (by omega) (by omega)]
    omega
theorem sumW_eq {L : List Int} {k : Nat} (h : Small L k) (hk : k ≤ 100) : sumW L = L.sum := by
  have := foldl_wrap h.1 0 (by omega) (by have := h.2; omega)
  simpa [sumW] using this
theorem sum_set (L : List Int) (k : Nat) (x : Int) (h : k < L.length) : (L.set k x).sum = L.sum + x - L.getD k 0 := by
  induction L generalizing k with
  | nil => simp at h
  | cons a l ih =>
    cases k with
    | zero => simp; omega
    | succ k => simp only [List.set_cons_succ, List.sum_cons, List.getD_cons_succ]; rw [ih k (by simpa using h)]; omega

theorem addL_small {L : List Int} {i : Nat} (hL : L.length = 5) (h : Small L i) (hi : i < 100) (k n : Int) :
    Small (addL L k n) (i + 1) ∧ (addL L k n).sum = (if okB k n then L.sum + n else L.sum) := by
  unfold addL
  by_cases hb : okB k n = true
  · have hb' : 0 ≤ k ∧ k < 5 ∧ 0 ≤ n ∧ n ≤ 2147483648 := by simpa [okB] using hb
    simp only [hb, if_true]
    have hlen : k.toNat < L.length := by omega
    have hmem : L.getD k.toNat 0 ∈ L := by simp [List.getD, hlen]
    have h0 := h.1 _ hmem
    have h1 := le_sum h.1 _ hmem
    have h2 := h.2
    have hw : wrap64 (L.getD k.toNat 0 + n) = L.getD k.toNat 0 + n := wrap_in (by omega) (by omega)
    rw [hw]
    have hs : (L.set k.toNat (L.getD k.toNat 0 + n)).sum = L.sum + n := by rw [sum_set _ _ _ hlen]; omega
    refine ⟨⟨fun x hx => ?_, by rw [hs]; omega⟩, hs⟩
    rcases List.mem_or_eq_of_mem_set hx with hx | rfl
    · exact h.1 x hx
    · omega
  · rw [if_neg hb, if_neg hb]
    exact ⟨⟨h.1, by have := h.2; omega⟩, rfl⟩

def TotRel (w : World) (g r : Nat) (k : Nat) (n : Int) (wr : World) : Prop := ∃ L, Ctr wr g r L ∧ Small L k ∧ n = L.sum ∧ Below w.heap.size w wr

set_option maxHeartbeats 1000000 in
theorem countTotal_any (a : Option Addr) (len cap : Nat) (Z : Nat → Nat → Int) (w : World) (hlen : len ≤ maxLen) (hZ : IntStructs w a len 2 Z) :
    Calls Try.prog 3 #[.slice a len cap] w fun e w' => e = .returned (.bool true) ∧ Below w.heap.size w w' := by
  unfold maxLen at hlen
  go_enter Try.func3, Try.ntmps3
  go_wp2_with fail
  refine (new_c _).mono ?_
  rintro e w1 ⟨g, r, rfl, hC, hg, hr, hb⟩
  have hR : TotRel w g r 0 0 w1 := ⟨_, hC, ⟨by simp, by simp⟩, by simp, hb⟩
  clear hC hb
  go_upto_block 0 with fail
  go_cut [4] (fun n W => ∃ (k : Nat) (s : Int), k ≤ 100 ∧ n = .int .i64 s ∧ TotRel w g r k s W)
  case first =>
    go_wp2_with fail
    go_loopw [4, 13] (fun n i wr => ∃ (k : Nat) (s : Int), k ≤ len ∧ k ≤ 100 ∧ i = .int .i64 k ∧ n = .int .i64 s ∧ TotRel w g r k s wr) (fun _ i _ => 100 - (intOf i).toNat)
    case atStart => exact ⟨0, 0, by omega, by omega, rfl, rfl, hR⟩
    case round =>
      clear hR
      obtain ⟨k, s, hk, hk1, rfl, rfl, hR⟩ := hrel
      have HR := hide hR
      clear hR
      by_cases hlt : k < len
      · rcases hZ with h0 | ⟨b, off, rfl, hbw, hcell⟩
        · omega
        obtain ⟨L, hC, hS, rfl, hB⟩ := HR.out
        have hZ0 := (hcell k 0 hlt (by omega)).1
        have hZ1 := (hcell k 1 hlt (by omega)).1
        have wZ1 := (hcell k 1 hlt (by omega)).2
        rw [← hB.cell hbw] at hZ0 hZ1
        simp only [Nat.add_zero] at hZ0
        clear hcell HR
        generalize Z k 0 = z0 at hZ0
        generalize Z k 1 = z1 at hZ1 wZ1
        have HS0 := hide hS
        by_cases h100 : k < 100
        · have hA := hC.grown (World.grownBy_alloc wr (.cells #[.int .i64 z0, .int .i64 z1] 26) none) (by simp) (by simp)
          have hS' := addL_small hC.2.2 hS h100 z0 z1
          have HA := hide hA
          have HS := hide hS'
          have HB := hide hB
          have HC := hide hC
          have hrl := hC.2.1.lt
          have hBs := hB.size
          clear hA hS' hC hB
          go_wp2_with fail
          refine (add_c g r L z0 z1 _ HA.out).mono ?_
          rintro e w2 ⟨rfl, hC, hw⟩
          have hd : w2.cell? ⟨wr.heap.size, 1, none⟩ = some (.int .i64 z1) := hw.cell (by simp) (by simp; omega)
          have hB2 : Below w.heap.size w w2 := grown_below (HB.out.alloc hBs _) hw (by simp; omega) hr
          by_cases hok : okB z0 z1 = true
          · have hR2 : TotRel w g r (k + 1) (L.sum + z1) w2 := ⟨_, hC, HS.out.1, by rw [HS.out.2, if_pos hok], hB2⟩
            have HR2 := hide hR2
            have hb0 := sum_nonneg HS0.out.1
            have hb1 := HS0.out.2
            have hz : 0 ≤ z1 ∧ z1 ≤ 2147483648 := by have : 0 ≤ z0 ∧ z0 < 5 ∧ 0 ≤ z1 ∧ z1 ≤ 2147483648 := by simpa [okB] using hok
                                                     exact this.2.2
            have hsum : L.sum ≤ 1000000000000 := by omega
            clear hC hw hB2 hR2 HA HS HB HC HS0 hb1
            go_wp2
            go_roundw
            case rel => exact ⟨k + 1, L.sum + z1, by omega, by omega, by go_num, by go_num, HR2.out⟩
            case measure => simp [intOf]; omega
          · have hok' : okB z0 z1 = false := by simpa using hok
            have hR2 : TotRel w g r (k + 1) L.sum w2 := ⟨_, hC, HS.out.1, by rw [HS.out.2, if_neg hok], hB2⟩
            have HR2 := hide hR2
            clear hC hw hB2 hR2 HA HS HB HC HS0 hd hok
            go_wp2
            go_roundw
            case rel => exact ⟨k + 1, L.sum, by omega, by omega, by go_num, rfl, HR2.out⟩
            case measure => simp [intOf]; omega
        · have hR2 : TotRel w g r k L.sum (wr.alloc (.cells #[.int .i64 z0, .int .i64 z1] 26)) := ⟨L, hC.grown (World.grownBy_alloc wr _ none) (by simp) (by simp), hS, rfl, hB.alloc hB.size _⟩
          have HR2 := hide hR2
          have hBs := hB.size
          clear hR2 hC hS hB HS0
          go_wp2
          go_meet
          case rel => exact ⟨k, L.sum, hk1, rfl, HR2.out⟩
      · go_wp2
        go_meet
        case rel => exact ⟨k, s, hk1, rfl, HR.out⟩
  case rest =>
    clear hR
    obtain ⟨k, s, hk, rfl, hR⟩ := hcut
    obtain ⟨L, hC, hS, rfl, hB⟩ := hR
    have HC := hide hC
    have HS := hide hS
    have HB := hide hB
    clear hC hS hB
    go_wp2_with fail
    refine (list_c g r L _ HC.out).mono ?_
    rintro e w2 ⟨b, cap, rfl, hb0, hcell, hb⟩
    have HC2 := hide (HC.out.below hb)
    have HB2 := hide (HB.out.trans (hb.mono HB.out.size))
    have hL := HC.out.2.2
    have Hcell := hide hcell
    clear HC HB hb0 hcell hb
    go_wp2_with fail
    go_loop [7, 34] (fun s i => ∃ j : Nat, j ≤ 5 ∧ i = .int .i64 j ∧ s = .int .i64 (sumW (L.take j))) (fun _ i => 5 - (intOf i).toNat)
    case atStart => exact ⟨0, by omega, rfl, rfl⟩
    case round =>
      obtain ⟨j, hj, rfl, rfl⟩ := hrel
      by_cases hlt : j < 5
      · have hc := Hcell.out j hlt
        have hs := sumW_succ L j (by omega)
        generalize L.getD j 0 = x at hc hs
        generalize sumW (L.take j) = s at hs
        have Hs := hide hs
        clear hs
        go_wp2_with fail
        go_round
        case rel => exact ⟨j + 1, by omega, by go_num, by rw [Hs.out]⟩
        case measure => simp [intOf]; omega
      · obtain rfl : j = 5 := by omega
        have ht : L.take 5 = L := List.take_of_length_le (by omega)
        rw [ht, sumW_eq HS.out hk]
        go_wp2_with fail
        refine (total_c g r L _ HC2.out).mono ?_
        rintro e w3 ⟨rfl, hb3⟩
        have HB3 := hide (HB2.out.trans (hb3.mono HB2.out.size))
        rw [sumW_eq HS.out hk]
        clear hb3 ht HC2 HB2
        go_wp2_with fail
        refine (awake_any _).mono ?_
        rintro e w4 ⟨rfl, hb4⟩
        have HB4 := hide (HB3.out.trans (hb4.mono HB3.out.size))
        clear hb4 HB3
        go_wp2
        go_returns
        exact ⟨rfl, HB4.out⟩
end Go.Proofs.Ytbdefgoabdommaa
