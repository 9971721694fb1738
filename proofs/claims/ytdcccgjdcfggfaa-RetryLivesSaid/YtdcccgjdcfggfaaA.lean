/-
  What Delay of the program and of the document's package compute. No condition.
-/
import Derived.Test.YtdcccgjdcfggfaaRows
import Derived.Test.YtdcccgjdcfggfaaKit
import Derived.Handy
import Derived.WalkLawsBesides
import Derived.Deep.DeepCutAuto
import Derived.Deep.CutBlock
namespace Go.Proofs.Ytdcccgjdcfggfaa
open Go.RowKit
set_option linter.unusedVariables false
set_option linter.unusedSimpArgs false

def held (n : Int) : Int := min (max n 1) 1048576
theorem held_in (n : Int) : 1 ≤ held n ∧ held n ≤ 1048576 := by unfold held; omega

theorem held_any (n : Int) (w : World) : Calls Try.prog 20 #[.int .i64 n] w fun e w' => e = .returned (.int .i64 (held n)) ∧ w = w' := by
  rcases (by omega : n < 1 ∨ (1 ≤ n ∧ n ≤ 1048576) ∨ 1048576 < n) with h | ⟨h, h'⟩ | h
  all_goals
    go_enter Try.func20, Try.ntmps20
    go_wp2
    go_returns
    exact ⟨ret_int (by unfold held; omega), rfl⟩

theorem int_eq {k : IntKind} {a b : Int} (h : a = b) : Value.int k a = Value.int k b := by rw [h]

/-- Doubled k times, and at most t. -/
def cap (x t : Int) (k : Nat) : Int := min (x * 2 ^ k) t
theorem cap_zero (x t : Int) : cap x t 0 = min x t := by simp [cap]
theorem cap_succ (x t : Int) (k : Nat) : cap x t (k + 1) = cap (x * 2) t k := by
  unfold cap; rw [Int.pow_succ', ← Int.mul_assoc]
theorem cap_full (x t : Int) (k : Nat) (h : t ≤ x) (h0 : 0 ≤ t) : cap x t k = t := by
  unfold cap
  have h2 : (1 : Int) ≤ 2 ^ k := by have : (0 : Int) < 2 ^ k := Int.pow_pos (by decide); omega
  have h3 : x * 1 ≤ x * 2 ^ k := Int.mul_le_mul_of_nonneg_left h2 (by omega)
  omega
theorem cap_min (x t : Int) (k : Nat) (h0 : 0 ≤ t) (hx : 0 ≤ x) : cap (min x t) t k = cap x t k := by
  rcases Int.le_total x t with h | h
  · rw [Int.min_eq_left h]
  · rw [Int.min_eq_right h, cap_full t t k (Int.le_refl _) h0, cap_full x t k h h0]
theorem cap_bounds (x t : Int) (k : Nat) (h1 : 1 ≤ x) (h2 : 1 ≤ t) : 1 ≤ cap x t k ∧ cap x t k ≤ t := by
  unfold cap
  have h3 : (1 : Int) ≤ 2 ^ k := by have : (0 : Int) < 2 ^ k := Int.pow_pos (by decide); omega
  have h4 : x * 1 ≤ x * 2 ^ k := Int.mul_le_mul_of_nonneg_left h3 (by omega)
  omega

/-- How long one waits. -/
def delay (l m f : Int) : Int := if f < 1 then 0 else cap (held l) (held m) (f - 1).toNat
theorem delay_in (l m f : Int) : 0 ≤ delay l m f ∧ delay l m f ≤ 1048576 := by
  unfold delay
  have h1 := held_in l
  have h2 := held_in m
  split
  · omega
  · have := cap_bounds (held l) (held m) (f - 1).toNat h1.1 h2.1; omega


set_option maxRecDepth 100000 in
set_option maxHeartbeats 400000 in
theorem delay_any (l m f : Int) (w : World) (hf : f ≤ 9223372036854775807) : Calls Try.prog 7 #[.int .i64 l, .int .i64 m, .int .i64 f] w fun e w' => e = .returned (.int .i64 (delay l m f)) ∧ w = w' := by
  by_cases h1 : f < 1
  · go_enter Try.func7, Try.ntmps7
    go_wp2
    go_returns
    exact ⟨ret_int (by unfold delay; rw [if_pos h1]), rfl⟩
  · have hfin : delay l m f = cap (held l) (held m) (f - 1).toNat := by unfold delay; rw [if_neg h1]
    obtain ⟨K, rfl⟩ : ∃ K : Nat, f = (K : Int) + 1 := ⟨(f - 1).toNat, by omega⟩
    rw [show ((K : Int) + 1 - 1).toNat = K by omega] at hfin
    have Hfin := hide hfin
    have hl := held_in l
    have hm := held_in m
    obtain ⟨F, hF⟩ : ∃ F : Int, (K : Int) + 1 = F := ⟨_, rfl⟩
    have hF1 : 1 ≤ F := by omega
    have HF := hide hF
    rw [hF] at hf ⊢
    clear hfin h1 hF
    go_enter Try.func7, Try.ntmps7
    go_wp2_with fail
    refine (held_any l _).mono ?_
    rintro e w1 ⟨rfl, rfl⟩
    go_wp2_with fail
    refine (held_any m _).mono ?_
    rintro e w1 ⟨rfl, rfl⟩
    generalize held l = a at *
    generalize held m = b at *
    go_upto_block 0 with fail
    rw [show F - 1 = (K : Int) by have := HF.out; omega]
    have hK : (K : Int) ≤ 9223372036854775806 := by have := HF.out; omega
    go_cut [7] (fun s W => w = W ∧ ∃ x : Int, s = .int .i64 x ∧ 1 ≤ x ∧ x ≤ 2097152 ∧ Hid (min x b = cap a b K))
    case first =>
      go_wp2_with fail
      go_loop [7, 17] (fun s i => ∃ (k r : Nat) (x : Int), (k : Int) + r = K ∧ i = .int .i64 k ∧ s = .int .i64 x ∧ 1 ≤ x ∧ x ≤ 2097152 ∧ Hid (cap x b r = cap a b K)) (fun _ i => K - (intOf i).toNat)
      case atStart => exact ⟨0, K, a, by omega, rfl, rfl, hl.1, by omega, rfl⟩
      case round =>
        obtain ⟨k, r, x, hkr, rfl, rfl, hx1, hx2, hc⟩ := hrel
        have Hkr := hide hkr
        by_cases hr : r = 0
        · subst hr
          have hk : ¬ (k : Int) < K := by omega
          clear hkr
          go_wp2
          go_meet
          case rel => exact ⟨rfl, x, rfl, hx1, hx2, by have := hc.out; rw [cap_zero] at this; exact this⟩
        · obtain ⟨r', rfl⟩ : ∃ r', r = r' + 1 := ⟨r - 1, by omega⟩
          have hk : (k : Int) < K := by omega
          clear hkr
          by_cases hb : b ≤ x
          · go_wp2
            go_meet
            case rel => exact ⟨rfl, x, rfl, hx1, hx2, by have := hc.out; rw [cap_full x b _ hb (by omega)] at this; show min x b = _; rw [Int.min_eq_right hb]; exact this⟩
          · have hb' : x < b := by omega
            go_wp2
            go_round
            case rel => exact ⟨k + 1, r', x * 2, by have := Hkr.out; omega, by go_num, rfl, by omega, by omega, by have := hc.out; rw [cap_succ] at this; exact this⟩
            case measure => have := Hkr.out; simp [intOf]; omega
    case rest =>
      obtain ⟨rfl, x, rfl, hx1, hx2, hc⟩ := hcut
      have h1 := hc.out
      have h2 := HF.out
      have Hend := hide (show min x b = delay l m F by rw [← h2, Hfin.out, ← h1])
      clear h1 h2 hc Hfin HF
      rcases Int.le_total x b with hxb | hxb
      all_goals
        go_wp2
        all_goals go_returns
        all_goals exact ⟨ret_int (by have := Hend.out; omega), rfl⟩

set_option maxRecDepth 100000 in
set_option maxHeartbeats 400000 in
theorem rdelay_any (l m f : Int) (w : World) (hf : f ≤ 9223372036854775807) : Calls Try.prog 11 #[.int .i64 l, .int .i64 m, .int .i64 f] w fun e w' => e = .returned (.int .i64 (delay l m f)) ∧ w = w' := by
  go_enter Try.func11, Try.ntmps11
  go_upto_region 1 with fail
  go_cut [0, 1] (fun s0 s1 W => w = W ∧ s0 = .int .i64 (held l) ∧ s1 = .int .i64 (held m))
  case first =>
    have h1 : l < 1 ∨ (1 ≤ l ∧ l ≤ 1048576) ∨ 1048576 < l := by omega
    have h2 : m < 1 ∨ (1 ≤ m ∧ m ≤ 1048576) ∨ 1048576 < m := by omega
    rcases h1 with h1 | ⟨h1, h1'⟩ | h1
    all_goals
      rcases h2 with h2 | ⟨h2, h2'⟩ | h2
      all_goals
        go_wp2
        go_meet
        case rel => exact ⟨rfl, int_eq (by unfold held; omega), int_eq (by unfold held; omega)⟩
  case rest =>
    obtain ⟨rfl, rfl, rfl⟩ := hcut
    have hl := held_in l
    have hm := held_in m
    by_cases h1 : f < 1
    · go_wp2
      all_goals go_returns
      all_goals exact ⟨ret_int (by unfold delay; rw [if_pos h1]), rfl⟩
    · have hfin : delay l m f = cap (held l) (held m) (f - 1).toNat := by unfold delay; rw [if_neg h1]
      obtain ⟨K, hK⟩ : ∃ K : Nat, (f - 1).toNat = K := ⟨_, rfl⟩
      rw [hK] at hfin
      have Hfin := hide hfin
      have HK := hide hK
      have h1' : 1 ≤ f := by omega
      clear hfin hK h1
      generalize held l = a at *
      generalize held m = b at *
      go_upto_region 4 with fail
      go_cut [7] (fun s W => w = W ∧ s = .int .i64 (min a b))
      case first =>
        rcases Int.le_total a b with h | h
        all_goals
          go_wp2
          all_goals go_meet
          all_goals exact ⟨rfl, int_eq (by omega)⟩
      case rest =>
        obtain ⟨rfl, rfl⟩ := hcut
        have hc0 := cap_min a b K (by omega) (by omega)
        have hd : 1 ≤ min a b ∧ min a b ≤ b := by omega
        rw [← hc0] at Hfin
        generalize min a b = d0 at *
        clear hc0
        go_wp2_with fail
        go_loop [7, 8] (fun s i => ∃ (k r : Nat) (x : Int), Hid ((k : Int) + r + 1 = f) ∧ i = .int .i64 (k + 1) ∧ (k : Int) + 1 ≤ f ∧ s = .int .i64 x ∧ 1 ≤ x ∧ x ≤ b ∧ Hid (cap x b r = cap d0 b K)) (fun _ i => (f - intOf i).toNat)
        case atStart => exact ⟨0, K, d0, by have := HK.out; show ((0 : Nat) : Int) + K + 1 = f; omega, rfl, by omega, rfl, hd.1, hd.2, rfl⟩
        case round =>
          obtain ⟨k, r, x, hkr, rfl, hkf, rfl, hx1, hx2, hc⟩ := hrel
          by_cases hr : (k : Int) + 1 < f
          · obtain ⟨r', hr'⟩ : ∃ r', r = r' + 1 := ⟨r - 1, by have := hkr.out; omega⟩
            subst hr'
            by_cases hx : x < b
            · by_cases h2 : x * 2 ≤ b
              · go_wp2
                all_goals go_round
                case rel => exact ⟨k + 1, r', x * 2, by have := hkr.out; show ((k + 1 : Nat) : Int) + r' + 1 = f; omega, by go_num, by omega, rfl, by omega, by omega, by have := hc.out; rw [cap_succ] at this; exact this⟩
                case measure => simp [intOf]; omega
              · go_wp2
                all_goals go_round
                case rel => exact ⟨k + 1, r', b, by have := hkr.out; show ((k + 1 : Nat) : Int) + r' + 1 = f; omega, by go_num, by omega, int_eq (by omega), by omega, by omega, by have := hc.out; rw [cap_succ, cap_full _ _ _ (by omega) (by omega)] at this; show cap b b r' = _; rw [cap_full _ _ _ (Int.le_refl _) (by omega)]; exact this⟩
                case measure => simp [intOf]; omega
            · have h1 := hc.out
              have hxb : x = b := by omega
              rw [hxb, cap_full _ _ _ (Int.le_refl _) (by omega)] at h1
              have Hend := hide (show x = delay l m f by rw [Hfin.out, ← h1]; exact hxb)
              clear h1 hxb
              go_wp2
              all_goals go_returns
              all_goals exact ⟨ret_int Hend.out, rfl⟩
          · have h1 := hc.out
            have hr0 : r = 0 := by have := hkr.out; omega
            subst hr0
            rw [cap_zero] at h1
            have Hend := hide (show x = delay l m f by rw [Hfin.out, ← h1]; omega)
            clear h1
            go_wp2
            all_goals go_returns
            all_goals exact ⟨ret_int Hend.out, rfl⟩

end Go.Proofs.Ytdcccgjdcfggfaa
