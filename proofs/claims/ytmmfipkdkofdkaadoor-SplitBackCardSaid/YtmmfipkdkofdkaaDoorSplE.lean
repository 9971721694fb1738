/-
  How many; equal texts; what the reference's Texts answers. No condition but on lengths.
-/
import Derived.Test.YtmmfipkdkofdkaaDoorSplD
namespace Go.Proofs.YtmmfipkdkofdkaaDoor
open Go.RowKit
set_option linter.unusedVariables false
set_option linter.unusedSimpArgs false

theorem many_any (s : ByteArray) (w : World) (hs : s.size ≤ 1000000) :
    Calls Tryd.prog 12 #[.string s] w fun e w' => e = .returned (.int .i64 (textsP s).length) ∧ Below w.heap.size w w' := by
  go_enter Tryd.func12, Tryd.ntmps12
  go_wp2_with fail
  refine (texts_any s _ hs).mono ?_
  rintro e w1 ⟨v, rfl, hown, hb⟩
  have HB := hide hb
  obtain ⟨a, c, rfl⟩ := own_slice hown
  clear hb hown
  go_wp2_with fail
  go_returns
  exact ⟨rfl, HB.out⟩

theorem lists_ext (xs ys : List ByteArray) (h : xs.length = ys.length) (hj : ∀ j, j < xs.length → tj xs j = tj ys j) : xs = ys := by
  refine List.ext_getElem h fun j h1 h2 => ?_
  have := hj j h1
  unfold tj at this
  rw [List.getD_eq_getElem?_getD, List.getD_eq_getElem?_getD, List.getElem?_eq_getElem h1, List.getElem?_eq_getElem h2] at this
  exact this

theorem equal_any (v v' : Value) (xs ys : List ByteArray) (w : World) (hl : xs.length ≤ 1000000) (hl' : ys.length ≤ 9223372036854775807) (hv : TextsAt w v xs) (hv' : TextsAt w v' ys) :
    Calls Tryd.prog 9 #[v, v'] w fun e w' => e = .returned (.bool (decide (xs = ys))) ∧ Below w.heap.size w w' := by
  obtain ⟨a, cap, rfl, _, hv⟩ := hv
  obtain ⟨a', cap', rfl, _, hv'⟩ := hv'
  have HV := hide hv
  have HV' := hide hv'
  clear hv hv'
  by_cases hlen : xs.length = ys.length
  · have hli : ((xs.length : Int) == (ys.length : Int)) = true := by rw [hlen]; simp
    have Hlen := hide hlen
    have hlen2 : (ys.length : Int) = (xs.length : Int) := by omega
    have hlen3 : ys.length = xs.length := hlen.symm
    rw [hlen3]
    clear hlen hlen2 hlen3 hli
    go_enter Tryd.func9, Tryd.ntmps9
    go_wp2_with fail
    go_loopw [13] (fun i wr => ∃ k : Nat, i = .int .i64 k ∧ k ≤ xs.length ∧ Hid (∀ j, j < k → tj xs j = tj ys j) ∧ Below w.heap.size w wr) (fun i _ => (xs.length - (intOf i).toNat))
    case atStart => exact ⟨0, rfl, Nat.zero_le _, (by intro j hj; omega), Below.refl _ _⟩
    case round =>
      obtain ⟨k, rfl, hk, He, hB⟩ := hrel
      have HB := hide hB
      have hBs := hB.size
      by_cases hkk : k < xs.length
      · have hki : (k : Int) < (xs.length : Int) := by omega
        have hk0 : (0 : Int) ≤ (k : Int) := by omega
        rcases HV.out with h0 | ⟨b, off, rfl, hb, hc⟩
        · subst h0; simp at hkk
        rcases HV'.out with h0 | ⟨b', off', rfl, hb', hc'⟩
        · have := Hlen.out; subst h0; simp at this; subst this; simp at hkk
        have c0 := hc k hkk
        have d0 := hc' k (by have := Hlen.out; omega)
        rw [← hB.cell hb] at c0
        rw [← hB.cell hb'] at d0
        clear hc hc' hB
        obtain ⟨x, hx⟩ : ∃ x, tj xs k = x := ⟨_, rfl⟩
        obtain ⟨y, hy⟩ : ∃ y, tj ys k = y := ⟨_, rfl⟩
        rw [hx] at c0
        rw [hy] at d0
        have Hx := hide hx
        have Hy := hide hy
        clear hx hy
        rcases eq_tests x y with ⟨h1, h2⟩ | ⟨h1, h2⟩
        · have He2 : Hid (∀ j, j < k + 1 → tj xs j = tj ys j) := by
            intro j hj
            rcases Nat.lt_or_eq_of_le (Nat.lt_succ_iff.1 hj) with h | rfl
            · exact He.out j h
            · rw [Hx.out, Hy.out, h1]
          clear h1
          go_wp2_with fail
          go_quiet (fail)
          go_wp2_with fail
          go_roundw
          case rel => exact ⟨k + 1, by go_num, by omega, He2.out, below_drewN HB.out _⟩
          case measure => simp [intOf]; omega
        · have HE : Hid (decide (xs = ys) = false) := by
            refine decide_eq_false fun e => h1 ?_
            rw [← Hx.out, ← Hy.out, e]
          clear h1
          go_wp2_with fail
          go_quiet (fail)
          go_wp2_with fail
          go_returns
          exact ⟨by rw [HE.out]; rfl, below_drewN HB.out _⟩
      · have hki : ¬ (k : Int) < (xs.length : Int) := by omega
        have HE : Hid (decide (xs = ys) = true) := decide_eq_true (lists_ext xs ys Hlen.out fun j hj => He.out j (by omega))
        clear hB
        go_wp2_with fail
        go_returns
        exact ⟨by rw [HE.out]; rfl, HB.out⟩
  · have HE : Hid (decide (xs = ys) = false) := decide_eq_false fun e => hlen (by rw [e])
    have hln : ¬ ((xs.length : Int) = (ys.length : Int)) := by omega
    have hli : ((xs.length : Int) == (ys.length : Int)) = false := by simpa using hln
    have hli2 : (xs.length == ys.length) = false := by simpa using hlen
    clear hln
    go_enter Tryd.func9, Tryd.ntmps9
    go_wp2_with fail
    go_returns
    exact ⟨by rw [HE.out]; rfl, Below.refl _ _⟩

theorem same_any (v v' : Value) (xs ys : List ByteArray) (w : World) (hl : xs.length ≤ 1000000) (hl' : ys.length ≤ 9223372036854775807) (hv : TextsAt w v xs) (hv' : TextsAt w v' ys) :
    Calls Tryd.prog 15 #[v, v'] w fun e w' => e = .returned (.bool (decide (xs = ys))) ∧ Below w.heap.size w w' := by
  obtain ⟨a, cap, rfl, _, hv⟩ := hv
  obtain ⟨a', cap', rfl, _, hv'⟩ := hv'
  have HV := hide hv
  have HV' := hide hv'
  clear hv hv'
  by_cases hlen : xs.length = ys.length
  · have hli : ((xs.length : Int) == (ys.length : Int)) = true := by rw [hlen]; simp
    have Hlen := hide hlen
    have hlen2 : (ys.length : Int) = (xs.length : Int) := by omega
    have hlen3 : ys.length = xs.length := hlen.symm
    rw [hlen3]
    clear hlen hlen2 hlen3 hli
    go_enter Tryd.func15, Tryd.ntmps15
    go_wp2_with fail
    go_loopw [5] (fun i wr => ∃ k : Nat, i = .int .i64 k ∧ k ≤ xs.length ∧ Hid (∀ j, j < k → tj xs j = tj ys j) ∧ Below w.heap.size w wr) (fun i _ => (xs.length - (intOf i).toNat))
    case atStart => exact ⟨0, rfl, Nat.zero_le _, (by intro j hj; omega), Below.refl _ _⟩
    case round =>
      obtain ⟨k, rfl, hk, He, hB⟩ := hrel
      have HB := hide hB
      have hBs := hB.size
      by_cases hkk : k < xs.length
      · have hki : (k : Int) < (xs.length : Int) := by omega
        have hk0 : (0 : Int) ≤ (k : Int) := by omega
        rcases HV.out with h0 | ⟨b, off, rfl, hb, hc⟩
        · subst h0; simp at hkk
        rcases HV'.out with h0 | ⟨b', off', rfl, hb', hc'⟩
        · have := Hlen.out; subst h0; simp at this; subst this; simp at hkk
        have c0 := hc k hkk
        have d0 := hc' k (by have := Hlen.out; omega)
        rw [← hB.cell hb] at c0
        rw [← hB.cell hb'] at d0
        clear hc hc' hB
        obtain ⟨x, hx⟩ : ∃ x, tj xs k = x := ⟨_, rfl⟩
        obtain ⟨y, hy⟩ : ∃ y, tj ys k = y := ⟨_, rfl⟩
        rw [hx] at c0
        rw [hy] at d0
        have Hx := hide hx
        have Hy := hide hy
        clear hx hy
        rcases eq_tests x y with ⟨h1, h2⟩ | ⟨h1, h2⟩
        · have He2 : Hid (∀ j, j < k + 1 → tj xs j = tj ys j) := by
            intro j hj
            rcases Nat.lt_or_eq_of_le (Nat.lt_succ_iff.1 hj) with h | rfl
            · exact He.out j h
            · rw [Hx.out, Hy.out, h1]
          clear h1
          go_wp2_with fail
          go_quiet (fail)
          go_wp2_with fail
          go_roundw
          case rel => exact ⟨k + 1, by go_num, by omega, He2.out, below_drewN HB.out _⟩
          case measure => simp [intOf]; omega
        · have HE : Hid (decide (xs = ys) = false) := by
            refine decide_eq_false fun e => h1 ?_
            rw [← Hx.out, ← Hy.out, e]
          clear h1
          go_wp2_with fail
          go_quiet (fail)
          go_wp2_with fail
          go_returns
          exact ⟨by rw [HE.out]; rfl, below_drewN HB.out _⟩
      · have hki : ¬ (k : Int) < (xs.length : Int) := by omega
        have HE : Hid (decide (xs = ys) = true) := decide_eq_true (lists_ext xs ys Hlen.out fun j hj => He.out j (by omega))
        clear hB
        go_wp2_with fail
        go_returns
        exact ⟨by rw [HE.out]; rfl, HB.out⟩
  · have HE : Hid (decide (xs = ys) = false) := decide_eq_false fun e => hlen (by rw [e])
    have hln : ¬ ((xs.length : Int) = (ys.length : Int)) := by omega
    have hli : ((xs.length : Int) == (ys.length : Int)) = false := by simpa using hln
    have hli2 : (xs.length == ys.length) = false := by simpa using hlen
    clear hln
    go_enter Tryd.func15, Tryd.ntmps15
    go_wp2_with fail
    go_returns
    exact ⟨by rw [HE.out]; rfl, Below.refl _ _⟩
end Go.Proofs.YtmmfipkdkofdkaaDoor
