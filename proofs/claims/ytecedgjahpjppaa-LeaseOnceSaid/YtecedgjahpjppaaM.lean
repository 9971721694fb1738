/-
  The reference's leases: the calls that turn a server. No condition.
-/
import Derived.Test.YtecedgjahpjppaaL
namespace Go.Proofs.Ytecedgjahpjppaa
open Go.RowKit Go.Maps
set_option linter.unusedVariables false
set_option linter.unusedSimpArgs false

theorem rstart_any (a g : Nat) (st : List (Int × Int)) (s : Int) (w : World) (h : RLive w a g st) :
    Calls Try.prog 27 #[.pointer (some ⟨a, 0, none⟩), .int .i64 s] w fun e w' => e = .returned (.int .i64 (turnE st s mayStart)) ∧ Kept g g w w' ∧ RLive w' a g (turnS st s 1 mayStart) := by
  have c0 := h.c0
  have h8 := h.few
  by_cases hi : s < 0 ∨ (st.length : Int) ≤ s
  · have hE : Hid (turnE st s mayStart = 1) := by unfold turnE; rw [if_pos hi]; rfl
    have hS : Hid (turnS st s 1 mayStart = st) := by unfold turnS; rw [hE.out]; rfl
    have hb : decide (0 ≤ s ∧ s < st.length) = false := by simp; omega
    have Hb := hide hb
    have Hl := hide h
    clear h hi hb
    go_enter Try.func27, Try.ntmps27
    go_wp2_with fail
    refine (rhas a g st s _ Hl.out).mono ?_
    rintro e w1 ⟨rfl, rfl⟩
    rw [Hb.out]
    go_wp2_with fail
    go_returns
    exact ⟨by rw [hE.out]; rfl, Kept.refl _ _ _, by rw [hS.out]; exact Hl.out⟩
  · obtain ⟨i, rfl⟩ : ∃ i : Nat, s = i := ⟨s.toNat, by omega⟩
    have hil : i < st.length := by omega
    have hb : decide (0 ≤ (i : Int) ∧ (i : Int) < st.length) = true := by simp; omega
    have s0 := h.s0 i hil
    have s1 := h.s1 i hil
    have f0 := h.rows.frozen (i * 2)
    have f1 := h.rows.frozen (i * 2 + 1)
    have Hb := hide hb
    have Hl := hide h
    rcases hm : mayStart (st.getD i (0, 0)).1 with _ | _
    · have hE : Hid (turnE st i mayStart = 10) := by unfold turnE; rw [if_neg hi, Int.toNat_natCast, hm]; rfl
      have hS : Hid (turnS st i 1 mayStart = st) := by unfold turnS; rw [hE.out]; rfl
      obtain ⟨x, hx⟩ : ∃ x, (st.getD i (0, 0)).1 = x := ⟨_, rfl⟩
      rw [hx] at hm s0
      simp [mayStart] at hm
      clear h hi hb hx
      have hxb : (x == 0) = false := by simpa using hm
      go_enter Try.func27, Try.ntmps27
      go_wp2_with fail
      refine (rhas a g st i _ Hl.out).mono ?_
      rintro e w1 ⟨rfl, rfl⟩
      rw [Hb.out]
      go_wp2_with fail
      all_goals go_returns
      all_goals exact ⟨by rw [hE.out]; rfl, Kept.refl _ _ _, by rw [hS.out]; exact Hl.out⟩
    · have hE : Hid (turnE st i mayStart = 0) := by unfold turnE; rw [if_neg hi, Int.toNat_natCast, hm]; rfl
      have hS : Hid (turnS st i 1 mayStart = st.set i (1, 0)) := by unfold turnS; rw [hE.out]; rfl
      obtain ⟨x, hx⟩ : ∃ x, (st.getD i (0, 0)).1 = x := ⟨_, rfl⟩
      obtain ⟨y, hy⟩ : ∃ y, (st.getD i (0, 0)).2 = y := ⟨_, rfl⟩
      rw [hx] at hm s0
      rw [hy] at s1
      obtain rfl : x = 0 := by simpa [mayStart] using hm
      clear hm
      clear h hi hb hx hy
      go_enter Try.func27, Try.ntmps27
      go_wp2_with fail
      refine (rhas a g st i _ Hl.out).mono ?_
      rintro e w1 ⟨rfl, rfl⟩
      rw [Hb.out]
      go_wp2_with fail
      all_goals go_returns
      all_goals exact ⟨by rw [hE.out]; rfl, (Kept.setCell g g _ _ _).trans (Kept.setCell g g _ _ _), by rw [hS.out]; exact Hl.out.store i 1 0 hil⟩
theorem rdrain_any (a g : Nat) (st : List (Int × Int)) (s : Int) (w : World) (h : RLive w a g st) :
    Calls Try.prog 29 #[.pointer (some ⟨a, 0, none⟩), .int .i64 s] w fun e w' => e = .returned (.int .i64 (turnE st s mayDrain)) ∧ Kept g g w w' ∧ RLive w' a g (turnS st s 4 mayDrain) := by
  have c0 := h.c0
  have h8 := h.few
  by_cases hi : s < 0 ∨ (st.length : Int) ≤ s
  · have hE : Hid (turnE st s mayDrain = 1) := by unfold turnE; rw [if_pos hi]; rfl
    have hS : Hid (turnS st s 4 mayDrain = st) := by unfold turnS; rw [hE.out]; rfl
    have hb : decide (0 ≤ s ∧ s < st.length) = false := by simp; omega
    have Hb := hide hb
    have Hl := hide h
    clear h hi hb
    go_enter Try.func29, Try.ntmps29
    go_wp2_with fail
    refine (rhas a g st s _ Hl.out).mono ?_
    rintro e w1 ⟨rfl, rfl⟩
    rw [Hb.out]
    go_wp2_with fail
    go_returns
    exact ⟨by rw [hE.out]; rfl, Kept.refl _ _ _, by rw [hS.out]; exact Hl.out⟩
  · obtain ⟨i, rfl⟩ : ∃ i : Nat, s = i := ⟨s.toNat, by omega⟩
    have hil : i < st.length := by omega
    have hb : decide (0 ≤ (i : Int) ∧ (i : Int) < st.length) = true := by simp; omega
    have s0 := h.s0 i hil
    have s1 := h.s1 i hil
    have f0 := h.rows.frozen (i * 2)
    have f1 := h.rows.frozen (i * 2 + 1)
    have Hb := hide hb
    have Hl := hide h
    rcases hm : mayDrain (st.getD i (0, 0)).1 with _ | _
    · have hE : Hid (turnE st i mayDrain = 10) := by unfold turnE; rw [if_neg hi, Int.toNat_natCast, hm]; rfl
      have hS : Hid (turnS st i 4 mayDrain = st) := by unfold turnS; rw [hE.out]; rfl
      obtain ⟨x, hx⟩ : ∃ x, (st.getD i (0, 0)).1 = x := ⟨_, rfl⟩
      rw [hx] at hm s0
      simp [mayDrain] at hm
      clear h hi hb hx
      have hxb : (x == 3) = false := by simpa using hm
      go_enter Try.func29, Try.ntmps29
      go_wp2_with fail
      refine (rhas a g st i _ Hl.out).mono ?_
      rintro e w1 ⟨rfl, rfl⟩
      rw [Hb.out]
      go_wp2_with fail
      all_goals go_returns
      all_goals exact ⟨by rw [hE.out]; rfl, Kept.refl _ _ _, by rw [hS.out]; exact Hl.out⟩
    · have hE : Hid (turnE st i mayDrain = 0) := by unfold turnE; rw [if_neg hi, Int.toNat_natCast, hm]; rfl
      have hS : Hid (turnS st i 4 mayDrain = st.set i (4, 0)) := by unfold turnS; rw [hE.out]; rfl
      obtain ⟨x, hx⟩ : ∃ x, (st.getD i (0, 0)).1 = x := ⟨_, rfl⟩
      obtain ⟨y, hy⟩ : ∃ y, (st.getD i (0, 0)).2 = y := ⟨_, rfl⟩
      rw [hx] at hm s0
      rw [hy] at s1
      obtain rfl : x = 3 := by simpa [mayDrain] using hm
      clear hm
      clear h hi hb hx hy
      go_enter Try.func29, Try.ntmps29
      go_wp2_with fail
      refine (rhas a g st i _ Hl.out).mono ?_
      rintro e w1 ⟨rfl, rfl⟩
      rw [Hb.out]
      go_wp2_with fail
      all_goals go_returns
      all_goals exact ⟨by rw [hE.out]; rfl, (Kept.setCell g g _ _ _).trans (Kept.setCell g g _ _ _), by rw [hS.out]; exact Hl.out.store i 4 0 hil⟩

end Go.Proofs.Ytecedgjahpjppaa
