/-
  The reference's leases: the calls that turn a server. No condition.
-/
import Derived.Test.YtecedgjahpjppaaM
namespace Go.Proofs.Ytecedgjahpjppaa
open Go.RowKit Go.Maps
set_option linter.unusedVariables false
set_option linter.unusedSimpArgs false

theorem rup_any (a g : Nat) (st : List (Int × Int)) (s : Int) (w : World) (h : RLive w a g st) :
    Calls Try.prog 28 #[.pointer (some ⟨a, 0, none⟩), .int .i64 s] w fun e w' => e = .returned (.int .i64 (turnE st s mayUp)) ∧ Kept g g w w' ∧ RLive w' a g (turnS st s 2 mayUp) := by
  have c0 := h.c0
  have h8 := h.few
  by_cases hi : s < 0 ∨ (st.length : Int) ≤ s
  · have hE : Hid (turnE st s mayUp = 1) := by unfold turnE; rw [if_pos hi]; rfl
    have hS : Hid (turnS st s 2 mayUp = st) := by unfold turnS; rw [hE.out]; rfl
    have hb : decide (0 ≤ s ∧ s < st.length) = false := by simp; omega
    have Hb := hide hb
    have Hl := hide h
    clear h hi hb
    go_enter Try.func28, Try.ntmps28
    go_wp2_with fail
    refine (rhas a g st s _ Hl.out).mono ?_
    rintro e w1 ⟨rfl, rfl⟩
    rw [Hb.out]
    go_wp2_with fail
    go_returns
    exact ⟨by rw [hE.out]; rfl, Kept.refl _ _ _, by rw [hS.out]; exact Hl.out⟩
  · obtain ⟨i, rfl⟩ : ∃ i : Nat, s = i := ⟨s.toNat, by omega⟩
    have hil : i < st.length := by omega
    have hb : decide (0 ≤ (i : Int) ∧ (i : Int) < st.length) = true := by simp; omega
    have s0 := h.s0 i hil
    have s1 := h.s1 i hil
    have f0 := h.rows.frozen (i * 2)
    have f1 := h.rows.frozen (i * 2 + 1)
    have Hb := hide hb
    have Hl := hide h
    rcases hm : mayUp (st.getD i (0, 0)).1 with _ | _
    · have hE : Hid (turnE st i mayUp = 10) := by unfold turnE; rw [if_neg hi, Int.toNat_natCast, hm]; rfl
      have hS : Hid (turnS st i 2 mayUp = st) := by unfold turnS; rw [hE.out]; rfl
      obtain ⟨x, hx⟩ : ∃ x, (st.getD i (0, 0)).1 = x := ⟨_, rfl⟩
      rw [hx] at hm s0
      have hm2 : x = 0 ∨ x = 2 := by
        by_cases h0 : x = 0
        · exact Or.inl h0
        · refine Or.inr ?_
          simp [mayUp, h0] at hm
          exact hm
      clear h hi hb hx hm
      rcases hm2 with rfl | rfl
      all_goals
        go_enter Try.func28, Try.ntmps28
        go_wp2_with fail
        refine (rhas a g st i _ Hl.out).mono ?_
        rintro e w1 ⟨rfl, rfl⟩
        rw [Hb.out]
        go_wp2_with fail
        all_goals go_returns
        all_goals exact ⟨by rw [hE.out]; rfl, Kept.refl _ _ _, by rw [hS.out]; exact Hl.out⟩
    · have hE : Hid (turnE st i mayUp = 0) := by unfold turnE; rw [if_neg hi, Int.toNat_natCast, hm]; rfl
      have hS : Hid (turnS st i 2 mayUp = st.set i (2, 0)) := by unfold turnS; rw [hE.out]; rfl
      obtain ⟨x, hx⟩ : ∃ x, (st.getD i (0, 0)).1 = x := ⟨_, rfl⟩
      obtain ⟨y, hy⟩ : ∃ y, (st.getD i (0, 0)).2 = y := ⟨_, rfl⟩
      rw [hx] at hm s0
      rw [hy] at s1
      have hm2 : x ≠ 0 ∧ x ≠ 2 := by simpa [mayUp] using hm
      have hx0 : (x == 0) = false := by simpa using hm2.1
      have hx2 : (x == 2) = false := by simpa using hm2.2
      clear hm hm2
      clear h hi hb hx hy
      go_enter Try.func28, Try.ntmps28
      go_wp2_with fail
      refine (rhas a g st i _ Hl.out).mono ?_
      rintro e w1 ⟨rfl, rfl⟩
      rw [Hb.out]
      go_wp2_with fail
      all_goals go_returns
      all_goals exact ⟨by rw [hE.out]; rfl, (Kept.setCell g g _ _ _).trans (Kept.setCell g g _ _ _), by rw [hS.out]; exact Hl.out.store i 2 0 hil⟩
theorem rdown_any (a g : Nat) (st : List (Int × Int)) (s : Int) (w : World) (h : RLive w a g st) :
    Calls Try.prog 31 #[.pointer (some ⟨a, 0, none⟩), .int .i64 s] w fun e w' => e = .returned (.int .i64 (turnE st s mayDown)) ∧ Kept g g w w' ∧ RLive w' a g (turnS st s 0 mayDown) := by
  have c0 := h.c0
  have h8 := h.few
  by_cases hi : s < 0 ∨ (st.length : Int) ≤ s
  · have hE : Hid (turnE st s mayDown = 1) := by unfold turnE; rw [if_pos hi]; rfl
    have hS : Hid (turnS st s 0 mayDown = st) := by unfold turnS; rw [hE.out]; rfl
    have hb : decide (0 ≤ s ∧ s < st.length) = false := by simp; omega
    have Hb := hide hb
    have Hl := hide h
    clear h hi hb
    go_enter Try.func31, Try.ntmps31
    go_wp2_with fail
    refine (rhas a g st s _ Hl.out).mono ?_
    rintro e w1 ⟨rfl, rfl⟩
    rw [Hb.out]
    go_wp2_with fail
    go_returns
    exact ⟨by rw [hE.out]; rfl, Kept.refl _ _ _, by rw [hS.out]; exact Hl.out⟩
  · obtain ⟨i, rfl⟩ : ∃ i : Nat, s = i := ⟨s.toNat, by omega⟩
    have hil : i < st.length := by omega
    have hb : decide (0 ≤ (i : Int) ∧ (i : Int) < st.length) = true := by simp; omega
    have s0 := h.s0 i hil
    have s1 := h.s1 i hil
    have f0 := h.rows.frozen (i * 2)
    have f1 := h.rows.frozen (i * 2 + 1)
    have Hb := hide hb
    have Hl := hide h
    have hE : Hid (turnE st i mayDown = 0) := by unfold turnE; rw [if_neg hi, Int.toNat_natCast, (show mayDown (st.getD i (0, 0)).1 = true from rfl)]; rfl
    have hS : Hid (turnS st i 0 mayDown = st.set i (0, 0)) := by unfold turnS; rw [hE.out]; rfl
    obtain ⟨x, hx⟩ : ∃ x, (st.getD i (0, 0)).1 = x := ⟨_, rfl⟩
    obtain ⟨y, hy⟩ : ∃ y, (st.getD i (0, 0)).2 = y := ⟨_, rfl⟩
    rw [hx] at s0
    rw [hy] at s1
    clear h hi hb hx hy
    go_enter Try.func31, Try.ntmps31
    go_wp2_with fail
    refine (rhas a g st i _ Hl.out).mono ?_
    rintro e w1 ⟨rfl, rfl⟩
    rw [Hb.out]
    go_wp2_with fail
    all_goals go_returns
    all_goals exact ⟨by rw [hE.out]; rfl, (Kept.setCell g g _ _ _).trans (Kept.setCell g g _ _ _), by rw [hS.out]; exact Hl.out.store i 0 0 hil⟩

end Go.Proofs.Ytecedgjahpjppaa
