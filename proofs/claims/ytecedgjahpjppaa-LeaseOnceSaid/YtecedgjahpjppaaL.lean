/-
  The reference's leases: whose a server is, and the calls that turn one. No condition.
-/
import Derived.Test.YtecedgjahpjppaaK
namespace Go.Proofs.Ytecedgjahpjppaa
open Go.RowKit Go.Maps
set_option linter.unusedVariables false
set_option linter.unusedSimpArgs false

theorem rholder_any (a g : Nat) (st : List (Int × Int)) (s : Int) (w : World) (h : RLive w a g st) :
    Calls Try.prog 18 #[.pointer (some ⟨a, 0, none⟩), .int .i64 s] w fun e w' => w = w' ∧ e = .returned (holderOf st s) := by
  by_cases h3 : stateOf st s = 3
  · have hs : ¬ (s < 0 ∨ (st.length : Int) ≤ s) := by
      intro hs
      unfold stateOf at h3
      rw [if_pos hs] at h3
      cases h3
    obtain ⟨i, rfl⟩ : ∃ i : Nat, s = i := ⟨s.toNat, by omega⟩
    have hi : i < st.length := by omega
    have hR : Hid (holderOf st i = .tuple #[.int .i64 (st.getD i (0, 0)).2, .bool true]) := by unfold holderOf; rw [if_pos h3]; rfl
    have c0 := h.c0
    have s1 := h.s1 i hi
    obtain ⟨x, hx⟩ : ∃ x, (st.getD i (0, 0)).2 = x := ⟨_, rfl⟩
    rw [hx] at s1 hR
    have h8 := h.few
    have Hl := hide h
    have H3 := hide h3
    clear h hs hx h3
    go_enter Try.func18, Try.ntmps18
    go_wp2_with fail
    refine (rstate_any a g st i _ Hl.out).mono ?_
    rintro e w1 ⟨rfl, rfl⟩
    rw [H3.out]
    go_wp2_with fail
    go_returns
    exact ⟨rfl, congrArg Ending.returned hR.out.symm⟩
  · have hR : Hid (holderOf st s = .tuple #[.int .i64 0, .bool false]) := by unfold holderOf; rw [if_neg h3]; rfl
    obtain ⟨x, hx⟩ : ∃ x, stateOf st s = x := ⟨_, rfl⟩
    rw [hx] at h3
    have h3b : (x == 3) = false := by simpa using h3
    have Hx := hide hx
    have Hl := hide h
    clear h hx
    go_enter Try.func18, Try.ntmps18
    go_wp2_with fail
    refine (rstate_any a g st s _ Hl.out).mono ?_
    rintro e w1 ⟨rfl, rfl⟩
    rw [Hx.out]
    go_wp2_with fail
    go_returns
    exact ⟨rfl, congrArg Ending.returned hR.out.symm⟩

end Go.Proofs.Ytecedgjahpjppaa
