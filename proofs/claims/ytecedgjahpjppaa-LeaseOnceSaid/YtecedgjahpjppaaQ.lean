/-
  One call of any kind, of the leases and of the reference's. No condition.
-/
import Derived.Test.YtecedgjahpjppaaP
namespace Go.Proofs.Ytecedgjahpjppaa
open Go.RowKit Go.Maps
set_option linter.unusedVariables false
set_option linter.unusedSimpArgs false

/-- Lease's error, and the server that it gives. -/
def leaseE (st : List (Int × Int)) (c : Int) : Int :=
  if (ofN st c st.length 0).isSome = true then 8 else if (idleN st st.length).length = 0 then 7 else 0
def leaseN (st : List (Int × Int)) (c p : Int) : Int :=
  if (ofN st c st.length 0).isSome = true then 0 else if (idleN st st.length).length = 0 then 0 else (idleN st st.length).getD (pickN p (idleN st st.length).length) 0
theorem leaseV_form (st : List (Int × Int)) (c p : Int) : leaseV st c p = .tuple #[.int .i64 (leaseN st c p), .int .i64 (leaseE st c)] := by
  unfold leaseV leaseE leaseN
  split
  · rfl
  · split <;> rfl

/-- What a call answers, and what it leaves. -/
def doE (st : List (Int × Int)) (o s c : Int) : Int :=
  if o = 0 then turnE st s mayStart else if o = 1 then turnE st s mayUp else if o = 4 then turnE st s mayDrain else if o = 2 ∨ o = 3 then leaseE st c else turnE st s mayDown
def doS (st : List (Int × Int)) (o s c p : Int) : List (Int × Int) :=
  if o = 0 then turnS st s 1 mayStart else if o = 1 then turnS st s 2 mayUp else if o = 4 then turnS st s 4 mayDrain else if o = 2 ∨ o = 3 then leaseS st c p else turnS st s 0 mayDown

theorem Live.more {w : World} {a g m k : Nat} {st : List (Int × Int)} {D : DataW Unit} (h : Live w a g m k st D) : Live w a g m (k + 1) st D :=
  ⟨h.head, h.rows, h.map.mono (Nat.le_succ _), h.few, h.one, h.agree, h.range⟩

theorem do_live (a g m k : Nat) (st : List (Int × Int)) (D : DataW Unit) (o s c p : Int) (w : World) (h : Live w a g m k st D) (hc : (Lit.int .i64 c).wf = true) (hk : k < 1000) :
    Calls Try.prog 8 #[.pointer (some ⟨a, 0, none⟩), .agg #[.int .i64 o, .int .i64 s, .int .i64 c, .int .i64 p]] w fun e w' => e = .returned (.int .i64 (doE st o s c)) ∧ Kept g m w w' ∧ ∃ D', Live w' a g m (k + 1) (doS st o s c p) D' := by
  have hb : Below w.heap.size w (w.alloc (.cells #[.int .i64 o, .int .i64 s, .int .i64 c, .int .i64 p] 23)) := (Below.refl _ _).alloc (Nat.le_refl _) _
  have hl := h.below hb
  have HB := hide hb
  have Hl := hide hl
  clear hb hl h
  by_cases h0 : o = 0
  · have hE : Hid (doE st o s c = turnE st s mayStart) := by unfold doE; rw [if_pos h0]; rfl
    have hS : Hid (doS st o s c p = turnS st s 1 mayStart) := by unfold doS; rw [if_pos h0]; rfl
    subst h0
    go_enter Try.func8, Try.ntmps8
    go_wp2_with fail
    refine (start_live a g m k st D s _ Hl.out).mono ?_
    rintro e w1 ⟨rfl, hk1, D1, hl1⟩
    have HK := hide hk1
    have HL := hide hl1
    clear hk1 hl1
    go_wp2_with fail
    go_returns
    exact ⟨by rw [hE.out]; rfl, (Kept.of_below HB.out).trans HK.out, D1, by rw [hS.out]; exact HL.out.more⟩
  · skip
    by_cases h1 : o = 1
    · have hE : Hid (doE st o s c = turnE st s mayUp) := by unfold doE; rw [if_neg h0, if_pos h1]; rfl
      have hS : Hid (doS st o s c p = turnS st s 2 mayUp) := by unfold doS; rw [if_neg h0, if_pos h1]; rfl
      have n0 : (o == 0) = false := by simpa using h0
      subst h1
      clear h0
      go_enter Try.func8, Try.ntmps8
      go_wp2_with fail
      refine (up_live a g m k st D s _ Hl.out).mono ?_
      rintro e w1 ⟨rfl, hk1, D1, hl1⟩
      have HK := hide hk1
      have HL := hide hl1
      clear hk1 hl1
      go_wp2_with fail
      go_returns
      exact ⟨by rw [hE.out]; rfl, (Kept.of_below HB.out).trans HK.out, D1, by rw [hS.out]; exact HL.out.more⟩
    · skip
      by_cases h2 : o = 4
      · have hE : Hid (doE st o s c = turnE st s mayDrain) := by unfold doE; rw [if_neg h0, if_neg h1, if_pos h2]; rfl
        have hS : Hid (doS st o s c p = turnS st s 4 mayDrain) := by unfold doS; rw [if_neg h0, if_neg h1, if_pos h2]; rfl
        have n0 : (o == 0) = false := by simpa using h0
        have n1 : (o == 1) = false := by simpa using h1
        subst h2
        clear h0 h1
        go_enter Try.func8, Try.ntmps8
        go_wp2_with fail
        refine (drain_live a g m k st D s _ Hl.out).mono ?_
        rintro e w1 ⟨rfl, hk1, D1, hl1⟩
        have HK := hide hk1
        have HL := hide hl1
        clear hk1 hl1
        go_wp2_with fail
        go_returns
        exact ⟨by rw [hE.out]; rfl, (Kept.of_below HB.out).trans HK.out, D1, by rw [hS.out]; exact HL.out.more⟩
      · skip
        by_cases h3 : o = 2 ∨ o = 3
        · have hE : Hid (doE st o s c = leaseE st c) := by unfold doE; rw [if_neg h0, if_neg h1, if_neg h2, if_pos h3]; rfl
          have hS : Hid (doS st o s c p = leaseS st c p) := by unfold doS; rw [if_neg h0, if_neg h1, if_neg h2, if_pos h3]; rfl
          have n0 : (o == 0) = false := by simpa using h0
          have n1 : (o == 1) = false := by simpa using h1
          have n2 : (o == 4) = false := by simpa using h2
          clear h0 h1 h2
          rcases h3 with rfl | rfl
          all_goals
            go_enter Try.func8, Try.ntmps8
            go_wp2_with fail
            refine (lease_live a g m k st D c p _ Hl.out hc hk).mono ?_
            rintro e w1 ⟨rfl, hk1, D1, hl1⟩
            have HK := hide hk1
            have HL := hide hl1
            clear hk1 hl1
            rw [leaseV_form]
            go_wp2_with fail
            go_returns
            exact ⟨by rw [hE.out]; rfl, (Kept.of_below HB.out).trans HK.out, D1, by rw [hS.out]; exact HL.out⟩
        · skip
          have hE : Hid (doE st o s c = turnE st s mayDown) := by unfold doE; rw [if_neg h0, if_neg h1, if_neg h2, if_neg h3]; rfl
          have hS : Hid (doS st o s c p = turnS st s 0 mayDown) := by unfold doS; rw [if_neg h0, if_neg h1, if_neg h2, if_neg h3]; rfl
          have n0 : (o == 0) = false := by simpa using h0
          have n1 : (o == 1) = false := by simpa using h1
          have n2 : (o == 4) = false := by simpa using h2
          have n3 : (o == 2) = false := by simp; omega
          have n4 : (o == 3) = false := by simp; omega
          clear h0 h1 h2 h3
          go_enter Try.func8, Try.ntmps8
          go_wp2_with fail
          refine (down_live a g m k st D s _ Hl.out).mono ?_
          rintro e w1 ⟨rfl, hk1, D1, hl1⟩
          have HK := hide hk1
          have HL := hide hl1
          clear hk1 hl1
          go_wp2_with fail
          go_returns
          exact ⟨by rw [hE.out]; rfl, (Kept.of_below HB.out).trans HK.out, D1, by rw [hS.out]; exact HL.out.more⟩

theorem own_live (a g : Nat) (st : List (Int × Int)) (o s c p : Int) (w : World) (h : RLive w a g st) :
    Calls Try.prog 14 #[.pointer (some ⟨a, 0, none⟩), .agg #[.int .i64 o, .int .i64 s, .int .i64 c, .int .i64 p]] w fun e w' => e = .returned (.int .i64 (doE st o s c)) ∧ Kept g g w w' ∧ RLive w' a g (doS st o s c p) := by
  have hb : Below w.heap.size w (w.alloc (.cells #[.int .i64 o, .int .i64 s, .int .i64 c, .int .i64 p] 23)) := (Below.refl _ _).alloc (Nat.le_refl _) _
  have hl := h.below hb
  have HB := hide hb
  have Hl := hide hl
  clear hb hl h
  by_cases h0 : o = 0
  · have hE : Hid (doE st o s c = turnE st s mayStart) := by unfold doE; rw [if_pos h0]; rfl
    have hS : Hid (doS st o s c p = turnS st s 1 mayStart) := by unfold doS; rw [if_pos h0]; rfl
    subst h0
    go_enter Try.func14, Try.ntmps14
    go_wp2_with fail
    refine (rstart_any a g st s _ Hl.out).mono ?_
    rintro e w1 ⟨rfl, hk1, hl1⟩
    have HK := hide hk1
    have HL := hide hl1
    clear hk1 hl1
    go_wp2_with fail
    go_returns
    exact ⟨by rw [hE.out]; rfl, (Kept.of_below HB.out).trans HK.out, by rw [hS.out]; exact HL.out⟩
  · skip
    by_cases h1 : o = 1
    · have hE : Hid (doE st o s c = turnE st s mayUp) := by unfold doE; rw [if_neg h0, if_pos h1]; rfl
      have hS : Hid (doS st o s c p = turnS st s 2 mayUp) := by unfold doS; rw [if_neg h0, if_pos h1]; rfl
      have n0 : (o == 0) = false := by simpa using h0
      subst h1
      clear h0
      go_enter Try.func14, Try.ntmps14
      go_wp2_with fail
      refine (rup_any a g st s _ Hl.out).mono ?_
      rintro e w1 ⟨rfl, hk1, hl1⟩
      have HK := hide hk1
      have HL := hide hl1
      clear hk1 hl1
      go_wp2_with fail
      go_returns
      exact ⟨by rw [hE.out]; rfl, (Kept.of_below HB.out).trans HK.out, by rw [hS.out]; exact HL.out⟩
    · skip
      by_cases h2 : o = 4
      · have hE : Hid (doE st o s c = turnE st s mayDrain) := by unfold doE; rw [if_neg h0, if_neg h1, if_pos h2]; rfl
        have hS : Hid (doS st o s c p = turnS st s 4 mayDrain) := by unfold doS; rw [if_neg h0, if_neg h1, if_pos h2]; rfl
        have n0 : (o == 0) = false := by simpa using h0
        have n1 : (o == 1) = false := by simpa using h1
        subst h2
        clear h0 h1
        go_enter Try.func14, Try.ntmps14
        go_wp2_with fail
        refine (rdrain_any a g st s _ Hl.out).mono ?_
        rintro e w1 ⟨rfl, hk1, hl1⟩
        have HK := hide hk1
        have HL := hide hl1
        clear hk1 hl1
        go_wp2_with fail
        go_returns
        exact ⟨by rw [hE.out]; rfl, (Kept.of_below HB.out).trans HK.out, by rw [hS.out]; exact HL.out⟩
      · skip
        by_cases h3 : o = 2 ∨ o = 3
        · have hE : Hid (doE st o s c = leaseE st c) := by unfold doE; rw [if_neg h0, if_neg h1, if_neg h2, if_pos h3]; rfl
          have hS : Hid (doS st o s c p = leaseS st c p) := by unfold doS; rw [if_neg h0, if_neg h1, if_neg h2, if_pos h3]; rfl
          have n0 : (o == 0) = false := by simpa using h0
          have n1 : (o == 1) = false := by simpa using h1
          have n2 : (o == 4) = false := by simpa using h2
          clear h0 h1 h2
          rcases h3 with rfl | rfl
          all_goals
            go_enter Try.func14, Try.ntmps14
            go_wp2_with fail
            refine (rlease_any a g st c p _ Hl.out).mono ?_
            rintro e w1 ⟨rfl, hk1, hl1⟩
            have HK := hide hk1
            have HL := hide hl1
            clear hk1 hl1
            rw [leaseV_form]
            go_wp2_with fail
            go_returns
            exact ⟨by rw [hE.out]; rfl, (Kept.of_below HB.out).trans HK.out, by rw [hS.out]; exact HL.out⟩
        · skip
          have hE : Hid (doE st o s c = turnE st s mayDown) := by unfold doE; rw [if_neg h0, if_neg h1, if_neg h2, if_neg h3]; rfl
          have hS : Hid (doS st o s c p = turnS st s 0 mayDown) := by unfold doS; rw [if_neg h0, if_neg h1, if_neg h2, if_neg h3]; rfl
          have n0 : (o == 0) = false := by simpa using h0
          have n1 : (o == 1) = false := by simpa using h1
          have n2 : (o == 4) = false := by simpa using h2
          have n3 : (o == 2) = false := by simp; omega
          have n4 : (o == 3) = false := by simp; omega
          clear h0 h1 h2 h3
          go_enter Try.func14, Try.ntmps14
          go_wp2_with fail
          refine (rdown_any a g st s _ Hl.out).mono ?_
          rintro e w1 ⟨rfl, hk1, hl1⟩
          have HK := hide hk1
          have HL := hide hl1
          clear hk1 hl1
          go_wp2_with fail
          go_returns
          exact ⟨by rw [hE.out]; rfl, (Kept.of_below HB.out).trans HK.out, by rw [hS.out]; exact HL.out⟩

end Go.Proofs.Ytecedgjahpjppaa
