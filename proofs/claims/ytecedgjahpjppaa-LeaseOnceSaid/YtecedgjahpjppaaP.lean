/-
  Lease, of the leases and of the reference's: one word for both. No condition.
-/
import Derived.Test.YtecedgjahpjppaaO
namespace Go.Proofs.Ytecedgjahpjppaa
open Go.RowKit Go.Maps
set_option linter.unusedVariables false
set_option linter.unusedSimpArgs false

theorem ofN_some (st : List (Int × Int)) (c : Int) (r k : Nat) (n : Int) (hr : k + r = st.length) (h : ofN st c r k = some n) : ∃ i : Nat, n = i ∧ i < st.length ∧ st.getD i (0, 0) = (3, c) := by
  induction r generalizing k with
  | zero => cases h
  | succ r ih =>
    unfold ofN at h
    split at h
    · rename_i h2
      injection h with h
      refine ⟨k, h.symm, by omega, ?_⟩
      rcases hq : st.getD k (0, 0) with ⟨q1, q2⟩
      rw [hq] at h2
      obtain ⟨e1, e2⟩ := h2
      rw [show q1 = 3 from e1, show q2 = c from e2]
    · exact ih (k + 1) (by omega) h
theorem ofN_none (st : List (Int × Int)) (c : Int) (r k : Nat) (hr : k + r = st.length) (h : ofN st c r k = none) : ∀ i, k ≤ i → i < st.length → st.getD i (0, 0) ≠ (3, c) := by
  induction r generalizing k with
  | zero => intro i h1 h2; omega
  | succ r ih =>
    intro i h1 h2
    unfold ofN at h
    split at h
    · cases h
    · rename_i h3
      by_cases hik : i = k
      · subst hik
        intro e
        rw [e] at h3
        exact h3 ⟨rfl, rfl⟩
      · exact ih (k + 1) (by omega) h i (by omega) h2
theorem of_agree {st : List (Int × Int)} {D : DataW Unit} (h : Agree st D) (c : Int) : has D (.int .i64 c) = (ofN st c st.length 0).isSome ∧ D.atKey (.int .i64 c) (.lit (.int .i64 0)) = .lit (.int .i64 ((ofN st c st.length 0).getD 0)) := by
  rcases hn : ofN st c st.length 0 with _ | n
  · have hh := h.free c (fun i hi => ofN_none st c st.length 0 (by omega) hn i (by omega) hi)
    exact ⟨hh, atKey_of_not_has hh _⟩
  · obtain ⟨i, rfl, hi, h3⟩ := ofN_some st c st.length 0 n (by omega) hn
    exact (h c).2 i hi h3
theorem of_live2 (a g m k : Nat) (st : List (Int × Int)) (D : DataW Unit) (c : Int) (w : World) (h : Live w a g m k st D) (hc : (Lit.int .i64 c).wf = true) :
    Calls Try.prog 7 #[.pointer (some ⟨a, 0, none⟩), .int .i64 c] w fun e w' => w = w' ∧ e = .returned (ofV (ofN st c st.length 0)) := by
  refine (of_live a g m k st D c w h hc).mono ?_
  rintro e w1 ⟨rfl, n, hn, rfl⟩
  have hag := of_agree h.agree c
  rw [hag.2] at hn
  injection hn with hn; injection hn with _ hn
  refine ⟨rfl, ?_⟩
  rw [hag.1, ← hn]; rfl

/-- What Lease answers, and what it leaves. -/
def leaseV (st : List (Int × Int)) (c p : Int) : Value :=
  if (ofN st c st.length 0).isSome = true then .tuple #[.int .i64 0, .int .i64 8]
  else if (idleN st st.length).length = 0 then .tuple #[.int .i64 0, .int .i64 7]
  else .tuple #[.int .i64 ((idleN st st.length).getD (pickN p (idleN st st.length).length) 0), .int .i64 0]
def leaseS (st : List (Int × Int)) (c p : Int) : List (Int × Int) :=
  if (ofN st c st.length 0).isSome = true then st
  else if (idleN st st.length).length = 0 then st
  else st.set ((idleN st st.length).getD (pickN p (idleN st st.length).length) 0).toNat (3, c)

theorem lease_live (a g m k : Nat) (st : List (Int × Int)) (D : DataW Unit) (c p : Int) (w : World) (h : Live w a g m k st D) (hc : (Lit.int .i64 c).wf = true) (hk : k < 1000) :
    Calls Try.prog 25 #[.pointer (some ⟨a, 0, none⟩), .int .i64 c, .int .i64 p] w fun e w' => e = .returned (leaseV st c p) ∧ Kept g m w w' ∧ ∃ D', Live w' a g m (k + 1) (leaseS st c p) D' := by
  have hag := (of_agree h.agree c).1
  have hmore : ∀ {w' : World}, Live w' a g m k st D → Live w' a g m (k + 1) st D := fun hl => ⟨hl.head, hl.rows, hl.map.mono (Nat.le_succ _), hl.few, hl.one, hl.agree, hl.range⟩
  by_cases h1 : (ofN st c st.length 0).isSome = true
  · refine (twice_live a g m k st D c p w h hc (hag.trans h1)).mono ?_
    rintro e w1 ⟨rfl, rfl⟩
    exact ⟨by unfold leaseV; rw [if_pos h1], Kept.refl _ _ _, D, by unfold leaseS; rw [if_pos h1]; exact hmore h⟩
  · have hno : has D (.int .i64 c) = false := by rw [hag]; simpa using h1
    by_cases h2 : (idleN st st.length).length = 0
    · refine (none_live a g m k st D c p w h hc hno (List.length_eq_zero_iff.1 h2)).mono ?_
      rintro e w1 ⟨hB, rfl⟩
      exact ⟨by unfold leaseV; rw [if_neg h1, if_pos h2], Kept.of_below hB, D, by unfold leaseS; rw [if_neg h1, if_pos h2]; exact hmore (h.below hB)⟩
    · refine (given_live a g m k st D c p w h hc hno (by omega) hk).mono ?_
      rintro e w1 ⟨s, hs, rfl, hK, D', hl⟩
      have hs' : (idleN st st.length).getD (pickN p (idleN st st.length).length) 0 = s := by
        rw [List.getD_eq_getElem?_getD, hs]; rfl
      exact ⟨by unfold leaseV; rw [if_neg h1, if_neg h2, hs'], hK, D', by unfold leaseS; rw [if_neg h1, if_neg h2, hs']; exact hl⟩

theorem rlease_any (a g : Nat) (st : List (Int × Int)) (c p : Int) (w : World) (h : RLive w a g st) :
    Calls Try.prog 30 #[.pointer (some ⟨a, 0, none⟩), .int .i64 c, .int .i64 p] w fun e w' => e = .returned (leaseV st c p) ∧ Kept g g w w' ∧ RLive w' a g (leaseS st c p) := by
  by_cases h1 : (ofN st c st.length 0).isSome = true
  · have hV : Hid (leaseV st c p = .tuple #[.int .i64 0, .int .i64 8]) := by unfold leaseV; rw [if_pos h1]; rfl
    have hS : Hid (leaseS st c p = st) := by unfold leaseS; rw [if_pos h1]; rfl
    obtain ⟨n, hn⟩ : ∃ n, ofN st c st.length 0 = some n := Option.isSome_iff_exists.1 h1
    have Hn := hide hn
    have Hl := hide h
    clear h h1 hn
    go_enter Try.func30, Try.ntmps30
    go_wp2_with fail
    refine (rof_any a g st c _ Hl.out).mono ?_
    rintro e w1 ⟨rfl, rfl⟩
    rw [Hn.out, show ofV (some n) = .tuple #[.int .i64 n, .bool true] from rfl]
    go_wp2_with fail
    go_returns
    exact ⟨congrArg Ending.returned hV.out.symm, Kept.refl _ _ _, by rw [hS.out]; exact Hl.out⟩
  · have hn : ofN st c st.length 0 = none := by simpa using h1
    have Hn := hide hn
    by_cases h2 : (idleN st st.length).length = 0
    · have hV : Hid (leaseV st c p = .tuple #[.int .i64 0, .int .i64 7]) := by unfold leaseV; rw [if_neg h1, if_pos h2]; rfl
      have hS : Hid (leaseS st c p = st) := by unfold leaseS; rw [if_neg h1, if_pos h2]; rfl
      have H2 := hide h2
      have Hl := hide h
      clear h h1 hn h2
      go_enter Try.func30, Try.ntmps30
      go_wp2_with fail
      refine (rof_any a g st c _ Hl.out).mono ?_
      rintro e w1 ⟨rfl, rfl⟩
      rw [Hn.out, show ofV none = .tuple #[.int .i64 0, .bool false] from rfl]
      go_wp2_with fail
      refine (ridle_any a g st _ Hl.out).mono ?_
      rintro e w1 ⟨v, rfl, hv, hB⟩
      rw [H2.out] at hv
      obtain ⟨b, cap, rfl, _⟩ := own_empty hv
      have HB := hide hB
      clear hB hv
      go_wp2_with fail
      go_returns
      exact ⟨congrArg Ending.returned hV.out.symm, Kept.of_below HB.out, by rw [hS.out]; exact Hl.out.below HB.out⟩
    · have hL8 := idleN_length st st.length
      have h8 := h.few
      have hL0 : 0 < (idleN st st.length).length := by omega
      have hV : Hid (leaseV st c p = .tuple #[.int .i64 ((idleN st st.length).getD (pickN p (idleN st st.length).length) 0), .int .i64 0]) := by unfold leaseV; rw [if_neg h1, if_neg h2]; rfl
      have hS : Hid (leaseS st c p = st.set ((idleN st st.length).getD (pickN p (idleN st st.length).length) 0).toNat (3, c)) := by unfold leaseS; rw [if_neg h1, if_neg h2]; rfl
      clear h1 h2 hn
      obtain ⟨L, hL⟩ : ∃ L, idleN st st.length = L := ⟨_, rfl⟩
      rw [hL] at hL0 hL8 hV hS
      have hpl := pick_lt p L.length hL0
      have hpe := pick_eq p L.length hL0
      obtain ⟨q, hq⟩ : ∃ q, pickN p L.length = q := ⟨_, rfl⟩
      rw [hq] at hpl hpe hV hS
      obtain ⟨s, hs, hsl, hs2⟩ := idle_mem st st.length (L[q]'hpl) (by rw [hL]; exact List.getElem_mem hpl)
      have Hs : Hid (L[q]? = some (s : Int)) := by show _ = _; rw [List.getElem?_eq_getElem hpl, hs]
      have hgd : L.getD q 0 = (s : Int) := by rw [List.getD_eq_getElem?_getD, Hs.out]; rfl
      have hV2 : Hid (leaseV st c p = .tuple #[.int .i64 s, .int .i64 0]) := by show _ = _; rw [hV.out, hgd]
      have hS2 : Hid (leaseS st c p = st.set s (3, c)) := by show _ = _; rw [hS.out, hgd, Int.toNat_natCast]
      have HL := hide hL
      have Hl := hide h
      have ht1 : -(L.length : Int) < p.tmod L.length := Int.lt_tmod_of_pos p (by omega)
      have ht2 : p.tmod L.length < L.length := Int.tmod_lt_of_pos p (by omega)
      clear h hs hL hq hs2 hgd hV hS
      go_enter Try.func30, Try.ntmps30
      go_wp2_with fail
      refine (rof_any a g st c _ Hl.out).mono ?_
      rintro e w1 ⟨rfl, rfl⟩
      rw [Hn.out, show ofV none = .tuple #[.int .i64 0, .bool false] from rfl]
      go_wp2_with fail
      refine (ridle_any a g st _ Hl.out).mono ?_
      rintro e w1 ⟨v, rfl, hv, hB⟩
      rw [HL.out] at hv
      obtain ⟨b, cap, rfl, hb1, hb2, hb3, hb4, hb5, hb6⟩ := own_form hv hL0
      have hcell : w1.cell? ⟨b, q, none⟩ = some (.int .i64 s) := by
        rw [hb6 q (by omega), List.getElem?_map, Hs.out]; rfl
      have HB := hide hB
      clear hv hb6 hb5
      have hl1 := Hl.out.below hB
      have HL1 := hide hl1
      have e0 := hl1.c0
      have e2 := hl1.s0 s hsl
      have e3 := hl1.s1 s hsl
      have f0 := hl1.rows.frozen (s * 2)
      have f1 := hl1.rows.frozen (s * 2 + 1)
      clear hl1 hB
      go_wp2_with fail
      go_returns
      exact ⟨congrArg Ending.returned hV2.out.symm, (Kept.of_below HB.out).trans ((Kept.setCell g g _ _ _).trans (Kept.setCell g g _ _ _)), by rw [hS2.out]; exact HL1.out.store s 3 c hsl⟩

theorem rnew_bad (n : Int) (w : World) (h : n < 1 ∨ 8 < n) :
    Calls Try.prog 13 #[.int .i64 n] w fun e w' => w = w' ∧ e = .returned (.tuple #[.pointer none, .int .i64 1]) := by
  rcases h with h | h
  all_goals
    go_enter Try.func13, Try.ntmps13
    go_wp2
    all_goals go_returns
    all_goals exact ⟨rfl, rfl⟩
theorem rmake_n (n : Nat) (h1 : 1 ≤ n) (h8 : n ≤ 8) (w : World) : (Instr.makeSlice 57 (.int .i64 n) (.int .i64 n)).run Try.prog w = .ok (.slice (some ⟨w.heap.size, 0, none⟩) n n) (w.alloc (.cells (cellsL (zeros n)).toArray 62)) := by
  have h : n = 1 ∨ n = 2 ∨ n = 3 ∨ n = 4 ∨ n = 5 ∨ n = 6 ∨ n = 7 ∨ n = 8 := by omega
  rcases h with rfl | rfl | rfl | rfl | rfl | rfl | rfl | rfl <;> (change _ = _; kernel_rfl)
theorem rnew_live (n : Nat) (h1 : 1 ≤ n) (h8 : n ≤ 8) (w : World) :
    Calls Try.prog 13 #[.int .i64 n] w fun e w' => ∃ a g, RLive w' a g (zeros n) ∧ w.heap.size ≤ a ∧ w.heap.size ≤ g ∧ Below w.heap.size w w' ∧ e = .returned (.tuple #[.pointer (some ⟨a, 0, none⟩), .int .i64 0]) := by
  have hmk := rmake_n n h1 h8
  go_enter Try.func13, Try.ntmps13
  go_wp2
  go_returns
  have s1 : (w.alloc (.cells (cellsL (zeros n)).toArray 62)).heap.size = w.heap.size + 1 := by simp
  have hg : Blk (w.alloc (.cells (cellsL (zeros n)).toArray 62)) w.heap.size 62 (cellsL (zeros n)).toArray := Blk.new w 62 _
  have hlen : (zeros n).length = n := List.length_replicate
  have hh := Blk.new (w.alloc (.cells (cellsL (zeros n)).toArray 62)) 59 #[.slice (some ⟨w.heap.size, 0, none⟩) n n]
  rw [s1] at hh
  refine ⟨w.heap.size + 1, w.heap.size, ⟨?_, hg.alloc _, by rw [hlen]; exact h8⟩, by omega, Nat.le_refl _, ?_, rfl⟩
  · rw [hlen]; exact hh
  · exact ((Below.refl _ w).alloc (Nat.le_refl _) _).alloc (by simp) _

end Go.Proofs.Ytecedgjahpjppaa
