/-
  Leases that were made: what they are in memory, and what the calls that only read them give. No condition.
-/
import Derived.Test.YtecedgjahpjppaaA
namespace Go.Proofs.Ytecedgjahpjppaa
open Go.RowKit Go.Maps
set_option linter.unusedVariables false
set_option linter.unusedSimpArgs false

/-- The servers' cells: of each its state and its holder. -/
def cellsL : List (Int × Int) → List Value
  | [] => []
  | p :: l => .int .i64 p.1 :: .int .i64 p.2 :: cellsL l
theorem cellsL_length (l : List (Int × Int)) : (cellsL l).length = 2 * l.length := by
  induction l with
  | nil => rfl
  | cons p l ih => simp [cellsL, ih]; omega
theorem cellsL_at (l : List (Int × Int)) (i : Nat) (h : i < l.length) : (cellsL l)[i * 2]? = some (.int .i64 (l.getD i (0, 0)).1) ∧ (cellsL l)[i * 2 + 1]? = some (.int .i64 (l.getD i (0, 0)).2) := by
  induction l generalizing i with
  | nil => simp at h
  | cons p l ih =>
    cases i with
    | zero => exact ⟨rfl, rfl⟩
    | succ i =>
      have h2 := ih i (by simpa using h)
      rw [show (i + 1) * 2 = i * 2 + 1 + 1 from by omega]
      exact h2
theorem cellsL_set (l : List (Int × Int)) (i : Nat) (p : Int × Int) (h : i < l.length) : ((cellsL l).set (i * 2) (.int .i64 p.1)).set (i * 2 + 1) (.int .i64 p.2) = cellsL (l.set i p) := by
  induction l generalizing i with
  | nil => simp at h
  | cons q l ih =>
    cases i with
    | zero => rfl
    | succ i =>
      have h2 := ih i (by simpa using h)
      rw [show (i + 1) * 2 = i * 2 + 1 + 1 from by omega]
      show Value.int .i64 q.1 :: Value.int .i64 q.2 :: (((cellsL l).set (i * 2) _).set (i * 2 + 1) _) = _
      rw [h2]; rfl

/-- Who has what: the map tells of each client its server. -/
def Agree (st : List (Int × Int)) (D : DataW Unit) : Prop :=
  ∀ c : Int, (has D (.int .i64 c) = true → ∃ i, i < st.length ∧ st.getD i (0, 0) = (3, c) ∧ D.atKey (.int .i64 c) (.lit (.int .i64 0)) = .lit (.int .i64 i)) ∧
    ∀ i, i < st.length → st.getD i (0, 0) = (3, c) → has D (.int .i64 c) = true ∧ D.atKey (.int .i64 c) (.lit (.int .i64 0)) = .lit (.int .i64 i)

/-- Leases: the struct's block a, the servers' g, the map's m, of at most k entries. -/
structure Live (w : World) (a g m k : Nat) (st : List (Int × Int)) (D : DataW Unit) : Prop where
  head : Blk w a 28 #[.slice (some ⟨g, 0, none⟩) st.length st.length, .map (some m)]
  rows : Blk w g 53 (cellsL st).toArray
  map : w.ownsMap Try.prog 3 (plainElem Try.prog 3) m k D
  few : st.length ≤ 8
  one : 1 ≤ st.length
  agree : Agree st D
  range : ∀ p ∈ st, (Lit.int .i64 p.2).wf = true

theorem Live.c0 {w : World} {a g m k : Nat} {st : List (Int × Int)} {D : DataW Unit} (h : Live w a g m k st D) : w.cell? ⟨a, 0, none⟩ = some (.slice (some ⟨g, 0, none⟩) st.length st.length) := h.head.cell 0
theorem Live.c1 {w : World} {a g m k : Nat} {st : List (Int × Int)} {D : DataW Unit} (h : Live w a g m k st D) : w.cell? ⟨a, 1, none⟩ = some (.map (some m)) := h.head.cell 1
theorem Live.s0 {w : World} {a g m k : Nat} {st : List (Int × Int)} {D : DataW Unit} (h : Live w a g m k st D) (i : Nat) (hi : i < st.length) : w.cell? ⟨g, i * 2, none⟩ = some (.int .i64 (st.getD i (0, 0)).1) := by
  rw [h.rows.cell, List.getElem?_toArray]; exact (cellsL_at st i hi).1
theorem Live.s1 {w : World} {a g m k : Nat} {st : List (Int × Int)} {D : DataW Unit} (h : Live w a g m k st D) (i : Nat) (hi : i < st.length) : w.cell? ⟨g, i * 2 + 1, none⟩ = some (.int .i64 (st.getD i (0, 0)).2) := by
  rw [h.rows.cell, List.getElem?_toArray]; exact (cellsL_at st i hi).2

theorem one_live (a g m k : Nat) (st : List (Int × Int)) (D : DataW Unit) (i : Nat) (w : World) (h : Live w a g m k st D) (hi : i < st.length) :
    Calls Try.prog 21 #[.pointer (some ⟨a, 0, none⟩), .int .i64 (i : Int)] w fun e w' => w = w' ∧ e = .returned (.tuple #[.pointer (some ⟨g, i * 2, none⟩), .int .i64 0]) := by
  have qm := map_nil
  have h0 := h.c0
  have h1 := h.c1
  have hf := h.few
  have Hl := hide h
  go_enter Try.func21, Try.ntmps21
  go_wp2
  all_goals go_returns
  all_goals exact ⟨rfl, rfl⟩
theorem one_out (a g m k : Nat) (st : List (Int × Int)) (D : DataW Unit) (s : Int) (w : World) (h : Live w a g m k st D) (hi : s < 0 ∨ (st.length : Int) ≤ s) :
    Calls Try.prog 21 #[.pointer (some ⟨a, 0, none⟩), .int .i64 s] w fun e w' => w = w' ∧ e = .returned (.tuple #[.pointer none, .int .i64 1]) := by
  have qm := map_nil
  have h0 := h.c0
  have h1 := h.c1
  have hf := h.few
  have Hl := hide h
  rcases hi with hi | hi
  all_goals
    go_enter Try.func21, Try.ntmps21
    go_wp2
    all_goals go_returns
    all_goals exact ⟨rfl, rfl⟩

/-- A server's state; 0 where there is none. -/
def stateOf (st : List (Int × Int)) (s : Int) : Int := if s < 0 ∨ (st.length : Int) ≤ s then 0 else (st.getD s.toNat (0, 0)).1
theorem state_live (a g m k : Nat) (st : List (Int × Int)) (D : DataW Unit) (s : Int) (w : World) (h : Live w a g m k st D) :
    Calls Try.prog 9 #[.pointer (some ⟨a, 0, none⟩), .int .i64 s] w fun e w' => w = w' ∧ e = .returned (.int .i64 (stateOf st s)) := by
  by_cases hs : s < 0 ∨ (st.length : Int) ≤ s
  · have hR : Hid (stateOf st s = 0) := by unfold stateOf; rw [if_pos hs]; rfl
    have Hl := hide h
    have Hs := hide hs
    clear h hs
    go_enter Try.func9, Try.ntmps9
    go_wp2_with fail
    refine (one_out a g m k st D s _ Hl.out Hs.out).mono ?_
    rintro e w1 ⟨rfl, rfl⟩
    go_wp2_with fail
    go_returns
    exact ⟨rfl, by rw [hR.out]; rfl⟩
  · obtain ⟨i, rfl⟩ : ∃ i : Nat, s = i := ⟨s.toNat, by omega⟩
    have hi : i < st.length := by omega
    have hR : Hid (stateOf st i = (st.getD i (0, 0)).1) := by unfold stateOf; rw [if_neg hs]; rfl
    have c0 := h.s0 i hi
    have Hl := hide h
    have Hi := hide hi
    clear h hs hi
    go_enter Try.func9, Try.ntmps9
    go_wp2_with fail
    refine (one_live a g m k st D i _ Hl.out Hi.out).mono ?_
    rintro e w1 ⟨rfl, rfl⟩
    go_wp2_with fail
    go_returns
    exact ⟨rfl, by rw [hR.out]; rfl⟩
/-- Whose a server is. -/
def holderOf (st : List (Int × Int)) (s : Int) : Value := if stateOf st s = 3 then .tuple #[.int .i64 (st.getD s.toNat (0, 0)).2, .bool true] else .tuple #[.int .i64 0, .bool false]
theorem holder_live (a g m k : Nat) (st : List (Int × Int)) (D : DataW Unit) (s : Int) (w : World) (h : Live w a g m k st D) :
    Calls Try.prog 6 #[.pointer (some ⟨a, 0, none⟩), .int .i64 s] w fun e w' => w = w' ∧ e = .returned (holderOf st s) := by
  by_cases hs : s < 0 ∨ (st.length : Int) ≤ s
  · have hR : Hid (holderOf st s = .tuple #[.int .i64 0, .bool false]) := by unfold holderOf stateOf; rw [if_pos hs]; rfl
    have Hl := hide h
    have Hs := hide hs
    clear h hs
    go_enter Try.func6, Try.ntmps6
    go_wp2_with fail
    refine (one_out a g m k st D s _ Hl.out Hs.out).mono ?_
    rintro e w1 ⟨rfl, rfl⟩
    go_wp2_with fail
    go_returns
    exact ⟨rfl, congrArg Ending.returned hR.out.symm⟩
  · obtain ⟨i, rfl⟩ : ∃ i : Nat, s = i := ⟨s.toNat, by omega⟩
    have hi : i < st.length := by omega
    have c0 := h.s0 i hi
    have c1 := h.s1 i hi
    have hst : stateOf st i = (st.getD i (0, 0)).1 := by unfold stateOf; rw [if_neg hs]; rfl
    by_cases h3 : (st.getD i (0, 0)).1 = 3
    · have hR : Hid (holderOf st i = .tuple #[.int .i64 (st.getD i (0, 0)).2, .bool true]) := by unfold holderOf; rw [hst, if_pos h3]; rfl
      rw [h3] at c0
      have Hl := hide h
      have Hi := hide hi
      clear h hs hi h3 hst
      go_enter Try.func6, Try.ntmps6
      go_wp2_with fail
      refine (one_live a g m k st D i _ Hl.out Hi.out).mono ?_
      rintro e w1 ⟨rfl, rfl⟩
      go_wp2_with fail
      go_returns
      exact ⟨rfl, congrArg Ending.returned hR.out.symm⟩
    · have hR : Hid (holderOf st i = .tuple #[.int .i64 0, .bool false]) := by unfold holderOf; rw [hst, if_neg h3]; rfl
      have h3b : ((st.getD i (0, 0)).1 == 3) = false := by simpa using h3
      generalize (st.getD i (0, 0)).1 = x at *
      have Hl := hide h
      have Hi := hide hi
      clear h hs hi hst
      go_enter Try.func6, Try.ntmps6
      go_wp2_with fail
      refine (one_live a g m k st D i _ Hl.out Hi.out).mono ?_
      rintro e w1 ⟨rfl, rfl⟩
      go_wp2_with fail
      all_goals go_returns
      all_goals exact ⟨rfl, congrArg Ending.returned hR.out.symm⟩

/-- What of a client there is. -/
theorem of_live (a g m k : Nat) (st : List (Int × Int)) (D : DataW Unit) (c : Int) (w : World) (h : Live w a g m k st D) (hc : (Lit.int .i64 c).wf = true) :
    Calls Try.prog 7 #[.pointer (some ⟨a, 0, none⟩), .int .i64 c] w fun e w' => w = w' ∧ ∃ n, D.atKey (.int .i64 c) (.lit (.int .i64 0)) = .lit (.int .i64 n) ∧ e = .returned (.tuple #[.int .i64 n, .bool (has D (.int .i64 c))]) := by
  have hkey := keyOf_int_mk Try.underlying3 hc
  have c0 := h.c0
  have c1 := h.c1
  have hown := h.map
  clear h
  go_enter Try.func7, Try.ntmps7
  go_wp2_with (at_lookup; refine wpList_lookup_own_ok_int _ rfl _ _ 26 rfl 3 3 .i64 law3 Try.underlying26 Try.underlying3 (zero3 _) m k D rfl hown _ _ rfl hkey ?_; intro n hat hwc; have Hat := hide hat; clear hat)
  go_returns
  exact ⟨rfl, n, Hat.out, rfl⟩

end Go.Proofs.Ytecedgjahpjppaa
