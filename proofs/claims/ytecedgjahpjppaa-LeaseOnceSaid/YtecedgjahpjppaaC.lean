/-
  Leases that were made: what the calls that turn them do. No condition.
-/
import Derived.Test.YtecedgjahpjppaaB
import Derived.StillTailTactics
namespace Go.Proofs.Ytecedgjahpjppaa
open Go.RowKit Go.Maps
set_option linter.unusedVariables false
set_option linter.unusedSimpArgs false

theorem getD_set (st : List (Int × Int)) (i j : Nat) (p : Int × Int) (hi : i < st.length) : (st.set i p).getD j (0, 0) = if i = j then p else st.getD j (0, 0) := by
  rw [List.getD_eq_getElem?_getD, List.getD_eq_getElem?_getD, List.getElem?_set]
  by_cases h : i = j
  · subst h; simp [hi]
  · simp [h]
theorem lit_ne {a b : Int} (h : a ≠ b) : (Lit.int .i64 a) ≠ Lit.int .i64 b := fun e => h (by injection e)
theorem key_i64 (c : Int) : WideAt.IsKeyLit (.int .i64 c) := trivial

theorem Agree.drop {st : List (Int × Int)} {D : DataW Unit} (h : Agree st D) {i : Nat} (hi : i < st.length) (h3 : (st.getD i (0, 0)).1 = 3) {s' : Int} (hs : s' ≠ 3) :
    Agree (st.set i (s', 0)) (D.del (.int .i64 (st.getD i (0, 0)).2)) := by
  obtain ⟨x, hx⟩ : ∃ x : Int, st.getD i (0, 0) = (3, x) := ⟨(st.getD i (0, 0)).2, by rcases hq : st.getD i (0, 0) with ⟨q1, q2⟩; rw [hq] at h3; exact congrArg (fun z => (z, q2)) h3⟩
  rw [hx]
  show Agree _ (D.del (.int .i64 x))
  intro c
  by_cases hc : c = x
  · subst hc
    refine ⟨fun hh => (by rw [has_del_same] at hh; cases hh), fun j hj hj3 => ?_⟩
    rw [getD_set st i j _ hi] at hj3
    split at hj3
    · injection hj3 with e1 e2; exact absurd e1 hs
    · rename_i hne
      rw [List.length_set] at hj
      have e1 := ((h c).2 j hj hj3).2
      have e2 := ((h c).2 i hi hx).2
      rw [e1] at e2
      injection e2 with e2; injection e2 with _ e2
      exact absurd (by omega) hne
  · have hne := lit_ne hc
    rw [has_del_other hne, atKey_del_other hne]
    refine ⟨fun hh => ?_, fun j hj hj3 => ?_⟩
    · obtain ⟨j, hj, hj3, hat⟩ := (h c).1 hh
      refine ⟨j, by rw [List.length_set]; exact hj, ?_, hat⟩
      rw [getD_set st i j _ hi, if_neg ?_]
      · exact hj3
      · rintro rfl
        rw [hx] at hj3; injection hj3 with _ e2; exact hc e2.symm
    · rw [getD_set st i j _ hi] at hj3
      split at hj3
      · injection hj3 with e1 e2; exact absurd e1 hs
      · rw [List.length_set] at hj
        exact (h c).2 j hj hj3
theorem Agree.turn {st : List (Int × Int)} {D : DataW Unit} (h : Agree st D) {i : Nat} (hi : i < st.length) (h3 : (st.getD i (0, 0)).1 ≠ 3) {s' : Int} (hs : s' ≠ 3) :
    Agree (st.set i (s', 0)) D := by
  intro c
  refine ⟨fun hh => ?_, fun j hj hj3 => ?_⟩
  · obtain ⟨j, hj, hj3, hat⟩ := (h c).1 hh
    refine ⟨j, by rw [List.length_set]; exact hj, ?_, hat⟩
    rw [getD_set st i j _ hi, if_neg ?_]
    · exact hj3
    · rintro rfl
      rw [hj3] at h3; exact h3 rfl
  · rw [getD_set st i j _ hi] at hj3
    split at hj3
    · injection hj3 with e1 e2; exact absurd e1 hs
    · rw [List.length_set] at hj
      exact (h c).2 j hj hj3
theorem Agree.lease {st : List (Int × Int)} {D : DataW Unit} (h : Agree st D) (hD : IsMap D) {i : Nat} (hi : i < st.length) (h3 : (st.getD i (0, 0)).1 ≠ 3) {x : Int} (hx : has D (.int .i64 x) = false) :
    Agree (st.set i (3, x)) (D.put (.int .i64 x) (.lit (.int .i64 i))) := by
  intro c
  by_cases hc : c = x
  · subst hc
    rw [has_put_same hD (key_i64 _), atKey_put_same hD (key_i64 _)]
    refine ⟨fun _ => ⟨i, by rw [List.length_set]; exact hi, by rw [getD_set st i i _ hi, if_pos rfl], rfl⟩, fun j hj hj3 => ⟨rfl, ?_⟩⟩
    rw [getD_set st i j _ hi] at hj3
    split at hj3
    · rename_i e; rw [e]
    · rw [List.length_set] at hj
      rw [((h c).2 j hj hj3).1] at hx; cases hx
  · have hne := lit_ne hc
    rw [has_put_other hne, atKey_put_other hne]
    refine ⟨fun hh => ?_, fun j hj hj3 => ?_⟩
    · obtain ⟨j, hj, hj3, hat⟩ := (h c).1 hh
      refine ⟨j, by rw [List.length_set]; exact hj, ?_, hat⟩
      rw [getD_set st i j _ hi, if_neg ?_]
      · exact hj3
      · rintro rfl
        rw [hj3] at h3; exact h3 rfl
    · rw [getD_set st i j _ hi] at hj3
      split at hj3
      · injection hj3 with e1 e2; exact absurd e2.symm hc
      · rw [List.length_set] at hj
        exact (h c).2 j hj hj3

theorem map_ne {w : World} {m k g t : Nat} {cs : Array Value} {D : DataW Unit} (hm : w.ownsMap Try.prog 3 (plainElem Try.prog 3) m k D) (h : Blk w g t cs) : m ≠ g := by
  rintro rfl
  obtain ⟨es, clock, hb, _⟩ := hm
  unfold Blk at h
  rw [h] at hb
  cases hb
theorem Live.store {w : World} {a g m k : Nat} {st : List (Int × Int)} {D : DataW Unit} (hh : Blk w a 28 #[.slice (some ⟨g, 0, none⟩) st.length st.length, .map (some m)]) (hr : Blk w g 53 (cellsL st).toArray) (hm : w.ownsMap Try.prog 3 (plainElem Try.prog 3) m k D)
    (i : Nat) (s x : Int) (hi : i < st.length) (ha : Agree (st.set i (s, x)) D) (h8 : st.length ≤ 8) (h1 : 1 ≤ st.length) (hw : ∀ p ∈ st, (Lit.int .i64 p.2).wf = true) (hx : (Lit.int .i64 x).wf = true) :
    Live ((w.setCell ⟨g, i * 2, none⟩ (.int .i64 s)).setCell ⟨g, i * 2 + 1, none⟩ (.int .i64 x)) a g m k (st.set i (s, x)) D := by
  have hag : a ≠ g := hh.apart hr (by decide)
  have hmg : m ≠ g := map_ne hm hr
  refine ⟨?_, ?_, (hm.setCell hmg _).setCell hmg _, by rw [List.length_set]; exact h8, by rw [List.length_set]; exact h1, ha, ?_⟩
  · rw [List.length_set]
    exact (hh.far (p := ⟨g, i * 2, none⟩) hag _).far (p := ⟨g, i * 2 + 1, none⟩) hag _
  · have h2 := (hr.put (i * 2) (.int .i64 s)).put (i * 2 + 1) (.int .i64 x)
    rw [List.setIfInBounds_toArray, List.setIfInBounds_toArray, cellsL_set st i (s, x) hi] at h2
    exact h2
  · intro p hp
    rcases List.mem_or_eq_of_mem_set hp with h | h
    · exact hw p h
    · rw [h]; exact hx

/-- w' is w but for the blocks g and m, and for what was made since. -/
structure Kept (g m : Nat) (w w' : World) : Prop where
  os : w'.os = w.os
  tape : w'.tape = w.tape
  output : w'.output = w.output
  size : w.heap.size ≤ w'.heap.size
  block : ∀ k, k < w.heap.size → k ≠ g → k ≠ m → w'.heap[k]? = w.heap[k]?
theorem Kept.refl (g m : Nat) (w : World) : Kept g m w w := ⟨rfl, rfl, rfl, Nat.le_refl _, fun _ _ _ _ => rfl⟩
theorem Kept.trans {g m : Nat} {a b c : World} (h : Kept g m a b) (k : Kept g m b c) : Kept g m a c :=
  ⟨k.os.trans h.os, k.tape.trans h.tape, k.output.trans h.output, Nat.le_trans h.size k.size, fun i hi h1 h2 => (k.block i (Nat.lt_of_lt_of_le hi h.size) h1 h2).trans (h.block i hi h1 h2)⟩
theorem Kept.setCell (g m : Nat) (w : World) (o : Nat) (u : Value) : Kept g m w (w.setCell ⟨g, o, none⟩ u) :=
  ⟨rfl, rfl, rfl, by simp [World.setCell], fun k _ h1 _ => Below.heap_setCell w ⟨g, o, none⟩ u k h1⟩
theorem Kept.grown {g m : Nat} {w w' : World} (h : w.grownBy w' (some m)) : Kept g m w w' :=
  ⟨h.os, h.tape, h.output, h.size, fun k hk _ h2 => h.block k hk (by simpa using h2)⟩
theorem Kept.below {g m B : Nat} {w w' : World} (h : Kept g m w w') (hg : B ≤ g) (hm : B ≤ m) (hB : B ≤ w.heap.size) : Below B w w' :=
  ⟨h.os, h.tape, h.output, h.size, fun k hk => h.block k (by omega) (by omega) (by omega)⟩
theorem Kept.of_below {g m : Nat} {w w' : World} (h : Below w.heap.size w w') : Kept g m w w' :=
  ⟨h.os, h.tape, h.output, h.size, fun k hk _ _ => h.block k hk⟩
theorem Blk.kept {g m b : Nat} {w w' : World} {t : TypeId} {cs : Array Value} (h : Blk w b t cs) (hk : Kept g m w w') (h1 : b ≠ g) (h2 : b ≠ m) : Blk w' b t cs := (hk.block b h.lt h1 h2).trans h

theorem become_live (a g m k : Nat) (st : List (Int × Int)) (D : DataW Unit) (i : Nat) (s' : Int) (w : World) (h : Live w a g m k st D) (hi : i < st.length) (hs : s' ≠ 3) :
    Calls Try.prog 39 #[.pointer (some ⟨a, 0, none⟩), .pointer (some ⟨g, i * 2, none⟩), .int .i64 s'] w fun e w' => e = .returned (.tuple #[]) ∧ Kept g m w w' ∧ ∃ D', Live w' a g m k (st.set i (s', 0)) D' := by
  have c0 := h.s0 i hi
  have c1 := h.s1 i hi
  have f0 := h.rows.frozen (i * 2)
  have f1 := h.rows.frozen (i * 2 + 1)
  have d0 := h.c0
  have d1 := h.c1
  have hown := h.map
  by_cases h3 : (st.getD i (0, 0)).1 = 3
  · rw [h3] at c0
    have hkey := keyOf_int_mk Try.underlying3 (h.range _ (List.getElem_mem hi))
    have hmg : g ≠ m := fun e => map_ne h.map h.rows e.symm
    have hgx : (st[i]'hi).2 = (st.getD i (0, 0)).2 := by rw [List.getD_eq_getElem?_getD, List.getElem?_eq_getElem hi]; rfl
    rw [hgx] at hkey
    clear hgx
    have hma : a ≠ m := fun e => map_ne h.map h.head e.symm
    obtain ⟨x, hx⟩ : ∃ x, (st.getD i (0, 0)).2 = x := ⟨_, rfl⟩
    rw [hx] at hkey c1
    have Hx := hide hx
    clear hx
    have Hl := hide h
    have Hi := hide hi
    clear h hi
    go_enter Try.func39, Try.ntmps39
    go_wp2_with fail
    go_still_tail 8, (by kernel_rfl)
    change wpList _ _ _ _ _ w.drew
    go_wp2_with (at_delete; refine wpList_delete_own _ rfl _ _ 26 3 rfl 3 law3 Try.underlying26 _ m k D rfl hown.drew _ _ rfl hkey ?_; intro w1 hown1 hturn1; have g0 : w1.frozen? ⟨g, i * 2, none⟩ = false := (hturn1.frozen _).trans f0; have g1 : w1.frozen? ⟨g, i * 2 + 1, none⟩ = false := (hturn1.frozen _).trans f1; have hr1 := (Hl.out.rows.drew).grown hturn1.grown (by simpa using hmg); have e0 : w1.cell? ⟨g, i * 2, none⟩ = some (.int .i64 3) := (hr1.cell _).trans (by rw [List.getElem?_toArray, (cellsL_at st i Hi.out).1, h3]); have e1 : w1.cell? ⟨g, i * 2 + 1, none⟩ = some (.int .i64 x) := (hr1.cell _).trans (by rw [List.getElem?_toArray, (cellsL_at st i Hi.out).2, Hx.out]); have Hr1 := hide hr1; have Hown1 := hide hown1; have Hturn := hide hturn1; clear hr1 hown1 hturn1)
    go_returns
    refine ⟨rfl, ((Kept.of_below ((Below.refl _ w).drew)).trans ((Kept.grown Hturn.out.grown).trans ((Kept.setCell g m _ _ _).trans (Kept.setCell g m _ _ _)))), _, Live.store ((Hl.out.head.drew).grown Hturn.out.grown (by simpa using hma)) Hr1.out Hown1.out i s' 0 Hi.out ?_ Hl.out.few Hl.out.one Hl.out.range (by decide)⟩
    have hfin := Hl.out.agree.drop Hi.out h3 hs
    rw [Hx.out] at hfin
    exact hfin
  · have h3b : ((st.getD i (0, 0)).1 == 3) = false := by simpa using h3
    generalize hx : (st.getD i (0, 0)).1 = x at *
    have Hl := hide h
    have Hi := hide hi
    clear h hi
    go_enter Try.func39, Try.ntmps39
    go_wp2
    go_returns
    exact ⟨rfl, (Kept.setCell g m _ _ _).trans (Kept.setCell g m _ _ _), D, Live.store Hl.out.head Hl.out.rows Hl.out.map i s' 0 Hi.out (Hl.out.agree.turn Hi.out (by rw [hx]; simpa using h3b) hs) Hl.out.few Hl.out.one Hl.out.range (by decide)⟩

def mayStart (x : Int) : Bool := x == 0
def mayUp (x : Int) : Bool := x != 0 && x != 2
def mayDrain (x : Int) : Bool := x == 3
def mayDown (_ : Int) : Bool := true
theorem start1 (x : Int) (w : World) : Calls Try.prog 35 #[.int .i64 x] w fun e w' => w = w' ∧ e = .returned (.bool (mayStart x)) := by
  go_enter Try.func35, Try.ntmps35
  go_wp2
  go_returns
  exact ⟨rfl, rfl⟩
theorem up1 (x : Int) (w : World) : Calls Try.prog 36 #[.int .i64 x] w fun e w' => w = w' ∧ e = .returned (.bool (mayUp x)) := by
  by_cases h : x = 0
  · subst h
    go_enter Try.func36, Try.ntmps36
    go_wp2
    all_goals go_returns
    all_goals exact ⟨rfl, rfl⟩
  · have hb : (x != 0) = true := by simpa using h
    go_enter Try.func36, Try.ntmps36
    go_wp2
    all_goals go_returns
    all_goals exact ⟨rfl, by unfold mayUp; rw [hb]; rfl⟩
theorem drain1 (x : Int) (w : World) : Calls Try.prog 37 #[.int .i64 x] w fun e w' => w = w' ∧ e = .returned (.bool (mayDrain x)) := by
  go_enter Try.func37, Try.ntmps37
  go_wp2
  go_returns
  exact ⟨rfl, rfl⟩
theorem down1 (x : Int) (w : World) : Calls Try.prog 38 #[.int .i64 x] w fun e w' => w = w' ∧ e = .returned (.bool (mayDown x)) := by
  go_enter Try.func38, Try.ntmps38
  go_wp2
  go_returns
  exact ⟨rfl, rfl⟩

/-- What turn answers, and what it leaves. -/
def turnE (st : List (Int × Int)) (s : Int) (may : Int → Bool) : Int := if s < 0 ∨ (st.length : Int) ≤ s then 1 else if may (st.getD s.toNat (0, 0)).1 = true then 0 else 10
def turnS (st : List (Int × Int)) (s s' : Int) (may : Int → Bool) : List (Int × Int) := if turnE st s may = 0 then st.set s.toNat (s', 0) else st

theorem turn_start (a g m k : Nat) (st : List (Int × Int)) (D : DataW Unit) (s s' : Int) (hs : s' ≠ 3) (w : World) (h : Live w a g m k st D) :
    Calls Try.prog 34 #[.pointer (some ⟨a, 0, none⟩), .int .i64 s, .int .i64 s', .func (.func 35) #[] #[]] w fun e w' => e = .returned (.int .i64 (turnE st s mayStart)) ∧ Kept g m w w' ∧ ∃ D', Live w' a g m k (turnS st s s' mayStart) D' := by
  by_cases hi : s < 0 ∨ (st.length : Int) ≤ s
  · have hE : Hid (turnE st s mayStart = 1) := by unfold turnE; rw [if_pos hi]; rfl
    have hS : Hid (turnS st s s' mayStart = st) := by unfold turnS; rw [hE.out]; rfl
    have Hl := hide h
    have Hi := hide hi
    clear h hi
    go_enter Try.func34, Try.ntmps34
    go_wp2_with fail
    refine (one_out a g m k st D s _ Hl.out Hi.out).mono ?_
    rintro e w1 ⟨rfl, rfl⟩
    go_wp2_with fail
    go_returns
    exact ⟨by rw [hE.out]; rfl, Kept.refl _ _ _, D, by rw [hS.out]; exact Hl.out⟩
  · obtain ⟨i, rfl⟩ : ∃ i : Nat, s = i := ⟨s.toNat, by omega⟩
    have hil : i < st.length := by omega
    have c0 := h.s0 i hil
    rcases hm : mayStart (st.getD i (0, 0)).1 with _ | _
    · have hE : Hid (turnE st i mayStart = 10) := by unfold turnE; rw [if_neg hi, Int.toNat_natCast, hm]; rfl
      have hS : Hid (turnS st i s' mayStart = st) := by unfold turnS; rw [hE.out]; rfl
      obtain ⟨x, hx⟩ : ∃ x, (st.getD i (0, 0)).1 = x := ⟨_, rfl⟩
      rw [hx] at hm c0
      clear hx
      have Hm := hide hm
      have Hl := hide h
      have Hi := hide hil
      clear h hi hil hm
      go_enter Try.func34, Try.ntmps34
      go_wp2_with fail
      refine (one_live a g m k st D i _ Hl.out Hi.out).mono ?_
      rintro e w1 ⟨rfl, rfl⟩
      go_wp2_with fail
      refine (start1 _ _).mono ?_
      rintro e w1 ⟨rfl, rfl⟩
      rw [Hm.out]
      go_wp2_with fail
      go_returns
      exact ⟨by rw [hE.out]; rfl, Kept.refl _ _ _, D, by rw [hS.out]; exact Hl.out⟩
    · have hE : Hid (turnE st i mayStart = 0) := by unfold turnE; rw [if_neg hi, Int.toNat_natCast, hm]; rfl
      have hS : Hid (turnS st i s' mayStart = st.set i (s', 0)) := by unfold turnS; rw [hE.out]; rfl
      obtain ⟨x, hx⟩ : ∃ x, (st.getD i (0, 0)).1 = x := ⟨_, rfl⟩
      rw [hx] at hm c0
      clear hx
      have Hm := hide hm
      have Hl := hide h
      have Hi := hide hil
      clear h hi hil hm
      go_enter Try.func34, Try.ntmps34
      go_wp2_with fail
      refine (one_live a g m k st D i _ Hl.out Hi.out).mono ?_
      rintro e w1 ⟨rfl, rfl⟩
      go_wp2_with fail
      refine (start1 _ _).mono ?_
      rintro e w1 ⟨rfl, rfl⟩
      rw [Hm.out]
      go_wp2_with fail
      refine (become_live a g m k st D i s' _ Hl.out Hi.out hs).mono ?_
      rintro e w2 ⟨rfl, hk, D', hl⟩
      have HK := hide hk
      have HL := hide hl
      clear hk hl
      go_wp2_with fail
      go_returns
      exact ⟨by rw [hE.out]; rfl, HK.out, D', by rw [hS.out]; exact HL.out⟩

theorem turn_up (a g m k : Nat) (st : List (Int × Int)) (D : DataW Unit) (s s' : Int) (hs : s' ≠ 3) (w : World) (h : Live w a g m k st D) :
    Calls Try.prog 34 #[.pointer (some ⟨a, 0, none⟩), .int .i64 s, .int .i64 s', .func (.func 36) #[] #[]] w fun e w' => e = .returned (.int .i64 (turnE st s mayUp)) ∧ Kept g m w w' ∧ ∃ D', Live w' a g m k (turnS st s s' mayUp) D' := by
  by_cases hi : s < 0 ∨ (st.length : Int) ≤ s
  · have hE : Hid (turnE st s mayUp = 1) := by unfold turnE; rw [if_pos hi]; rfl
    have hS : Hid (turnS st s s' mayUp = st) := by unfold turnS; rw [hE.out]; rfl
    have Hl := hide h
    have Hi := hide hi
    clear h hi
    go_enter Try.func34, Try.ntmps34
    go_wp2_with fail
    refine (one_out a g m k st D s _ Hl.out Hi.out).mono ?_
    rintro e w1 ⟨rfl, rfl⟩
    go_wp2_with fail
    go_returns
    exact ⟨by rw [hE.out]; rfl, Kept.refl _ _ _, D, by rw [hS.out]; exact Hl.out⟩
  · obtain ⟨i, rfl⟩ : ∃ i : Nat, s = i := ⟨s.toNat, by omega⟩
    have hil : i < st.length := by omega
    have c0 := h.s0 i hil
    rcases hm : mayUp (st.getD i (0, 0)).1 with _ | _
    · have hE : Hid (turnE st i mayUp = 10) := by unfold turnE; rw [if_neg hi, Int.toNat_natCast, hm]; rfl
      have hS : Hid (turnS st i s' mayUp = st) := by unfold turnS; rw [hE.out]; rfl
      obtain ⟨x, hx⟩ : ∃ x, (st.getD i (0, 0)).1 = x := ⟨_, rfl⟩
      rw [hx] at hm c0
      clear hx
      have Hm := hide hm
      have Hl := hide h
      have Hi := hide hil
      clear h hi hil hm
      go_enter Try.func34, Try.ntmps34
      go_wp2_with fail
      refine (one_live a g m k st D i _ Hl.out Hi.out).mono ?_
      rintro e w1 ⟨rfl, rfl⟩
      go_wp2_with fail
      refine (up1 _ _).mono ?_
      rintro e w1 ⟨rfl, rfl⟩
      rw [Hm.out]
      go_wp2_with fail
      go_returns
      exact ⟨by rw [hE.out]; rfl, Kept.refl _ _ _, D, by rw [hS.out]; exact Hl.out⟩
    · have hE : Hid (turnE st i mayUp = 0) := by unfold turnE; rw [if_neg hi, Int.toNat_natCast, hm]; rfl
      have hS : Hid (turnS st i s' mayUp = st.set i (s', 0)) := by unfold turnS; rw [hE.out]; rfl
      obtain ⟨x, hx⟩ : ∃ x, (st.getD i (0, 0)).1 = x := ⟨_, rfl⟩
      rw [hx] at hm c0
      clear hx
      have Hm := hide hm
      have Hl := hide h
      have Hi := hide hil
      clear h hi hil hm
      go_enter Try.func34, Try.ntmps34
      go_wp2_with fail
      refine (one_live a g m k st D i _ Hl.out Hi.out).mono ?_
      rintro e w1 ⟨rfl, rfl⟩
      go_wp2_with fail
      refine (up1 _ _).mono ?_
      rintro e w1 ⟨rfl, rfl⟩
      rw [Hm.out]
      go_wp2_with fail
      refine (become_live a g m k st D i s' _ Hl.out Hi.out hs).mono ?_
      rintro e w2 ⟨rfl, hk, D', hl⟩
      have HK := hide hk
      have HL := hide hl
      clear hk hl
      go_wp2_with fail
      go_returns
      exact ⟨by rw [hE.out]; rfl, HK.out, D', by rw [hS.out]; exact HL.out⟩

theorem turn_drain (a g m k : Nat) (st : List (Int × Int)) (D : DataW Unit) (s s' : Int) (hs : s' ≠ 3) (w : World) (h : Live w a g m k st D) :
    Calls Try.prog 34 #[.pointer (some ⟨a, 0, none⟩), .int .i64 s, .int .i64 s', .func (.func 37) #[] #[]] w fun e w' => e = .returned (.int .i64 (turnE st s mayDrain)) ∧ Kept g m w w' ∧ ∃ D', Live w' a g m k (turnS st s s' mayDrain) D' := by
  by_cases hi : s < 0 ∨ (st.length : Int) ≤ s
  · have hE : Hid (turnE st s mayDrain = 1) := by unfold turnE; rw [if_pos hi]; rfl
    have hS : Hid (turnS st s s' mayDrain = st) := by unfold turnS; rw [hE.out]; rfl
    have Hl := hide h
    have Hi := hide hi
    clear h hi
    go_enter Try.func34, Try.ntmps34
    go_wp2_with fail
    refine (one_out a g m k st D s _ Hl.out Hi.out).mono ?_
    rintro e w1 ⟨rfl, rfl⟩
    go_wp2_with fail
    go_returns
    exact ⟨by rw [hE.out]; rfl, Kept.refl _ _ _, D, by rw [hS.out]; exact Hl.out⟩
  · obtain ⟨i, rfl⟩ : ∃ i : Nat, s = i := ⟨s.toNat, by omega⟩
    have hil : i < st.length := by omega
    have c0 := h.s0 i hil
    rcases hm : mayDrain (st.getD i (0, 0)).1 with _ | _
    · have hE : Hid (turnE st i mayDrain = 10) := by unfold turnE; rw [if_neg hi, Int.toNat_natCast, hm]; rfl
      have hS : Hid (turnS st i s' mayDrain = st) := by unfold turnS; rw [hE.out]; rfl
      obtain ⟨x, hx⟩ : ∃ x, (st.getD i (0, 0)).1 = x := ⟨_, rfl⟩
      rw [hx] at hm c0
      clear hx
      have Hm := hide hm
      have Hl := hide h
      have Hi := hide hil
      clear h hi hil hm
      go_enter Try.func34, Try.ntmps34
      go_wp2_with fail
      refine (one_live a g m k st D i _ Hl.out Hi.out).mono ?_
      rintro e w1 ⟨rfl, rfl⟩
      go_wp2_with fail
      refine (drain1 _ _).mono ?_
      rintro e w1 ⟨rfl, rfl⟩
      rw [Hm.out]
      go_wp2_with fail
      go_returns
      exact ⟨by rw [hE.out]; rfl, Kept.refl _ _ _, D, by rw [hS.out]; exact Hl.out⟩
    · have hE : Hid (turnE st i mayDrain = 0) := by unfold turnE; rw [if_neg hi, Int.toNat_natCast, hm]; rfl
      have hS : Hid (turnS st i s' mayDrain = st.set i (s', 0)) := by unfold turnS; rw [hE.out]; rfl
      obtain ⟨x, hx⟩ : ∃ x, (st.getD i (0, 0)).1 = x := ⟨_, rfl⟩
      rw [hx] at hm c0
      clear hx
      have Hm := hide hm
      have Hl := hide h
      have Hi := hide hil
      clear h hi hil hm
      go_enter Try.func34, Try.ntmps34
      go_wp2_with fail
      refine (one_live a g m k st D i _ Hl.out Hi.out).mono ?_
      rintro e w1 ⟨rfl, rfl⟩
      go_wp2_with fail
      refine (drain1 _ _).mono ?_
      rintro e w1 ⟨rfl, rfl⟩
      rw [Hm.out]
      go_wp2_with fail
      refine (become_live a g m k st D i s' _ Hl.out Hi.out hs).mono ?_
      rintro e w2 ⟨rfl, hk, D', hl⟩
      have HK := hide hk
      have HL := hide hl
      clear hk hl
      go_wp2_with fail
      go_returns
      exact ⟨by rw [hE.out]; rfl, HK.out, D', by rw [hS.out]; exact HL.out⟩

theorem turn_down (a g m k : Nat) (st : List (Int × Int)) (D : DataW Unit) (s s' : Int) (hs : s' ≠ 3) (w : World) (h : Live w a g m k st D) :
    Calls Try.prog 34 #[.pointer (some ⟨a, 0, none⟩), .int .i64 s, .int .i64 s', .func (.func 38) #[] #[]] w fun e w' => e = .returned (.int .i64 (turnE st s mayDown)) ∧ Kept g m w w' ∧ ∃ D', Live w' a g m k (turnS st s s' mayDown) D' := by
  by_cases hi : s < 0 ∨ (st.length : Int) ≤ s
  · have hE : Hid (turnE st s mayDown = 1) := by unfold turnE; rw [if_pos hi]; rfl
    have hS : Hid (turnS st s s' mayDown = st) := by unfold turnS; rw [hE.out]; rfl
    have Hl := hide h
    have Hi := hide hi
    clear h hi
    go_enter Try.func34, Try.ntmps34
    go_wp2_with fail
    refine (one_out a g m k st D s _ Hl.out Hi.out).mono ?_
    rintro e w1 ⟨rfl, rfl⟩
    go_wp2_with fail
    go_returns
    exact ⟨by rw [hE.out]; rfl, Kept.refl _ _ _, D, by rw [hS.out]; exact Hl.out⟩
  · obtain ⟨i, rfl⟩ : ∃ i : Nat, s = i := ⟨s.toNat, by omega⟩
    have hil : i < st.length := by omega
    have c0 := h.s0 i hil
    rcases hm : mayDown (st.getD i (0, 0)).1 with _ | _
    · have hE : Hid (turnE st i mayDown = 10) := by unfold turnE; rw [if_neg hi, Int.toNat_natCast, hm]; rfl
      have hS : Hid (turnS st i s' mayDown = st) := by unfold turnS; rw [hE.out]; rfl
      obtain ⟨x, hx⟩ : ∃ x, (st.getD i (0, 0)).1 = x := ⟨_, rfl⟩
      rw [hx] at hm c0
      clear hx
      have Hm := hide hm
      have Hl := hide h
      have Hi := hide hil
      clear h hi hil hm
      go_enter Try.func34, Try.ntmps34
      go_wp2_with fail
      refine (one_live a g m k st D i _ Hl.out Hi.out).mono ?_
      rintro e w1 ⟨rfl, rfl⟩
      go_wp2_with fail
      refine (down1 _ _).mono ?_
      rintro e w1 ⟨rfl, rfl⟩
      rw [Hm.out]
      go_wp2_with fail
      go_returns
      exact ⟨by rw [hE.out]; rfl, Kept.refl _ _ _, D, by rw [hS.out]; exact Hl.out⟩
    · have hE : Hid (turnE st i mayDown = 0) := by unfold turnE; rw [if_neg hi, Int.toNat_natCast, hm]; rfl
      have hS : Hid (turnS st i s' mayDown = st.set i (s', 0)) := by unfold turnS; rw [hE.out]; rfl
      obtain ⟨x, hx⟩ : ∃ x, (st.getD i (0, 0)).1 = x := ⟨_, rfl⟩
      rw [hx] at hm c0
      clear hx
      have Hm := hide hm
      have Hl := hide h
      have Hi := hide hil
      clear h hi hil hm
      go_enter Try.func34, Try.ntmps34
      go_wp2_with fail
      refine (one_live a g m k st D i _ Hl.out Hi.out).mono ?_
      rintro e w1 ⟨rfl, rfl⟩
      go_wp2_with fail
      refine (down1 _ _).mono ?_
      rintro e w1 ⟨rfl, rfl⟩
      rw [Hm.out]
      go_wp2_with fail
      refine (become_live a g m k st D i s' _ Hl.out Hi.out hs).mono ?_
      rintro e w2 ⟨rfl, hk, D', hl⟩
      have HK := hide hk
      have HL := hide hl
      clear hk hl
      go_wp2_with fail
      go_returns
      exact ⟨by rw [hE.out]; rfl, HK.out, D', by rw [hS.out]; exact HL.out⟩


end Go.Proofs.Ytecedgjahpjppaa
