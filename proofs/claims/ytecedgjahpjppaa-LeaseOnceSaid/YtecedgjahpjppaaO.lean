/-
  The reference's leases: which are idle, and which is a client's. No condition.
-/
import Derived.Test.YtecedgjahpjppaaN
namespace Go.Proofs.Ytecedgjahpjppaa
open Go.RowKit Go.Maps
set_option linter.unusedVariables false
set_option linter.unusedSimpArgs false

theorem ridle_any (a g : Nat) (st : List (Int × Int)) (w : World) (h : RLive w a g st) :
    Calls Try.prog 17 #[.pointer (some ⟨a, 0, none⟩)] w fun e w' => ∃ v, e = .returned v ∧ w'.ownsRow w.heap.size 3 1 v (idleN st st.length).length ((idleN st st.length).map (Value.int .i64)) ∧ Below w.heap.size w w' := by
  obtain ⟨i0, hi, hz0, hz1, hz2⟩ := info_parts infoInt
  have h8 := h.few
  have Hl := hide h
  clear h
  go_enter Try.func17, Try.ntmps17
  go_wp2_with fail
  go_loopw [3, 4] (fun v i wr => ∃ j : Nat, j ≤ st.length ∧ i = .int .i64 j ∧ wr.ownsRow w.heap.size 3 1 v (idleN st j).length ((idleN st j).map (Value.int .i64)) ∧ Below w.heap.size w wr) (fun _ i _ => st.length - (intOf i).toNat)
  case atStart => exact ⟨0, Nat.zero_le _, rfl, by simpa [idleN] using World.ownsRow_nil w w.heap.size 3 1, Below.refl _ _⟩
  case round =>
    obtain ⟨j, hj, rfl, hown, hB⟩ := hrel
    have hr := Hl.out.below hB
    have c0 := hr.c0
    by_cases hjl : j = st.length
    · subst hjl
      have HB := hide hB
      have Ho := hide hown
      clear hB hown hr
      go_wp2
      go_returns
      exact ⟨_, rfl, Ho.out, HB.out⟩
    · have hjlt : j < st.length := by omega
      have s0 := hr.s0 j hjlt
      have hlen := idleN_length st j
      have hstep : idleN st (j + 1) = if (st.getD j (0, 0)).1 = 2 then idleN st j ++ [(j : Int)] else idleN st j := rfl
      have Hstep := hide hstep
      clear hstep hr
      obtain ⟨x, hx⟩ : ∃ x, (st.getD j (0, 0)).1 = x := ⟨_, rfl⟩
      rw [hx] at s0 Hstep
      clear hx
      have HB := hide hB
      have hwb := hB.size
      clear hB
      by_cases h2 : x = 2
      · rw [if_pos h2] at Hstep
        subst h2
        go_wp2_with (at_builtin; refine wpList_append_one wr rfl _ _ 34 rfl w.heap.size 3 i0 (.int .i64 0) 1 8 Try.underlying34 hi hz0 hz1 hz2 rfl (by decide) _ _ _ [.int .i64 (j : Int)] hown rfl rfl (by simp [Value.oneCell']) rfl (by simp [maxLen]; omega) (by omega) hwb ?_; intro v1 w1 hown1 hb1 _)
        go_roundw
        case rel => exact ⟨j + 1, by omega, rfl, by rw [Hstep.out, List.length_append, List.map_append]; exact hown1, HB.out.trans hb1⟩
        case measure => simp [intOf]; omega
      · rw [if_neg h2] at Hstep
        have h2b : (x == 2) = false := by simpa using h2
        go_wp2_with fail
        go_roundw
        case rel => exact ⟨j + 1, by omega, rfl, by rw [Hstep.out]; exact hown, HB.out⟩
        case measure => simp [intOf]; omega

/-- The first server of a client's, from k on, of r. -/
def ofN (st : List (Int × Int)) (c : Int) : Nat → Nat → Option Int
  | 0, _ => none
  | r + 1, k => if (st.getD k (0, 0)).1 = 3 ∧ (st.getD k (0, 0)).2 = c then some k else ofN st c r (k + 1)
def ofV (o : Option Int) : Value := .tuple #[.int .i64 (o.getD 0), .bool o.isSome]
theorem rof_any (a g : Nat) (st : List (Int × Int)) (c : Int) (w : World) (h : RLive w a g st) :
    Calls Try.prog 19 #[.pointer (some ⟨a, 0, none⟩), .int .i64 c] w fun e w' => w = w' ∧ e = .returned (ofV (ofN st c st.length 0)) := by
  have h8 := h.few
  have c0 := h.c0
  have Hl := hide h
  clear h
  go_enter Try.func19, Try.ntmps19
  go_wp2_with fail
  go_loop [6] (fun i => ∃ j r : Nat, Hid (j + r = st.length) ∧ j + r ≤ 8 ∧ i = .int .i64 j ∧ Hid (ofN st c r j = ofN st c st.length 0)) (fun i => st.length - (intOf i).toNat)
  case atStart => exact ⟨0, st.length, Nat.zero_add _, by omega, rfl, rfl⟩
  case round =>
    obtain ⟨j, r, Hjr, hjr, rfl, Ho⟩ := hrel
    rcases r with _ | r
    · have hk : ¬ (j : Int) < st.length := by have := Hjr.out; omega
      have hR : Hid (ofV (ofN st c st.length 0) = .tuple #[.int .i64 0, .bool false]) := by show _ = _; rw [← Ho.out]; rfl
      go_wp2
      go_returns
      exact ⟨rfl, congrArg Ending.returned hR.out.symm⟩
    · have hk : (j : Int) < st.length := by have := Hjr.out; omega
      have hjl : j < st.length := by omega
      have s0 := Hl.out.s0 j hjl
      have s1 := Hl.out.s1 j hjl
      have hstep : ofN st c (r + 1) j = if (st.getD j (0, 0)).1 = 3 ∧ (st.getD j (0, 0)).2 = c then some (j : Int) else ofN st c r (j + 1) := rfl
      obtain ⟨x, hx⟩ : ∃ x, (st.getD j (0, 0)).1 = x := ⟨_, rfl⟩
      obtain ⟨y, hy⟩ : ∃ y, (st.getD j (0, 0)).2 = y := ⟨_, rfl⟩
      rw [hx, hy] at hstep
      rw [hx] at s0
      rw [hy] at s1
      clear hx hy
      have Hstep := hide hstep
      clear hstep
      by_cases h3 : x = 3
      · by_cases h4 : y = c
        · have hR : Hid (ofV (ofN st c st.length 0) = .tuple #[.int .i64 j, .bool true]) := by show _ = _; rw [← Ho.out, Hstep.out, if_pos ⟨h3, h4⟩]; rfl
          subst h3 h4
          go_wp2
          all_goals go_returns
          all_goals exact ⟨rfl, congrArg Ending.returned hR.out.symm⟩
        · have Ho2 : Hid (ofN st c r (j + 1) = ofN st c st.length 0) := by show _ = _; rw [← Ho.out, Hstep.out, if_neg (fun h => h4 h.2)]
          have h4b : (y == c) = false := by simpa using h4
          subst h3
          go_wp2_with fail
          go_round
          case rel => exact ⟨j + 1, r, by have := Hjr.out; show j + 1 + r = _; omega, by omega, rfl, Ho2⟩
          case measure => simp [intOf]; omega
      · have Ho2 : Hid (ofN st c r (j + 1) = ofN st c st.length 0) := by show _ = _; rw [← Ho.out, Hstep.out, if_neg (fun h => h3 h.1)]
        have h3b : (x == 3) = false := by simpa using h3
        go_wp2_with fail
        go_round
        case rel => exact ⟨j + 1, r, by have := Hjr.out; show j + 1 + r = _; omega, by omega, rfl, Ho2⟩
        case measure => simp [intOf]; omega

end Go.Proofs.Ytecedgjahpjppaa
