/-
  What the calls do on leases that no call made. No condition.
-/
import Derived.Test.YtecedgjahpjppaaRows
import Derived.Test.YtecedgjahpjppaaKit
import Derived.Handy
import Derived.Maps.OwnSet
import Derived.WalkKit
import Derived.WalkSpells
import Derived.Deep.DeepCutAuto
import Derived.Deep.CutBlock
namespace Go.Proofs.Ytecedgjahpjppaa
open Go.RowKit Go.Maps
set_option linter.unusedVariables false
set_option linter.unusedSimpArgs false

/-- Leases that no call made: nil, or their zero. -/
def Dead (w : World) (p : Value) : Prop := p = .pointer none ∨ ∃ a, p = .pointer (some ⟨a, 0, none⟩) ∧ a < w.heap.size ∧ w.cell? ⟨a, 0, none⟩ = some (.slice none 0 0) ∧ w.cell? ⟨a, 1, none⟩ = some (.map none)

theorem Dead.below {w w' : World} {p : Value} (h : Dead w p) (hb : Below w.heap.size w w') : Dead w' p := by
  rcases h with rfl | ⟨a, rfl, hal, h0, h1⟩
  · exact Or.inl rfl
  · exact Or.inr ⟨a, rfl, Nat.lt_of_lt_of_le hal hb.size, (hb.cell (p := ⟨a, 0, none⟩) hal).trans h0, (hb.cell (p := ⟨a, 1, none⟩) hal).trans h1⟩
theorem law3 : Keyed Try.prog 3 := int_keyed Try.underlying3
theorem zero3 (w : World) : (zeroValue 3).run Try.prog w = .ok (.int .i64 0) w := by kernel_rfl
theorem map_nil (w : World) (r : Option Nat) : (binOp .eql 26 (.map r) (.map none)).run Try.prog w = .ok (.bool r.isNone) w := run_eql_map_nil w 26 3 3 r Try.underlying26

theorem one_dead (p : Value) (s : Int) (w : World) (h : Dead w p) :
    Calls Try.prog 21 #[p, .int .i64 s] w fun e w' => w = w' ∧ e = .returned (.tuple #[.pointer none, .int .i64 2]) := by
  rcases h with rfl | ⟨a, rfl, hal, h0, h1⟩
  · go_enter Try.func21, Try.ntmps21
    go_wp2
    all_goals go_returns
    all_goals exact ⟨rfl, rfl⟩
  · have qm := map_nil
    go_enter Try.func21, Try.ntmps21
    go_wp2
    all_goals go_returns
    all_goals exact ⟨rfl, rfl⟩
theorem state_dead (p : Value) (s : Int) (w : World) (h : Dead w p) :
    Calls Try.prog 9 #[p, .int .i64 s] w fun e w' => w = w' ∧ e = .returned (.int .i64 0) := by
  go_enter Try.func9, Try.ntmps9
  go_wp2_with fail
  refine (one_dead p s _ h).mono ?_
  rintro e w1 ⟨rfl, rfl⟩
  go_wp2_with fail
  go_returns
  exact ⟨rfl, rfl⟩
theorem holder_dead (p : Value) (s : Int) (w : World) (h : Dead w p) :
    Calls Try.prog 6 #[p, .int .i64 s] w fun e w' => w = w' ∧ e = .returned (.tuple #[.int .i64 0, .bool false]) := by
  go_enter Try.func6, Try.ntmps6
  go_wp2_with fail
  refine (one_dead p s _ h).mono ?_
  rintro e w1 ⟨rfl, rfl⟩
  go_wp2_with fail
  go_returns
  exact ⟨rfl, rfl⟩
theorem turn_dead (p : Value) (s st : Int) (f : Value) (w : World) (h : Dead w p) :
    Calls Try.prog 34 #[p, .int .i64 s, .int .i64 st, f] w fun e w' => w = w' ∧ e = .returned (.int .i64 2) := by
  go_enter Try.func34, Try.ntmps34
  go_wp2_with fail
  refine (one_dead p s _ h).mono ?_
  rintro e w1 ⟨rfl, rfl⟩
  go_wp2_with fail
  go_returns
  exact ⟨rfl, rfl⟩
theorem start_dead (p : Value) (s : Int) (w : World) (h : Dead w p) :
    Calls Try.prog 22 #[p, .int .i64 s] w fun e w' => w = w' ∧ e = .returned (.int .i64 2) := by
  go_enter Try.func22, Try.ntmps22
  go_wp2_with fail
  refine (turn_dead p s _ _ _ h).mono ?_
  rintro e w1 ⟨rfl, rfl⟩
  go_wp2_with fail
  go_returns
  exact ⟨rfl, rfl⟩
theorem up_dead (p : Value) (s : Int) (w : World) (h : Dead w p) :
    Calls Try.prog 23 #[p, .int .i64 s] w fun e w' => w = w' ∧ e = .returned (.int .i64 2) := by
  go_enter Try.func23, Try.ntmps23
  go_wp2_with fail
  refine (turn_dead p s _ _ _ h).mono ?_
  rintro e w1 ⟨rfl, rfl⟩
  go_wp2_with fail
  go_returns
  exact ⟨rfl, rfl⟩
theorem drain_dead (p : Value) (s : Int) (w : World) (h : Dead w p) :
    Calls Try.prog 24 #[p, .int .i64 s] w fun e w' => w = w' ∧ e = .returned (.int .i64 2) := by
  go_enter Try.func24, Try.ntmps24
  go_wp2_with fail
  refine (turn_dead p s _ _ _ h).mono ?_
  rintro e w1 ⟨rfl, rfl⟩
  go_wp2_with fail
  go_returns
  exact ⟨rfl, rfl⟩
theorem down_dead (p : Value) (s : Int) (w : World) (h : Dead w p) :
    Calls Try.prog 26 #[p, .int .i64 s] w fun e w' => w = w' ∧ e = .returned (.int .i64 2) := by
  go_enter Try.func26, Try.ntmps26
  go_wp2_with fail
  refine (turn_dead p s _ _ _ h).mono ?_
  rintro e w1 ⟨rfl, rfl⟩
  go_wp2_with fail
  go_returns
  exact ⟨rfl, rfl⟩
theorem lease_dead (p : Value) (c k : Int) (w : World) (h : Dead w p) :
    Calls Try.prog 25 #[p, .int .i64 c, .int .i64 k] w fun e w' => w = w' ∧ e = .returned (.tuple #[.int .i64 0, .int .i64 2]) := by
  rcases h with rfl | ⟨a, rfl, hal, h0, h1⟩
  · go_enter Try.func25, Try.ntmps25
    go_wp2
    all_goals go_returns
    all_goals exact ⟨rfl, rfl⟩
  · have qm := map_nil
    go_enter Try.func25, Try.ntmps25
    go_wp2
    all_goals go_returns
    all_goals exact ⟨rfl, rfl⟩
theorem idle_dead (p : Value) (w : World) (h : Dead w p) :
    Calls Try.prog 10 #[p] w fun e w' => w = w' ∧ e = .returned (.slice none 0 0) := by
  rcases h with rfl | ⟨a, rfl, hal, h0, h1⟩
  · go_enter Try.func10, Try.ntmps10
    go_wp2
    all_goals go_returns
    all_goals exact ⟨rfl, rfl⟩
  · go_enter Try.func10, Try.ntmps10
    go_wp2_with fail
    go_loop [3, 13] (fun o i => o = .slice none 0 0 ∧ i = .int .i64 0) (fun _ _ => 0)
    case atStart => exact ⟨rfl, rfl⟩
    case round =>
      obtain ⟨rfl, rfl⟩ := hrel
      go_wp2
      all_goals go_returns
      all_goals exact ⟨rfl, rfl⟩
theorem of_dead (p : Value) (c : Int) (w : World) (h : Dead w p) (hc : (Lit.int .i64 c).wf = true) :
    Calls Try.prog 7 #[p, .int .i64 c] w fun e w' => w = w' ∧ e = .returned (.tuple #[.int .i64 0, .bool false]) := by
  rcases h with rfl | ⟨a, rfl, hal, h0, h1⟩
  · go_enter Try.func7, Try.ntmps7
    go_wp2
    all_goals go_returns
    all_goals exact ⟨rfl, rfl⟩
  · have hrun := look_nil (w := w) true law3 Try.underlying26 (zero3 _) (keyOf_int_mk Try.underlying3 hc)
    go_enter Try.func7, Try.ntmps7
    go_wp2
    all_goals go_returns
    all_goals exact ⟨rfl, rfl⟩

/-- What do does on them. -/
theorem do_dead (p : Value) (o s c k : Int) (w : World) (h : Dead w p) :
    Calls Try.prog 8 #[p, .agg #[.int .i64 o, .int .i64 s, .int .i64 c, .int .i64 k]] w fun e w' => Below w.heap.size w w' ∧ e = .returned (.int .i64 2) := by
  go_enter Try.func8, Try.ntmps8
  have hb : Below w.heap.size w (w.alloc (.cells #[.int .i64 o, .int .i64 s, .int .i64 c, .int .i64 k] 23)) := (Below.refl _ _).alloc (Nat.le_refl _) _
  have hd := h.below hb
  have HB := hide hb
  have HD := hide hd
  clear hb hd
  go_wp2_with (first
    | (go_at_call 22; refine (start_dead p s _ HD.out).mono ?_; rintro e w1 ⟨rfl, rfl⟩)
    | (go_at_call 23; refine (up_dead p s _ HD.out).mono ?_; rintro e w1 ⟨rfl, rfl⟩)
    | (go_at_call 24; refine (drain_dead p s _ HD.out).mono ?_; rintro e w1 ⟨rfl, rfl⟩)
    | (go_at_call 25; refine (lease_dead p c k _ HD.out).mono ?_; rintro e w1 ⟨rfl, rfl⟩)
    | (go_at_call 26; refine (down_dead p s _ HD.out).mono ?_; rintro e w1 ⟨rfl, rfl⟩))
  all_goals go_returns
  all_goals exact ⟨HB.out, rfl⟩

end Go.Proofs.Ytecedgjahpjppaa
