/-
  What the calls of tx and of the document's package compute. No condition.
-/
import Derived.Test.YtknohffoffhjeaaRows
import Derived.Test.YtknohffoffhjeaaKit
import Derived.Handy
namespace Go.Proofs.Ytknohffoffhjeaa
open Go.RowKit
set_option linter.unusedVariables false
set_option linter.unusedSimpArgs false

def right (s : Int) : Bool := s == 73 || s == 84 || s == 69
def held (s : Int) : Int := if right s then s else 73
def failW (s : Int) : Int := if s = 84 ∨ s = 69 then 69 else 73

theorem right_any (s : Int) (w : World) : Calls Try.prog 9 #[.int .u8 s] w fun e w' => e = .returned (.bool (right s)) ∧ w = w' := by
  go_enter Try.func9, Try.ntmps9
  go_wp2
  all_goals go_returns
  all_goals simp_all [right]

theorem rright_any (s : Int) (w : World) : Calls Try.prog 10 #[.int .u8 s] w fun e w' => e = .returned (.bool (right s)) ∧ w = w' := by
  go_enter Try.func10, Try.ntmps10
  go_wp2
  all_goals go_returns
  all_goals simp_all [right]

theorem held_any (s : Int) (w : World) : Calls Try.prog 12 #[.int .u8 s] w fun e w' => e = .returned (.int .u8 (held s)) ∧ w = w' := by
  by_cases h : right s = true
  · go_enter Try.func12, Try.ntmps12
    go_wp2_with (go_at_call 9; refine (right_any _ _).mono ?_; rintro e w1 ⟨rfl, rfl⟩)
    all_goals go_returns
    all_goals simp_all [held]
  · have h' : right s = false := by simpa using h
    go_enter Try.func12, Try.ntmps12
    go_wp2_with (go_at_call 9; refine (right_any _ _).mono ?_; rintro e w1 ⟨rfl, rfl⟩)
    all_goals go_returns
    all_goals simp_all [held]

theorem four (s : Int) : s = 73 ∨ s = 84 ∨ s = 69 ∨ ((s == 73) = false ∧ (s == 84) = false ∧ (s == 69) = false) := by
  by_cases h1 : s = 73
  · exact .inl h1
  · by_cases h2 : s = 84
    · exact .inr (.inl h2)
    · by_cases h3 : s = 69
      · exact .inr (.inr (.inl h3))
      · exact .inr (.inr (.inr (by simp [h1, h2, h3])))

theorem fail_any (s : Int) (w : World) : Calls Try.prog 7 #[.int .u8 s] w fun e w' => e = .returned (.int .u8 (failW s)) ∧ w = w' := by
  rcases four s with rfl | rfl | rfl | ⟨h1, h2, h3⟩
  all_goals
    go_enter Try.func7, Try.ntmps7
    go_wp2
    go_returns
    simp_all [failW]

theorem rfail_any (s : Int) (w : World) : Calls Try.prog 8 #[.int .u8 s] w fun e w' => e = .returned (.int .u8 (failW s)) ∧ w = w' := by
  rcases four s with rfl | rfl | rfl | ⟨h1, h2, h3⟩
  all_goals
    go_enter Try.func8, Try.ntmps8
    go_wp2
    go_returns
    simp_all [failW]

/-- slices.Index over a row of n ints. -/
def IsIndex (f : Nat → Int) (n : Nat) (x : Int) (r : Int) : Prop := (r = -1 ∧ ∀ k, k < n → f k ≠ x) ∨ ∃ k, k < n ∧ r = (k : Int) ∧ f k = x
theorem index_any (a : Nat) (n c : Nat) (f : Nat → Int) (x : Int) (w : World) (hn : n ≤ 1000000) (ha : ∀ k, k < n → w.cell? ⟨a, k, none⟩ = some (.int .i64 (f k))) :
    Calls Try.prog 17 #[.slice (some ⟨a, 0, none⟩) n c, .int .i64 x] w fun e w' => ∃ r, e = .returned (.int .i64 r) ∧ IsIndex f n x r ∧ w = w' := by
  have Ha := hide ha
  clear ha
  go_enter Try.func17, Try.ntmps17
  go_wp2_with fail
  go_loop [8] (fun i => ∃ k : Nat, k ≤ n ∧ i = .int .i64 k ∧ Hid (∀ j, j < k → f j ≠ x)) (fun i => n - (intOf i).toNat)
  case atStart => exact ⟨0, by omega, rfl, fun _ h => by omega⟩
  case round =>
    obtain ⟨k, hk, rfl, hno⟩ := hrel
    by_cases hlt : k < n
    · have e1 := Ha.out k hlt
      obtain ⟨y, hy⟩ : ∃ y, f k = y := ⟨_, rfl⟩
      rw [hy] at e1
      have Hy := hide hy
      clear hy
      by_cases hxy : x = y
      · subst hxy
        go_wp2
        go_returns
        exact ⟨_, rfl, .inr ⟨k, hlt, rfl, Hy.out⟩, rfl⟩
      · have hb : (x == y) = false := by simpa using hxy
        clear hxy
        go_wp2
        go_round
        case rel => exact ⟨k + 1, by omega, by go_num, fun j hj => by
          rcases Nat.lt_succ_iff_lt_or_eq.1 hj with h | rfl
          · exact hno.out j h
          · rw [Hy.out]; intro h; subst h; simp at hb⟩
        case measure => simp [intOf]; omega
    · obtain rfl : k = n := by omega
      go_wp2
      go_returns
      exact ⟨_, rfl, .inl ⟨rfl, hno.out⟩, rfl⟩

def hasB (f : Nat → Int) (n : Nat) (x : Int) : Bool := (List.range n).any (fun k => f k == x)
theorem contains_any (a : Nat) (n c : Nat) (f : Nat → Int) (x : Int) (w : World) (hn : n ≤ 1000000) (ha : ∀ k, k < n → w.cell? ⟨a, k, none⟩ = some (.int .i64 (f k))) :
    Calls Try.prog 16 #[.slice (some ⟨a, 0, none⟩) n c, .int .i64 x] w fun e w' => e = .returned (.bool (hasB f n x)) ∧ w = w' := by
  have Ha := hide ha
  clear ha
  go_enter Try.func16, Try.ntmps16
  go_wp2_with fail
  refine (index_any a n c f x _ hn Ha.out).mono ?_
  rintro e w1 ⟨r, rfl, hr, rfl⟩
  have h : decide (0 ≤ r) = hasB f n x := by
    rcases hr with ⟨rfl, h⟩ | ⟨k, hk, rfl, h⟩
    · have : hasB f n x = false := by
        rw [Bool.eq_false_iff]
        simpa [hasB] using h
      rw [this]; rfl
    · have : hasB f n x = true := by simp only [hasB, List.any_eq_true, List.mem_range]; exact ⟨k, hk, by simpa using h⟩
      rw [this]; simp
  have H := hide h
  clear h hr
  go_wp2
  go_returns
  exact ⟨by simp [H.out], rfl⟩

theorem exit_any (k n : Int) (c : ByteArray) (w : World) :
    Calls Try.prog 13 #[.agg #[.int .i64 k, .int .i64 n, .string c]] w fun e w' => e = .returned (.bool (k == 3 || k == 4)) ∧ Below w.heap.size w w' := by
  go_enter Try.func13, Try.ntmps13
  go_wp2_with (first
    | (go_at_call 16; refine (contains_any _ 2 _ (fun j => if j = 0 then 3 else 4) _ _ (by omega) ?_).mono ?_)
    | go_in)
  · intro j hj
    match j, hj with
    | 0, _ => simp [go_sem]
    | 1, _ => simp [go_sem]
  · rintro e w1 ⟨rfl, rfl⟩
    go_wp2
    go_returns
    refine ⟨?_, by go_grown⟩
    have h : hasB (fun j => if j = 0 then 3 else 4) 2 k = (k == 3 || k == 4) := by
      by_cases h3 : k = 3
      · subst h3; rfl
      · by_cases h4 : k = 4
        · subst h4; rfl
        · have g3 : (3 == k) = false := beq_eq_false_iff_ne.2 (fun e => h3 e.symm)
          have g4 : (4 == k) = false := beq_eq_false_iff_ne.2 (fun e => h4 e.symm)
          have g5 : (k == 3) = false := beq_eq_false_iff_ne.2 h3
          have g6 : (k == 4) = false := beq_eq_false_iff_ne.2 h4
          simp [hasB, List.range, List.range.loop, g3, g4, g5, g6]
    simp [h]

def begin_ : ByteArray := ⟨#[66, 69, 71, 73, 78]⟩
def roll : ByteArray := ⟨#[82, 79, 76, 76, 66, 65, 67, 75]⟩
def commit : ByteArray := ⟨#[67, 79, 77, 77, 73, 84]⟩

def nextS (s k : Int) : Int := if k = 3 ∨ k = 4 then 73 else if k = 2 ∧ held s = 73 then 84 else held s
def nextT (s k : Int) : ByteArray := if k = 4 ∨ k = 3 ∧ s = 69 then roll else if k = 3 then commit else if k = 2 then begin_ else ⟨#[]⟩

theorem kinds (k : Int) : k = 2 ∨ k = 3 ∨ k = 4 ∨ ((k == 2) = false ∧ (k == 3) = false ∧ (k == 4) = false) := by
  by_cases h1 : k = 2
  · exact .inl h1
  · by_cases h2 : k = 3
    · exact .inr (.inl h2)
    · by_cases h3 : k = 4
      · exact .inr (.inr (.inl h3))
      · exact .inr (.inr (.inr (by simp [h1, h2, h3])))

theorem next_any (s k n : Int) (c : ByteArray) (w : World) :
    Calls Try.prog 5 #[.int .u8 s, .agg #[.int .i64 k, .int .i64 n, .string c]] w fun e w' => e = .returned (.tuple #[.int .u8 (nextS s k), .string (nextT s k)]) ∧ Below w.heap.size w w' := by
  rcases four s with rfl | rfl | rfl | ⟨h1, h2, h3⟩
  all_goals rcases kinds k with rfl | rfl | rfl | ⟨k1, k2, k3⟩
  all_goals
    go_enter Try.func5, Try.ntmps5
    go_wp2_with (first
      | (go_at_call 13; refine (exit_any _ n c _).mono ?_; rintro e w1 ⟨rfl, hb1⟩; obtain ⟨hc1, hf1⟩ := bcell hb1; have hbw := below_via (w := w) (by go_grown) hb1; have hsz := hbw.size)
      | go_in)
    go_returns
    clear hc1 hf1 hb1
    refine ⟨?_, by go_grown⟩
    first | rfl | simp_all [nextS, nextT, held, right, begin_, roll, commit]

theorem rnext_any (s k n : Int) (c : ByteArray) (w : World) :
    Calls Try.prog 6 #[.int .u8 s, .agg #[.int .i64 k, .int .i64 n, .string c]] w fun e w' => e = .returned (.tuple #[.int .u8 (nextS s k), .string (nextT s k)]) ∧ Below w.heap.size w w' := by
  rcases four s with rfl | rfl | rfl | ⟨h1, h2, h3⟩
  all_goals rcases kinds k with rfl | rfl | rfl | ⟨k1, k2, k3⟩
  all_goals
    go_enter Try.func6, Try.ntmps6
    go_wp2
    go_returns
    refine ⟨?_, by go_grown⟩
    first | rfl | simp_all [nextS, nextT, held, right, begin_, roll, commit]

theorem awake_any (w : World) :
    Calls Try.prog 11 #[] w fun e w' => e = .returned (.bool true) ∧ Below w.heap.size w w' := by
  have t1 : nextT 73 2 = begin_ := rfl
  have t2 : nextT 69 3 = roll := rfl
  have s1 : nextS 73 2 = 84 := by decide
  have s2 : nextS 69 3 = 73 := by decide
  go_enter Try.func11, Try.ntmps11
  go_wp2_with fail
  refine (next_any _ _ 0 ⟨#[]⟩ _).mono ?_
  rintro e w1 ⟨rfl, hb1⟩
  rw [t1, s1]
  unfold begin_
  go_wp2_with fail
  refine (next_any _ _ 0 ⟨#[]⟩ _).mono ?_
  rintro e w2 ⟨rfl, hb2⟩
  rw [t2, s2]
  unfold roll
  have hb3 := below_via hb1 hb2
  clear hb1 hb2
  go_wp2
  go_returns
  exact ⟨rfl, hb3⟩

end Go.Proofs.Ytknohffoffhjeaa
