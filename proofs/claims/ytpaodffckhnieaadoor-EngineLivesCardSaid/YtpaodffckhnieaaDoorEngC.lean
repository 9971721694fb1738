/-
  Verdict where nothing is refused; the laws' own guard. No condition.
-/
import Derived.Test.YtpaodffckhnieaaDoorEngB
namespace Go.Proofs.YtpaodffckhnieaaDoor
open Go.RowKit Go.Maps
set_option linter.unusedVariables false
set_option linter.unusedSimpArgs false

theorem verdict_exit (g m k : Nat) (D : DataW Unit) (n : Int) (s : ByteArray) (b kd : Int) (w : World) (h : Eng w g m k D n) (hk0 : kd ≠ 0) (hx : ([3, 4] : List Int).contains kd = true)
    (hp : ∀ W, Calls Tryd.prog 24 #[.string s] W fun e w' => e = .returned (.agg #[.int .i64 kd, .int .i64 0, .string ⟨#[]⟩]) ∧ Below W.heap.size W w') :
    Calls Tryd.prog 12 #[.pointer (some ⟨g, 0, none⟩), .string s, .int .u8 b] w fun e w' => e = .returned (.tuple #[.string ⟨#[]⟩, .string ⟨#[]⟩, .bool false]) ∧ Below w.heap.size w w' := by
  have Hl := hide h
  have Hp := hide hp
  have Hx := hide hx
  have hk0b : (kd == 0) = false := by simpa using hk0
  clear h hp hx
  by_cases hb : b = 69
  · subst hb
    go_enter Tryd.func12, Tryd.ntmps12
    go_wp2_with fail
    refine (ready_live g m k D n _ Hl.out).mono ?_
    rintro e w1 ⟨rfl, rfl⟩
    go_wp2_with fail
    refine (Hp.out _).mono ?_
    rintro e w2 ⟨rfl, hb2⟩
    have hV := Blk.new w2 26 #[.int .i64 kd, .int .i64 0, .string ⟨#[]⟩]
    have HV := hide hV
    have HB2 := hide (hb2.alloc hb2.size (.cells #[.int .i64 kd, .int .i64 0, .string ⟨#[]⟩] 26))
    clear hb2 hV
    go_wp2_with fail
    refine (exit_any kd 0 ⟨#[]⟩ _).mono ?_
    rintro e w3 ⟨rfl, hb3⟩
    rw [Hx.out]
    have hV3 := HV.out.below hb3 HV.out.lt
    have e0 := hV3.cell 0; have e1 := hV3.cell 1; have e2 := hV3.cell 2
    simp at e0 e1 e2
    have HB3 := hide (below_via HB2.out hb3)
    clear hb3 hV3
    go_wp2_with fail
    refine (exit_any kd 0 ⟨#[]⟩ _).mono ?_
    rintro e w4 ⟨rfl, hb4⟩
    rw [Hx.out]
    have HB4 := hide (below_via HB3.out hb4)
    clear hb4 e0 e1 e2
    go_wp2_with fail
    go_returns
    exact ⟨rfl, HB4.out⟩
  · have hbb : (b == 69) = false := by simpa using hb
    clear hb
    go_enter Tryd.func12, Tryd.ntmps12
    go_wp2_with fail
    refine (ready_live g m k D n _ Hl.out).mono ?_
    rintro e w1 ⟨rfl, rfl⟩
    go_wp2_with fail
    refine (Hp.out _).mono ?_
    rintro e w2 ⟨rfl, hb2⟩
    have HB2 := hide (hb2.alloc hb2.size (.cells #[.int .i64 kd, .int .i64 0, .string ⟨#[]⟩] 26))
    clear hb2
    go_wp2_with fail
    refine (exit_any kd 0 ⟨#[]⟩ _).mono ?_
    rintro e w3 ⟨rfl, hb3⟩
    rw [Hx.out]
    have HB3 := hide (below_via HB2.out hb3)
    clear hb3
    go_wp2_with fail
    go_returns
    exact ⟨rfl, HB3.out⟩
theorem verdict_empty (g m k : Nat) (D : DataW Unit) (n : Int) (s : ByteArray) (b : Int) (w : World) (h : Eng w g m k D n) (hb : b ≠ 69)
    (hp : ∀ W, Calls Tryd.prog 24 #[.string s] W fun e w' => e = .returned (.agg #[.int .i64 1, .int .i64 0, .string ⟨#[]⟩]) ∧ Below W.heap.size W w') :
    Calls Tryd.prog 12 #[.pointer (some ⟨g, 0, none⟩), .string s, .int .u8 b] w fun e w' => e = .returned (.tuple #[.string ⟨#[]⟩, .string ⟨#[]⟩, .bool false]) ∧ Below w.heap.size w w' := by
  have Hl := hide h
  have Hp := hide hp
  have hbb : (b == 69) = false := by simpa using hb
  clear h hp hb
  go_enter Tryd.func12, Tryd.ntmps12
  go_wp2_with fail
  refine (ready_live g m k D n _ Hl.out).mono ?_
  rintro e w1 ⟨rfl, rfl⟩
  go_wp2_with fail
  refine (Hp.out _).mono ?_
  rintro e w2 ⟨rfl, hb2⟩
  have hV := Blk.new w2 26 #[.int .i64 1, .int .i64 0, .string ⟨#[]⟩]
  have HV := hide hV
  have HB2 := hide (hb2.alloc hb2.size (.cells #[.int .i64 1, .int .i64 0, .string ⟨#[]⟩] 26))
  clear hb2 hV
  go_wp2_with fail
  refine (exit_any 1 0 ⟨#[]⟩ _).mono ?_
  rintro e w3 ⟨rfl, hb3⟩
  rw [show ([3, 4] : List Int).contains 1 = false from by decide]
  have hV3 := HV.out.below hb3 HV.out.lt
  have e0 := hV3.cell 0; have e1 := hV3.cell 1; have e2 := hV3.cell 2
  simp at e0 e1 e2
  have HB3 := hide (below_via HB2.out hb3)
  clear hb3 hV3
  go_wp2_with fail
  go_returns
  exact ⟨rfl, HB3.out⟩

/-- What five texts say. -/
theorem says_nonsense (W : World) : Calls Tryd.prog 24 #[.string ⟨#[110, 111, 110, 115, 101, 110, 115, 101]⟩] W fun e w' => e = .returned (.agg #[.int .i64 0, .int .i64 0, .string ⟨#[]⟩]) ∧ Below W.heap.size W w' :=
  parse_none _ W (by decide) (by decide +kernel) (by decide +kernel)
theorem says_begin (W : World) : Calls Tryd.prog 24 #[.string ⟨#[98, 101, 103, 105, 110]⟩] W fun e w' => e = .returned (.agg #[.int .i64 2, .int .i64 0, .string ⟨#[]⟩]) ∧ Below W.heap.size W w' :=
  parse_word _ 2 W (by decide) (by decide +kernel)
theorem says_nothing (W : World) : Calls Tryd.prog 24 #[.string ⟨#[]⟩] W fun e w' => e = .returned (.agg #[.int .i64 1, .int .i64 0, .string ⟨#[]⟩]) ∧ Below W.heap.size W w' :=
  parse_word _ 1 W (by decide) (by decide +kernel)
theorem says_blank (W : World) : Calls Tryd.prog 24 #[.string ⟨#[32]⟩] W fun e w' => e = .returned (.agg #[.int .i64 1, .int .i64 0, .string ⟨#[]⟩]) ∧ Below W.heap.size W w' :=
  parse_word _ 1 W (by decide) (by decide +kernel)
theorem says_commit (W : World) : Calls Tryd.prog 24 #[.string ⟨#[99, 111, 109, 109, 105, 116]⟩] W fun e w' => e = .returned (.agg #[.int .i64 3, .int .i64 0, .string ⟨#[]⟩]) ∧ Below W.heap.size W w' :=
  parse_word _ 3 W (by decide) (by decide +kernel)
theorem says_rollback (W : World) : Calls Tryd.prog 24 #[.string ⟨#[114, 111, 108, 108, 98, 97, 99, 107, 32]⟩] W fun e w' => e = .returned (.agg #[.int .i64 4, .int .i64 0, .string ⟨#[]⟩]) ∧ Below W.heap.size W w' :=
  parse_word _ 4 W (by decide) (by decide +kernel)

theorem aborted_any (w : World) : Calls Tryd.prog 19 #[] w fun e w' => w = w' ∧ e = .returned (.string abortedT) := by
  go_enter Tryd.func19, Tryd.ntmps19
  go_wp2
  go_returns
  exact ⟨rfl, rfl⟩
theorem aborted_same : (abortedT.toList == abortedT.toList) = true := by simp
theorem awake_any (w : World) : Calls Tryd.prog 11 #[] w fun e w' => e = .returned (.bool true) ∧ Below w.heap.size w w' := by
  go_enter Tryd.func11, Tryd.ntmps11
  go_wp2_with fail
  refine (new_live _).mono ?_
  rintro e w1 ⟨g, m, D, hE, hg, hm, hb1, rfl⟩
  have HE := hide hE
  have HB1 := hide hb1
  clear hE hb1
  go_wp2_with fail
  refine (verdict_bad g m 0 D 0 _ 73 _ HE.out says_nonsense).mono ?_
  rintro e w2 ⟨rfl, hb2⟩
  have HE2 := hide (HE.out.below hb2)
  have HB2 := hide (below_via HB1.out hb2)
  clear hb2
  go_wp2_with fail
  refine (verdict_fault g m 0 D 0 _ 2 _ HE2.out (by decide) (by decide) says_begin).mono ?_
  rintro e w3 ⟨rfl, hb3⟩
  have HE3 := hide (HE2.out.below hb3)
  have HB3 := hide (below_via HB2.out hb3)
  clear hb3
  have hab := aborted_same
  go_wp2_with fail
  refine (aborted_any _).mono ?_
  rintro e w4 ⟨rfl, rfl⟩
  go_wp2_with fail
  refine (next_live g m 0 D 0 _ HE3.out (by decide) (by decide)).mono ?_
  rintro e w4 ⟨rfl, hE4, hk4⟩
  have HE4 := hide hE4
  have HB4 := hide (HB3.out.trans (hk4.below hg hm HB3.out.size))
  clear hE4 hk4
  go_wp2_with fail
  refine (count_live g m 0 D (0 + 1) _ HE4.out).mono ?_
  rintro e w5 ⟨rfl, rfl⟩
  go_wp2_with fail
  go_returns
  exact ⟨rfl, HB4.out⟩
end Go.Proofs.YtpaodffckhnieaaDoor
