/-
  The law's own guard. No condition.
-/
import Derived.Test.YtecedgjahpjppaaH
namespace Go.Proofs.Ytecedgjahpjppaa
open Go.RowKit Go.Maps
set_option linter.unusedVariables false
set_option linter.unusedSimpArgs false

theorem Agree.free {st : List (Int × Int)} {D : DataW Unit} (h : Agree st D) (c : Int) (hn : ∀ i, i < st.length → st.getD i (0, 0) ≠ (3, c)) : has D (.int .i64 c) = false := by
  rcases hh : has D (.int .i64 c) with _ | _
  · rfl
  · obtain ⟨i, hi, h3, _⟩ := (h c).1 hh
    exact absurd h3 (hn i hi)

theorem awake_any (w : World) : Calls Try.prog 11 #[] w fun e w' => e = .returned (.bool true) ∧ Below w.heap.size w w' := by
  go_enter Try.func11, Try.ntmps11
  go_wp2_with fail
  refine (new_live 1 (by decide) (by decide) _).mono ?_
  rintro e w1 ⟨a, g, m, D, hl, ha, hg, hm, hB, rfl⟩
  have Hl := hide hl
  have HB := hide hB
  clear hl hB
  go_wp2_with fail
  refine (start_live a g m 0 _ D 0 _ Hl.out).mono ?_
  rintro e w2 ⟨rfl, hk, D2, hl⟩
  rw [show turnE (zeros 1) 0 mayStart = 0 from rfl]
  rw [show turnS (zeros 1) 0 1 mayStart = [(1, 0)] from rfl] at hl
  have Hl2 := hide hl
  have HK2 := hide hk
  clear hl hk
  go_wp2_with fail
  refine (up_live a g m 0 _ D2 0 _ Hl2.out).mono ?_
  rintro e w3 ⟨rfl, hk, D3, hl⟩
  rw [show turnE [(1, 0)] 0 mayUp = 0 from rfl]
  rw [show turnS [(1, 0)] 0 2 mayUp = [(2, 0)] from rfl] at hl
  have Hl3 := hide hl
  have HK3 := hide hk
  clear hl hk
  go_wp2_with fail
  refine (given_live a g m 0 [(2, 0)] D3 5 0 _ Hl3.out (by decide) (Hl3.out.agree.free 5 (fun i hi h => by rcases i with _ | i <;> simp at hi h)) (by decide) (by decide)).mono ?_
  rintro e w4 ⟨s, hs, rfl, hk, D4, hl⟩
  have hs0 : s = 0 := by
    have : ([0] : List Int)[0]? = some (s : Int) := hs
    simp at this; omega
  subst hs0
  have hl' : Live w4 a g m 1 [(3, 5)] D4 := hl
  have Hl4 := hide hl'
  have HK4 := hide hk
  clear hl hk hl' hs
  go_wp2_with fail
  refine (none_live a g m 1 [(3, 5)] D4 6 0 _ Hl4.out (by decide) (Hl4.out.agree.free 6 (fun i hi h => by rcases i with _ | i <;> simp at hi h)) rfl).mono ?_
  rintro e w5 ⟨hB5, rfl⟩
  have hl5 := Hl4.out.below hB5
  have Hl5 := hide hl5
  have HB5 := hide hB5
  clear hl5 hB5
  go_wp2_with fail
  refine (holder_live a g m 1 [(3, 5)] D4 0 _ Hl5.out).mono ?_
  rintro e w6 ⟨rfl, rfl⟩
  rw [show holderOf [(3, 5)] 0 = .tuple #[.int .i64 5, .bool true] from rfl]
  go_wp2_with fail
  go_returns
  refine ⟨rfl, ?_⟩
  have k := HK2.out.trans (HK3.out.trans (HK4.out.trans (Kept.of_below HB5.out)))
  exact HB.out.trans (k.below hg hm HB.out.size)

end Go.Proofs.Ytecedgjahpjppaa
