/-
  What LeaseNobody computes. No condition.
-/
import Derived.Test.YtecedgjahpjppaaI
namespace Go.Proofs.Ytecedgjahpjppaa
open Go.RowKit Go.Maps
set_option linter.unusedVariables false
set_option linter.unusedSimpArgs false

set_option maxHeartbeats 1000000 in
theorem nobody_any (o s c k : Int) (w : World) (hc : (Lit.int .i64 c).wf = true) :
    Calls Try.prog 3 #[.agg #[.int .i64 o, .int .i64 s, .int .i64 c, .int .i64 k]] w fun e w' => e = .returned (.bool true) ∧ Below w.heap.size w w' := by
  go_enter Try.func3, Try.ntmps3
  go_upto_region 3 with fail
  have hB : Below w.heap.size w ((w.alloc (.cells #[.int .i64 o, .int .i64 s, .int .i64 c, .int .i64 k] 23)).alloc (.cells #[.slice none 0 0, .map none] 28)) := ((Below.refl _ w).alloc (Nat.le_refl _) _).alloc (by simp) _
  have hb : Blk ((w.alloc (.cells #[.int .i64 o, .int .i64 s, .int .i64 c, .int .i64 k] 23)).alloc (.cells #[.slice none 0 0, .map none] 28)) w.heap.size 23 #[.int .i64 o, .int .i64 s, .int .i64 c, .int .i64 k] := (Blk.new w 23 _).alloc _
  have hz := Blk.new (w.alloc (.cells #[.int .i64 o, .int .i64 s, .int .i64 c, .int .i64 k] 23)) 28 #[.slice none 0 0, .map none]
  have s1 : (w.alloc (.cells #[.int .i64 o, .int .i64 s, .int .i64 c, .int .i64 k] 23)).heap.size = w.heap.size + 1 := by simp
  rw [s1] at hz
  generalize (w.alloc (.cells #[.int .i64 o, .int .i64 s, .int .i64 c, .int .i64 k] 23)).alloc (.cells #[.slice none 0 0, .map none] 28) = W at hB hb hz ⊢
  have hd1 : Dead W (.pointer none) := Or.inl rfl
  have hd2 : Dead W (.pointer (some ⟨w.heap.size + 1, 0, none⟩)) := Or.inr ⟨_, rfl, hz.lt, hz.cell 0, hz.cell 1⟩
  have c0 : W.cell? ⟨w.heap.size, 0, none⟩ = some (.int .i64 o) := hb.cell 0
  have c1 : W.cell? ⟨w.heap.size, 1, none⟩ = some (.int .i64 s) := hb.cell 1
  have c2 : W.cell? ⟨w.heap.size, 2, none⟩ = some (.int .i64 c) := hb.cell 2
  have c3 : W.cell? ⟨w.heap.size, 3, none⟩ = some (.int .i64 k) := hb.cell 3
  have HB := hide hB
  have Hb := hide hb
  have Hd1 := hide hd1
  have Hd2 := hide hd2
  clear hB hb hd1 hd2 hz s1
  go_wp2_with fail
  refine (holder_dead _ s _ Hd1.out).mono ?_
  rintro e w1 ⟨rfl, rfl⟩
  go_wp2_with fail
  refine (of_dead _ c _ Hd2.out hc).mono ?_
  rintro e w1 ⟨rfl, rfl⟩
  go_wp2_with fail
  refine (do_dead _ o s c k _ Hd1.out).mono ?_
  rintro e w1 ⟨hB1, rfl⟩
  have hb1 := Hb.out.below hB1 Hb.out.lt
  have d0 : w1.cell? ⟨w.heap.size, 0, none⟩ = some (.int .i64 o) := hb1.cell 0
  have d1 : w1.cell? ⟨w.heap.size, 1, none⟩ = some (.int .i64 s) := hb1.cell 1
  have d2 : w1.cell? ⟨w.heap.size, 2, none⟩ = some (.int .i64 c) := hb1.cell 2
  have d3 : w1.cell? ⟨w.heap.size, 3, none⟩ = some (.int .i64 k) := hb1.cell 3
  have Hd3 := hide (Hd2.out.below hB1)
  have Hb1 := hide hb1
  have HB1 := hide hB1
  clear hb1 hB1
  go_wp2_with fail
  refine (do_dead _ o s c k _ Hd3.out).mono ?_
  rintro e w2 ⟨hB2, rfl⟩
  have hb2 := Hb1.out.below hB2 Hb1.out.lt
  have g1 : w2.cell? ⟨w.heap.size, 1, none⟩ = some (.int .i64 s) := hb2.cell 1
  have Hd4 := hide (Hd3.out.below hB2)
  have HB2 := hide hB2
  clear hb2 hB2
  go_wp2_with fail
  refine (state_dead _ s _ (Or.inl rfl)).mono ?_
  rintro e w3 ⟨rfl, rfl⟩
  go_wp2_with fail
  refine (idle_dead _ _ Hd4.out).mono ?_
  rintro e w3 ⟨rfl, rfl⟩
  go_wp2_with fail
  refine (awake_any _).mono ?_
  rintro e w3 ⟨rfl, hB3⟩
  have HB3 := hide hB3
  clear hB3
  go_wp2_with fail
  go_returns
  exact ⟨rfl, below_via (below_via (below_via HB.out HB1.out) HB2.out) HB3.out⟩

end Go.Proofs.Ytecedgjahpjppaa
