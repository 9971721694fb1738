/-
  The reference's Print. No condition but on lengths.
-/
import Derived.Test.YtehmpmlklgeaoaaDoorSqlH
namespace Go.Proofs.YtehmpmlklgeaoaaDoor
open Go.RowKit
set_option linter.unusedVariables false
set_option linter.unusedSimpArgs false

theorem rprint_any (k n : Int) (c : ByteArray) (w : World) (h0 : -9223372036854775808 ≤ n) (h1 : n ≤ 9223372036854775807) (hc : c.size ≤ 50000) :
    Calls Tryd.prog 9 #[verbV (k, n, c)] w fun e w' => e = .returned (.string (printP k n c)) ∧ Below w.heap.size w w' := by
  have hz := saysP_size k n c
  obtain ⟨⟨k', n', c'⟩, hv⟩ : ∃ v, parseP (saysP k n c) = v := ⟨_, rfl⟩
  have Hv := hide hv
  have HR : Hid (printP k n c = if (k', n', c') = (k, n, c) then saysP k n c else ⟨#[]⟩) := by show _ = _; unfold printP; rw [hv]
  clear hv
  go_enter Tryd.func9, Tryd.ntmps9
  go_upto_region 1 with fail
  unfold verbV
  refine Code.wp_named (fun W => W.cell? ⟨w.heap.size, 0, none⟩ = some (.int .i64 k) ∧ W.cell? ⟨w.heap.size, 1, none⟩ = some (.int .i64 n) ∧ W.cell? ⟨w.heap.size, 2, none⟩ = some (.string c) ∧ Below w.heap.size w W ∧ w.heap.size < W.heap.size) ⟨by simp [go_sem], by simp [go_sem], by simp [go_sem], by go_grown, by simp⟩ ?_
  rintro w1 ⟨e0, e1, e2, hB, hlt⟩
  have HB1 := hide hB
  clear hB
  have g0 : ∀ n : Aft w1, n.out.cell? ⟨w.heap.size, 0, none⟩ = some (.int .i64 k) := fun n => n.cell e0
  have g1 : ∀ m : Aft w1, m.out.cell? ⟨w.heap.size, 1, none⟩ = some (.int .i64 n) := fun n => n.cell e1
  have g2 : ∀ m : Aft w1, m.out.cell? ⟨w.heap.size, 2, none⟩ = some (.string c) := fun n => n.cell e2
  have hs := verb_neq
  have hg := verb_guard
  have hT : ∀ W', Calls Tryd.prog 25 #[.agg #[.int .i64 k, .int .i64 n, .string c]] W' fun e w' => e = .returned (.string (saysP k n c)) ∧ Below W'.heap.size W' w' := fun W' => rsays_any k n c W' h0 h1 (by omega)
  have hP : ∀ W', Calls Tryd.prog 7 #[.string (saysP k n c)] W' fun e w' => e = .returned (.agg #[.int .i64 k', .int .i64 n', .string c']) ∧ Below W'.heap.size W' w' := fun W' => by
    have h := rparse_v (saysP k n c) W' (by omega)
    rw [Hv.out] at h
    exact h
  go_upto_region 1 with fail
  refine wp_region_aft (by kernel_rfl) (by kernel_rfl) ?_
  repeat (first
    | go_big_quiet_skip
    | (go_big_quiet_want; go_big_quiet_op; first
       | go_big_quiet_on
       | (apply Exists.intro
          refine ⟨fun n => ?_, ?_⟩
          · first
            | (go_at_call 25; exact Calls.aft n (hT _))
            | (go_at_call 7; exact Calls.aft n (hP _))
          go_big_quiet_on)))
  refine wpQuiet_nil ?_
  rintro w' ⟨N, rfl⟩
  have HB2 := hide (HB1.out.trans (N.below.mono HB1.out.size))
  have e0 := g0 N
  have e1 := g1 N
  have e2 := g2 N
  by_cases hq : (k', n', c') = (k, n, c)
  · have hR : Hid (printP k n c = saysP k n c) := by show _ = _; rw [HR.out, if_pos hq]
    have hd : vEq (k', n', c') (k, n, c) = true := decide_eq_true hq
    rw [hd]
    clear hq hd hs
    go_wp2_with fail
    refine (hT _).mono ?_
    rintro e w2 ⟨rfl, hb⟩
    have HB3 := hide (below_via HB2.out hb)
    clear hb
    go_wp2_with fail
    go_returns
    exact ⟨by rw [hR.out]; rfl, HB3.out⟩
  · have hR : Hid (printP k n c = ⟨#[]⟩) := by show _ = _; rw [HR.out, if_neg hq]
    have hd : vEq (k', n', c') (k, n, c) = false := decide_eq_false hq
    rw [hd]
    clear hq hd hs
    go_wp2_with fail
    go_returns
    exact ⟨by rw [hR.out]; rfl, HB2.out⟩
end Go.Proofs.YtehmpmlklgeaoaaDoor
