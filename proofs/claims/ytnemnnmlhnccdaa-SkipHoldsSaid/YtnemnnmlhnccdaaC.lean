/-
  The walk of the law SkipTells: it returns true and leaves what was there as it was. No condition.
-/
import Derived.Test.YtnemnnmlhnccdaaB
namespace Go.Proofs.Ytnemnnmlhnccdaa
open Go.RowKit

theorem own_lit (a b c : Bool) (w : World) :
    Calls Try.prog 5 #[.agg #[.bool a, .bool b, .bool c]] w fun e w' => e = .returned (.agg #[.bool a, .bool b, .bool c]) ∧ Below w.heap.size w w' := own_any ⟨a, b, c⟩ w
theorem sk_eq (s : Sk) (w : World) : (binOp .eql 24 (sk s) (sk s)).run Try.prog w = .ok (.bool true) w := by
  obtain ⟨a, b, c⟩ := s
  cases a <;> cases b <;> cases c <;> kernel_rfl

theorem sk_guard (s t : Sk) (x y : Operand) (w : World) : (eqGuard .eql 24 x y (sk s) (sk t)).run Try.prog w = .ok () w := by kernel_rfl

theorem tells_any (s : Sk) (k n : Int) (w : World) :
    Calls Try.prog 3 #[sk s, .int .u8 k, .int .i64 n] w fun e w' => e = .returned (.bool true) ∧ Below w.heap.size w w' := by
  obtain ⟨a, b, c⟩ := s
  unfold sk
  go_enter Try.func3, Try.ntmps3
  go_wp2_with (first
    | (go_at_call 5; refine (own_lit a b c _).mono ?_; rintro e w1 ⟨rfl, hb1⟩))
  have hz1 := hb1.size
  simp only [World.size_alloc] at hz1
  refine Code.wp_named (fun W => Below w.heap.size w W ∧ W.cell? ⟨w.heap.size, 0, none⟩ = some (.bool a) ∧ W.cell? ⟨w.heap.size, 1, none⟩ = some (.bool b) ∧ W.cell? ⟨w.heap.size, 2, none⟩ = some (.bool c) ∧ W.cell? ⟨w1.heap.size, 0, none⟩ = some (.bool a) ∧ W.cell? ⟨w1.heap.size, 1, none⟩ = some (.bool b) ∧ W.cell? ⟨w1.heap.size, 2, none⟩ = some (.bool c)) ?_ ?_
  · have e0 := hb1.cell (p := ⟨w.heap.size, 0, none⟩) (by simp)
    have e1 := hb1.cell (p := ⟨w.heap.size, 1, none⟩) (by simp)
    have e2 := hb1.cell (p := ⟨w.heap.size, 2, none⟩) (by simp)
    simp at e0 e1 e2
    have hw : w.heap.size ≠ w1.heap.size := by omega
    have hb : Below w.heap.size w w1 := ((Below.refl _ _).alloc (Nat.le_refl _) _).trans (hb1.mono (by simp))
    refine ⟨by go_grown, ?_⟩
    simp [go_sem, World.cell?_alloc_old, hw, e0, e1, e2]
  intro W ⟨hW, c0, c1, c2, d0, d1, d2⟩
  have g0 : ∀ n : Aft W, n.out.cell? ⟨w.heap.size, 0, none⟩ = some (.bool a) := fun n => n.cell c0
  have g1 : ∀ n : Aft W, n.out.cell? ⟨w.heap.size, 1, none⟩ = some (.bool b) := fun n => n.cell c1
  have g2 : ∀ n : Aft W, n.out.cell? ⟨w.heap.size, 2, none⟩ = some (.bool c) := fun n => n.cell c2
  have g3 : ∀ n : Aft W, n.out.cell? ⟨w1.heap.size, 0, none⟩ = some (.bool a) := fun n => n.cell d0
  have g4 : ∀ n : Aft W, n.out.cell? ⟨w1.heap.size, 1, none⟩ = some (.bool b) := fun n => n.cell d1
  have g5 : ∀ n : Aft W, n.out.cell? ⟨w1.heap.size, 2, none⟩ = some (.bool c) := fun n => n.cell d2
  have hs := sk_eq
  have hg := sk_guard
  refine wp_region_aft (by kernel_rfl) (by kernel_rfl) ?_
  repeat (first
    | go_big_quiet_skip
    | (go_big_quiet_want; go_big_quiet_op; first
       | go_big_quiet_on
       | (apply Exists.intro
          refine ⟨fun n => ?_, ?_⟩
          · (first
            | (go_at_call 5; first | (with_reducible exact Calls.aft n (own_any _ _)) | exact Calls.aft n (own_any ⟨_, _, _⟩ _))
            | (go_at_call 6; first | (with_reducible exact Calls.aft n (verdict_any _ _ _)) | exact Calls.aft n (verdict_any ⟨_, _, _⟩ _ _))
            | (go_at_call 7; first | (with_reducible exact Calls.aft n (verdictR_any _ _ _)) | exact Calls.aft n (verdictR_any ⟨_, _, _⟩ _ _))
            | (go_at_call 8; first | (with_reducible exact Calls.aft n (sent_any _ _ _)) | exact Calls.aft n (sent_any ⟨_, _, _⟩ _ _))
            | (go_at_call 9; first | (with_reducible exact Calls.aft n (sentR_any _ _ _)) | exact Calls.aft n (sentR_any ⟨_, _, _⟩ _ _))
            | (go_at_call 10; first | (with_reducible exact Calls.aft n (failed_any _ _ _)) | exact Calls.aft n (failed_any ⟨_, _, _⟩ _ _))
            | (go_at_call 11; first | (with_reducible exact Calls.aft n (failedR_any _ _ _)) | exact Calls.aft n (failedR_any ⟨_, _, _⟩ _ _))
            | (go_at_call 12; first | (with_reducible exact Calls.aft n (ready_any _ _)) | exact Calls.aft n (ready_any ⟨_, _, _⟩ _))
            | (go_at_call 13; first | (with_reducible exact Calls.aft n (readyR_any _ _)) | exact Calls.aft n (readyR_any ⟨_, _, _⟩ _))
            | (go_at_call 14; exact Calls.aft n (awake_any _)))
          go_big_quiet_on)))
  refine wpQuiet_nil ?_
  rintro w' ⟨N, rfl⟩
  go_wp2
  go_returns
  refine ⟨rfl, hW.trans (N.below.mono hW.size)⟩
end Go.Proofs.Ytnemnnmlhnccdaa
