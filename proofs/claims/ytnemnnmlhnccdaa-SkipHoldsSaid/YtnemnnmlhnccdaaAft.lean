/-
  Plain lemmas for a region that draws its order, whose calls may make memory of their own: the class of worlds that are as a given one below its heap's size. No condition.
-/
import Derived.WalkKit
import Derived.BigQuiet
import Derived.Below
namespace Go.Proofs.Ytnemnnmlhnccdaa
open Go.RowKit

/-- A world that is as w was on all that w had. -/
def Aft (w : World) : Type := { w' : World // Below w.heap.size w w' }
def Aft.out {w : World} (n : Aft w) : World := n.val
theorem Aft.below {w : World} (n : Aft w) : Below w.heap.size w n.out := n.property
instance aftNonempty (w : World) : Nonempty (Aft w) := ⟨⟨w, Below.refl _ _⟩⟩
theorem Aft.cell {w : World} (n : Aft w) {p : Addr} {v : Value} (h : w.cell? p = some v) : n.out.cell? p = some v := by
  rw [n.below.cell (World.block_lt_of_cell? w p h)]; exact h
theorem Aft.size {w : World} (n : Aft w) : w.heap.size ≤ n.out.heap.size := n.below.size

theorem below_drewN {B : Nat} {a w : World} (h : Below B a w) (n : Nat) : Below B a (w.drewN n) := ⟨h.os, h.tape, h.output, h.size, h.block⟩

/-- A callee's contract, met in a world of the class. -/
theorem Calls.aft {P : Program} {f : FuncId} {args : Array Value} {w : World} (n : Aft w) {v : Value}
    (h : Calls P f args n.out fun e w' => e = .returned v ∧ Below n.out.heap.size n.out w') : Calls P f args n.out fun e w'' => e = .returned v ∧ ∃ m : Aft w, w'' = m.out :=
  h.mono fun _ w' ⟨he, hm⟩ => ⟨he, ⟨w', n.below.trans (hm.mono n.size)⟩, rfl⟩

theorem wp_region_aft {P : Program} {id : Nat} {Q : Exit → Act → World → Prop} {a : Act} {w : World} {l : List Oper} (hm : P.follows .mixedOrders = true) (hB : Region.lexB .any l.toArray = true)
    (h : wpQuiet P l.toArray (fun w' => ∃ n : Aft w, w' = n.out) (fun a' => ∀ w', (∃ n : Aft w, w' = n.out) → Q .normal a' w') l a) : (Code.region id l.toArray true).wp P Q a w :=
  wp_region_quiet (C := fun w' => ∃ n : Aft w, w' = n.out) hm hB ⟨⟨w.drew, (Below.refl _ _).drew⟩, rfl⟩ (by simpa using h)

/-- The world under a name of its own, with what is known of it. -/
theorem Code.wp_named {P : Program} {c : Code} {Q : Exit → Act → World → Prop} {a : Act} {w : World} (S : World → Prop) (hS : S w) (h : ∀ W, S W → c.wp P Q a W) : c.wp P Q a w := h w hS
end Go.Proofs.Ytnemnnmlhnccdaa
