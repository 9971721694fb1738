/-
  A row's step that keeps what lies in the world ahead of the call: its listed variables and the world's shape. No condition.
-/
import Derived.Test.YtaghhmnigjapoaaDoorRows
import Derived.ProofKit
import Derived.Handed
import Derived.SizedLaws
namespace Go.Proofs.YtaghhmnigjapoaaDoor
open Go.RowKit

theorem handed_shaped {H : Type} {enc : TypeId × Value → H} {C : Checked} {os : Os} {f : FuncId} {fn : Func} {s : ChangeSpec} {conds : List PathCond} {X : World → Prop} (keep : ∀ w w' : World, w.heap = w'.heap → X w → X w')
    (own : ownKnob C.prog.godebug = none) (started : os.Started) (noInit : C.prog.inits.idxOf? f = none) (hfn : C.prog.funcs[f]? = some fn)
    (witness : ∃ (w : World) (tape : Tape) (i : Input), w.os = os ∧ (w.forCall tape i).Shaped C.prog ∧ i.vars = [] ∧ Input.okWide C.prog (w.forCall tape i) .any w.heap.size f i ∧
      ((s.pre enc C.prog fn conds false (w.forCall tape i).memory i.args ∧ X (w.forCall tape i).memory) ∧ sizedMet enc C.prog fn (OpenSpec.ofChange s) false (w.forCall tape i).memory i.args) ∧ ({} : Assume).holds C.prog (lone (Frame.enter C.prog f i.args .normal) [] (w.forCall tape i)))
    (step : ∀ (W : World) (base : Nat) (args : Array Value) (ds gs : List (DataW H)) (before : List MemPlace),
      (∀ (j : Nat) t v, fn.params[j]? = some t → args[j]? = some v → Value.okWide C.prog W .any base t v) →
      DataW.Whole enc C.prog fn.params.toList s.vars false W args.toList ds gs before → X W → W.ShapedOpen C.prog →
      Calls C.prog f args W fun e W' => ∃ v, e = .returned v ∧ s.post enc C.prog fn false true false false W args v W') :
    ReturnsInHanded {} C os f .any (fun w args => (s.pre enc C.prog fn conds false w args ∧ X w) ∧ sizedMet enc C.prog fn (OpenSpec.ofChange s) false w args) (s.post enc C.prog fn false true false false) := by
  refine returnsInHanded_of_calls own started noInit witness fun w tape i _ shape _ ok pre _ => ?_
  rcases ok with ⟨_, _, _, fn', fnIs, _, _, _, _, vals⟩
  cases Option.some.inj (fnIs.symm.trans hfn)
  rcases pre with ⟨⟨⟨ds, gs, before, whole, _⟩, x⟩, _⟩
  have same : (w.forCall tape i).memory.heap = (w.forCall tape i).heap := by rfl
  have met := step (w.forCall tape i) w.heap.size i.args ds gs before vals (DataW.Whole.of_heap same whole) (keep _ _ same x) shape
  exact met.mono fun e W' h => by
    obtain ⟨v, rfl, post⟩ := h
    exact ChangeSpec.post_blind post
end Go.Proofs.YtaghhmnigjapoaaDoor
