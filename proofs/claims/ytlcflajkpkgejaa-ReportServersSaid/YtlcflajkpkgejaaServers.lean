/-
  The statement ReportServersSaid: the law returns true for every input and leaves its input as it was. No condition.
-/
import Derived.Test.YtlcflajkpkgejaaRepO
import Derived.ProofKit
import Derived.OpenShut
import Derived.ShutString
import Derived.ChangeOld
import Derived.Lib.SmallJoins
namespace Go.Proofs.Ytlcflajkpkgejaa.servers
open Go.ChangeShapes Go.WideShapes Go.ChangeAt Go.RowKit Go.Joins
open Go.ChangeMaps (open_string shut_string)

theorem walk (a1 : Option Addr) (C : List CV) (c1 : Nat) (a2 : Option Addr) (S : List SV) (c2 : Nat) (a3 : Option Addr) (n3 c3 : Nat) (a4 : Option Addr) (L4 : List Int) (c4 : Nat) (w : World)
    (hv : ViewAt w ⟨a1, C, c1, a2, S, c2, a3, n3, c3, a4, L4, c4⟩) (hr : Ranged ⟨a1, C, c1, a2, S, c2, a3, n3, c3, a4, L4, c4⟩) :
    Calls Try.prog 4 #[.agg #[.slice a1 C.length c1, .slice a2 S.length c2, .slice a3 n3 c3, .slice a4 L4.length c4]] w fun e w' => e = .returned (.bool true) ∧ Below w.heap.size w w' :=
  servers_any a1 C c1 a2 S c2 a3 n3 c3 a4 L4 c4 w hv hr

theorem own : ownKnob Try.prog.godebug = none := by kernel_rfl
theorem laidOut : laidOutB Try.prog = true := by kernel_rfl

set_option maxRecDepth 100000 in
set_option maxHeartbeats 1000000 in
theorem lifted (os : Os) (started : os.Started) (H : Type) (enc : TypeId × Value → H) :
    ReturnsInHanded {} Try.checked os 4 .any (Rows.reportServersSpec.pre6 enc Try.prog Try.f4 Rows.reportServersRow.domain false) (Rows.reportServersSpec.post enc Try.prog Try.f4 false true false false) := by
  refine returnsInHanded_of_change (C := Try.checked) own started (by kernel_rfl) Try.func4
    (ChangeSpec.witness6 (enc := enc) (C := Try.checked) false ⟨#[], #[.agg #[.slice none 0 0, .slice none 0 0, .slice none 0 0, .slice none 0 0]], []⟩ 8 (by kernel_rfl) (by kernel_rfl) (by kernel_rfl) (by kernel_rfl)) ?_
  intro W base args ds gs before hval0 hW hcnd _
  have hval : ∀ (j : Nat) t v, Try.f4.params[j]? = some t → args[j]? = some v → Value.okWide Try.prog W .any base t v := hval0
  have hW' := hW
  obtain ⟨p, q, hA0, hV, rfl, hfz, hnd⟩ := hW
  have hA : DataW.TrodAll enc Try.prog W 0 (fun _ => true) true Try.f4.params.toList args.toList ds p := hA0
  rw [Try.params4] at hA hval
  obtain ⟨v0, vs0, d0, ds0, p0, q0, hargs, rfl, rfl, h0, r0⟩ := trodAll_cons hA
  obtain ⟨rfl, rfl, rfl⟩ := trodAll_nil r0
  obtain rfl : args = #[v0] := by cases args; simp_all
  obtain ⟨rfl, rfl⟩ := trodVars_none hV
  have k0 := h0
  have lt0 : ∀ x ∈ p0, x.block < W.heap.size := by obtain ⟨m, hm⟩ := k0; exact DataW.trod_lt m _ _ _ hm
  obtain ⟨va1, vC, vc1, va2, vS, vc2, va3, vn3, vc3, va4, vL4, vc4, e0, hVA, hRG⟩ := read_view (hval 0 27 v0 rfl rfl) h0
  subst e0
  clear hA0 hval0
  refine (walk va1 vC vc1 va2 vS vc2 va3 vn3 vc3 va4 vL4 vc4 W hVA hRG).mono fun e W' ⟨he, bel⟩ => ?_
  subst he
  exact ⟨_, rfl, _, _, _, [], _, [], hW', trodAll_mk1 (shut_bool Try.underlying4 _), (trodAll_cons_mk (Below.trod laidOut (by kernel_rfl) (of_decide_eq_true (by kernel_rfl)) k0 bel lt0) trodAll_mk0), rfl, bel.frame _, fun h => by cases h⟩

theorem over : Rows.reportServersRow.holds Try.pinned (OpenSpec.ofChange Rows.reportServersSpec) :=
  OpenClaim.holds_of_wide 4 Try.f4 rfl rfl rfl rfl rfl rfl rfl ⟨rfl, rfl, rfl, rfl, rfl⟩ rfl rfl rfl rfl rfl (by kernel_rfl) Try.func4 (by kernel_rfl)
    (of_decide_eq_true (by kernel_rfl)) (by unfold Func.isWrapper; rw [if_neg (of_decide_eq_false (by kernel_rfl))]; exact ⟨rfl, rfl⟩)
    (fun os started H enc _ => lifted os started H enc)

theorem proved : Rows.ReportServersSaid := over
end Go.Proofs.Ytlcflajkpkgejaa.servers
