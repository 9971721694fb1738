/-
  The statement ReportTellsSaid: the law returns true for every input and leaves its input as it was. No condition.
-/
import Derived.Test.YtlcflajkpkgejaaRepO
import Derived.ProofKit
import Derived.OpenShut
import Derived.ShutString
import Derived.ChangeOld
import Derived.Lib.SmallJoins
namespace Go.Proofs.Ytlcflajkpkgejaa.tells
open Go.ChangeShapes Go.WideShapes Go.ChangeAt Go.RowKit Go.Joins
open Go.ChangeMaps (open_string shut_string)

theorem walk (a1 : Option Addr) (C : List CV) (c1 : Nat) (a2 : Option Addr) (S : List SV) (c2 : Nat) (a3 : Option Addr) (n3 c3 : Nat) (a4 : Option Addr) (L4 : List Int) (c4 : Nat) (al : Option Addr) (L : List Int) (cl : Nat) (am : Option Addr) (M : List ByteArray) (cs : Nat) (word : ByteArray) (w : World)
    (hv : ViewAt w ⟨a1, C, c1, a2, S, c2, a3, n3, c3, a4, L4, c4⟩) (hr : Ranged ⟨a1, C, c1, a2, S, c2, a3, n3, c3, a4, L4, c4⟩) (lc : L.length ≤ cl) (lm : cl ≤ maxLen) (hl : IntsAt w al L) (hlr : InRange L) (mc : M.length ≤ cs) (mm : cs ≤ maxLen) (hm : StrsAt w am M) (_ : ∀ z ∈ M, z.size ≤ maxLen) (_ : word.size ≤ maxLen) :
    Calls Try.prog 3 #[.agg #[.slice a1 C.length c1, .slice a2 S.length c2, .slice a3 n3 c3, .slice a4 L4.length c4], .slice al L.length cl, .slice am M.length cs, .string word] w fun e w' => e = .returned (.bool true) ∧ Below w.heap.size w w' :=
  tells_any a1 C c1 a2 S c2 a3 n3 c3 a4 L4 c4 al L cl am M cs word w hv hr hl hlr lc (Nat.le_trans lc lm) hm (Nat.le_trans mc mm)

theorem own : ownKnob Try.prog.godebug = none := by kernel_rfl
theorem laidOut : laidOutB Try.prog = true := by kernel_rfl

set_option maxRecDepth 100000 in
set_option maxHeartbeats 1000000 in
theorem lifted (os : Os) (started : os.Started) (H : Type) (enc : TypeId × Value → H) :
    ReturnsInHanded {} Try.checked os 3 .any (Rows.reportTellsSpec.pre6 enc Try.prog Try.f3 Rows.reportTellsRow.domain false) (Rows.reportTellsSpec.post enc Try.prog Try.f3 false true false false) := by
  refine returnsInHanded_of_change (C := Try.checked) own started (by kernel_rfl) Try.func3
    (ChangeSpec.witness6 (enc := enc) (C := Try.checked) false ⟨#[], #[.agg #[.slice none 0 0, .slice none 0 0, .slice none 0 0, .slice none 0 0], .slice none 0 0, .slice none 0 0, .string .empty], []⟩ 8 (by kernel_rfl) (by kernel_rfl) (by kernel_rfl) (by kernel_rfl)) ?_
  intro W base args ds gs before hval0 hW hcnd _
  have hval : ∀ (j : Nat) t v, Try.f3.params[j]? = some t → args[j]? = some v → Value.okWide Try.prog W .any base t v := hval0
  have hW' := hW
  obtain ⟨p, q, hA0, hV, rfl, hfz, hnd⟩ := hW
  have hA : DataW.TrodAll enc Try.prog W 0 (fun _ => true) true Try.f3.params.toList args.toList ds p := hA0
  rw [Try.params3] at hA hval
  obtain ⟨v0, vs0, d0, ds0, p0, q0, hargs, rfl, rfl, h0, r0⟩ := trodAll_cons hA
  obtain ⟨v1, vs1, d1, ds1, p1, q1, rfl, rfl, rfl, h1, r1⟩ := trodAll_cons r0
  obtain ⟨v2, vs2, d2, ds2, p2, q2, rfl, rfl, rfl, h2, r2⟩ := trodAll_cons r1
  obtain ⟨v3, vs3, d3, ds3, p3, q3, rfl, rfl, rfl, h3, r3⟩ := trodAll_cons r2
  obtain ⟨rfl, rfl, rfl⟩ := trodAll_nil r3
  obtain rfl : args = #[v0, v1, v2, v3] := by cases args; simp_all
  obtain ⟨rfl, rfl⟩ := trodVars_none hV
  have k0 := h0
  have lt0 : ∀ x ∈ p0, x.block < W.heap.size := by obtain ⟨m, hm⟩ := k0; exact DataW.trod_lt m _ _ _ hm
  have k1 := h1
  have lt1 : ∀ x ∈ p1, x.block < W.heap.size := by obtain ⟨m, hm⟩ := k1; exact DataW.trod_lt m _ _ _ hm
  have k2 := h2
  have lt2 : ∀ x ∈ p2, x.block < W.heap.size := by obtain ⟨m, hm⟩ := k2; exact DataW.trod_lt m _ _ _ hm
  have k3 := h3
  have lt3 : ∀ x ∈ p3, x.block < W.heap.size := by obtain ⟨m, hm⟩ := k3; exact DataW.trod_lt m _ _ _ hm
  obtain ⟨va1, vC, vc1, va2, vS, vc2, va3, vn3, vc3, va4, vL4, vc4, e0, hVA, hRG⟩ := read_view (hval 0 27 v0 rfl rfl) h0
  subst e0
  obtain ⟨a1, L1, cap1, e1, lc1, lm1, -, at1, rg1⟩ := read_ints_arg Try.underlying25 Try.underlying3 (by kernel_rfl) (hval 1 25 v1 rfl rfl) h1
  subst e1
  obtain ⟨a2, L2, cap2, e2, lc2, lm2, at2, rg2⟩ := read_strs_arg Try.underlying28 Try.underlying9 (by kernel_rfl) (hval 2 28 v2 rfl rfl) h2
  subst e2
  obtain ⟨x3, e3, -, -, w3⟩ := open_string Try.underlying9 (hval 3 9 v3 rfl rfl) h3
  subst e3
  clear hA0 hval0
  refine (walk va1 vC vc1 va2 vS vc2 va3 vn3 vc3 va4 vL4 vc4 a1 L1 cap1 a2 L2 cap2 x3 W hVA hRG lc1 lm1 at1 rg1 lc2 lm2 at2 rg2 w3).mono fun e W' ⟨he, bel⟩ => ?_
  subst he
  exact ⟨_, rfl, _, _, _, [], _, [], hW', trodAll_mk1 (shut_bool Try.underlying4 _), (trodAll_cons_mk (Below.trod laidOut (by kernel_rfl) (of_decide_eq_true (by kernel_rfl)) k0 bel lt0) (trodAll_cons_mk (Below.trod laidOut (by kernel_rfl) (of_decide_eq_true (by kernel_rfl)) k1 bel lt1) (trodAll_cons_mk (Below.trod laidOut (by kernel_rfl) (of_decide_eq_true (by kernel_rfl)) k2 bel lt2) (trodAll_cons_mk (Below.trod laidOut (by kernel_rfl) (of_decide_eq_true (by kernel_rfl)) k3 bel lt3) trodAll_mk0)))), rfl, bel.frame _, fun h => by cases h⟩

theorem over : Rows.reportTellsRow.holds Try.pinned (OpenSpec.ofChange Rows.reportTellsSpec) :=
  OpenClaim.holds_of_wide 3 Try.f3 rfl rfl rfl rfl rfl rfl rfl ⟨rfl, rfl, rfl, rfl, rfl⟩ rfl rfl rfl rfl rfl (by kernel_rfl) Try.func3 (by kernel_rfl)
    (of_decide_eq_true (by kernel_rfl)) (by unfold Func.isWrapper; rw [if_neg (of_decide_eq_false (by kernel_rfl))]; exact ⟨rfl, rfl⟩)
    (fun os started H enc _ => lifted os started H enc)

theorem proved : Rows.ReportTellsSaid := over
end Go.Proofs.Ytlcflajkpkgejaa.tells
