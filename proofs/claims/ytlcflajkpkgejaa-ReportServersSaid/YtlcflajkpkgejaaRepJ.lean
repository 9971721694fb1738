/-
  The walk of the law ReportTells. No condition.
-/
import Derived.Test.YtlcflajkpkgejaaRepI
namespace Go.Proofs.Ytlcflajkpkgejaa
open Go.RowKit
set_option linter.unusedVariables false
set_option linter.unusedSimpArgs false

theorem four_below {W W' : World} (hb : Below W.heap.size W W') {A : Nat} {x y z u : Value} (h : W.cell? ⟨A, 0, none⟩ = some x ∧ W.cell? ⟨A, 1, none⟩ = some y ∧ W.cell? ⟨A, 2, none⟩ = some z ∧ W.cell? ⟨A, 3, none⟩ = some u) :
    W'.cell? ⟨A, 0, none⟩ = some x ∧ W'.cell? ⟨A, 1, none⟩ = some y ∧ W'.cell? ⟨A, 2, none⟩ = some z ∧ W'.cell? ⟨A, 3, none⟩ = some u :=
  have k : ∀ (p : Addr) (v : Value), W.cell? p = some v → W'.cell? p = some v := fun p v hv => (hb.cell (World.block_lt_of_cell? W p hv)).trans hv
  ⟨k _ _ h.1, k _ _ h.2.1, k _ _ h.2.2.1, k _ _ h.2.2.2⟩
theorem four_drew {W : World} {A : Nat} {x y z u : Value} (h : W.cell? ⟨A, 0, none⟩ = some x ∧ W.cell? ⟨A, 1, none⟩ = some y ∧ W.cell? ⟨A, 2, none⟩ = some z ∧ W.cell? ⟨A, 3, none⟩ = some u) :
    W.drew.cell? ⟨A, 0, none⟩ = some x ∧ W.drew.cell? ⟨A, 1, none⟩ = some y ∧ W.drew.cell? ⟨A, 2, none⟩ = some z ∧ W.drew.cell? ⟨A, 3, none⟩ = some u := h

set_option maxHeartbeats 2000000 in
theorem tells_any (a1 : Option Addr) (C : List CV) (c1 : Nat) (a2 : Option Addr) (S : List SV) (c2 : Nat) (a3 : Option Addr) (n3 c3 : Nat) (a4 : Option Addr) (L4 : List Int) (c4 : Nat) (al : Option Addr) (L : List Int) (cl : Nat) (am : Option Addr) (M : List ByteArray) (cs : Nat) (word : ByteArray) (w : World)
    (hv : ViewAt w ⟨a1, C, c1, a2, S, c2, a3, n3, c3, a4, L4, c4⟩) (hr : Ranged ⟨a1, C, c1, a2, S, c2, a3, n3, c3, a4, L4, c4⟩) (hl : IntsAt w al L) (hlr : InRange L) (hlc : L.length ≤ cl) (hL : L.length ≤ maxLen) (hm : StrsAt w am M) (hM : M.length ≤ maxLen) :
    Calls Try.prog 3 #[.agg #[.slice a1 C.length c1, .slice a2 S.length c2, .slice a3 n3 c3, .slice a4 L4.length c4], .slice al L.length cl, .slice am M.length cs, .string word] w fun e w' => e = .returned (.bool true) ∧ Below w.heap.size w w' := by
  unfold maxLen at hL hM
  have hb0 : Below w.heap.size w (w.alloc (.cells #[.slice a1 C.length c1, .slice a2 S.length c2, .slice a3 n3 c3, .slice a4 L4.length c4] 27)) := (Below.refl _ _).alloc (Nat.le_refl _) _
  have hbx : Blk (w.alloc (.cells #[.slice a1 C.length c1, .slice a2 S.length c2, .slice a3 n3 c3, .slice a4 L4.length c4] 27)) w.heap.size 27 #[.slice a1 C.length c1, .slice a2 S.length c2, .slice a3 n3 c3, .slice a4 L4.length c4] := Blk.new w _ _
  have Hv := hide (hv.below hb0)
  have Hl := hide (hl.below hb0)
  have Hm := hide (hm.below hb0)
  have HX := hide hbx
  have HB := hide hb0
  have HR := hide hr
  have Hlr := hide hlr
  clear hv hl hm hb0 hbx hr hlr
  go_enter Try.func3, Try.ntmps3
  go_wp2_with fail
  refine (few_lit a1 C c1 a2 S c2 a3 n3 c3 a4 L4 c4 _ Hv.out).mono ?_
  rintro e w1 ⟨r, rfl, hfew, hb1⟩
  have Hv1 := hide (Hv.out.below hb1)
  have Hl1 := hide (Hl.out.below hb1)
  have Hm1 := hide (Hm.out.below hb1)
  have hx1 := HX.out.below hb1 HX.out.lt
  have HX1 := hide hx1
  have HB1 := hide (below_via HB.out hb1)
  have Hfew := hide hfew
  clear hb1 Hv Hl Hm HX HB hx1 hfew
  rcases r with _ | _
  · go_wp2_with fail
    refine (awake_any _).mono ?_
    rintro e w2 ⟨rfl, hb2⟩
    have HB2 := hide (below_via HB1.out hb2)
    clear hb2
    go_wp2_with fail
    go_returns
    exact ⟨rfl, HB2.out⟩
  · have HF := hide (few_of (Hfew.out rfl) HR.out)
    clear Hfew HR
    by_cases h40 : L.length ≤ 40
    · have h40' : ¬ (40 : Int) < (L.length : Int) := by omega
      by_cases h60 : M.length ≤ 60
      · have h60' : ¬ (60 : Int) < (M.length : Int) := by omega
        have hMM : M.length ≤ 100 := by omega
        have Hlen : Hid ((linesB C S n3 L4).length ≤ 200) := by
          show _ ≤ _
          rw [linesB_length]
          have h1 : C.length ≤ 40 := HF.out.nc
          have h2 : S.length ≤ 20 := HF.out.ns
          have h3 := cameN_le C C.length
          omega
        have Hclen : Hid ((cntN L (min L.length 5)).length ≤ 200) := by
          show _ ≤ _
          rw [cntN_length]; omega
        go_upto_region 3 with fail
        have e0 := HX1.out.cell 0; have e1 := HX1.out.cell 1; have e2 := HX1.out.cell 2; have e3 := HX1.out.cell 3
        simp at e0 e1 e2 e3
        have hS := And.intro e0 (And.intro e1 (And.intro e2 e3))
        clear e0 e1 e2 e3
        have hff : ∀ n : Int, (n == n) = true := by simp
        have HvD := hide (show ViewAt w1.drew _ from ⟨Hv1.out.cl, Hv1.out.sv, Hv1.out.wt⟩)
        have HlD := hide (show IntsAt w1.drew al L from Hl1.out)
        have HmD := hide (show StrsAt w1.drew am M from Hm1.out)
        go_region_held3 (fun W => W.cell? ⟨w.heap.size, 0, none⟩ = some (.slice a1 C.length c1) ∧ W.cell? ⟨w.heap.size, 1, none⟩ = some (.slice a2 S.length c2) ∧ W.cell? ⟨w.heap.size, 2, none⟩ = some (.slice a3 n3 c3) ∧ W.cell? ⟨w.heap.size, 3, none⟩ = some (.slice a4 L4.length c4)) (((try dsimp only); repeat (first | with_reducible assumption | (with_reducible refine four_drew ?_)))) ((first
          | (go_at_call 8; (with_reducible refine (lines_lit a1 C c1 a2 S c2 a3 n3 c3 a4 L4 c4 _ HvD.out HF.out).mono ?_); rintro e wa ⟨va, rfl, hown, hb⟩; have hSa := four_below hb hS; have Ha := hide hown; have Hba := hide hb; have Hva := hide (HvD.out.below hb); clear hown hb)
          | (go_at_call 9; (with_reducible refine (rlines_lit a1 C c1 a2 S c2 a3 n3 c3 a4 L4 c4 _ Hva.out HF.out).mono ?_); rintro e wb ⟨vb, rfl, hown, hb⟩; have hSb := four_below hb hSa; have Hb := hide hown; have Hab := hide (own_below Ha.out hb); have Hbb := hide (below_via Hba.out hb); clear hown hb)
          | (go_at_call 7; (with_reducible refine (equal_own _ _ va vb _ _ Hlen.out Hab.out Hb.out).mono ?_); rintro e wc ⟨rfl, hb⟩; have hSc := four_below hb hSb; have Hbc := hide (below_via Hbb.out hb); clear hb)
          | (go_at_call 10; (with_reducible refine (counts_any al L cl _ (HlD.out.below Hbc.out) Hlr.out h40 hlc).mono ?_); rintro e wd ⟨vd, rfl, hown, hb⟩; have hSd := four_below hb hSc; have Hd := hide hown; have Hbd := hide (below_via Hbc.out hb); clear hown hb)
          | (go_at_call 11; (with_reducible refine (rcounts_any al L cl _ (HlD.out.below Hbd.out) Hlr.out h40).mono ?_); rintro e we ⟨ve, rfl, hown, hb⟩; have hSe := four_below hb hSd; have He := hide hown; have Hde := hide (own_below Hd.out hb); have Hbe := hide (below_via Hbd.out hb); clear hown hb)
          | (go_at_call 7; (with_reducible refine (equal_own _ _ vd ve _ _ Hclen.out Hde.out He.out).mono ?_); rintro e wf ⟨rfl, hb⟩; have hSf := four_below hb hSe; have Hbf := hide (below_via Hbe.out hb); clear hb)
          | (go_at_call 12; (with_reducible refine (find_any am M cs word _ (HmD.out.below Hbf.out) hMM).mono ?_); rintro e wg ⟨rfl, rfl⟩)
          | (go_at_call 13; (with_reducible refine (rfind_any am M cs word _ (HmD.out.below Hbf.out) hMM).mono ?_); rintro e wg ⟨rfl, rfl⟩)
          | (go_at_call 6; refine (awake_any _).mono ?_; rintro e wh ⟨rfl, hb⟩; have hSh := four_below hb hSf; have Hbh := hide (below_via Hbf.out hb); clear hb)))
        have HBz := hide (below_via HB1.out.drew Hbh.out)
        clear hSa hSb hSc hSd hSe hSf hSh hS
        go_wp2_with fail
        go_returns
        exact ⟨rfl, HBz.out⟩
      · have h60' : (60 : Int) < (M.length : Int) := by omega
        go_wp2_with fail
        refine (awake_any _).mono ?_
        rintro e w2 ⟨rfl, hb2⟩
        have HB2 := hide (below_via HB1.out hb2)
        clear hb2
        go_wp2_with fail
        go_returns
        exact ⟨rfl, HB2.out⟩
    · have h40' : (40 : Int) < (L.length : Int) := by omega
      go_wp2_with fail
      refine (awake_any _).mono ?_
      rintro e w2 ⟨rfl, hb2⟩
      have HB2 := hide (below_via HB1.out hb2)
      clear hb2
      go_wp2_with fail
      go_returns
      exact ⟨rfl, HB2.out⟩
end Go.Proofs.Ytlcflajkpkgejaa
