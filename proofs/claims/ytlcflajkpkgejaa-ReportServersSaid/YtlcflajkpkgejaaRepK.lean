/-
  The walk of the law ReportServers. No condition.
-/
import Derived.Test.YtlcflajkpkgejaaRepJ
namespace Go.Proofs.Ytlcflajkpkgejaa
open Go.RowKit
set_option linter.unusedVariables false
set_option linter.unusedSimpArgs false

theorem find_at (a : Option Addr) (c : Nat) (C : List CV) (S : List SV) (n : Int) (W : List Int) (word : ByteArray) (r : Int) (w : World) (h : StrsAt w a (linesB C S n W)) (hC : C.length ≤ 40) (hS : S.length ≤ 20) (hr : findL word 0 (linesB C S n W) = r) :
    Calls Try.prog 12 #[.slice a (cameN C C.length + S.length + 2) c, .string word] w fun e w' => w = w' ∧ e = .returned (.int .i64 r) := by
  have h1 := cameN_le C C.length
  have hl := linesB_length C S n W
  have hf := find_any a (linesB C S n W) c word w h (by omega)
  rw [hl, hr] at hf
  exact hf

set_option maxHeartbeats 1000000 in
theorem servers_any (a1 : Option Addr) (C : List CV) (c1 : Nat) (a2 : Option Addr) (S : List SV) (c2 : Nat) (a3 : Option Addr) (n3 c3 : Nat) (a4 : Option Addr) (L4 : List Int) (c4 : Nat) (w : World)
    (hv : ViewAt w ⟨a1, C, c1, a2, S, c2, a3, n3, c3, a4, L4, c4⟩) (hr : Ranged ⟨a1, C, c1, a2, S, c2, a3, n3, c3, a4, L4, c4⟩) :
    Calls Try.prog 4 #[.agg #[.slice a1 C.length c1, .slice a2 S.length c2, .slice a3 n3 c3, .slice a4 L4.length c4]] w fun e w' => e = .returned (.bool true) ∧ Below w.heap.size w w' := by
  have hb0 : Below w.heap.size w (w.alloc (.cells #[.slice a1 C.length c1, .slice a2 S.length c2, .slice a3 n3 c3, .slice a4 L4.length c4] 27)) := (Below.refl _ _).alloc (Nat.le_refl _) _
  have hbx : Blk (w.alloc (.cells #[.slice a1 C.length c1, .slice a2 S.length c2, .slice a3 n3 c3, .slice a4 L4.length c4] 27)) w.heap.size 27 #[.slice a1 C.length c1, .slice a2 S.length c2, .slice a3 n3 c3, .slice a4 L4.length c4] := Blk.new w _ _
  have Hv := hide (hv.below hb0)
  have HX := hide hbx
  have HB := hide hb0
  have HR := hide hr
  clear hv hb0 hbx hr
  go_enter Try.func4, Try.ntmps4
  go_wp2_with fail
  refine (few_lit a1 C c1 a2 S c2 a3 n3 c3 a4 L4 c4 _ Hv.out).mono ?_
  rintro e w1 ⟨r, rfl, hfew, hb1⟩
  have Hv1 := hide (Hv.out.below hb1)
  have hx1 := HX.out.below hb1 HX.out.lt
  have HX1 := hide hx1
  have HB1 := hide (below_via HB.out hb1)
  have Hfew := hide hfew
  clear hb1 Hv HX HB hx1 hfew
  rcases r with _ | _
  · go_wp2_with fail
    refine (awake_any _).mono ?_
    rintro e w2 ⟨rfl, hb2⟩
    have HB2 := hide (below_via HB1.out hb2)
    clear hb2
    go_wp2_with fail
    go_returns
    exact ⟨rfl, HB2.out⟩
  · have HF := hide (few_of (Hfew.out rfl) HR.out)
    have hC : C.length ≤ 40 := HF.out.nc
    have hS : S.length ≤ 20 := HF.out.ns
    clear Hfew HR
    have e0 := HX1.out.cell 0
    simp at e0
    go_wp2_with fail
    go_loopw [3, 15] (fun t i wr => ∃ j : Nat, j ≤ C.length ∧ i = .int .i64 j ∧ t = .int .i64 (cameN C j : Nat) ∧ Below w1.heap.size w1 wr) (fun _ i _ => 64 - (intOf i).toNat)
    case atStart => exact ⟨0, Nat.zero_le _, rfl, rfl, Below.refl _ _⟩
    case round =>
      clear e0
      obtain ⟨j, hj, rfl, rfl, hB⟩ := hrel
      by_cases hlt : j < C.length
      · rcases Hv1.out.cl.below hB with h0 | ⟨b, off, rfl, hbl, hc⟩
        · have h0 : C = [] := h0
          subst h0; simp at hlt
        obtain ⟨⟨z0, z1, z2, z3⟩, hna⟩ := hc j hlt
        have hstep : cameN C (j + 1) = if (C.getD j default).phase = 0 then cameN C j else cameN C j + 1 := rfl
        have hcl := cameN_le C j
        simp only at z0 z1 z2 z3
        generalize C.getD j default = c at z0 z1 z2 z3 hna hstep
        obtain ⟨ph, sv, dn, T, ta, tc⟩ := c
        simp only at z0 z1 z2 z3 hstep
        have k0 : (0 : Int) ≤ (j : Int) := by omega
        have k1 : (j : Int) < (C.length : Int) := by omega
        have hs1 := hB.size
        have HB := hide hB
        have Hstep := hide hstep
        generalize cameN C j = K at Hstep hcl ⊢
        clear hc hB hna hstep
        by_cases h0 : ph = 0
        · rw [if_pos h0] at Hstep
          subst h0
          go_wp2_with fail
          go_roundw
          case rel => exact ⟨j + 1, by omega, by go_num, by rw [Hstep.out], HB.out.alloc hs1 _⟩
          case measure => simp [intOf]; omega
        · rw [if_neg h0] at Hstep
          have h0b : (ph == 0) = false := by simpa using h0
          go_wp2_with fail
          go_roundw
          case rel => exact ⟨j + 1, by omega, by go_num, by rw [Hstep.out]; go_num, HB.out.alloc hs1 _⟩
          case measure => simp [intOf]; omega
      · have he : j = C.length := by omega
        subst he
        have hx := HX1.out.below hB HX1.out.lt
        have e0 := hx.cell 0; have e1 := hx.cell 1; have e2 := hx.cell 2; have e3 := hx.cell 3
        simp at e0 e1 e2 e3
        have hfs := find_server C S n3 L4
        have hfr := find_registry C S n3 L4
        have hfc := find_client C S n3 L4
        have hln := linesB_length C S n3 L4
        have hcl := cameN_le C C.length
        have Hfs := hide hfs
        have Hfr := hide hfr
        have Hfc := hide hfc
        have Hln := hide hln
        have HX2 := hide hx
        have Hv2 := hide (Hv1.out.below hB)
        have HB2 := hide (below_via HB1.out hB)
        clear hfs hfr hfc hln hx hB
        go_wp2_with fail
        refine (lines_lit a1 C c1 a2 S c2 a3 n3 c3 a4 L4 c4 _ Hv2.out HF.out).mono ?_
        rintro e w3 ⟨v, rfl, hown, hb3⟩
        obtain ⟨a, c, rfl, hs⟩ := own_slice hown
        have hx3 := HX2.out.below hb3 HX2.out.lt
        have g1 := hx3.cell 1
        simp at g1
        have HB3 := hide (below_via HB2.out hb3)
        have Hs := hide hs
        clear hown hb3 hx3 hs e0 e1 e2 e3
        rw [Hln.out]
        have FSx : Hid (∀ W, StrsAt W a (linesB C S n3 L4) → Calls Try.prog 12 #[.slice a (cameN C C.length + S.length + 2) c, .string ⟨#[115, 101, 114, 118, 101, 114]⟩] W fun e w' => W = w' ∧ e = .returned (.int .i64 (if S.length = 0 then -1 else (cameN C C.length : Int)))) := fun W h => find_at a c C S n3 L4 _ _ W h hC hS Hfs.out
        have FR : Hid (∀ W, StrsAt W a (linesB C S n3 L4) → Calls Try.prog 12 #[.slice a (cameN C C.length + S.length + 2) c, .string ⟨#[114, 101, 103, 105, 115, 116, 114, 121]⟩] W fun e w' => W = w' ∧ e = .returned (.int .i64 ((cameN C C.length + S.length : Nat) : Int))) := fun W h => find_at a c C S n3 L4 _ _ W h hC hS Hfr.out
        have FC : Hid (cameN C C.length ≠ 0 → ∀ W, StrsAt W a (linesB C S n3 L4) → Calls Try.prog 12 #[.slice a (cameN C C.length + S.length + 2) c, .string ⟨#[99, 108, 105, 101, 110, 116]⟩] W fun e w' => W = w' ∧ e = .returned (.int .i64 0)) := fun hK W h => find_at a c C S n3 L4 _ _ W h hC hS (Hfc.out hK)
        clear Hfs Hfr Hfc Hln
        generalize cameN C C.length = K at FSx FR FC hcl ⊢
        have HS0 : Hid (S.length = 0 ∨ S.length ≠ 0) := Nat.eq_zero_or_pos _ |>.imp id (fun h => by omega)
        generalize S.length = n at g1 FSx FR FC hS HS0 ⊢
        rcases HS0.out with h0 | h0
        · subst h0
          rw [if_pos rfl] at FSx
          rcases Nat.eq_zero_or_pos K with hK | hK
          · subst hK
            go_wp2_with fail
            refine (FSx.out _ Hs.out).mono ?_
            rintro e w4 ⟨rfl, rfl⟩
            go_wp2_with fail
            refine (FR.out _ Hs.out).mono ?_
            rintro e w4 ⟨rfl, rfl⟩
            go_wp2_with fail
            refine (awake_any _).mono ?_
            rintro e w5 ⟨rfl, hb5⟩
            have HB5 := hide (below_via HB3.out hb5)
            clear hb5
            go_wp2_with fail
            go_returns
            exact ⟨rfl, HB5.out⟩
          · have HK : Hid (K ≠ 0) := by show K ≠ 0; omega
            have hKb : ((K : Int) == 0) = false := by
              have : (K : Int) ≠ 0 := by omega
              simpa using this
            go_wp2_with fail
            refine (FSx.out _ Hs.out).mono ?_
            rintro e w4 ⟨rfl, rfl⟩
            go_wp2_with fail
            refine (FR.out _ Hs.out).mono ?_
            rintro e w4 ⟨rfl, rfl⟩
            go_wp2_with fail
            refine (FC.out HK.out _ Hs.out).mono ?_
            rintro e w4 ⟨rfl, rfl⟩
            go_wp2_with fail
            refine (awake_any _).mono ?_
            rintro e w5 ⟨rfl, hb5⟩
            have HB5 := hide (below_via HB3.out hb5)
            clear hb5
            go_wp2_with fail
            go_returns
            exact ⟨rfl, HB5.out⟩
        · rw [if_neg h0] at FSx
          have hnb : ((n : Int) == 0) = false := by
            have : (n : Int) ≠ 0 := by omega
            simpa using this
          rcases Nat.eq_zero_or_pos K with hK | hK
          · subst hK
            simp only [Nat.zero_add] at FSx FR
            go_wp2_with fail
            refine (FSx.out _ Hs.out).mono ?_
            rintro e w4 ⟨rfl, rfl⟩
            go_wp2_with fail
            refine (FR.out _ Hs.out).mono ?_
            rintro e w4 ⟨rfl, rfl⟩
            go_wp2_with fail
            refine (awake_any _).mono ?_
            rintro e w5 ⟨rfl, hb5⟩
            have HB5 := hide (below_via HB3.out hb5)
            clear hb5
            go_wp2_with fail
            go_returns
            exact ⟨rfl, HB5.out⟩
          · have HK : Hid (K ≠ 0) := by show K ≠ 0; omega
            have hKb : ((K : Int) == 0) = false := by
              have : (K : Int) ≠ 0 := by omega
              simpa using this
            go_wp2_with fail
            refine (FSx.out _ Hs.out).mono ?_
            rintro e w4 ⟨rfl, rfl⟩
            go_wp2_with fail
            refine (FR.out _ Hs.out).mono ?_
            rintro e w4 ⟨rfl, rfl⟩
            go_wp2_with fail
            refine (FC.out HK.out _ Hs.out).mono ?_
            rintro e w4 ⟨rfl, rfl⟩
            go_wp2_with fail
            refine (awake_any _).mono ?_
            rintro e w5 ⟨rfl, hb5⟩
            have HB5 := hide (below_via HB3.out hb5)
            clear hb5
            go_wp2_with fail
            go_returns
            exact ⟨rfl, HB5.out⟩
end Go.Proofs.Ytlcflajkpkgejaa
