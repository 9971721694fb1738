/-
  The walk of the law EngineNever. No condition.
-/
import Derived.Test.YtpaodffckhnieaaDoorEngD
namespace Go.Proofs.YtpaodffckhnieaaDoor
open Go.RowKit Go.Maps
set_option linter.unusedVariables false
set_option linter.unusedSimpArgs false

def StrsIn (w : World) (a : Option Addr) (L : List ByteArray) : Prop :=
  L = [] ∨ ∃ b off, a = some ⟨b, off, none⟩ ∧ b < w.heap.size ∧ ∀ j, j < L.length → w.cell? ⟨b, off + j, none⟩ = some (.string (L.getD j default))

set_option maxRecDepth 100000 in
set_option maxHeartbeats 4000000 in
theorem never_any (a : Option Addr) (L : List ByteArray) (cap : Nat) (b : Int) (w : World) (hL : L.length ≤ maxLen) (hm : StrsIn w a L) :
    Calls Tryd.prog 4 #[.slice a L.length cap, .int .u8 b] w fun e w' => e = .returned (.bool true) ∧ Below w.heap.size w w' := by
  unfold maxLen at hL
  have HM := hide hm
  clear hm
  go_enter Tryd.func4, Tryd.ntmps4
  go_wp2_with fail
  refine (new_live _).mono ?_
  rintro e w1 ⟨g, m, D, hE, hg, hm, hb1, rfl⟩
  have HE := hide hE
  have HB := hide hb1
  have Hgm := hide (And.intro hg hm)
  clear hE hb1 hg hm
  go_wp2_with fail
  go_loopw [16] (fun i wr => ∃ (j k : Nat) (D : DataW Unit), j ≤ L.length ∧ k ≤ j ∧ k ≤ 60 ∧ i = .int .i64 j ∧ Eng wr g m k D 0 ∧ Below w.heap.size w wr) (fun i _ => L.length - (intOf i).toNat)
  case atStart => exact ⟨0, 0, D, by omega, by omega, by omega, rfl, HE.out, HB.out⟩
  case round =>
    clear HE HB
    obtain ⟨j, k, D1, hj, hkj, hk60, rfl, hE, hB⟩ := hrel
    by_cases hlt : j < L.length
    · rcases HM.out with h0 | ⟨bb, off, rfl, hbw, hcell⟩
      · subst h0; simp at hlt
      have z0 := hcell j hlt
      rw [← hB.cell hbw] at z0
      have k0 : (0 : Int) ≤ (j : Int) := by omega
      have k1 : (j : Int) < (L.length : Int) := by omega
      clear hcell
      generalize L.getD j default = s at z0
      have HE := hide hE
      have HB := hide hB
      clear hE hB
      by_cases h60 : j < 60
      · have h60' : (j : Int) < 60 := by omega
        by_cases h300 : s.size ≤ 300
        · have h300' : (s.size : Int) ≤ 300 := by omega
          have hsz : s.size ≤ maxLen := by unfold maxLen; omega
          go_wp2_with fail
          refine (turn_live g m k D1 0 s _ HE.out hsz (by omega)).mono ?_
          rintro e w2 ⟨b2, D2, rfl, hE2, hk2⟩
          have HE2 := hide hE2
          have HB2 := hide (HB.out.trans (hk2.below Hgm.out.1 Hgm.out.2 HB.out.size))
          clear hE2 hk2
          go_wp2_with fail
          go_roundw
          case rel => exact ⟨j + 1, k + 1, D2, by omega, by omega, by omega, by go_num, HE2.out, HB2.out⟩
          case measure => simp [intOf]; omega
        · have h300' : ¬ (s.size : Int) ≤ 300 := by omega
          go_wp2_with fail
          go_roundw
          case rel => exact ⟨j + 1, k, D1, by omega, by omega, by omega, by go_num, HE.out, HB.out⟩
          case measure => simp [intOf]; omega
      · have h60' : ¬ (j : Int) < 60 := by omega
        go_wp2_with fail
        go_roundw
        case rel => exact ⟨j + 1, k, D1, by omega, by omega, by omega, by go_num, HE.out, HB.out⟩
        case measure => simp [intOf]; omega
    · have hge : ¬ (j : Int) < (L.length : Int) := by omega
      have HE := hide hE
      have HB := hide hB
      clear hE hB
      go_upto_region 8 with fail
      have hx : Blk (wr.alloc (.cells #[.string ⟨#[]⟩, .string ⟨#[32]⟩, .string ⟨#[99, 111, 109, 109, 105, 116]⟩, .string ⟨#[114, 111, 108, 108, 98, 97, 99, 107, 32]⟩] 9)) wr.heap.size 9 #[.string ⟨#[]⟩, .string ⟨#[32]⟩, .string ⟨#[99, 111, 109, 109, 105, 116]⟩, .string ⟨#[114, 111, 108, 108, 98, 97, 99, 107, 32]⟩] := Blk.new wr _ _
      have hbx : Below wr.heap.size wr (wr.alloc (.cells #[.string ⟨#[]⟩, .string ⟨#[32]⟩, .string ⟨#[99, 111, 109, 109, 105, 116]⟩, .string ⟨#[114, 111, 108, 108, 98, 97, 99, 107, 32]⟩] 9)) := (Below.refl _ _).alloc (Nat.le_refl _) _
      have HX := hide hx
      have HE1 := hide (HE.out.below hbx)
      have HB1 := hide (below_via HB.out hbx)
      clear hx hbx HE HB
      go_wp2_with fail
      generalize wr.heap.size = d at HX ⊢
      go_loopw [34] (fun i wq => ∃ t : Nat, t ≤ 4 ∧ i = .int .i64 t ∧ Blk wq d 9 #[.string ⟨#[]⟩, .string ⟨#[32]⟩, .string ⟨#[99, 111, 109, 109, 105, 116]⟩, .string ⟨#[114, 111, 108, 108, 98, 97, 99, 107, 32]⟩] ∧ Eng wq g m k D1 0 ∧ Below w.heap.size w wq) (fun i _ => 8 - (intOf i).toNat)
      case atStart => exact ⟨0, by omega, rfl, HX.out, HE1.out, HB1.out⟩
      case round =>
        clear HX HE1 HB1
        obtain ⟨t, ht, rfl, hx, hE, hB⟩ := hrel
        have HX := hide hx
        have HE := hide hE
        have HB := hide hB
        have c := hx.cell
        clear hx hE hB
        have ht5 : t = 0 ∨ t = 1 ∨ t = 2 ∨ t = 3 ∨ t = 4 := by omega
        rcases ht5 with rfl | rfl | rfl | rfl | rfl
        · have e0 := c 0
          simp at e0
          clear c
          by_cases hb : b = 69
          · subst hb
            go_wp2_with fail
            refine (verdict_fault g m k D1 0 ⟨#[]⟩ 1 _ HE.out (by decide) (by decide) says_nothing).mono ?_
            rintro e w2 ⟨rfl, hb2⟩
            have HX2 := hide (HX.out.below hb2 HX.out.lt)
            have HE2 := hide (HE.out.below hb2)
            have HB2 := hide (below_via HB.out hb2)
            clear hb2 e0 HX HE HB
            go_wp2_with fail
            go_roundw
            case rel => exact ⟨1, by omega, by go_num, HX2.out, HE2.out, HB2.out⟩
            case measure => simp [intOf]
          · have hbb : (b == 69) = false := by simpa using hb
            go_wp2_with fail
            refine (verdict_empty g m k D1 0 ⟨#[]⟩ b _ HE.out hb says_nothing).mono ?_
            rintro e w2 ⟨rfl, hb2⟩
            have HX2 := hide (HX.out.below hb2 HX.out.lt)
            have HE2 := hide (HE.out.below hb2)
            have HB2 := hide (below_via HB.out hb2)
            clear hb2 e0 HX HE HB
            go_wp2_with fail
            go_roundw
            case rel => exact ⟨1, by omega, by go_num, HX2.out, HE2.out, HB2.out⟩
            case measure => simp [intOf]
        · have e0 := c 1
          simp at e0
          clear c
          by_cases hb : b = 69
          · subst hb
            go_wp2_with fail
            refine (verdict_fault g m k D1 0 ⟨#[32]⟩ 1 _ HE.out (by decide) (by decide) says_blank).mono ?_
            rintro e w2 ⟨rfl, hb2⟩
            have HX2 := hide (HX.out.below hb2 HX.out.lt)
            have HE2 := hide (HE.out.below hb2)
            have HB2 := hide (below_via HB.out hb2)
            clear hb2 e0 HX HE HB
            go_wp2_with fail
            go_roundw
            case rel => exact ⟨2, by omega, by go_num, HX2.out, HE2.out, HB2.out⟩
            case measure => simp [intOf]
          · have hbb : (b == 69) = false := by simpa using hb
            go_wp2_with fail
            refine (verdict_empty g m k D1 0 ⟨#[32]⟩ b _ HE.out hb says_blank).mono ?_
            rintro e w2 ⟨rfl, hb2⟩
            have HX2 := hide (HX.out.below hb2 HX.out.lt)
            have HE2 := hide (HE.out.below hb2)
            have HB2 := hide (below_via HB.out hb2)
            clear hb2 e0 HX HE HB
            go_wp2_with fail
            go_roundw
            case rel => exact ⟨2, by omega, by go_num, HX2.out, HE2.out, HB2.out⟩
            case measure => simp [intOf]
        · have e0 := c 2
          simp at e0
          clear c
          by_cases hb : b = 69
          · subst hb
            go_wp2_with fail
            refine (verdict_exit g m k D1 0 ⟨#[99, 111, 109, 109, 105, 116]⟩ 69 3 _ HE.out (by decide) (by decide) says_commit).mono ?_
            rintro e w2 ⟨rfl, hb2⟩
            have HX2 := hide (HX.out.below hb2 HX.out.lt)
            have HE2 := hide (HE.out.below hb2)
            have HB2 := hide (below_via HB.out hb2)
            clear hb2 e0 HX HE HB
            go_wp2_with fail
            go_roundw
            case rel => exact ⟨3, by omega, by go_num, HX2.out, HE2.out, HB2.out⟩
            case measure => simp [intOf]
          · have hbb : (b == 69) = false := by simpa using hb
            go_wp2_with fail
            refine (verdict_exit g m k D1 0 ⟨#[99, 111, 109, 109, 105, 116]⟩ b 3 _ HE.out (by decide) (by decide) says_commit).mono ?_
            rintro e w2 ⟨rfl, hb2⟩
            have HX2 := hide (HX.out.below hb2 HX.out.lt)
            have HE2 := hide (HE.out.below hb2)
            have HB2 := hide (below_via HB.out hb2)
            clear hb2 e0 HX HE HB
            go_wp2_with fail
            go_roundw
            case rel => exact ⟨3, by omega, by go_num, HX2.out, HE2.out, HB2.out⟩
            case measure => simp [intOf]
        · have e0 := c 3
          simp at e0
          clear c
          by_cases hb : b = 69
          · subst hb
            go_wp2_with fail
            refine (verdict_exit g m k D1 0 ⟨#[114, 111, 108, 108, 98, 97, 99, 107, 32]⟩ 69 4 _ HE.out (by decide) (by decide) says_rollback).mono ?_
            rintro e w2 ⟨rfl, hb2⟩
            have HX2 := hide (HX.out.below hb2 HX.out.lt)
            have HE2 := hide (HE.out.below hb2)
            have HB2 := hide (below_via HB.out hb2)
            clear hb2 e0 HX HE HB
            go_wp2_with fail
            go_roundw
            case rel => exact ⟨4, by omega, by go_num, HX2.out, HE2.out, HB2.out⟩
            case measure => simp [intOf]
          · have hbb : (b == 69) = false := by simpa using hb
            go_wp2_with fail
            refine (verdict_exit g m k D1 0 ⟨#[114, 111, 108, 108, 98, 97, 99, 107, 32]⟩ b 4 _ HE.out (by decide) (by decide) says_rollback).mono ?_
            rintro e w2 ⟨rfl, hb2⟩
            have HX2 := hide (HX.out.below hb2 HX.out.lt)
            have HE2 := hide (HE.out.below hb2)
            have HB2 := hide (below_via HB.out hb2)
            clear hb2 e0 HX HE HB
            go_wp2_with fail
            go_roundw
            case rel => exact ⟨4, by omega, by go_num, HX2.out, HE2.out, HB2.out⟩
            case measure => simp [intOf]
        · clear c
          go_wp2_with fail
          refine (awake_any _).mono ?_
          rintro e w3 ⟨rfl, hb3⟩
          have HB3 := hide (below_via HB.out hb3)
          clear hb3
          go_wp2_with fail
          go_returns
          exact ⟨rfl, HB3.out⟩
end Go.Proofs.YtpaodffckhnieaaDoor
