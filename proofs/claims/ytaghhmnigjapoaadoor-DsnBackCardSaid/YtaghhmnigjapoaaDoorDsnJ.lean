/-
  The walk of the law DsnParses. No condition.
-/
import Derived.Test.YtaghhmnigjapoaaDoorDsnI
namespace Go.Proofs.YtaghhmnigjapoaaDoor
open Go.RowKit
set_option linter.unusedVariables false
set_option linter.unusedSimpArgs false

def sampleB : ByteArray := ⟨#[104, 111, 115, 116, 61, 97, 32, 117, 115, 101, 114, 61, 39, 98, 32, 99, 39]⟩
def samplePs : List (ByteArray × ByteArray) := [(⟨#[104, 111, 115, 116]⟩, ⟨#[97]⟩), (⟨#[117, 115, 101, 114]⟩, ⟨#[98, 32, 99]⟩)]
theorem sample_parse : parseP sampleB = (samplePs, 0) := by kernel_rfl
theorem sample_get : getP samplePs ⟨#[117, 115, 101, 114]⟩ = some ⟨#[98, 32, 99]⟩ := by kernel_rfl
theorem awake_any (w : World) : Calls Tryd.prog 6 #[] w fun e w' => e = .returned (.bool true) ∧ Below w.heap.size w w' := by
  have HP := hide sample_parse
  have HG := hide sample_get
  go_enter Tryd.func6, Tryd.ntmps6
  go_wp2_with fail
  refine (parse_any sampleB _).mono ?_
  rintro e w1 ⟨v, rfl, hown, hb1⟩
  rw [HP.out] at hown ⊢
  have HV := hide (PairsAt.of_own hown)
  have HB := hide hb1
  obtain ⟨a, c, rfl⟩ := own_slice hown
  clear hown hb1
  rw [show (samplePs, (0 : Int)).2 = 0 from rfl]
  go_wp2_with fail
  refine (get_any _ samplePs _ _ (by decide) HV.out).mono ?_
  rintro e w2 ⟨rfl, hb2⟩
  rw [HG.out, show getV (some ⟨#[98, 32, 99]⟩) = .tuple #[.string ⟨#[98, 32, 99]⟩, .bool true] from rfl]
  have HB2 := hide (below_via HB.out hb2)
  clear hb2
  rw [show (samplePs, (0 : Int)).1.length = 2 from rfl]
  go_wp2_with fail
  go_returns
  exact ⟨rfl, HB2.out⟩

theorem parseL_length : ∀ (n : Nat) (l : List UInt8) (q : List (ByteArray × ByteArray)), parseL n l = some q → q.length ≤ n
  | n, l, q, h => by
    cases hl : l.dropWhile (· == 32) with
    | nil => rw [parse_blank n l hl] at h; cases h; exact Nat.zero_le _
    | cons x t =>
      cases n with
      | zero => unfold parseL at h; rw [hl] at h; cases h
      | succ n =>
        cases hp : pairL (x :: t) with
        | none => rw [parse_bad n l x t hl hp] at h; cases h
        | some p =>
          obtain ⟨p, r⟩ := p
          rw [parse_pair n l x t p r hl hp] at h
          cases hq : parseL n r with
          | none => rw [hq] at h; cases h
          | some q' =>
            rw [hq] at h
            cases h
            have := parseL_length n r q' hq
            simp; omega
theorem parseP_length (s : ByteArray) : (parseP s).1.length ≤ 5000 := by
  by_cases h : 4096 < s.size
  · unfold parseP; rw [if_pos h]; exact Nat.zero_le _
  · rw [parseP_short s h]
    cases hq : parseL (s.size + 1) s.data.toList with
    | none => exact Nat.zero_le _
    | some q =>
      have := parseL_length _ _ _ hq
      show q.length ≤ 5000
      omega

theorem parses_any (s name : ByteArray) (w : World) :
    Calls Tryd.prog 3 #[.string s, .string name] w fun e w' => e = .returned (.bool true) ∧ Below w.heap.size w w' := by
  by_cases h5 : 5000 < s.size
  · have h5i : (5000 : Int) < (s.size : Int) := by omega
    go_enter Tryd.func3, Tryd.ntmps3
    go_wp2_with fail
    refine (awake_any _).mono ?_
    rintro e w1 ⟨rfl, hb1⟩
    have HB := hide hb1
    clear hb1
    go_wp2_with fail
    go_returns
    exact ⟨rfl, HB.out⟩
  · have h5i : ¬ (5000 : Int) < (s.size : Int) := by omega
    obtain ⟨⟨ps, z⟩, hps⟩ : ∃ a, parseP s = a := ⟨_, rfl⟩
    have hl := parseP_length s
    rw [hps] at hl
    have Hl := hide (show ps.length ≤ 1000000 from Nat.le_trans hl (by decide))
    have HP := hide hps
    clear hps hl
    obtain ⟨g, hg⟩ : ∃ g, getP ps name = g := ⟨_, rfl⟩
    have HG := hide hg
    obtain ⟨gs, hgs⟩ : ∃ x, g.getD ⟨#[]⟩ = x := ⟨_, rfl⟩
    obtain ⟨gb, hgb⟩ : ∃ x, g.isSome = x := ⟨_, rfl⟩
    have HGV : Hid (getV (getP ps name) = .tuple #[.string gs, .bool gb]) := by show _ = _; rw [hg, ← hgs, ← hgb]; rfl
    clear hg HG hgs hgb
    go_enter Tryd.func3, Tryd.ntmps3
    go_wp2_with fail
    refine (parse_any s _).mono ?_
    rintro e w1 ⟨v, rfl, hown, hb1⟩
    rw [HP.out] at hown ⊢
    have hown : w1.ownsRow w.heap.size 31 2 v ps.length (pairCells ps) := hown
    have HV := hide (PairsAt.of_own hown)
    have HB := hide hb1
    obtain ⟨a, c, rfl⟩ := own_slice hown
    clear hown hb1
    rw [show (ps, z).2 = z from rfl]
    go_wp2_with fail
    refine (rparse_any s _).mono ?_
    rintro e w2 ⟨v, rfl, hown, hb2⟩
    rw [HP.out] at hown ⊢
    have hown : w2.ownsRow w1.heap.size 31 2 v ps.length (pairCells ps) := hown
    have HV1 := hide (HV.out.below hb2)
    have HV2 := hide (PairsAt.of_own hown)
    have HB2 := hide (below_via HB.out hb2)
    obtain ⟨a2, c2, rfl⟩ := own_slice hown
    clear hown hb2
    rw [show (ps, z).2 = z from rfl]
    go_wp2_with fail
    refine (get_any _ ps name _ Hl.out HV1.out).mono ?_
    rintro e w3 ⟨rfl, hb3⟩
    rw [HGV.out]
    have HV3 := hide (HV1.out.below hb3)
    have HV4 := hide (HV2.out.below hb3)
    have HB3 := hide (below_via HB2.out hb3)
    clear hb3
    go_wp2_with fail
    refine (rget_any _ ps name _ Hl.out HV4.out).mono ?_
    rintro e w4 ⟨rfl, hb4⟩
    rw [HGV.out]
    have HV5 := hide (HV3.out.below hb4)
    have HV6 := hide (HV4.out.below hb4)
    have HB4 := hide (below_via HB3.out hb4)
    clear hb4
    go_wp2_with fail
    refine (equal_any _ _ ps _ Hl.out HV5.out HV6.out).mono ?_
    rintro e w5 ⟨rfl, hb5⟩
    have HB5 := hide (below_via HB4.out hb5)
    clear hb5
    go_wp2_with fail
    refine (awake_any _).mono ?_
    rintro e w6 ⟨rfl, hb6⟩
    have HB6 := hide (below_via HB5.out hb6)
    clear hb6
    go_wp2_with fail
    go_returns
    exact ⟨rfl, HB6.out⟩
end Go.Proofs.YtaghhmnigjapoaaDoor
