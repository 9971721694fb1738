/-
  The reference's Parse; what Get answers; equal rows. No condition but on lengths.
-/
import Derived.Test.YtaghhmnigjapoaaDoorDsnG
namespace Go.Proofs.YtaghhmnigjapoaaDoor
open Go.RowKit
set_option linter.unusedVariables false
set_option linter.unusedSimpArgs false

theorem drop_blank (s : ByteArray) (k : Nat) (h : k < s.size) (hc : sb s k = 32) : s.data.toList.drop k = 32 :: s.data.toList.drop (k + 1) := by
  rw [drop_cons s k h, (sb_is s k 32).1 hc]
theorem drop_full (s : ByteArray) (k : Nat) (h : k < s.size) (hc : sb s k ≠ 32) : (s.data.toList.drop k).dropWhile (· == 32) = s.data.toList.getD k 0 :: s.data.toList.drop (k + 1) := by
  have hne : (s.data.toList.getD k 0 == 32) = false := by
    have : s.data.toList.getD k 0 ≠ 32 := fun e => hc ((sb_is s k 32).2 e)
    simpa using this
  rw [drop_cons s k h, List.dropWhile_cons, hne]; rfl

set_option maxHeartbeats 1000000 in
theorem rparse_any (s : ByteArray) (w : World) :
    Calls Tryd.prog 8 #[.string s] w fun e w' => ∃ v, e = .returned (.tuple #[v, .int .i64 (parseP s).2]) ∧ w'.ownsRow w.heap.size 31 2 v (parseP s).1.length (pairCells (parseP s).1) ∧ Below w.heap.size w w' := by
  obtain ⟨i0, hi, hz0, hz1, hz2⟩ := info_parts infoPair
  by_cases h4 : 4096 < s.size
  · have hP : Hid (parseP s = ([], 5)) := by show _ = _; unfold parseP; rw [if_pos h4]
    have h4i : (4096 : Int) < (s.size : Int) := by omega
    go_enter Tryd.func8, Tryd.ntmps8
    go_wp2_with fail
    go_returns
    rw [hP.out]
    exact ⟨_, rfl, World.ownsRow_nil _ _ _ _, Below.refl _ _⟩
  have h4i : ¬ (4096 : Int) < (s.size : Int) := by omega
  obtain ⟨o0, ho0⟩ : ∃ o, parseL (s.size + 1) s.data.toList = o := ⟨_, rfl⟩
  have hP := parseP_short s h4
  rw [ho0] at hP
  obtain ⟨a, ha⟩ : ∃ a, parseP s = a := ⟨_, rfl⟩
  rw [ha] at hP
  rw [ha]
  have HP := hide hP
  have HO := hide ho0
  clear hP ho0 h4 ha
  go_enter Tryd.func8, Tryd.ntmps8
  go_wp2_with fail
  go_loopw [4, 5] (fun v i wr => ∃ (n k : Nat) (acc : List (ByteArray × ByteArray)), i = .int .i64 k ∧ k ≤ s.size ∧ s.size - k < n ∧ acc.length ≤ k ∧ Hid (aheadP acc (parseL n (s.data.toList.drop k)) = o0) ∧ wr.ownsRow w.heap.size 31 2 v acc.length (pairCells acc) ∧ Below w.heap.size w wr) (fun _ i _ => (s.size - (intOf i).toNat))
  case atStart => exact ⟨s.size + 1, 0, [], rfl, Nat.zero_le _, by omega, Nat.le_refl _, by show _ = _; rw [aheadP_nil]; exact HO.out, World.ownsRow_nil _ _ _ _, Below.refl _ _⟩
  case round =>
    obtain ⟨n, k, acc, rfl, hk, hkn, hacc, Ho, hown, hB⟩ := hrel
    obtain ⟨va, vc, rfl⟩ := own_slice hown
    have HOwn := hide hown
    have HB := hide hB
    have hBs := hB.size
    clear hown hB
    have hki2 : (k : Int) ≤ (s.size : Int) := by omega
    by_cases hkk : k < s.size
    · have hki : (k : Int) < (s.size : Int) := by omega
      have hg := sb_get s k hkk
      by_cases h32 : sb s k = 32
      · have HE : Hid (aheadP acc (parseL n (s.data.toList.drop (k + 1))) = o0) := by
          show _ = _
          rw [← Ho.out, drop_blank s k hkk h32, parse_skip]
        rw [h32] at hg
        clear h32
        go_wp2_with fail
        go_roundw
        case rel => exact ⟨n, k + 1, acc, by go_num, by omega, by omega, by omega, HE.out, HOwn.out, HB.out⟩
        case measure => simp [intOf]; omega
      · have d32 : (sb s k == 32) = false := by simpa using h32
        have Hl := hide (drop_full s k hkk h32)
        clear h32
        obtain ⟨n', rfl⟩ : ∃ m, n = m + 1 := ⟨n - 1, by omega⟩
        go_wp2_with fail
        refine (rone_any s k _ (by omega) hk).mono ?_
        rintro e w2 ⟨hv, hb2⟩
        have HOwn2 := hide (own_below HOwn.out hb2)
        have HB2 := hide (below_via HB.out hb2)
        have hs2 := HB2.out.size
        clear hb2
        cases hq : pairL (s.data.toList.drop k) with
        | none =>
          have HE : Hid (o0 = none) := by
            show _ = _
            rw [← Ho.out, parse_bad n' _ _ _ Hl.out (by rw [← drop_cons s k hkk]; exact hq)]; rfl
          rw [hq] at hv
          clear hq
          obtain ⟨y, z, rfl⟩ := hv
          go_wp2_with fail
          go_returns
          rw [HP.out, HE.out]
          exact ⟨_, rfl, World.ownsRow_nil _ _ _ _, HB2.out.alloc hs2 _⟩
        | some q =>
          obtain ⟨⟨y, z⟩, r'⟩ := q
          obtain ⟨hsuf, hr', _, _⟩ := pairL_short _ _ _ hq
          have hsuf2 := hsuf.trans (List.drop_suffix _ _)
          have hl2 := hsuf2.length_le
          rw [list_size] at hl2
          rw [drop_len] at hr'
          have hr := List.suffix_iff_eq_drop.1 hsuf2
          rw [list_size] at hr
          have HE : Hid (aheadP (acc ++ [(y, z)]) (parseL n' r') = o0) := by
            show _ = _
            rw [← Ho.out, parse_pair n' _ _ _ (y, z) r' Hl.out (by rw [← drop_cons s k hkk]; exact hq), aheadP_cons]
          rw [hq] at hv
          clear hq hsuf hsuf2
          obtain ⟨m, hm⟩ : ∃ m, s.size - r'.length = m := ⟨_, rfl⟩
          rw [hm] at hr
          have hv2 : e = .returned (.tuple #[.agg #[.string y, .string z], .int .i64 ((s.size - r'.length : Nat) : Int)]) := hv
          rw [hm] at hv2
          clear hv
          subst hv2
          have hkm : k < m := by omega
          have hms : m ≤ s.size := by omega
          rw [hr] at HE
          clear hr hm hl2 hr'
          have hm0 : (0 : Int) ≤ (m : Int) := by omega
          go_upto_region 9 with fail
          refine Code.wp_named (fun W => Blk W w2.heap.size 31 #[.string y, .string z] ∧ Below w.heap.size w W ∧ W.ownsRow w.heap.size 31 2 (.slice va acc.length vc) acc.length (pairCells acc)) ⟨Blk.new w2 _ _, HB2.out.alloc hs2 _, HOwn2.out.alloc _⟩ ?_
          rintro W ⟨hy, hB3, hown3⟩
          have g0 := hy.cell 0
          have g1 := hy.cell 1
          simp at g0 g1
          have hs3 := hB3.size
          have HB3 := hide hB3
          clear hy hB3 HB2 HOwn2
          go_wp2_with (at_builtin; refine wpList_append_one W rfl _ _ 23 rfl w.heap.size 31 i0 (.agg #[.string ⟨#[]⟩, .string ⟨#[]⟩]) 2 32 Tryd.underlying23 hi hz0 hz1 hz2 rfl (by decide) _ acc.length _ [.string y, .string z] hown3 rfl rfl (by simp [Value.oneCell']) rfl (by simp [maxLen]; omega) (by omega) hs3 ?_; intro v1 w3 hown4 hb4 _)
          have HOwn4 := hide hown4
          have HB4 := hide (HB3.out.trans hb4)
          clear hown4 hb4
          go_roundw
          case rel => exact ⟨n', m, acc ++ [(y, z)], rfl, by omega, by omega, by simp; omega, HE.out, by rw [List.length_append, pairCells_snoc]; exact HOwn4.out, HB4.out⟩
          case measure => simp [intOf]; omega
    · have HE : Hid (o0 = some acc) := by
        show _ = _
        rw [← Ho.out, drop_none s k (by omega), parse_blank n [] rfl]; simp [aheadP]
      have hki : ¬ (k : Int) < (s.size : Int) := by omega
      go_wp2_with fail
      go_returns
      rw [HP.out, HE.out]
      exact ⟨_, rfl, HOwn.out, HB.out⟩
end Go.Proofs.YtaghhmnigjapoaaDoor
