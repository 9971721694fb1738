/-
  What dsn.Parse answers. No condition but on lengths.
-/
import Derived.Test.YtaghhmnigjapoaaDoorDsnD
namespace Go.Proofs.YtaghhmnigjapoaaDoor
open Go.RowKit
set_option linter.unusedVariables false
set_option linter.unusedSimpArgs false

theorem infoPair : (Tryd.prog.info? 31).map (fun i => (i.zero, i.size, i.bytes)) = some (some (.agg #[.string ⟨#[]⟩, .string ⟨#[]⟩]), 2, 32) := by kernel_rfl
def lenOf : Value → Nat | .slice _ n _ => n | _ => 0
theorem own_len {w : World} {base e size n : Nat} {v : Value} {xs : List Value} (h : w.ownsRow base e size v n xs) : lenOf v = n := by
  rcases h.2 with ⟨rfl, h0⟩ | ⟨g, cap, cur, rfl, _⟩
  · simp [lenOf]; omega
  · rfl
theorem own_slice {w : World} {base e size n : Nat} {v : Value} {xs : List Value} (h : w.ownsRow base e size v n xs) : ∃ a c, v = .slice a n c := by
  rcases h.2 with ⟨rfl, h0⟩ | ⟨g, cap, cur, rfl, _⟩
  · exact ⟨none, 0, by rw [h0]⟩
  · exact ⟨_, _, rfl⟩
theorem own_apart {w : World} {base e size n b : Nat} {t : TypeId} {cs : Array Value} {v : Value} {xs : List Value} (h : w.ownsRow base e size v n xs) (hb : Blk w b t cs) (ht : e ≠ t) : v.ownBlock ≠ some b := by
  rcases h.2 with ⟨rfl, h0⟩ | ⟨g, cap, cur, rfl, h1, hg, _⟩
  · simp [Value.ownBlock]
  · intro e
    have e2 : g = b := by simpa [Value.ownBlock] using e
    subst e2
    exact Blk.apart (show Blk w g _ _ from hg) hb ht rfl
theorem own_but {w w' : World} {base e size n b : Nat} {t : TypeId} {cs : Array Value} {v : Value} {xs : List Value} (h : w.ownsRow base e size v n xs) (hb : Blk w b t cs) (ht : e ≠ t) (k : But b w w') : w'.ownsRow base e size v n xs :=
  h.kept (row := some b) k (Or.inr (own_apart h hb ht))

def answerOf (o : Option (List (ByteArray × ByteArray))) : List (ByteArray × ByteArray) × Int := match o with | none => ([], 4) | some q => (q, 0)
theorem parseP_short (s : ByteArray) (h : ¬ 4096 < s.size) : parseP s = answerOf (parseL (s.size + 1) s.data.toList) := by
  unfold parseP; rw [if_neg h]; rfl
set_option maxHeartbeats 1000000 in
theorem parse_any (s : ByteArray) (w : World) :
    Calls Tryd.prog 7 #[.string s] w fun e w' => ∃ v, e = .returned (.tuple #[v, .int .i64 (parseP s).2]) ∧ w'.ownsRow w.heap.size 31 2 v (parseP s).1.length (pairCells (parseP s).1) ∧ Below w.heap.size w w' := by
  obtain ⟨i0, hi, hz0, hz1, hz2⟩ := info_parts infoPair
  by_cases h4 : 4096 < s.size
  · have hP : Hid (parseP s = ([], 5)) := by show _ = _; unfold parseP; rw [if_pos h4]
    have h4i : (4096 : Int) < (s.size : Int) := by omega
    go_enter Tryd.func7, Tryd.ntmps7
    go_wp2_with fail
    go_returns
    rw [hP.out]
    exact ⟨_, rfl, World.ownsRow_nil _ _ _ _, Below.refl _ _⟩
  have h4i : ¬ (4096 : Int) < (s.size : Int) := by omega
  obtain ⟨o0, ho0⟩ : ∃ o, parseL (s.size + 1) s.data.toList = o := ⟨_, rfl⟩
  have hP := parseP_short s h4
  rw [ho0] at hP
  obtain ⟨a, ha⟩ : ∃ a, parseP s = a := ⟨_, rfl⟩
  rw [ha] at hP
  rw [ha]
  have HP := hide hP
  have HO := hide ho0
  clear hP ho0 h4 ha
  go_enter Tryd.func7, Tryd.ntmps7
  go_wp2_with fail
  go_loopw [4] (fun v wr => ∃ (n : Nat) (r : List UInt8) (acc : List (ByteArray × ByteArray)), r.length < n ∧ acc.length + r.length ≤ s.size ∧ Hid (aheadP acc (parseL n r) = o0) ∧ Blk wr w.heap.size 38 #[.string (bs r)] ∧ wr.ownsRow (w.heap.size + 1) 31 2 v acc.length (pairCells acc) ∧ Below w.heap.size w wr) (fun v _ => (5000 - lenOf v))
  case atStart => exact ⟨s.size + 1, s.data.toList, [], by rw [list_size]; omega, by rw [list_size]; simp, by show _ = _; rw [aheadP_nil]; exact HO.out, by rw [bs_of]; exact Blk.new w _ _, World.ownsRow_nil _ _ _ _, (Below.refl _ _).alloc (Nat.le_refl _) _⟩
  case round =>
    obtain ⟨n, r, acc, hrn, hacc, Ho, hx, hown, hB⟩ := hrel
    have HX := hide hx
    have HOwn := hide hown
    have HB := hide hB
    obtain ⟨va, vc, rfl⟩ := own_slice hown
    clear hx hown hB
    go_wp2_with fail
    refine (skip_any w.heap.size (bs r) _ HX.out).mono ?_
    rintro e w1 ⟨rfl, hx1, hb1⟩
    rw [bs_list] at hx1
    have HOwn1 := hide (own_but HOwn.out HX.out (by decide) hb1)
    have HB1 := hide (HB.out.trans (hb1.toBelow (Nat.le_refl _) HB.out.size))
    clear hb1
    cases hl : r.dropWhile (· == 32) with
    | nil =>
      rw [hl] at hx1
      have HE : Hid (o0 = some acc) := by
        show _ = _
        rw [← Ho.out, parse_blank n r hl]; simp [aheadP]
      have e0 := hx1.cell 0
      simp at e0
      rw [show bs [] = ByteArray.empty from rfl] at e0
      clear hl hx1
      go_wp2_with fail
      go_returns
      rw [HP.out, HE.out]
      exact ⟨_, rfl, own_base HOwn1.out (Nat.le_succ _), HB1.out⟩
    | cons x t =>
      rw [hl] at hx1
      have hll : (x :: t).length ≤ r.length := by rw [← hl]; exact (List.dropWhile_sublist _).length_le
      have e0 := hx1.cell 0
      simp at e0
      have HX1 := hide hx1
      have Hl := hide hl
      clear hl hx1
      rcases empty_tests (bs (x :: t)) with ⟨h1, _⟩ | ⟨_, h1, h2⟩
      · rw [bs_size] at h1; simp at h1
      obtain ⟨n', rfl⟩ : ∃ m, n = m + 1 := ⟨n - 1, by omega⟩
      go_wp2_with fail
      refine (pair_any w.heap.size (bs (x :: t)) _ (by rw [bs_size]; omega) HX1.out).mono ?_
      intro e w2 hv
      rw [bs_list] at hv
      clear e0 h1 h2
      cases hq : pairL (x :: t) with
      | none =>
        have HE : Hid (o0 = none) := by
          show _ = _
          rw [← Ho.out, parse_bad n' r x t Hl.out hq]; rfl
        rw [hq] at hv
        clear hq
        obtain ⟨y, z, rfl, hb2⟩ := hv
        have HB2 := hide (HB1.out.trans (hb2.toBelow (Nat.le_refl _) HB1.out.size))
        have hs2 := HB2.out.size
        clear hb2
        go_wp2_with fail
        go_returns
        rw [HP.out, HE.out]
        exact ⟨_, rfl, World.ownsRow_nil _ _ _ _, HB2.out.alloc hs2 _⟩
      | some q =>
        obtain ⟨⟨y, z⟩, r'⟩ := q
        obtain ⟨_, hr', _, _⟩ := pairL_short _ _ _ hq
        have HE : Hid (aheadP (acc ++ [(y, z)]) (parseL n' r') = o0) := by
          show _ = _
          rw [← Ho.out, parse_pair n' r x t (y, z) r' Hl.out hq, aheadP_cons]
        rw [hq] at hv
        clear hq
        obtain ⟨rfl, hx2, hb2⟩ := hv
        have HX2 := hide hx2
        have HOwn2 := hide (own_but HOwn1.out HX1.out (by decide) hb2)
        have HB2 := hide (HB1.out.trans (hb2.toBelow (Nat.le_refl _) HB1.out.size))
        have hs2 := HB2.out.size
        clear hb2 hx2
        go_upto_region 9 with fail
        refine Code.wp_named (fun W => Blk W w2.heap.size 31 #[.string y, .string z] ∧ Below w.heap.size w W ∧ W.ownsRow (w.heap.size + 1) 31 2 (.slice va acc.length vc) acc.length (pairCells acc) ∧ Blk W w.heap.size 38 #[.string (bs r')]) ⟨Blk.new w2 _ _, HB2.out.alloc hs2 _, HOwn2.out.alloc _, HX2.out.alloc _⟩ ?_
        rintro W ⟨hy, hB3, hown3, hx3⟩
        have g0 := hy.cell 0
        have g1 := hy.cell 1
        simp at g0 g1
        have hs3 : w.heap.size + 1 ≤ W.heap.size := hx3.lt
        have HB3 := hide hB3
        have HX3 := hide hx3
        clear hy hB3 hx3 HX2 HB2 HOwn2
        go_wp2_with (at_builtin; refine wpList_append_one W rfl _ _ 23 rfl (w.heap.size + 1) 31 i0 (.agg #[.string ⟨#[]⟩, .string ⟨#[]⟩]) 2 32 Tryd.underlying23 hi hz0 hz1 hz2 rfl (by decide) _ acc.length _ [.string y, .string z] hown3 rfl rfl (by simp [Value.oneCell']) rfl (by simp [maxLen]; omega) (by omega) hs3 ?_; intro v1 w3 hown4 hb4 _)
        have HOwn4 := hide hown4
        have HX4 := hide (HX3.out.below hb4 (Nat.lt_succ_self _))
        have HB4 := hide (HB3.out.trans (hb4.mono (Nat.le_succ _)))
        have HL4 := hide (own_len hown4)
        clear hown4 hb4
        go_roundw
        case rel => exact ⟨n', r', acc ++ [(y, z)], by omega, by simp; omega, HE.out, HX4.out, by rw [List.length_append, pairCells_snoc]; exact HOwn4.out, HB4.out⟩
        case measure => show 5000 - lenOf v1 < 5000 - acc.length; rw [HL4.out]; omega
end Go.Proofs.YtaghhmnigjapoaaDoor
