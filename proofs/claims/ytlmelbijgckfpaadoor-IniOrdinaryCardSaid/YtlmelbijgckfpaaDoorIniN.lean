/-
  Equal settings; settings that are too long. No condition but on lengths.
-/
import Derived.Test.YtlmelbijgckfpaaDoorIniE
import Derived.Test.YtlmelbijgckfpaaDoorIniM
import Derived.RegionTactic
namespace Go.Proofs.YtlmelbijgckfpaaDoor
open Go.RowKit
set_option linter.unusedVariables false
set_option linter.unusedSimpArgs false
set_option maxRecDepth 100000

/-- Pair j of a row. -/
def pj (ps : List (ByteArray × ByteArray)) (j : Nat) : ByteArray × ByteArray := ps.getD j default
/-- Slice v is the pairs ps. -/
def PairsAt (w : World) (v : Value) (ps : List (ByteArray × ByteArray)) : Prop :=
  ∃ a cap, v = .slice a ps.length cap ∧ (ps = [] ∨ ∃ b off, a = some ⟨b, off, none⟩ ∧ b < w.heap.size ∧ ∀ j, j < ps.length → w.cell? ⟨b, off + j * 2, none⟩ = some (.string (pj ps j).1) ∧ w.cell? ⟨b, off + j * 2 + 1, none⟩ = some (.string (pj ps j).2))
theorem PairsAt.below {w w' : World} {v : Value} {ps : List (ByteArray × ByteArray)} (h : PairsAt w v ps) (hb : Below w.heap.size w w') : PairsAt w' v ps := by
  obtain ⟨a, cap, rfl, h⟩ := h
  refine ⟨a, cap, rfl, h.imp id ?_⟩
  rintro ⟨b, off, rfl, hlt, hc⟩
  refine ⟨b, off, rfl, Nat.lt_of_lt_of_le hlt hb.size, fun j hj => ?_⟩
  have h1 := hb.cell (p := ⟨b, off + j * 2, none⟩) hlt
  have h2 := hb.cell (p := ⟨b, off + j * 2 + 1, none⟩) hlt
  rw [h1, h2]
  exact hc j hj
theorem pairCells_at (ps : List (ByteArray × ByteArray)) (j : Nat) (h : j < ps.length) : (pairCells ps)[j * 2]? = some (.string (pj ps j).1) ∧ (pairCells ps)[j * 2 + 1]? = some (.string (pj ps j).2) := by
  induction ps generalizing j with
  | nil => simp at h
  | cons p ps ih =>
    have e : pairCells (p :: ps) = .string p.1 :: .string p.2 :: pairCells ps := rfl
    rw [e]
    cases j with
    | zero => exact ⟨rfl, rfl⟩
    | succ j =>
      obtain ⟨h1, h2⟩ := ih j (by simpa using h)
      rw [show (j + 1) * 2 = j * 2 + 1 + 1 by omega]
      exact ⟨h1, h2⟩
theorem PairsAt.of_own {w : World} {base : Nat} {v : Value} {ps : List (ByteArray × ByteArray)} (h : w.ownsRow base 40 2 v ps.length (pairCells ps)) : PairsAt w v ps := by
  cases ps with
  | nil =>
    obtain ⟨a, c, rfl⟩ := own_slice h
    exact ⟨a, c, rfl, Or.inl rfl⟩
  | cons p ps =>
    obtain ⟨g, cap, rfl, _, hg, _, _, _, hc⟩ := own_form h (by simp)
    refine ⟨_, cap, rfl, Or.inr ⟨g, 0, rfl, hg, fun j hj => ?_⟩⟩
    obtain ⟨h1, h2⟩ := pairCells_at _ j hj
    exact ⟨by rw [Nat.zero_add, hc _ (by omega)]; exact h1, by rw [Nat.zero_add, hc _ (by omega)]; exact h2⟩
theorem take_pj (ps : List (ByteArray × ByteArray)) (k : Nat) (h : k < ps.length) : ps.take (k + 1) = ps.take k ++ [pj ps k] := by
  rw [List.take_add_one, List.getElem?_eq_getElem h]
  unfold pj
  rw [List.getD_eq_getElem?_getD, List.getElem?_eq_getElem h]; rfl
theorem pj_of_eq {ps qs : List (ByteArray × ByteArray)} (k : Nat) (h : ps = qs) : pj ps k = pj qs k := by rw [h]

/-- Whether rows are one. -/
def rowEq (ps qs : List (ByteArray × ByteArray)) : Bool := decide (ps = qs)
theorem rowEq_no {ps qs : List (ByteArray × ByteArray)} (h : ps ≠ qs) : rowEq ps qs = false := decide_eq_false h
theorem rowEq_yes {ps qs : List (ByteArray × ByteArray)} (h : ps = qs) : rowEq ps qs = true := decide_eq_true h
set_option maxHeartbeats 1000000 in
theorem equal_any (v v' : Value) (ps qs : List (ByteArray × ByteArray)) (w : World) (hl : ps.length ≤ 1000000) (hl' : qs.length ≤ 1000000) (hv : PairsAt w v ps) (hv' : PairsAt w v' qs) :
    Calls Tryd.prog 49 #[v, v'] w fun e w' => e = .returned (.bool (rowEq ps qs)) ∧ Below w.heap.size w w' := by
  obtain ⟨a, cap, rfl, hv⟩ := hv
  obtain ⟨a', cap', rfl, hv'⟩ := hv'
  have HV := hide hv
  have HV' := hide hv'
  clear hv hv'
  by_cases hz : ps.length = qs.length
  · have HZ := hide hz
    rw [← hz]
    clear hz hl'
    go_enter Tryd.func49, Tryd.ntmps49
    go_wp2_with fail
    go_loopw [13] (fun i wr => ∃ k : Nat, i = .int .i64 k ∧ k ≤ ps.length ∧ Hid (ps.take k = qs.take k) ∧ Below w.heap.size w wr) (fun i _ => (ps.length - (intOf i).toNat))
    case atStart => exact ⟨0, rfl, Nat.zero_le _, rfl, Below.refl _ _⟩
    case round =>
      obtain ⟨k, rfl, hk, HK, hB⟩ := hrel
      have HB := hide hB
      have hBs := hB.size
      by_cases hkk : k < ps.length
      · have hki : (k : Int) < (ps.length : Int) := by omega
        have hk0 : (0 : Int) ≤ (k : Int) := by omega
        rcases HV.out with h0 | ⟨b, off, rfl, hb, hc⟩
        · subst h0; simp at hkk
        rcases HV'.out with h0 | ⟨b', off', rfl, hb', hc'⟩
        · have := HZ.out; subst h0; rw [List.length_nil] at this; omega
        obtain ⟨c0, c1⟩ := hc k hkk
        obtain ⟨d0, d1⟩ := hc' k (by have := HZ.out; omega)
        rw [← hB.cell hb] at c0 c1
        rw [← hB.cell hb'] at d0 d1
        have HT := hide (take_pj ps k hkk)
        have HT' := hide (take_pj qs k (by have := HZ.out; omega))
        clear hc hc' hB
        obtain ⟨⟨n, x⟩, hp⟩ : ∃ p, pj ps k = p := ⟨_, rfl⟩
        obtain ⟨⟨n', x'⟩, hq⟩ : ∃ p, pj qs k = p := ⟨_, rfl⟩
        have HP := hide hp
        have HQ := hide hq
        rw [hp] at c0 c1
        rw [hq] at d0 d1
        clear hp hq
        have hne := pair_neq
        have hg := pair_guard
        by_cases he : (n, x) = (n', x')
        · have hd : pEq (n, x) (n', x') = true := decide_eq_true he
          have HE : Hid (ps.take (k + 1) = qs.take (k + 1)) := by show _ = _; rw [HT.out, HT'.out, HK.out, HP.out, HQ.out, he]
          clear he
          go_wp2_with fail
          go_quiet (fail)
          go_wp2_with fail
          go_roundw
          case rel => exact ⟨k + 1, by go_num, by omega, HE.out, below_drewN HB.out _⟩
          case measure => simp [intOf]; omega
        · have hd : pEq (n, x) (n', x') = false := decide_eq_false he
          have HE : Hid (rowEq ps qs = false) := rowEq_no fun e => he (by rw [← HP.out, ← HQ.out]; exact pj_of_eq k e)
          clear he
          go_wp2_with fail
          go_quiet (fail)
          go_wp2_with fail
          go_returns
          exact ⟨by rw [HE.out]; rfl, below_drewN HB.out _⟩
      · have hki : ¬ (k : Int) < (ps.length : Int) := by omega
        have HE : Hid (rowEq ps qs = true) := rowEq_yes (by
          have h := HK.out
          rwa [List.take_of_length_le (by omega), List.take_of_length_le (by have := HZ.out; omega)] at h)
        clear hB
        go_wp2_with fail
        go_returns
        exact ⟨by rw [HE.out]; rfl, HB.out⟩
  · have HE : Hid (rowEq ps qs = false) := rowEq_no fun e => hz (by rw [e])
    have hz1 : ¬ (ps.length : Int) = (qs.length : Int) := by omega
    have hz2 : ((ps.length : Int) == (qs.length : Int)) = false := by simpa using hz1
    clear hz
    go_enter Tryd.func49, Tryd.ntmps49
    go_wp2_with fail
    go_returns
    exact ⟨by rw [HE.out]; rfl, Below.refl _ _⟩
end Go.Proofs.YtlmelbijgckfpaaDoor
