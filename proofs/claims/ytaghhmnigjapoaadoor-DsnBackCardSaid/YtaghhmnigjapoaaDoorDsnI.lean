/-
  What Get answers; equal rows. No condition but on lengths.
-/
import Derived.Test.YtaghhmnigjapoaaDoorDsnH
import Derived.Laws.StructEq
import Derived.RegionTactic
namespace Go.Proofs.YtaghhmnigjapoaaDoor
open Go.RowKit
set_option linter.unusedVariables false
set_option linter.unusedSimpArgs false

/-- Pair j of a row. -/
def pj (ps : List (ByteArray × ByteArray)) (j : Nat) : ByteArray × ByteArray := ps.getD j default
/-- Slice v is the pairs ps. -/
def PairsAt (w : World) (v : Value) (ps : List (ByteArray × ByteArray)) : Prop :=
  ∃ a cap, v = .slice a ps.length cap ∧ (ps = [] ∨ ∃ b off, a = some ⟨b, off, none⟩ ∧ b < w.heap.size ∧ ∀ j, j < ps.length → w.cell? ⟨b, off + j * 2, none⟩ = some (.string (pj ps j).1) ∧ w.cell? ⟨b, off + j * 2 + 1, none⟩ = some (.string (pj ps j).2))
theorem PairsAt.below {w w' : World} {v : Value} {ps : List (ByteArray × ByteArray)} (h : PairsAt w v ps) (hb : Below w.heap.size w w') : PairsAt w' v ps := by
  obtain ⟨a, cap, rfl, h⟩ := h
  refine ⟨a, cap, rfl, h.imp id ?_⟩
  rintro ⟨b, off, rfl, hlt, hc⟩
  refine ⟨b, off, rfl, Nat.lt_of_lt_of_le hlt hb.size, fun j hj => ?_⟩
  have h1 := hb.cell (p := ⟨b, off + j * 2, none⟩) hlt
  have h2 := hb.cell (p := ⟨b, off + j * 2 + 1, none⟩) hlt
  rw [h1, h2]
  exact hc j hj
theorem pairCells_at (ps : List (ByteArray × ByteArray)) (j : Nat) (h : j < ps.length) : (pairCells ps)[j * 2]? = some (.string (pj ps j).1) ∧ (pairCells ps)[j * 2 + 1]? = some (.string (pj ps j).2) := by
  induction ps generalizing j with
  | nil => simp at h
  | cons p ps ih =>
    have e : pairCells (p :: ps) = .string p.1 :: .string p.2 :: pairCells ps := rfl
    rw [e]
    cases j with
    | zero => exact ⟨rfl, rfl⟩
    | succ j =>
      obtain ⟨h1, h2⟩ := ih j (by simpa using h)
      rw [show (j + 1) * 2 = j * 2 + 1 + 1 by omega]
      exact ⟨h1, h2⟩
theorem PairsAt.of_own {w : World} {base : Nat} {v : Value} {ps : List (ByteArray × ByteArray)} (h : w.ownsRow base 31 2 v ps.length (pairCells ps)) : PairsAt w v ps := by
  cases ps with
  | nil =>
    obtain ⟨a, c, rfl⟩ := own_slice h
    exact ⟨a, c, rfl, Or.inl rfl⟩
  | cons p ps =>
    obtain ⟨g, cap, rfl, _, hg, _, _, _, hc⟩ := own_form h (by simp)
    refine ⟨_, cap, rfl, Or.inr ⟨g, 0, rfl, hg, fun j hj => ?_⟩⟩
    obtain ⟨h1, h2⟩ := pairCells_at _ j hj
    exact ⟨by rw [Nat.zero_add, hc _ (by omega)]; exact h1, by rw [Nat.zero_add, hc _ (by omega)]; exact h2⟩

def getP (ps : List (ByteArray × ByteArray)) (name : ByteArray) : Option ByteArray := ps.foldl (fun o p => if p.1 = name then some p.2 else o) none
theorem getP_snoc (ps : List (ByteArray × ByteArray)) (name : ByteArray) (j : Nat) (h : j < ps.length) : getP (ps.take (j + 1)) name = if (pj ps j).1 = name then some (pj ps j).2 else getP (ps.take j) name := by
  unfold getP pj
  rw [List.take_add_one, List.getElem?_eq_getElem h, List.foldl_append, List.getD_eq_getElem?_getD, List.getElem?_eq_getElem h]
  rfl
def getV (o : Option ByteArray) : Value := .tuple #[.string (o.getD ⟨#[]⟩), .bool o.isSome]
theorem eq_tests (a b : ByteArray) : (a = b ∧ (a.toList == b.toList) = true) ∨ (a ≠ b ∧ (a.toList == b.toList) = false) := by
  by_cases h : a = b
  · subst h; exact Or.inl ⟨rfl, by simp⟩
  · refine Or.inr ⟨h, ?_⟩
    have h2 : a.toList ≠ b.toList := by
      rw [ByteArray.toList_eq, ByteArray.toList_eq]
      intro e
      exact h ((ext_iff a b).2 e)
    simpa using h2

theorem get_any (v : Value) (ps : List (ByteArray × ByteArray)) (name : ByteArray) (w : World) (hl : ps.length ≤ 1000000) (hv : PairsAt w v ps) :
    Calls Tryd.prog 9 #[v, .string name] w fun e w' => e = .returned (getV (getP ps name)) ∧ Below w.heap.size w w' := by
  obtain ⟨a, cap, rfl, hv⟩ := hv
  have HV := hide hv
  clear hv
  go_enter Tryd.func9, Tryd.ntmps9
  go_wp2_with fail
  go_loopw [6, 7, 12] (fun x y i wr => ∃ k : Nat, i = .int .i64 k ∧ k ≤ ps.length ∧ x = .string ((getP (ps.take k) name).getD ⟨#[]⟩) ∧ y = .bool (getP (ps.take k) name).isSome ∧ Below w.heap.size w wr) (fun _ _ i _ => (ps.length - (intOf i).toNat))
  case atStart => exact ⟨0, rfl, Nat.zero_le _, rfl, rfl, Below.refl _ _⟩
  case round =>
    obtain ⟨k, rfl, hk, rfl, rfl, hB⟩ := hrel
    have HB := hide hB
    have hBs := hB.size
    by_cases hkk : k < ps.length
    · have hki : (k : Int) < (ps.length : Int) := by omega
      rcases HV.out with h0 | ⟨b, off, rfl, hb, hc⟩
      · subst h0; simp at hkk
      obtain ⟨c0, c1⟩ := hc k hkk
      rw [← hB.cell hb] at c0 c1
      have HS := hide (getP_snoc ps name k hkk)
      clear hc hB
      obtain ⟨n, hn⟩ : ∃ n, (pj ps k).1 = n := ⟨_, rfl⟩
      obtain ⟨x, hx⟩ : ∃ x, (pj ps k).2 = x := ⟨_, rfl⟩
      rw [hn] at c0 HS
      rw [hx] at c1 HS
      have Hn := hide hn
      have Hx := hide hx
      clear hn hx
      rcases eq_tests n name with ⟨h1, h2⟩ | ⟨h1, h2⟩
      · have HE : Hid (getP (ps.take (k + 1)) name = some x) := by show _ = _; rw [HS.out, if_pos h1]
        clear h1 HS
        go_wp2_with fail
        go_roundw
        case rel => exact ⟨k + 1, by go_num, by omega, by rw [HE.out]; rfl, by rw [HE.out]; rfl, HB.out.alloc hBs _⟩
        case measure => simp [intOf]; omega
      · have HE : Hid (getP (ps.take (k + 1)) name = getP (ps.take k) name) := by show _ = _; rw [HS.out, if_neg h1]
        clear h1 HS
        go_wp2_with fail
        go_roundw
        case rel => exact ⟨k + 1, by go_num, by omega, by rw [HE.out], by rw [HE.out], HB.out.alloc hBs _⟩
        case measure => simp [intOf]; omega
    · have hki : ¬ (k : Int) < (ps.length : Int) := by omega
      have HE : Hid (ps.take k = ps) := List.take_of_length_le (by omega)
      clear hB
      go_wp2_with fail
      go_returns
      rw [HE.out]
      exact ⟨rfl, HB.out⟩

theorem rget_any (v : Value) (ps : List (ByteArray × ByteArray)) (name : ByteArray) (w : World) (hl : ps.length ≤ 1000000) (hv : PairsAt w v ps) :
    Calls Tryd.prog 10 #[v, .string name] w fun e w' => e = .returned (getV (getP ps name)) ∧ Below w.heap.size w w' := by
  obtain ⟨a, cap, rfl, hv⟩ := hv
  have HV := hide hv
  clear hv
  go_enter Tryd.func10, Tryd.ntmps10
  go_wp2_with fail
  go_loopw [6] (fun i wr => ∃ m : Nat, i = .int .i64 ((m : Int) - 1) ∧ m ≤ ps.length ∧ Hid (getP (ps.take m) name = getP ps name) ∧ Below w.heap.size w wr) (fun i _ => (intOf i + 1).toNat)
  case atStart => exact ⟨ps.length, rfl, Nat.le_refl _, by show _ = _; rw [List.take_length], Below.refl _ _⟩
  case round =>
    obtain ⟨m, rfl, hm, Hg, hB⟩ := hrel
    have HB := hide hB
    have hBs := hB.size
    rcases m with _ | k
    · have HE : Hid (getP ps name = none) := Hg.out.symm
      clear hB
      go_wp2_with fail
      go_returns
      rw [HE.out]
      exact ⟨rfl, HB.out⟩
    · have hkk : k < ps.length := by omega
      have hj : ((k + 1 : Nat) : Int) - 1 = k := by omega
      rw [hj]
      clear hj
      rcases HV.out with h0 | ⟨b, off, rfl, hb, hc⟩
      · subst h0; simp at hkk
      have hki : (k : Int) < (ps.length : Int) := by omega
      obtain ⟨c0, c1⟩ := hc k hkk
      rw [← hB.cell hb] at c0 c1
      have HS := hide (getP_snoc ps name k hkk)
      clear hc hB
      obtain ⟨n, hn⟩ : ∃ n, (pj ps k).1 = n := ⟨_, rfl⟩
      obtain ⟨x, hx⟩ : ∃ x, (pj ps k).2 = x := ⟨_, rfl⟩
      rw [hn] at c0 HS
      rw [hx] at c1 HS
      have Hn := hide hn
      have Hx := hide hx
      clear hn hx
      rcases eq_tests n name with ⟨h1, h2⟩ | ⟨h1, h2⟩
      · have HE : Hid (getP ps name = some x) := by show _ = _; rw [← Hg.out, HS.out, if_pos h1]
        clear h1 HS
        go_wp2_with fail
        go_returns
        rw [HE.out]
        exact ⟨rfl, HB.out⟩
      · have HE : Hid (getP (ps.take k) name = getP ps name) := by show _ = _; rw [← Hg.out, HS.out, if_neg h1]
        clear h1 HS
        go_wp2_with fail
        go_roundw
        case rel => exact ⟨k, rfl, by omega, HE.out, HB.out⟩
        case measure => simp [intOf]

theorem pair_equal (a b : ByteArray) (w : World) : (Op.equalIn 10000 31 (.agg #[.string a, .string b]) (.agg #[.string a, .string b])).run Tryd.prog w = .ok true w := by
  rw [run_equalIn_struct w 9999 31 _ _ (by kernel_rfl) (by kernel_rfl)]
  simp only [Program.fieldsOf, Tryd.underlying31]
  simp [Op.eqFields, go_sem]
theorem pair_neq (a b : ByteArray) (w : World) : (binOp .neq 31 (.agg #[.string a, .string b]) (.agg #[.string a, .string b])).run Tryd.prog w = .ok (.bool false) w := by
  rw [run_neq_struct, pair_equal]; rfl
theorem pair_guard (op : BinOp) (x y : Operand) (xs ys : Array Value) (w : World) : (eqGuard op 31 x y (.agg xs) (.agg ys)).run Tryd.prog w = .ok () w :=
  run_eqGuard_agg w op _ x y xs ys (by kernel_rfl)
theorem equal_any (v v' : Value) (ps : List (ByteArray × ByteArray)) (w : World) (hl : ps.length ≤ 1000000) (hv : PairsAt w v ps) (hv' : PairsAt w v' ps) :
    Calls Tryd.prog 11 #[v, v'] w fun e w' => e = .returned (.bool true) ∧ Below w.heap.size w w' := by
  obtain ⟨a, cap, rfl, hv⟩ := hv
  obtain ⟨a', cap', rfl, hv'⟩ := hv'
  have HV := hide hv
  have HV' := hide hv'
  clear hv hv'
  go_enter Tryd.func11, Tryd.ntmps11
  go_wp2_with fail
  go_loopw [13] (fun i wr => ∃ k : Nat, i = .int .i64 k ∧ k ≤ ps.length ∧ Below w.heap.size w wr) (fun i _ => (ps.length - (intOf i).toNat))
  case atStart => exact ⟨0, rfl, Nat.zero_le _, Below.refl _ _⟩
  case round =>
    obtain ⟨k, rfl, hk, hB⟩ := hrel
    have HB := hide hB
    have hBs := hB.size
    by_cases hkk : k < ps.length
    · have hki : (k : Int) < (ps.length : Int) := by omega
      have hk0 : (0 : Int) ≤ (k : Int) := by omega
      rcases HV.out with h0 | ⟨b, off, rfl, hb, hc⟩
      · subst h0; simp at hkk
      rcases HV'.out with h0 | ⟨b', off', rfl, hb', hc'⟩
      · subst h0; simp at hkk
      obtain ⟨c0, c1⟩ := hc k hkk
      obtain ⟨d0, d1⟩ := hc' k hkk
      rw [← hB.cell hb] at c0 c1
      rw [← hB.cell hb'] at d0 d1
      clear hc hc' hB
      generalize (pj ps k).1 = n at c0 d0
      generalize (pj ps k).2 = x at c1 d1
      have hne := pair_neq
      have hg := pair_guard
      go_wp2_with fail
      go_quiet (fail)
      go_wp2_with fail
      go_roundw
      case rel => exact ⟨k + 1, by go_num, by omega, below_drewN HB.out _⟩
      case measure => simp [intOf]; omega
    · have hki : ¬ (k : Int) < (ps.length : Int) := by omega
      clear hB
      go_wp2_with fail
      go_returns
      exact ⟨rfl, HB.out⟩
end Go.Proofs.YtaghhmnigjapoaaDoor
