/-
  The walks of the laws DsnPrints and DsnBack; a slice of pairs that came in. No condition.
-/
import Derived.Test.YtaghhmnigjapoaaDoorDsnN
import Derived.Test.YtaghhmnigjapoaaDoorOpen
import Derived.Shelf.Vars
namespace Go.Proofs.YtaghhmnigjapoaaDoor
open Go.RowKit
set_option linter.unusedVariables false
set_option linter.unusedSimpArgs false

theorem print_two (ps : List (ByteArray × ByteArray)) (q : ByteArray) (z : Int) (h : printP ps = (q, z)) : (z = 0 ∧ parseP q = (ps, 0)) ∨ (z = 1 ∧ q = ⟨#[]⟩) := by
  have hb := back_plain ps
  rw [h] at hb
  unfold printP at h
  split at h
  · cases h
    exact Or.inl ⟨rfl, hb rfl⟩
  · cases h
    exact Or.inr ⟨rfl, rfl⟩

theorem prints_any (v : Value) (ps : List (ByteArray × ByteArray)) (w : World) (hl : ps.length ≤ 9223372036854775807) (hv : PairsAt w v ps) (hM : MaxAt w) :
    Calls Tryd.prog 4 #[v] w fun e w' => e = .returned (.bool true) ∧ Below w.heap.size w w' := by
  obtain ⟨⟨q, z⟩, hq⟩ : ∃ x, printP ps = x := ⟨_, rfl⟩
  have HQ := hide hq
  have HV := hide hv
  have HM := hide hM
  obtain ⟨a, cap, rfl, _⟩ := hv
  clear hq hM
  go_enter Tryd.func4, Tryd.ntmps4
  go_wp2_with fail
  refine (far_any _ ps _ hl HV.out).mono ?_
  rintro e w1 ⟨hf, hb1⟩
  have HV1 := hide (HV.out.below hb1)
  have HM1 := hide (HM.out.below hb1)
  have HB1 := hide hb1
  clear hb1 HV HM
  rcases hf with rfl | ⟨rfl, hn⟩
  · go_wp2_with fail
    refine (awake_any _).mono ?_
    rintro e w2 ⟨rfl, hb2⟩
    have HB2 := hide (below_via HB1.out hb2)
    clear hb2
    go_wp2_with fail
    go_returns
    exact ⟨rfl, HB2.out⟩
  · have HN := hide hn
    clear hn
    go_wp2_with fail
    refine (print_any _ ps _ HN.out HV1.out HM1.out).mono ?_
    rintro e w2 ⟨rfl, hb2⟩
    rw [HQ.out]
    have HV2 := hide (HV1.out.below hb2)
    have HB2 := hide (below_via HB1.out hb2)
    clear hb2
    rw [show ((q, z) : ByteArray × Int).1 = q from rfl, show ((q, z) : ByteArray × Int).2 = z from rfl]
    go_wp2_with fail
    refine (rprint_any _ ps _ HN.out HV2.out).mono ?_
    rintro e w3 ⟨rfl, hb3⟩
    rw [HQ.out]
    have HB3 := hide (below_via HB2.out hb3)
    clear hb3
    rw [show ((q, z) : ByteArray × Int).1 = q from rfl, show ((q, z) : ByteArray × Int).2 = z from rfl]
    go_wp2_with fail
    refine (awake_any _).mono ?_
    rintro e w4 ⟨rfl, hb4⟩
    have HB4 := hide (below_via HB3.out hb4)
    clear hb4
    go_wp2_with fail
    go_returns
    exact ⟨rfl, HB4.out⟩

theorem back_any (v : Value) (ps : List (ByteArray × ByteArray)) (w : World) (hl : ps.length ≤ 9223372036854775807) (hv : PairsAt w v ps) (hM : MaxAt w) :
    Calls Tryd.prog 5 #[v] w fun e w' => e = .returned (.bool true) ∧ Below w.heap.size w w' := by
  obtain ⟨⟨q, z⟩, hq⟩ : ∃ x, printP ps = x := ⟨_, rfl⟩
  have H2 := hide (print_two ps q z hq)
  have HQ := hide hq
  have HV := hide hv
  have HM := hide hM
  obtain ⟨a, cap, rfl, _⟩ := hv
  clear hq hM
  go_enter Tryd.func5, Tryd.ntmps5
  go_wp2_with fail
  refine (far_any _ ps _ hl HV.out).mono ?_
  rintro e w1 ⟨hf, hb1⟩
  have HV1 := hide (HV.out.below hb1)
  have HM1 := hide (HM.out.below hb1)
  have HB1 := hide hb1
  clear hb1 HV HM
  rcases hf with rfl | ⟨rfl, hn⟩
  · go_wp2_with fail
    refine (awake_any _).mono ?_
    rintro e w2 ⟨rfl, hb2⟩
    have HB2 := hide (below_via HB1.out hb2)
    clear hb2
    go_wp2_with fail
    go_returns
    exact ⟨rfl, HB2.out⟩
  · have HN := hide hn
    clear hn
    go_wp2_with fail
    refine (print_any _ ps _ HN.out HV1.out HM1.out).mono ?_
    rintro e w2 ⟨rfl, hb2⟩
    rw [HQ.out]
    have HV2 := hide (HV1.out.below hb2)
    have HB2 := hide (below_via HB1.out hb2)
    clear hb2
    rw [show ((q, z) : ByteArray × Int).1 = q from rfl, show ((q, z) : ByteArray × Int).2 = z from rfl]
    rcases H2.out with ⟨rfl, hp⟩ | ⟨rfl, rfl⟩
    · have HP := hide hp
      have hl2 := HN.out.1
      clear hp H2
      go_wp2_with fail
      refine (parse_any q _).mono ?_
      rintro e w3 ⟨v, rfl, hown, hb3⟩
      rw [HP.out] at hown ⊢
      have HV3 := hide (HV2.out.below hb3)
      have HV4 := hide (PairsAt.of_own hown)
      have HB3 := hide (below_via HB2.out hb3)
      obtain ⟨a2, c2, rfl⟩ := own_slice hown
      clear hown hb3
      rw [show ((ps, (0 : Int))).2 = 0 from rfl]
      go_wp2_with fail
      refine (equal_any _ _ ps _ (by omega) HV3.out HV4.out).mono ?_
      rintro e w4 ⟨rfl, hb4⟩
      have HB4 := hide (below_via HB3.out hb4)
      clear hb4
      go_wp2_with fail
      refine (awake_any _).mono ?_
      rintro e w5 ⟨rfl, hb5⟩
      have HB5 := hide (below_via HB4.out hb5)
      clear hb5
      go_wp2_with fail
      go_returns
      exact ⟨rfl, HB5.out⟩
    · clear H2 HQ
      go_wp2_with fail
      refine (awake_any _).mono ?_
      rintro e w5 ⟨rfl, hb5⟩
      have HB5 := hide (below_via HB2.out hb5)
      clear hb5
      go_wp2_with fail
      go_returns
      exact ⟨rfl, HB5.out⟩

open Go.ChangeShapes Go.WideShapes Go.Deep Go.ChangeAt in
theorem read_pairs_arg {H : Type} {enc : TypeId × Value → H} {w : World} {v : Value} {d : DataW H} {p : List MemPlace} {r : Reach} {b0 : Nat} (hv : Value.okWide Tryd.prog w r b0 23 v) (h : DataW.Trod enc Tryd.prog w 0 (fun _ => true) true 23 v d p) :
    ∃ ps, ps.length ≤ maxLen ∧ PairsAt w v ps := by
  obtain ⟨a, len, cap, rfl⟩ := okWide_slice Tryd.underlying23 hv
  obtain ⟨fuel, hf⟩ := h
  rcases open_struct_cells Tryd.underlying23 Tryd.underlying31 (by kernel_rfl) (by kernel_rfl : Tryd.prog.cellsOf 31 = 2) rfl hf with hcs | ⟨a', len', cap', hcs, h1, h2, hc⟩
  · simp [Value.cells] at hcs
    obtain ⟨rfl, rfl, rfl⟩ := hcs
    exact ⟨[], Nat.zero_le _, none, 0, rfl, Or.inl rfl⟩
  · simp [Value.cells] at hcs
    obtain ⟨rfl, rfl, rfl⟩ := hcs
    have each : ∀ i, i < len → ∃ q : ByteArray × ByteArray, w.cell? (a'.add (i * 2 + 0)) = some (.string q.1) ∧ w.cell? (a'.add (i * 2 + 1)) = some (.string q.2) := by
      intro i hi
      obtain ⟨u0, y0, m0, hu0, ht0⟩ := hc i hi 0 _ rfl
      obtain ⟨u1, y1, m1, hu1, ht1⟩ := hc i hi 1 _ rfl
      obtain ⟨s0, hs0, _, _⟩ := DataW.trod_string Tryd.underlying9 ht0
      obtain ⟨s1, hs1, _, _⟩ := DataW.trod_string Tryd.underlying9 ht1
      cases hs0
      cases hs1
      have e0 := hu0
      have e1 := hu1
      exact ⟨(s0, s1), e0, e1⟩
    obtain ⟨Z, hZ⟩ := choose_lt (α := ByteArray × ByteArray) each
    have hL : ((List.range len).map Z).length = len := by simp
    refine ⟨(List.range len).map Z, by rw [hL]; omega, some a', cap, by rw [hL], ?_⟩
    by_cases h0 : len = 0
    · left; subst h0; rfl
    · right
      obtain ⟨b, off, rfl, hlt⟩ := spotless (show w.cell? (a'.add 0) = _ from by have := (hZ 0 (by omega)).1; rw [Nat.zero_mul] at this; exact this)
      refine ⟨b, off, rfl, hlt, fun j hj => ?_⟩
      rw [hL] at hj
      obtain ⟨e0, e1⟩ := hZ j hj
      rw [Addr.add_lit] at e0 e1
      have hpj : pj ((List.range len).map Z) j = Z j := by
        unfold pj
        rw [List.getD_eq_getElem?_getD, List.getElem?_map, List.getElem?_range hj]; rfl
      rw [hpj]
      exact ⟨e0, by rw [Nat.add_assoc]; exact e1⟩
theorem max_at {w : World} (h : w.ShapedOpen Tryd.prog) : MaxAt w := by
  obtain ⟨m, hm⟩ := Go.Proofs.cell_of_shapedOpen_int (g := 0) (zero := #[.int .i64 0]) (t := 3) h (of_decide_eq_true (by kernel_rfl)) (by kernel_rfl) rfl (by kernel_rfl) (by kernel_rfl) Tryd.underlying3
  exact ⟨World.block_lt_of_cell? w _ hm, m, hm⟩
end Go.Proofs.YtaghhmnigjapoaaDoor
