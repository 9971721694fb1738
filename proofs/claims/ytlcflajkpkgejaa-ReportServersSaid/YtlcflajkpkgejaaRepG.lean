/-
  Few, equal rows of texts, and the counts' lines. No condition.
-/
import Derived.Test.YtlcflajkpkgejaaRepF
namespace Go.Proofs.Ytlcflajkpkgejaa
open Go.RowKit
set_option linter.unusedVariables false
set_option linter.unusedSimpArgs false

theorem equal_str (a1 a2 : Option Addr) (c1 c2 : Nat) (L M : List ByteArray) (w : World) (h1 : StrsAt w a1 L) (h2 : StrsAt w a2 M) (hl : L.length ≤ 200) (hm : M.length ≤ 200) :
    Calls Try.prog 7 #[.slice a1 L.length c1, .slice a2 M.length c2] w fun e w' => e = .returned (.bool (decide (L = M))) ∧ Below w.heap.size w w' := by
  by_cases hL : L = []
  · subst hL
    refine (Try.slices_Equal_string_empty a1 a2 c1 M.length c2 w (by omega)).mono fun e w' ⟨he, hw⟩ => ⟨?_, by rw [hw]; exact Below.refl _ _⟩
    rw [he]
    congr 3
    apply propext
    constructor
    · intro h; exact (List.length_eq_zero_iff.1 h).symm
    · rintro rfl; rfl
  · by_cases hM : M = []
    · subst hM
      have hne : L.length ≠ ([] : List ByteArray).length := by
        intro h; exact hL (List.length_eq_zero_iff.1 h)
      refine (Try.slices_Equal_string_lens a1 a2 L.length c1 0 c2 w hne).mono fun e w' ⟨he, hw⟩ => ⟨?_, by rw [hw]; exact Below.refl _ _⟩
      rw [he, decide_eq_false hL]
    · rcases h1 with h1 | ⟨b1, o1, rfl, _, k1⟩
      · exact absurd h1 hL
      rcases h2 with h2 | ⟨b2, o2, rfl, _, k2⟩
      · exact absurd h2 hM
      refine (Try.slices_Equal_string b1 o1 L.length c1 b2 o2 M.length c2 L M w (Nat.le_refl _) (Nat.le_refl _) (by omega) (by omega) (fun j hj => k1 j hj) (fun j hj => k2 j hj)).mono ?_
      rintro e w' ⟨rfl, q, rfl⟩
      refine ⟨?_, below_drewN (Below.refl _ _) _⟩
      rw [List.take_length, List.take_length]
theorem equal_own (B1 B2 : Nat) (v1 v2 : Value) (L : List ByteArray) (w : World) (hl : L.length ≤ 200) (h1 : w.ownsRow B1 9 1 v1 L.length (strs L)) (h2 : w.ownsRow B2 9 1 v2 L.length (strs L)) :
    Calls Try.prog 7 #[v1, v2] w fun e w' => e = .returned (.bool true) ∧ Below w.heap.size w w' := by
  have form : ∀ {B : Nat} {v : Value}, w.ownsRow B 9 1 v L.length (strs L) → ∃ a c, v = .slice a L.length c ∧ StrsAt w a L := by
    intro B v h
    rcases h.2 with ⟨rfl, h0⟩ | ⟨g, cap, cur, rfl, _⟩
    · exact ⟨none, 0, by rw [h0], .inl (List.length_eq_zero_iff.1 h0)⟩
    · exact ⟨_, cap, rfl, StrsAt.of_own h⟩
  obtain ⟨a1, c1, rfl, k1⟩ := form h1
  obtain ⟨a2, c2, rfl, k2⟩ := form h2
  have h := equal_str a1 a2 c1 c2 L L w k1 k2 hl hl
  rw [decide_eq_true rfl] at h
  exact h

/-- What few asks. -/
structure FewN (v : View) : Prop where
  nc : v.C.length ≤ 40
  ns : v.S.length ≤ 20
  nw : v.W.length ≤ 60
  tb : ∀ i, i < v.C.length → (v.C.getD i default).table.length ≤ 40
  ch : ∀ i, i < v.S.length → (v.S.getD i default).cache.length ≤ 60
def FewRes (v : View) (w : World) (e : Ending) (w' : World) : Prop := ∃ r : Bool, e = .returned (.bool r) ∧ (r = true → FewN v) ∧ Below w.heap.size w w'
theorem few_bad (v : View) (w : World) (h : ¬ (v.C.length ≤ 40 ∧ v.S.length ≤ 20 ∧ v.W.length ≤ 60)) :
    Calls Try.prog 5 #[.agg v.cells] w (FewRes v w) := by
  obtain ⟨a1, C, c1, a2, S, c2, a3, n3, c3, a4, L4, c4⟩ := v
  change ¬ (C.length ≤ 40 ∧ S.length ≤ 20 ∧ L4.length ≤ 60) at h
  unfold View.cells
  have hb0 : Below w.heap.size w (w.alloc (.cells #[.slice a1 C.length c1, .slice a2 S.length c2, .slice a3 n3 c3, .slice a4 L4.length c4] 27)) := (Below.refl _ _).alloc (Nat.le_refl _) _
  have HB0 := hide hb0
  clear hb0
  by_cases h1 : C.length ≤ 40
  · have h1' : ¬ (40 : Int) < (C.length : Int) := by omega
    by_cases h2 : S.length ≤ 20
    · have h2' : ¬ (20 : Int) < (S.length : Int) := by omega
      have h3' : (60 : Int) < (L4.length : Int) := by omega
      clear h h1 h2
      go_enter Try.func5, Try.ntmps5
      go_wp2_with fail
      go_returns
      exact ⟨false, rfl, (by intro h; cases h), HB0.out⟩
    · have h2' : (20 : Int) < (S.length : Int) := by omega
      clear h h1 h2
      go_enter Try.func5, Try.ntmps5
      go_wp2_with fail
      go_returns
      exact ⟨false, rfl, (by intro h; cases h), HB0.out⟩
  · have h1' : (40 : Int) < (C.length : Int) := by omega
    clear h h1
    go_enter Try.func5, Try.ntmps5
    go_wp2_with fail
    go_returns
    exact ⟨false, rfl, (by intro h; cases h), HB0.out⟩
set_option maxHeartbeats 1000000 in
theorem few_good (v : View) (w : World) (hv : ViewAt w v) (hC : v.C.length ≤ 40) (hS : v.S.length ≤ 20) (hW : v.W.length ≤ 60) :
    Calls Try.prog 5 #[.agg v.cells] w (FewRes v w) := by
  obtain ⟨a1, C, c1, a2, S, c2, a3, n3, c3, a4, L4, c4⟩ := v
  change C.length ≤ 40 at hC
  change S.length ≤ 20 at hS
  change L4.length ≤ 60 at hW
  have H := hide hv
  have hbx : Blk (w.alloc (.cells #[.slice a1 C.length c1, .slice a2 S.length c2, .slice a3 n3 c3, .slice a4 L4.length c4] 27)) w.heap.size 27 #[.slice a1 C.length c1, .slice a2 S.length c2, .slice a3 n3 c3, .slice a4 L4.length c4] := Blk.new w _ _
  have hb0 : Below w.heap.size w (w.alloc (.cells #[.slice a1 C.length c1, .slice a2 S.length c2, .slice a3 n3 c3, .slice a4 L4.length c4] 27)) := (Below.refl _ _).alloc (Nat.le_refl _) _
  have HX := hide hbx
  have HB0 := hide hb0
  have h1' : ¬ (40 : Int) < (C.length : Int) := by omega
  have h2' : ¬ (20 : Int) < (S.length : Int) := by omega
  have h3' : ¬ (60 : Int) < (L4.length : Int) := by omega
  clear hv hbx hb0
  unfold View.cells
  go_enter Try.func5, Try.ntmps5
  go_upto_region 3 with fail
  refine Code.wp_named (fun W => Blk W w.heap.size 27 #[.slice a1 C.length c1, .slice a2 S.length c2, .slice a3 n3 c3, .slice a4 L4.length c4] ∧ Below w.heap.size w W) ⟨HX.out, HB0.out⟩ ?_
  clear HX HB0 h1' h2' h3'
  rintro W0 ⟨hbx, hb0⟩
  have e0 := hbx.cell 0
  simp at e0
  have HX := hide hbx
  have HB0 := hide hb0
  have hs0 : w.heap.size < W0.heap.size := hbx.lt
  clear hbx hb0
  go_wp2_with fail
  go_loopw [26] (fun i wr => ∃ j : Nat, j ≤ C.length ∧ i = .int .i64 j ∧ Hid (∀ i, i < j → (C.getD i default).table.length ≤ 40) ∧ Below W0.heap.size W0 wr) (fun i _ => 64 - (intOf i).toNat)
  case atStart => exact ⟨0, Nat.zero_le _, rfl, (fun i hi => by omega), Below.refl _ _⟩
  case round =>
    obtain ⟨j, hj, rfl, Hall, hB⟩ := hrel
    clear e0
    by_cases hlt : j < C.length
    · have hB0 := below_via HB0.out hB
      rcases H.out.cl.below hB0 with h0 | ⟨b, off, rfl, hbl, hc⟩
      · have h0 : C = [] := h0
        subst h0; simp at hlt
      obtain ⟨⟨z0, z1, z2, z3⟩, hna⟩ := hc j hlt
      have hnext : (C.getD j default).table.length ≤ 40 → ∀ i, i < j + 1 → (C.getD i default).table.length ≤ 40 := fun h i hi => by
        by_cases e : i = j
        · subst e; exact h
        · exact Hall.out i (by omega)
      simp only at z0 z1 z2 z3
      generalize C.getD j default = c at z0 z1 z2 z3 hna hnext
      obtain ⟨ph, sv, dn, T, ta, tc⟩ := c
      simp only at z0 z1 z2 z3 hnext
      have k0 : (0 : Int) ≤ (j : Int) := by omega
      have k1 : (j : Int) < (C.length : Int) := by omega
      have hs1 := hB.size
      have HB := hide hB
      have HB0' := hide hB0
      clear hc hB hB0 hna
      by_cases h40 : T.length ≤ 40
      · have Hn := hide (hnext h40)
        have h40' : ¬ (40 : Int) < (T.length : Int) := by omega
        clear hnext h40
        go_wp2_with fail
        go_roundw
        case rel => exact ⟨j + 1, by omega, by go_num, Hn, HB.out.alloc hs1 _⟩
        case measure => simp [intOf]; omega
      · have h40' : (40 : Int) < (T.length : Int) := by omega
        clear hnext h40
        go_wp2_with fail
        go_returns
        exact ⟨false, rfl, (by intro h; cases h), HB0'.out.alloc (by have := HB0'.out.size; exact this) _⟩
    · have he : j = C.length := by omega
      subst he
      have hx := HX.out.below hB HX.out.lt
      have e1 := hx.cell 1
      simp at e1
      have HB1 := hide hB
      clear hB hx
      go_wp2_with fail
      go_loopw [38] (fun i wr => ∃ j : Nat, j ≤ S.length ∧ i = .int .i64 j ∧ Hid (∀ i, i < j → (S.getD i default).cache.length ≤ 60) ∧ Below W0.heap.size W0 wr) (fun i _ => 64 - (intOf i).toNat)
      case atStart => exact ⟨0, Nat.zero_le _, rfl, (fun i hi => by omega), HB1.out⟩
      case round =>
        clear e1 HB1
        obtain ⟨j, hj, rfl, Hall2, hB⟩ := hrel
        by_cases hlt : j < S.length
        · have hB0 := below_via HB0.out hB
          rcases H.out.sv.below hB0 with h0 | ⟨b, off, rfl, hbl, hc⟩
          · have h0 : S = [] := h0
            subst h0; simp at hlt
          obtain ⟨⟨z0, z1, z2, z3, z4, z5⟩, hna⟩ := hc j hlt
          have hnext : (S.getD j default).cache.length ≤ 60 → ∀ i, i < j + 1 → (S.getD i default).cache.length ≤ 60 := fun h i hi => by
            by_cases e : i = j
            · subst e; exact h
            · exact Hall2.out i (by omega)
          simp only at z0 z1 z2 z3 z4 z5
          generalize S.getD j default = c at z0 z1 z2 z3 z4 z5 hna hnext
          obtain ⟨st, ho, qu, ss, K, ca, cc, pa, pl, pc⟩ := c
          simp only at z0 z1 z2 z3 z4 z5 hnext
          have k0 : (0 : Int) ≤ (j : Int) := by omega
          have k1 : (j : Int) < (S.length : Int) := by omega
          have hs1 := hB.size
          have HB := hide hB
          have HB0' := hide hB0
          clear hc hB hB0 hna
          by_cases h40 : K.length ≤ 60
          · have Hn := hide (hnext h40)
            have h40' : ¬ (60 : Int) < (K.length : Int) := by omega
            clear hnext h40
            go_wp2_with fail
            go_roundw
            case rel => exact ⟨j + 1, by omega, by go_num, Hn, HB.out.alloc hs1 _⟩
            case measure => simp [intOf]; omega
          · have h40' : (60 : Int) < (K.length : Int) := by omega
            clear hnext h40
            go_wp2_with fail
            go_returns
            exact ⟨false, rfl, (by intro h; cases h), HB0'.out.alloc (by have := HB0'.out.size; exact this) _⟩
        · have he : j = S.length := by omega
          subst he
          have HB0' := hide (below_via HB0.out hB)
          clear hB
          go_wp2_with fail
          go_returns
          exact ⟨true, rfl, fun _ => ⟨hC, hS, hW, Hall.out, Hall2.out⟩, HB0'.out⟩
theorem few_any (v : View) (w : World) (hv : ViewAt w v) : Calls Try.prog 5 #[.agg v.cells] w (FewRes v w) := by
  by_cases h : v.C.length ≤ 40 ∧ v.S.length ≤ 20 ∧ v.W.length ≤ 60
  · exact few_good v w hv h.1 h.2.1 h.2.2
  · exact few_bad v w h
end Go.Proofs.Ytlcflajkpkgejaa
