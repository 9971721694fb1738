/-
  The reader's walks: pair. No condition but on lengths.
-/
import Derived.Test.YtaghhmnigjapoaaDoorDsnC
namespace Go.Proofs.YtaghhmnigjapoaaDoor
open Go.RowKit
set_option linter.unusedVariables false
set_option linter.unusedSimpArgs false

/-- What a struct's two cells hold behind two stores. -/
theorem store2 {W w : World} {c b : Nat} {T : TypeId} {x y : Value} (hx : Blk W c T #[x, y]) (hc : w.heap.size ≤ c) (hB : But b w W) (p q : Value) :
    ((W.setCell ⟨c, 0, none⟩ p).setCell ⟨c, 1, none⟩ q).cell? ⟨c, 0, none⟩ = some p
    ∧ ((W.setCell ⟨c, 0, none⟩ p).setCell ⟨c, 1, none⟩ q).cell? ⟨c, 1, none⟩ = some q
    ∧ But b w ((W.setCell ⟨c, 0, none⟩ p).setCell ⟨c, 1, none⟩ q) := by
  have hp := (hx.put 0 p).put 1 q
  have g0 := hp.cell 0; have g1 := hp.cell 1
  simp at g0 g1
  exact ⟨g0, g1, hB.under (((Below.refl _ _).setCell (p := ⟨c, 0, none⟩) hc p).setCell (p := ⟨c, 1, none⟩) hc q)⟩

/-- What is made of a value. -/
def pairOf (n : ByteArray) (x : Option (List UInt8 × List UInt8)) : Option ((ByteArray × ByteArray) × List UInt8) :=
  match x with
  | none => none
  | some (v, r) => if okEnd r = true then some ((n, bs v), r) else none
theorem pairL_miss (l : List UInt8) (h : Lib.indexByte l 61 < 0) : pairL l = none := by unfold pairL; rw [if_pos h]
theorem pairL_hit (s : ByteArray) (i : Nat) (h : ¬ Lib.indexByte s.data.toList 61 < 0) (hi : cutAt s.data.toList 61 = i) :
    pairL s.data.toList = if wordB (s.extract 0 i) = false then none else pairOf (s.extract 0 i) (valL (s.extract (i + 1) s.size).data.toList) := by
  rw [ext_take, ext_drop, bs_list, pairL, if_neg h, hi]
  rfl

theorem okEnd_iff (r : List UInt8) : okEnd r = true ↔ (bs r).size = 0 ∨ sb (bs r) 0 = 32 := by
  have h := sb_is (bs r) 0 32
  rw [bs_list] at h
  rw [bs_size, show (32 : Int) = ((32 : UInt8).toNat : Int) from rfl, h]
  unfold okEnd
  cases r with
  | nil => simp
  | cons x r => simp

/-- What reading a pair answers. -/
def PairEnd (o : Option ((ByteArray × ByteArray) × List UInt8)) (b : Nat) (w : World) (e : Ending) (w' : World) : Prop :=
  match o with
  | none => ∃ x y, e = .returned (.tuple #[.agg #[.string x, .string y], .bool false]) ∧ But b w w'
  | some (p, r) => e = .returned (.tuple #[.agg #[.string p.1, .string p.2], .bool true]) ∧ Blk w' b 38 #[.string (bs r)] ∧ But b w w'

theorem pair_any (b : Nat) (s : ByteArray) (w : World) (hs : s.size ≤ 100000) (hx : Blk w b 38 #[.string s]) :
    Calls Tryd.prog 16 #[.pointer (some ⟨b, 0, none⟩)] w (PairEnd (pairL s.data.toList) b w) := by
  have hlt := hx.lt
  have HX := hide hx
  clear hx
  obtain ⟨o, ho⟩ : ∃ o, pairL s.data.toList = o := ⟨_, rfl⟩
  rw [ho]
  have HO := hide ho
  clear ho
  go_enter Tryd.func16, Tryd.ntmps16
  go_upto_region 1 with fail
  refine Code.wp_named (fun W => Blk W w.heap.size 31 #[.string ⟨#[]⟩, .string ⟨#[]⟩] ∧ Below w.heap.size w W) ⟨Blk.new w _ _, (Below.refl _ _).alloc (Nat.le_refl _) _⟩ ?_
  rintro W ⟨hy, hB⟩
  have hxr := HX.out.below hB hlt
  have e0 := hxr.cell 0
  have f0 := hxr.frozen 0
  have g0 := hy.cell 0
  have g1 := hy.cell 1
  have k0 := hy.frozen 0
  have k1 := hy.frozen 1
  simp at e0 g0 g1
  have HX1 := hide hxr
  have HY := hide hy
  have HB := hide ((But.refl b w).under hB)
  clear hxr hy hB HX
  by_cases hi : Lib.indexByte s.data.toList 61 < 0
  · have HE : Hid (o = none) := by show _ = _; rw [← HO.out]; exact pairL_miss _ hi
    have HI := hide hi
    clear hi
    go_wp2_with fail
    refine (scut_none s _ HI.out).mono ?_
    rintro e w1 ⟨rfl, rfl⟩
    go_wp2_with fail
    obtain ⟨q0, q1, hB2⟩ := store2 HY.out (Nat.le_refl _) HB.out (.string ⟨#[]⟩) (.string ⟨#[]⟩)
    generalize (W.setCell ⟨w.heap.size, 0, none⟩ (.string ⟨#[]⟩)).setCell ⟨w.heap.size, 1, none⟩ (.string ⟨#[]⟩) = W2 at q0 q1 hB2 ⊢
    refine bodyPost_ret (v := .tuple #[.agg #[.string ⟨#[]⟩, .string ⟨#[]⟩], .bool false]) (by simp [results, Tryd.results16, go_sem, q0, q1]) rfl ?_
    rw [HE.out]
    exact ⟨_, _, rfl, hB2⟩
  have hlt61 := cutAt_lt _ 61 hi
  rw [list_size] at hlt61
  have hat : Lib.indexByte s.data.toList 61 = (cutAt s.data.toList 61 : Int) := by
    unfold cutAt; rw [if_neg hi]; omega
  obtain ⟨i, hc⟩ : ∃ i, cutAt s.data.toList 61 = i := ⟨_, rfl⟩
  rw [hc] at hlt61 hat
  have HO2 : Hid (o = if wordB (s.extract 0 i) = false then none else pairOf (s.extract 0 i) (valL (s.extract (i + 1) s.size).data.toList)) := by
    show _ = _
    rw [← HO.out]
    exact pairL_hit s i hi hc
  have Hat := hide hat
  have hi1 : (i : Int) + 1 ≤ (s.size : Int) := by omega
  have hz0 : (s.extract 0 i).size ≤ 100000 := by rw [ByteArray.size_extract]; omega
  have hz1 : (s.extract (i + 1) s.size).size ≤ 100000 := by rw [ByteArray.size_extract]; omega
  obtain ⟨n, hn⟩ : ∃ n, s.extract 0 i = n := ⟨_, rfl⟩
  obtain ⟨u, hu⟩ : ∃ u, s.extract (i + 1) s.size = u := ⟨_, rfl⟩
  rw [hn] at HO2 hz0
  rw [hu] at HO2 hz1
  have Hn := hide hn
  have Hu := hide hu
  clear hi hc hat HO hn hu
  go_wp2_with fail
  refine (scut_some s i _ (by omega) Hat.out hlt61).mono ?_
  rintro e w1 ⟨hb1, rfl⟩
  rw [Hn.out, Hu.out]
  have hxr := HX1.out.below hb1 HX1.out.lt
  have hy := HY.out.below hb1 HY.out.lt
  have e0 := hxr.cell 0
  have f0 := hxr.frozen 0
  have g0 := hy.cell 0
  have g1 := hy.cell 1
  have k0 := hy.frozen 0
  have k1 := hy.frozen 1
  simp at e0 g0 g1
  have HX2 := hide hxr
  have HY2 := hide hy
  have HB2 := hide (HB.out.below hb1)
  clear hxr hy hb1 HX1 HY HB
  go_wp2_with fail
  refine (word_any n _ hz0).mono ?_
  rintro e w2 ⟨rfl, hb2⟩
  clear e0 f0 g0 g1 k0 k1
  have hxr := HX2.out.below hb2 HX2.out.lt
  have hy := HY2.out.below hb2 HY2.out.lt
  have e0 := hxr.cell 0
  have f0 := hxr.frozen 0
  have g0 := hy.cell 0
  have g1 := hy.cell 1
  have k0 := hy.frozen 0
  have k1 := hy.frozen 1
  simp at e0 g0 g1
  have HX3 := hide hxr
  have HY3 := hide hy
  have HB3 := hide (HB2.out.below hb2)
  clear hxr hy hb2 HX2 HY2 HB2
  cases hw : wordB n with
  | false =>
    have HE : Hid (o = none) := by show _ = _; rw [HO2.out, if_pos hw]
    clear hw
    go_wp2_with fail
    obtain ⟨q0, q1, hB2⟩ := store2 HY3.out (Nat.le_refl _) HB3.out (.string ⟨#[]⟩) (.string ⟨#[]⟩)
    generalize (w2.setCell ⟨w.heap.size, 0, none⟩ (.string ⟨#[]⟩)).setCell ⟨w.heap.size, 1, none⟩ (.string ⟨#[]⟩) = W2 at q0 q1 hB2 ⊢
    refine bodyPost_ret (v := .tuple #[.agg #[.string ⟨#[]⟩, .string ⟨#[]⟩], .bool false]) (by simp [results, Tryd.results16, go_sem, q0, q1]) rfl ?_
    rw [HE.out]
    exact ⟨_, _, rfl, hB2⟩
  | true =>
    have HO3 : Hid (o = pairOf n (valL u.data.toList)) := by show _ = _; rw [HO2.out, if_neg (by rw [hw]; decide)]
    clear hw HO2
    have HX4 := hide (HX3.out.put 0 (.string u))
    have HY4 := hide (HY3.out.far (p := ⟨b, 0, none⟩) (Nat.ne_of_gt hlt) (.string u))
    have HB4 := hide (HB3.out.put 0 (.string u))
    clear g0 g1 k0 k1
    go_wp2_with fail
    generalize w2.setCell ⟨b, 0, none⟩ (.string u) = W4 at HX4 HY4 HB4 ⊢
    clear e0 f0
    refine (value_any b u _ hz1 HX4.out).mono ?_
    intro e w5 hv
    cases hq : valL u.data.toList with
    | none =>
      have HE : Hid (o = none) := by show _ = _; rw [HO3.out, hq]; rfl
      rw [hq] at hv
      clear hq
      obtain ⟨v, rfl, hb⟩ := hv
      have hy := hb.blk HY4.out (Nat.ne_of_gt hlt)
      have g0 := hy.cell 0
      have g1 := hy.cell 1
      have k0 := hy.frozen 0
      have k1 := hy.frozen 1
      simp at g0 g1
      have HY5 := hide hy
      have HB5 := hide (HB4.out.trans hb)
      clear hy hb
      go_wp2_with fail
      obtain ⟨q0, q1, hB2⟩ := store2 HY5.out (Nat.le_refl _) HB5.out (.string ⟨#[]⟩) (.string ⟨#[]⟩)
      generalize (w5.setCell ⟨w.heap.size, 0, none⟩ (.string ⟨#[]⟩)).setCell ⟨w.heap.size, 1, none⟩ (.string ⟨#[]⟩) = W2 at q0 q1 hB2 ⊢
      refine bodyPost_ret (v := .tuple #[.agg #[.string ⟨#[]⟩, .string ⟨#[]⟩], .bool false]) (by simp [results, Tryd.results16, go_sem, q0, q1]) rfl ?_
      rw [HE.out]
      exact ⟨_, _, rfl, hB2⟩
    | some q =>
      obtain ⟨v, r⟩ := q
      have HO4 : Hid (o = if okEnd r = true then some ((n, bs v), r) else none) := by show _ = _; rw [HO3.out, hq]; rfl
      rw [hq] at hv
      clear hq
      obtain ⟨rfl, hx5, hb⟩ := hv
      have hy := hb.blk HY4.out (Nat.ne_of_gt hlt)
      have e0 := hx5.cell 0
      have f0 := hx5.frozen 0
      have g0 := hy.cell 0
      have g1 := hy.cell 1
      have k0 := hy.frozen 0
      have k1 := hy.frozen 1
      simp at e0 g0 g1
      have HX5 := hide hx5
      have HY5 := hide hy
      have HB5 := hide (HB4.out.trans hb)
      clear hy hb hx5
      have hok := okEnd_iff r
      obtain ⟨z, hz⟩ : ∃ z, bs r = z := ⟨_, rfl⟩
      rw [hz] at HX5 e0 hok
      have HOK := hide hok
      have Hz := hide hz
      clear hok hz
      by_cases h0 : z.size = 0
      · have HE : Hid (o = some ((n, bs v), r)) := by show _ = _; rw [HO4.out, if_pos (HOK.out.2 (Or.inl h0))]
        have hz0 := size_zero h0
        have He : Hid (z = ByteArray.empty) := hz0
        clear h0 hz0
        rw [He.out] at e0
        go_wp2_with fail
        obtain ⟨q0, q1, hB2⟩ := store2 HY5.out (Nat.le_refl _) HB5.out (.string n) (.string (bs v))
        have hx6 := (HX5.out.far (p := ⟨w.heap.size, 0, none⟩) (Nat.ne_of_lt hlt) (.string n)).far (p := ⟨w.heap.size, 1, none⟩) (Nat.ne_of_lt hlt) (.string (bs v))
        generalize (w5.setCell ⟨w.heap.size, 0, none⟩ (.string n)).setCell ⟨w.heap.size, 1, none⟩ (.string (bs v)) = W2 at q0 q1 hB2 hx6 ⊢
        refine bodyPost_ret (v := .tuple #[.agg #[.string n, .string (bs v)], .bool true]) (by simp [results, Tryd.results16, go_sem, q0, q1]) rfl ?_
        rw [HE.out]
        exact ⟨rfl, by rw [Hz.out]; exact hx6, hB2⟩
      · have hzp : 0 < z.size := by omega
        rcases empty_tests z with ⟨h1, _⟩ | ⟨_, h1, h2⟩
        · omega
        have hg := sb_get z 0 hzp
        have hzi : (0 : Int) < (z.size : Int) := by omega
        by_cases h32 : sb z 0 = 32
        · have HE : Hid (o = some ((n, bs v), r)) := by show _ = _; rw [HO4.out, if_pos (HOK.out.2 (Or.inr h32))]
          rw [h32] at hg
          clear h0
          go_wp2_with fail
          obtain ⟨q0, q1, hB2⟩ := store2 HY5.out (Nat.le_refl _) HB5.out (.string n) (.string (bs v))
          have hx6 := (HX5.out.far (p := ⟨w.heap.size, 0, none⟩) (Nat.ne_of_lt hlt) (.string n)).far (p := ⟨w.heap.size, 1, none⟩) (Nat.ne_of_lt hlt) (.string (bs v))
          generalize (w5.setCell ⟨w.heap.size, 0, none⟩ (.string n)).setCell ⟨w.heap.size, 1, none⟩ (.string (bs v)) = W2 at q0 q1 hB2 hx6 ⊢
          refine bodyPost_ret (v := .tuple #[.agg #[.string n, .string (bs v)], .bool true]) (by simp [results, Tryd.results16, go_sem, q0, q1]) rfl ?_
          rw [HE.out]
          exact ⟨rfl, by rw [Hz.out]; exact hx6, hB2⟩
        · have HE : Hid (o = none) := by show _ = _; rw [HO4.out, if_neg (fun h => (HOK.out.1 h).elim h0 h32)]
          have d32 : (sb z 0 == 32) = false := by simpa using h32
          clear h0 h32
          go_wp2_with fail
          obtain ⟨q0, q1, hB2⟩ := store2 HY5.out (Nat.le_refl _) HB5.out (.string ⟨#[]⟩) (.string ⟨#[]⟩)
          generalize (w5.setCell ⟨w.heap.size, 0, none⟩ (.string ⟨#[]⟩)).setCell ⟨w.heap.size, 1, none⟩ (.string ⟨#[]⟩) = W2 at q0 q1 hB2 ⊢
          refine bodyPost_ret (v := .tuple #[.agg #[.string ⟨#[]⟩, .string ⟨#[]⟩], .bool false]) (by simp [results, Tryd.results16, go_sem, q0, q1]) rfl ?_
          rw [HE.out]
          exact ⟨_, _, rfl, hB2⟩
end Go.Proofs.YtaghhmnigjapoaaDoor
