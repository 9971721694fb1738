/-
  The walk of the law IniBack; settings that came in. No condition but on lengths.
-/
import Derived.Test.YtlmelbijgckfpaaDoorIniU
namespace Go.Proofs.YtlmelbijgckfpaaDoor
open Go.RowKit Go.Shelf
set_option linter.unusedVariables false
set_option linter.unusedSimpArgs false
set_option maxRecDepth 100000

theorem cells25 {W : World} {b : Nat} {n0 n1 n2 n3 n4 n5 : Int} {v : Value} (h : Blk W b 25 #[.int .i64 n0, .int .i64 n1, .int .i64 n2, .int .i64 n3, .int .i64 n4, .int .i64 n5, v]) :
    W.cell? ⟨b, 0, none⟩ = some (.int .i64 n0) ∧ W.cell? ⟨b, 1, none⟩ = some (.int .i64 n1) ∧ W.cell? ⟨b, 2, none⟩ = some (.int .i64 n2) ∧ W.cell? ⟨b, 3, none⟩ = some (.int .i64 n3) ∧ W.cell? ⟨b, 4, none⟩ = some (.int .i64 n4) ∧ W.cell? ⟨b, 5, none⟩ = some (.int .i64 n5) ∧ W.cell? ⟨b, 6, none⟩ = some v :=
  ⟨h.cell 0, h.cell 1, h.cell 2, h.cell 3, h.cell 4, h.cell 5, h.cell 6⟩

theorem zero_cfg (W : World) : CfgA W (.agg #[.int .i64 0, .int .i64 0, .int .i64 0, .int .i64 0, .int .i64 0, .int .i64 0, .slice none 0 0]) Cfg.zero := ⟨0, 0, 0, 0, 0, 0, _, rfl, rfl, none, 0, rfl, .inl rfl⟩

set_option maxHeartbeats 1000000 in
theorem back_any (u : Value) (s : ByteArray) (c : Cfg) (w : World) (hb : (∀ z ∈ c.n, -9223372036854775808 ≤ z ∧ z ≤ 9223372036854775807) ∧ c.ps.length ≤ maxLen) (hu : CfgA w u c) :
    Calls Tryd.prog 5 #[u, .string s] w fun e w' => e = .returned (.bool true) ∧ Below w.heap.size w w' := by
  obtain ⟨⟨q, z⟩, hq⟩ : ∃ x, printC c = x := ⟨_, rfl⟩
  have HF := hide (print_forms c q z hq)
  have HQ := hide hq
  have HU := hide hu
  have HBd := hide hb
  obtain ⟨n0, n1, n2, n3, n4, n5, v, hn, rfl, hv⟩ := hu
  obtain ⟨a, cap, rfl, _⟩ := hv
  clear hb hn hq
  go_enter Tryd.func5, Tryd.ntmps5
  go_upto_region 1 with fail
  refine Code.wp_named (fun W => Blk W w.heap.size 25 #[.int .i64 n0, .int .i64 n1, .int .i64 n2, .int .i64 n3, .int .i64 n4, .int .i64 n5, .slice a c.ps.length cap] ∧ Below w.heap.size w W) ⟨Blk.new w _ _, (Below.refl _ _).alloc (Nat.le_refl _) _⟩ ?_
  rintro W ⟨hx, hB⟩
  have HX := hide hx
  have HB := hide hB
  have HU1 := hide (HU.out.below hB)
  obtain ⟨x0, x1, x2, x3, x4, x5, x6⟩ := cells25 hx
  clear hx hB
  go_wp2_with fail
  refine (far_any c _ _ HU1.out (Nat.le_trans HBd.out.2 (by decide))).mono ?_
  rintro e w1 ⟨hf, hb1⟩
  have HX1 := hide (HX.out.below hb1 HX.out.lt)
  have HB1 := hide (below_via HB.out hb1)
  have HU2 := hide (HU1.out.below hb1)
  clear x0 x1 x2 x3 x4 x5 x6 hb1
  rcases hf with rfl | ⟨rfl, hsh⟩
  · go_wp2_with fail
    refine (iniawake_any _).mono ?_
    rintro e w2 ⟨rfl, hb2⟩
    have HB2 := hide (below_via HB1.out hb2)
    clear hb2
    go_wp2_with fail
    go_returns
    exact ⟨rfl, HB2.out⟩
  have HBe2 : Hid (Bears c 100000) := ⟨HBd.out.1, Nat.le_trans hsh.1 (by decide), fun j hj => by have := hsh.2 j hj; omega⟩
  clear hsh
  by_cases h1 : s.size ≤ 3000
  case neg =>
    have i1 : (3000 : Int) < (s.size : Int) := by omega
    go_wp2_with fail
    refine (iniawake_any _).mono ?_
    rintro e w2 ⟨rfl, hb2⟩
    have HB2 := hide (below_via HB1.out hb2)
    clear hb2
    go_wp2_with fail
    go_returns
    exact ⟨rfl, HB2.out⟩
  have i1 : ¬ (3000 : Int) < (s.size : Int) := by omega
  obtain ⟨x0, x1, x2, x3, x4, x5, x6⟩ := cells25 HX1.out
  go_wp2_with fail
  refine (print_any c _ _ HU2.out HBe2.out).mono ?_
  rintro e w2 ⟨rfl, hb2⟩
  rw [HQ.out]
  have HX2 := hide (HX1.out.below hb2 HX1.out.lt)
  have HB2 := hide (below_via HB1.out hb2)
  have HU3 := hide (HU2.out.below hb2)
  clear x0 x1 x2 x3 x4 x5 x6 hb2
  rw [show ((q, z) : ByteArray × Int).1 = q from rfl, show ((q, z) : ByteArray × Int).2 = z from rfl]
  obtain ⟨⟨pe, pl, d⟩, hT⟩ : ∃ T, parseC s = T := ⟨_, rfl⟩
  have HT := hide hT
  have hpl := parsed_many s
  have hbd := parsed_bears s (by omega)
  have hz := parse_forms s
  rw [hT] at hpl hbd hz
  have HBd2 : Hid (Bears d 100000) := hbd
  have HZ : Hid (pe ≠ 0 → d = Cfg.zero) := fun h => hz.elim (fun x => absurd x.1 h) (fun x => x.2)
  have hpl2 : d.ps.length ≤ 65537 := hpl
  obtain ⟨⟨q2, z2⟩, hq2⟩ : ∃ x, printC d = x := ⟨_, rfl⟩
  have HF2 := hide (print_forms d q2 z2 hq2)
  have HQ2 := hide hq2
  have hcl := HBe2.out.many
  clear hT hpl hbd hz hq2
  rcases HF.out with ⟨hz, hp⟩ | ⟨hz, hq0⟩
  · subst hz
    have HP := hide hp
    clear hp
    go_wp2_with fail
    refine (pini_any q _).mono ?_
    rintro e w3 ⟨ug, rfl, hu, hb4⟩
    rw [HP.out] at hu ⊢
    have HG := hide (CfgA.of_val hu)
    obtain ⟨m0, m1, m2, m3, m4, m5, mv, _, rfl, hv⟩ := HG.out
    obtain ⟨ma, mcap, rfl, _⟩ := hv
    have HX4 := hide (HX2.out.below hb4 HX2.out.lt)
    have HB4 := hide (below_via HB2.out hb4)
    have HU4 := hide (HU3.out.below hb4)
    clear hu hb4
    go_upto_region 6 with fail
    refine Code.wp_named (fun W => Blk W w3.heap.size 25 #[.int .i64 m0, .int .i64 m1, .int .i64 m2, .int .i64 m3, .int .i64 m4, .int .i64 m5, .slice ma c.ps.length mcap] ∧ Below w3.heap.size w3 W) ⟨Blk.new w3 _ _, (Below.refl _ _).alloc (Nat.le_refl _) _⟩ ?_
    rintro W5 ⟨hy, hB⟩
    obtain ⟨y0, y1, y2, y3, y4, y5, y6⟩ := cells25 hy
    obtain ⟨x0, x1, x2, x3, x4, x5, x6⟩ := cells25 (HX4.out.below hB HX4.out.lt)
    have HB5 := hide (below_via HB4.out hB)
    have HU5 := hide (HU4.out.below hB)
    have HG5 := hide (HG.out.below hB)
    clear hy hB
    go_wp2_with fail
    refine (rsame_any c c _ _ _ HU5.out HG5.out (by omega) (by omega)).mono ?_
    rintro e w6 ⟨rfl, hb6⟩
    rw [cEq_refl]
    have HBx := hide (below_via HB5.out hb6)
    clear hb6 x0 x1 x2 x3 x4 x5 x6 y0 y1 y2 y3 y4 y5 y6 HB2 HX2 HX4 HU3 HU4 HU5 HG HG5 HB4 HB5
    go_wp2_with fail
    refine (pini_any s _).mono ?_
    rintro e t1 ⟨ud, rfl, hu, hb1⟩
    rw [HT.out] at hu ⊢
    have HD := hide (CfgA.of_val hu)
    obtain ⟨d0, d1, d2, d3, d4, d5, dv, _, rfl, hv⟩ := HD.out
    obtain ⟨da, dcap, rfl, _⟩ := hv
    have HT1 := hide (below_via HBx.out hb1)
    clear hu hb1
    go_upto_region 9 with fail
    refine Code.wp_named (fun W => Blk W t1.heap.size 25 #[.int .i64 d0, .int .i64 d1, .int .i64 d2, .int .i64 d3, .int .i64 d4, .int .i64 d5, .slice da d.ps.length dcap] ∧ Below t1.heap.size t1 W) ⟨Blk.new t1 _ _, (Below.refl _ _).alloc (Nat.le_refl _) _⟩ ?_
    rintro T2 ⟨hx, hB⟩
    have HX2 := hide hx
    have HT2 := hide (below_via HT1.out hB)
    have HD2 := hide (HD.out.below hB)
    clear hx hB HT1 HD
    obtain ⟨x0, x1, x2, x3, x4, x5, x6⟩ := cells25 HX2.out
    by_cases hpe : pe = 0
    · subst hpe
      go_wp2_with fail
      refine (print_any d _ _ HD2.out HBd2.out).mono ?_
      rintro e t3 ⟨rfl, hb3⟩
      rw [HQ2.out]
      have HX3 := hide (HX2.out.below hb3 HX2.out.lt)
      have HT3 := hide (below_via HT2.out hb3)
      have HD3 := hide (HD2.out.below hb3)
      clear x0 x1 x2 x3 x4 x5 x6 hb3
      rw [show ((q2, z2) : ByteArray × Int).1 = q2 from rfl, show ((q2, z2) : ByteArray × Int).2 = z2 from rfl]
      rcases HF2.out with ⟨hz2, hp2⟩ | ⟨hz2, hq0⟩
      · subst hz2
        have HP2 := hide hp2
        clear hp2
        go_wp2_with fail
        refine (pini_any q2 _).mono ?_
        rintro e t4 ⟨ug, rfl, hu, hb4⟩
        rw [HP2.out] at hu ⊢
        have HG := hide (CfgA.of_val hu)
        obtain ⟨m0, m1, m2, m3, m4, m5, mv, _, rfl, hv⟩ := HG.out
        obtain ⟨ma, mcap, rfl, _⟩ := hv
        have HX4 := hide (HX3.out.below hb4 HX3.out.lt)
        have HT4 := hide (below_via HT3.out hb4)
        have HD4 := hide (HD3.out.below hb4)
        clear hu hb4
        go_upto_region 13 with fail
        refine Code.wp_named (fun W => Blk W t4.heap.size 25 #[.int .i64 m0, .int .i64 m1, .int .i64 m2, .int .i64 m3, .int .i64 m4, .int .i64 m5, .slice ma d.ps.length mcap] ∧ Below t4.heap.size t4 W) ⟨Blk.new t4 _ _, (Below.refl _ _).alloc (Nat.le_refl _) _⟩ ?_
        rintro T5 ⟨hy, hB⟩
        obtain ⟨y0, y1, y2, y3, y4, y5, y6⟩ := cells25 hy
        obtain ⟨x0, x1, x2, x3, x4, x5, x6⟩ := cells25 (HX4.out.below hB HX4.out.lt)
        have HT5 := hide (below_via HT4.out hB)
        have HD5 := hide (HD4.out.below hB)
        have HG5 := hide (HG.out.below hB)
        clear hy hB
        go_wp2_with fail
        refine (rsame_any d d _ _ _ HD5.out HG5.out (by omega) (by omega)).mono ?_
        rintro e t6 ⟨rfl, hb6⟩
        rw [cEq_refl]
        have HT6 := hide (below_via HT5.out hb6)
        clear hb6 x0 x1 x2 x3 x4 x5 x6 y0 y1 y2 y3 y4 y5 y6
        go_wp2_with fail
        refine (iniawake_any _).mono ?_
        rintro e t7 ⟨rfl, hb7⟩
        have HT7 := hide (below_via HT6.out hb7)
        clear hb7
        go_wp2_with fail
        go_returns
        exact ⟨rfl, HT7.out⟩
      · subst hz2
        clear hq0
        go_wp2_with fail
        refine (pini_any q2 _).mono ?_
        rintro e t4 ⟨ug, rfl, hu, hb4⟩
        generalize parseC q2 = X at hu ⊢
        obtain ⟨ge, gl, gd⟩ := X
        obtain ⟨m0, m1, m2, m3, m4, m5, mv, _, rfl, hv⟩ := CfgA.of_val hu
        obtain ⟨ma, mcap, rfl, _⟩ := hv
        have HT4 := hide (below_via HT3.out hb4)
        clear hu hb4
        go_upto_region 13 with fail
        refine Code.wp_named (fun W => Below t4.heap.size t4 W) ((Below.refl _ _).alloc (Nat.le_refl _) _) ?_
        rintro T5 hB
        have HT5 := hide (below_via HT4.out hB)
        clear hB
        go_wp2_with fail
        refine (iniawake_any _).mono ?_
        rintro e t7 ⟨rfl, hb7⟩
        have HT7 := hide (below_via HT5.out hb7)
        clear hb7
        go_wp2_with fail
        go_returns
        exact ⟨rfl, HT7.out⟩
    · have hpe2 : (pe == 0) = false := by simpa using hpe
      have hdz : d = Cfg.zero := HZ.out hpe
      have HD3 := HD2
      rw [hdz] at HD3
      have HD4 := hide HD3
      rw [hdz] at x6
      clear HD3 hdz
      go_wp2_with fail
      refine (rsame_any Cfg.zero Cfg.zero _ _ _ HD4.out (zero_cfg _) (by decide) (by decide)).mono ?_
      rintro e t3 ⟨rfl, hb3⟩
      rw [cEq_refl]
      have HT3 := hide (below_via HT2.out hb3)
      clear hb3 x0 x1 x2 x3 x4 x5 x6
      go_wp2_with fail
      refine (iniawake_any _).mono ?_
      rintro e t7 ⟨rfl, hb7⟩
      have HT7 := hide (below_via HT3.out hb7)
      clear hb7
      go_wp2_with fail
      go_returns
      exact ⟨rfl, HT7.out⟩
  · subst hz
    clear hq0
    have HBx := hide HB2.out
    clear HX2 HU3 HB2
    go_wp2_with fail
    refine (pini_any s _).mono ?_
    rintro e t1 ⟨ud, rfl, hu, hb1⟩
    rw [HT.out] at hu ⊢
    have HD := hide (CfgA.of_val hu)
    obtain ⟨d0, d1, d2, d3, d4, d5, dv, _, rfl, hv⟩ := HD.out
    obtain ⟨da, dcap, rfl, _⟩ := hv
    have HT1 := hide (below_via HBx.out hb1)
    clear hu hb1
    go_upto_region 9 with fail
    refine Code.wp_named (fun W => Blk W t1.heap.size 25 #[.int .i64 d0, .int .i64 d1, .int .i64 d2, .int .i64 d3, .int .i64 d4, .int .i64 d5, .slice da d.ps.length dcap] ∧ Below t1.heap.size t1 W) ⟨Blk.new t1 _ _, (Below.refl _ _).alloc (Nat.le_refl _) _⟩ ?_
    rintro T2 ⟨hx, hB⟩
    have HX2 := hide hx
    have HT2 := hide (below_via HT1.out hB)
    have HD2 := hide (HD.out.below hB)
    clear hx hB HT1 HD
    obtain ⟨x0, x1, x2, x3, x4, x5, x6⟩ := cells25 HX2.out
    by_cases hpe : pe = 0
    · subst hpe
      go_wp2_with fail
      refine (print_any d _ _ HD2.out HBd2.out).mono ?_
      rintro e t3 ⟨rfl, hb3⟩
      rw [HQ2.out]
      have HX3 := hide (HX2.out.below hb3 HX2.out.lt)
      have HT3 := hide (below_via HT2.out hb3)
      have HD3 := hide (HD2.out.below hb3)
      clear x0 x1 x2 x3 x4 x5 x6 hb3
      rw [show ((q2, z2) : ByteArray × Int).1 = q2 from rfl, show ((q2, z2) : ByteArray × Int).2 = z2 from rfl]
      rcases HF2.out with ⟨hz2, hp2⟩ | ⟨hz2, hq0⟩
      · subst hz2
        have HP2 := hide hp2
        clear hp2
        go_wp2_with fail
        refine (pini_any q2 _).mono ?_
        rintro e t4 ⟨ug, rfl, hu, hb4⟩
        rw [HP2.out] at hu ⊢
        have HG := hide (CfgA.of_val hu)
        obtain ⟨m0, m1, m2, m3, m4, m5, mv, _, rfl, hv⟩ := HG.out
        obtain ⟨ma, mcap, rfl, _⟩ := hv
        have HX4 := hide (HX3.out.below hb4 HX3.out.lt)
        have HT4 := hide (below_via HT3.out hb4)
        have HD4 := hide (HD3.out.below hb4)
        clear hu hb4
        go_upto_region 13 with fail
        refine Code.wp_named (fun W => Blk W t4.heap.size 25 #[.int .i64 m0, .int .i64 m1, .int .i64 m2, .int .i64 m3, .int .i64 m4, .int .i64 m5, .slice ma d.ps.length mcap] ∧ Below t4.heap.size t4 W) ⟨Blk.new t4 _ _, (Below.refl _ _).alloc (Nat.le_refl _) _⟩ ?_
        rintro T5 ⟨hy, hB⟩
        obtain ⟨y0, y1, y2, y3, y4, y5, y6⟩ := cells25 hy
        obtain ⟨x0, x1, x2, x3, x4, x5, x6⟩ := cells25 (HX4.out.below hB HX4.out.lt)
        have HT5 := hide (below_via HT4.out hB)
        have HD5 := hide (HD4.out.below hB)
        have HG5 := hide (HG.out.below hB)
        clear hy hB
        go_wp2_with fail
        refine (rsame_any d d _ _ _ HD5.out HG5.out (by omega) (by omega)).mono ?_
        rintro e t6 ⟨rfl, hb6⟩
        rw [cEq_refl]
        have HT6 := hide (below_via HT5.out hb6)
        clear hb6 x0 x1 x2 x3 x4 x5 x6 y0 y1 y2 y3 y4 y5 y6
        go_wp2_with fail
        refine (iniawake_any _).mono ?_
        rintro e t7 ⟨rfl, hb7⟩
        have HT7 := hide (below_via HT6.out hb7)
        clear hb7
        go_wp2_with fail
        go_returns
        exact ⟨rfl, HT7.out⟩
      · subst hz2
        clear hq0
        go_wp2_with fail
        refine (pini_any q2 _).mono ?_
        rintro e t4 ⟨ug, rfl, hu, hb4⟩
        generalize parseC q2 = X at hu ⊢
        obtain ⟨ge, gl, gd⟩ := X
        obtain ⟨m0, m1, m2, m3, m4, m5, mv, _, rfl, hv⟩ := CfgA.of_val hu
        obtain ⟨ma, mcap, rfl, _⟩ := hv
        have HT4 := hide (below_via HT3.out hb4)
        clear hu hb4
        go_upto_region 13 with fail
        refine Code.wp_named (fun W => Below t4.heap.size t4 W) ((Below.refl _ _).alloc (Nat.le_refl _) _) ?_
        rintro T5 hB
        have HT5 := hide (below_via HT4.out hB)
        clear hB
        go_wp2_with fail
        refine (iniawake_any _).mono ?_
        rintro e t7 ⟨rfl, hb7⟩
        have HT7 := hide (below_via HT5.out hb7)
        clear hb7
        go_wp2_with fail
        go_returns
        exact ⟨rfl, HT7.out⟩
    · have hpe2 : (pe == 0) = false := by simpa using hpe
      have hdz : d = Cfg.zero := HZ.out hpe
      have HD3 := HD2
      rw [hdz] at HD3
      have HD4 := hide HD3
      rw [hdz] at x6
      clear HD3 hdz
      go_wp2_with fail
      refine (rsame_any Cfg.zero Cfg.zero _ _ _ HD4.out (zero_cfg _) (by decide) (by decide)).mono ?_
      rintro e t3 ⟨rfl, hb3⟩
      rw [cEq_refl]
      have HT3 := hide (below_via HT2.out hb3)
      clear hb3 x0 x1 x2 x3 x4 x5 x6
      go_wp2_with fail
      refine (iniawake_any _).mono ?_
      rintro e t7 ⟨rfl, hb7⟩
      have HT7 := hide (below_via HT3.out hb7)
      clear hb7
      go_wp2_with fail
      go_returns
      exact ⟨rfl, HT7.out⟩
end Go.Proofs.YtlmelbijgckfpaaDoor
