/-
  The walks of the laws IniParses, IniPrints and IniBack; settings that came in. No condition but on lengths.
-/
import Derived.Test.YtlmelbijgckfpaaDoorIniT
import Derived.Test.YtlmelbijgckfpaaDoorOpen
namespace Go.Proofs.YtlmelbijgckfpaaDoor
open Go.RowKit Go.Shelf
set_option linter.unusedVariables false
set_option linter.unusedSimpArgs false
set_option maxRecDepth 100000

theorem keyV_form (s : ByteArray) : ∃ (a b : ByteArray) (o : Bool), keyV s = .tuple #[.string a, .string b, .bool o] := by
  unfold keyV
  cases keyP s with
  | none => exact ⟨_, _, _, rfl⟩
  | some p => exact ⟨p.1, p.2, true, rfl⟩
theorem str_same (s : ByteArray) : (s.toList == s.toList) = true := by simp

set_option maxHeartbeats 1000000 in
theorem parses_any (s line : ByteArray) (w : World) :
    Calls Tryd.prog 3 #[.string s, .string line] w fun e w' => e = .returned (.bool true) ∧ Below w.heap.size w w' := by
  by_cases h1 : s.size ≤ 3000
  case neg =>
    have i1 : (3000 : Int) < (s.size : Int) := by omega
    go_enter Tryd.func3, Tryd.ntmps3
    go_wp2_with fail
    refine (iniawake_any _).mono ?_
    rintro e w2 ⟨rfl, hb2⟩
    have HB2 := hide hb2
    clear hb2
    go_wp2_with fail
    go_returns
    exact ⟨rfl, HB2.out⟩
  have i1 : ¬ (3000 : Int) < (s.size : Int) := by omega
  by_cases h2 : line.size ≤ 1000
  case neg =>
    have i2 : (1000 : Int) < (line.size : Int) := by omega
    go_enter Tryd.func3, Tryd.ntmps3
    go_wp2_with fail
    refine (iniawake_any _).mono ?_
    rintro e w2 ⟨rfl, hb2⟩
    have HB2 := hide hb2
    clear hb2
    go_wp2_with fail
    go_returns
    exact ⟨rfl, HB2.out⟩
  have i2 : ¬ (1000 : Int) < (line.size : Int) := by omega
  obtain ⟨ka, kb, ko, hk⟩ := keyV_form line
  have HK := hide hk
  obtain ⟨⟨pe, pl, d⟩, hT⟩ : ∃ T, parseC s = T := ⟨_, rfl⟩
  have HT := hide hT
  have hpl := parsed_many s
  rw [hT] at hpl
  have hs1 := str_same ka
  have hs2 := str_same kb
  clear hk hT
  go_enter Tryd.func3, Tryd.ntmps3
  go_wp2_with fail
  refine (pini_any s _).mono ?_
  rintro e w1 ⟨u, rfl, hu, hb1⟩
  rw [HT.out] at hu ⊢
  have HU := hide (CfgA.of_val hu)
  obtain ⟨n0, n1, n2, n3, n4, n5, v, hn, rfl, hv⟩ := HU.out
  obtain ⟨a, cap, rfl, _⟩ := hv
  have HB1 := hide hb1
  clear hu hb1 hn
  go_upto_region 4 with fail
  refine Code.wp_named (fun W => Blk W w1.heap.size 25 #[.int .i64 n0, .int .i64 n1, .int .i64 n2, .int .i64 n3, .int .i64 n4, .int .i64 n5, .slice a d.ps.length cap] ∧ Below w1.heap.size w1 W) ⟨Blk.new w1 _ _, (Below.refl _ _).alloc (Nat.le_refl _) _⟩ ?_
  rintro W ⟨hx, hB⟩
  have HX := hide hx
  have HB := hide (below_via HB1.out hB)
  have HU1 := hide (HU.out.below hB)
  clear hx hB
  go_wp2_with fail
  refine (rparseIni_any s _ (by omega)).mono ?_
  rintro e w2 ⟨u2, rfl, hu2, hb2⟩
  rw [HT.out] at hu2 ⊢
  have HY := hide (CfgA.of_val hu2)
  obtain ⟨m0, m1, m2, m3, m4, m5, v2, hn2, rfl, hv2⟩ := HY.out
  obtain ⟨a2, cap2, rfl, _⟩ := hv2
  have HX2 := hide (HX.out.below hb2 HX.out.lt)
  have HB2 := hide (below_via HB.out hb2)
  have HU2 := hide (HU1.out.below hb2)
  clear hu2 hb2 hn2
  go_upto_region 5 with fail
  refine Code.wp_named (fun W => Blk W w2.heap.size 25 #[.int .i64 m0, .int .i64 m1, .int .i64 m2, .int .i64 m3, .int .i64 m4, .int .i64 m5, .slice a2 d.ps.length cap2] ∧ Below w2.heap.size w2 W) ⟨Blk.new w2 _ _, (Below.refl _ _).alloc (Nat.le_refl _) _⟩ ?_
  rintro W3 ⟨hy, hB3⟩
  have HY3 := hide hy
  have HX3 := hide (HX2.out.below hB3 HX2.out.lt)
  have HB3 := hide (below_via HB2.out hB3)
  have HU3 := hide (HU2.out.below hB3)
  have HV3 := hide (HY.out.below hB3)
  clear hy hB3
  go_wp2_with fail
  refine (key_any line _ (by omega)).mono ?_
  rintro e w4 ⟨rfl, hb4⟩
  rw [HK.out]
  have HY4 := hide (HY3.out.below hb4 HY3.out.lt)
  have HX4 := hide (HX3.out.below hb4 HX3.out.lt)
  have HB4 := hide (below_via HB3.out hb4)
  have HU4 := hide (HU3.out.below hb4)
  have HV4 := hide (HV3.out.below hb4)
  clear hb4
  go_wp2_with fail
  refine (rkey_any line _ (by omega)).mono ?_
  rintro e w5 ⟨rfl, hb5⟩
  rw [HK.out]
  have hy := HY4.out.below hb5 HY4.out.lt
  have hx := HX4.out.below hb5 HX4.out.lt
  have HB5 := hide (below_via HB4.out hb5)
  have HU5 := hide (HU4.out.below hb5)
  have HV5 := hide (HV4.out.below hb5)
  have x0 : w5.cell? ⟨w1.heap.size, 0, none⟩ = some (.int .i64 n0) := hx.cell 0
  have x1 : w5.cell? ⟨w1.heap.size, 1, none⟩ = some (.int .i64 n1) := hx.cell 1
  have x2 : w5.cell? ⟨w1.heap.size, 2, none⟩ = some (.int .i64 n2) := hx.cell 2
  have x3 : w5.cell? ⟨w1.heap.size, 3, none⟩ = some (.int .i64 n3) := hx.cell 3
  have x4 : w5.cell? ⟨w1.heap.size, 4, none⟩ = some (.int .i64 n4) := hx.cell 4
  have x5 : w5.cell? ⟨w1.heap.size, 5, none⟩ = some (.int .i64 n5) := hx.cell 5
  have x6 : w5.cell? ⟨w1.heap.size, 6, none⟩ = some (.slice a d.ps.length cap) := hx.cell 6
  have y0 : w5.cell? ⟨w2.heap.size, 0, none⟩ = some (.int .i64 m0) := hy.cell 0
  have y1 : w5.cell? ⟨w2.heap.size, 1, none⟩ = some (.int .i64 m1) := hy.cell 1
  have y2 : w5.cell? ⟨w2.heap.size, 2, none⟩ = some (.int .i64 m2) := hy.cell 2
  have y3 : w5.cell? ⟨w2.heap.size, 3, none⟩ = some (.int .i64 m3) := hy.cell 3
  have y4 : w5.cell? ⟨w2.heap.size, 4, none⟩ = some (.int .i64 m4) := hy.cell 4
  have y5 : w5.cell? ⟨w2.heap.size, 5, none⟩ = some (.int .i64 m5) := hy.cell 5
  have y6 : w5.cell? ⟨w2.heap.size, 6, none⟩ = some (.slice a2 d.ps.length cap2) := hy.cell 6
  clear hx hy hb5
  go_wp2_with fail
  refine (rsame_any d d _ _ _ HU5.out HV5.out (by omega) (by omega)).mono ?_
  rintro e w6 ⟨rfl, hb6⟩
  have HB6 := hide (below_via HB5.out hb6)
  rw [cEq_refl]
  clear hb6 x0 x1 x2 x3 x4 x5 x6 y0 y1 y2 y3 y4 y5 y6
  go_wp2_with fail
  refine (iniawake_any _).mono ?_
  rintro e w7 ⟨rfl, hb7⟩
  have HB7 := hide (below_via HB6.out hb7)
  clear hb7
  go_wp2_with fail
  go_returns
  exact ⟨rfl, HB7.out⟩

set_option maxHeartbeats 1000000 in
theorem prints_any (u : Value) (c : Cfg) (w : World) (hb : (∀ z ∈ c.n, -9223372036854775808 ≤ z ∧ z ≤ 9223372036854775807) ∧ c.ps.length ≤ maxLen) (hu : CfgA w u c) :
    Calls Tryd.prog 4 #[u] w fun e w' => e = .returned (.bool true) ∧ Below w.heap.size w w' := by
  obtain ⟨⟨q, z⟩, hq⟩ : ∃ x, printC c = x := ⟨_, rfl⟩
  have HQ := hide hq
  have HU := hide hu
  have HBd := hide hb
  obtain ⟨n0, n1, n2, n3, n4, n5, v, hn, rfl, hv⟩ := hu
  obtain ⟨a, cap, rfl, _⟩ := hv
  have hs1 := str_same q
  clear hb hn hq
  go_enter Tryd.func4, Tryd.ntmps4
  go_upto_region 1 with fail
  refine Code.wp_named (fun W => Blk W w.heap.size 25 #[.int .i64 n0, .int .i64 n1, .int .i64 n2, .int .i64 n3, .int .i64 n4, .int .i64 n5, .slice a c.ps.length cap] ∧ Below w.heap.size w W) ⟨Blk.new w _ _, (Below.refl _ _).alloc (Nat.le_refl _) _⟩ ?_
  rintro W ⟨hx, hB⟩
  have HX := hide hx
  have HB := hide hB
  have HU1 := hide (HU.out.below hB)
  have x0 : W.cell? ⟨w.heap.size, 0, none⟩ = some (.int .i64 n0) := hx.cell 0
  have x1 : W.cell? ⟨w.heap.size, 1, none⟩ = some (.int .i64 n1) := hx.cell 1
  have x2 : W.cell? ⟨w.heap.size, 2, none⟩ = some (.int .i64 n2) := hx.cell 2
  have x3 : W.cell? ⟨w.heap.size, 3, none⟩ = some (.int .i64 n3) := hx.cell 3
  have x4 : W.cell? ⟨w.heap.size, 4, none⟩ = some (.int .i64 n4) := hx.cell 4
  have x5 : W.cell? ⟨w.heap.size, 5, none⟩ = some (.int .i64 n5) := hx.cell 5
  have x6 : W.cell? ⟨w.heap.size, 6, none⟩ = some (.slice a c.ps.length cap) := hx.cell 6
  clear hx hB
  go_wp2_with fail
  refine (far_any c _ _ HU1.out (Nat.le_trans HBd.out.2 (by decide))).mono ?_
  rintro e w1 ⟨hf, hb1⟩
  have hx := HX.out.below hb1 HX.out.lt
  have HX1 := hide hx
  have HB1 := hide (below_via HB.out hb1)
  have HU2 := hide (HU1.out.below hb1)
  clear x0 x1 x2 x3 x4 x5 x6
  have x0 : w1.cell? ⟨w.heap.size, 0, none⟩ = some (.int .i64 n0) := hx.cell 0
  have x1 : w1.cell? ⟨w.heap.size, 1, none⟩ = some (.int .i64 n1) := hx.cell 1
  have x2 : w1.cell? ⟨w.heap.size, 2, none⟩ = some (.int .i64 n2) := hx.cell 2
  have x3 : w1.cell? ⟨w.heap.size, 3, none⟩ = some (.int .i64 n3) := hx.cell 3
  have x4 : w1.cell? ⟨w.heap.size, 4, none⟩ = some (.int .i64 n4) := hx.cell 4
  have x5 : w1.cell? ⟨w.heap.size, 5, none⟩ = some (.int .i64 n5) := hx.cell 5
  have x6 : w1.cell? ⟨w.heap.size, 6, none⟩ = some (.slice a c.ps.length cap) := hx.cell 6
  clear hx hb1
  rcases hf with rfl | ⟨rfl, hsh⟩
  · clear x0 x1 x2 x3 x4 x5 x6
    go_wp2_with fail
    refine (iniawake_any _).mono ?_
    rintro e w2 ⟨rfl, hb2⟩
    have HB2 := hide (below_via HB1.out hb2)
    clear hb2
    go_wp2_with fail
    go_returns
    exact ⟨rfl, HB2.out⟩
  · have HBe : Hid (Bears c 200) := ⟨HBd.out.1, Nat.le_trans hsh.1 (by decide), hsh.2⟩
    have HBe2 : Hid (Bears c 100000) := ⟨HBd.out.1, Nat.le_trans hsh.1 (by decide), fun j hj => by have := hsh.2 j hj; omega⟩
    clear hsh
    go_wp2_with fail
    refine (print_any c _ _ HU2.out HBe2.out).mono ?_
    rintro e w2 ⟨rfl, hb2⟩
    rw [HQ.out]
    have hx := HX1.out.below hb2 HX1.out.lt
    have HB2 := hide (below_via HB1.out hb2)
    have HU3 := hide (HU2.out.below hb2)
    clear x0 x1 x2 x3 x4 x5 x6
    have x0 : w2.cell? ⟨w.heap.size, 0, none⟩ = some (.int .i64 n0) := hx.cell 0
    have x1 : w2.cell? ⟨w.heap.size, 1, none⟩ = some (.int .i64 n1) := hx.cell 1
    have x2 : w2.cell? ⟨w.heap.size, 2, none⟩ = some (.int .i64 n2) := hx.cell 2
    have x3 : w2.cell? ⟨w.heap.size, 3, none⟩ = some (.int .i64 n3) := hx.cell 3
    have x4 : w2.cell? ⟨w.heap.size, 4, none⟩ = some (.int .i64 n4) := hx.cell 4
    have x5 : w2.cell? ⟨w.heap.size, 5, none⟩ = some (.int .i64 n5) := hx.cell 5
    have x6 : w2.cell? ⟨w.heap.size, 6, none⟩ = some (.slice a c.ps.length cap) := hx.cell 6
    clear hx hb2
    rw [show ((q, z) : ByteArray × Int).1 = q from rfl, show ((q, z) : ByteArray × Int).2 = z from rfl]
    go_wp2_with fail
    refine (rprint_any c _ _ HU3.out HBe.out).mono ?_
    rintro e w3 ⟨rfl, hb3⟩
    rw [HQ.out]
    have HB3 := hide (below_via HB2.out hb3)
    clear hb3 x0 x1 x2 x3 x4 x5 x6
    rw [show ((q, z) : ByteArray × Int).1 = q from rfl, show ((q, z) : ByteArray × Int).2 = z from rfl]
    go_wp2_with fail
    refine (iniawake_any _).mono ?_
    rintro e w4 ⟨rfl, hb4⟩
    have HB4 := hide (below_via HB3.out hb4)
    clear hb4
    go_wp2_with fail
    go_returns
    exact ⟨rfl, HB4.out⟩
end Go.Proofs.YtlmelbijgckfpaaDoor
