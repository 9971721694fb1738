/-
  The ordinary settings; settings that came in. No condition but on lengths.
-/
import Derived.Test.YtlmelbijgckfpaaDoorIniV
namespace Go.Proofs.YtlmelbijgckfpaaDoor
open Go.RowKit Go.Shelf
set_option linter.unusedVariables false
set_option linter.unusedSimpArgs false
set_option maxRecDepth 100000

section
open Go.ChangeShapes Go.WideShapes Go.Deep Go.ChangeAt
variable {H : Type} {enc : TypeId × Value → H} {w : World}
/-- The one cell of a field. -/
theorem field_cell {P : Program} {fs : Array Field} {cs : List Value} {xs : List (DataW H × List MemPlace)} {n : Nat} (hfld : ∀ (i : Nat) (f : Field), fs[i]? = some f → DataW.trod enc P w 0 (fun _ => true) true n f.type ((cs.drop f.offset).take (P.cellsOf f.type)) = xs[i]?)
    (hxl : xs.length = fs.size) {i off : Nat} {f : Field} (hf : fs[i]? = some f) (ho : f.offset = off) (h1 : P.cellsOf f.type = 1) (hl : off < cs.length) : ∃ v y, cs[off]? = some v ∧ DataW.trod enc P w 0 (fun _ => true) true n f.type [v] = some y := by
  have g := hfld i f hf
  have hi : i < xs.length := by rw [hxl]; exact (Array.getElem?_eq_some_iff.1 hf).1
  rw [ho, h1, List.getElem?_eq_getElem hi] at g
  have h3 : (cs.drop off).take 1 = [cs[off]'hl] := by rw [List.drop_eq_getElem_cons hl]; rfl
  rw [h3] at g
  exact ⟨_, _, List.getElem?_eq_getElem hl, g⟩
theorem read_pairs {fuel : Nat} {c : Value} {x : DataW H × List MemPlace} (hf : DataW.trod enc Tryd.prog w 0 (fun _ => true) true fuel 23 [c] = some x) :
    ∃ ps, ps.length ≤ maxLen ∧ PairsAt w c ps := by
  rcases open_struct_cells Tryd.underlying23 Tryd.underlying40 (by kernel_rfl) (by kernel_rfl : Tryd.prog.cellsOf 40 = 2) rfl hf with hcs | ⟨a', len, cap, hcs, h1, h2, hc⟩
  · obtain rfl := (List.cons.inj hcs).1
    exact ⟨[], Nat.zero_le _, none, 0, rfl, Or.inl rfl⟩
  · obtain rfl := (List.cons.inj hcs).1
    have each : ∀ i, i < len → ∃ q : ByteArray × ByteArray, w.cell? (a'.add (i * 2 + 0)) = some (.string q.1) ∧ w.cell? (a'.add (i * 2 + 1)) = some (.string q.2) := by
      intro i hi
      obtain ⟨u0, y0, m0, hu0, ht0⟩ := hc i hi 0 _ rfl
      obtain ⟨u1, y1, m1, hu1, ht1⟩ := hc i hi 1 _ rfl
      obtain ⟨s0, hs0, _, _⟩ := DataW.trod_string Tryd.underlying9 ht0
      obtain ⟨s1, hs1, _, _⟩ := DataW.trod_string Tryd.underlying9 ht1
      cases hs0
      cases hs1
      have e0 := hu0
      have e1 := hu1
      exact ⟨(s0, s1), e0, e1⟩
    obtain ⟨Z, hZ⟩ := choose_lt (α := ByteArray × ByteArray) each
    have hL : ((List.range len).map Z).length = len := by simp
    refine ⟨(List.range len).map Z, by rw [hL]; omega, some a', cap, by rw [hL], ?_⟩
    by_cases h0 : len = 0
    · left; subst h0; rfl
    · right
      obtain ⟨b, off, rfl, hlt⟩ := spotless (show w.cell? (a'.add 0) = _ from by have := (hZ 0 (by omega)).1; rw [Nat.zero_mul] at this; exact this)
      refine ⟨b, off, rfl, hlt, fun j hj => ?_⟩
      rw [hL] at hj
      obtain ⟨e0, e1⟩ := hZ j hj
      rw [Addr.add_lit] at e0 e1
      have hpj : pj ((List.range len).map Z) j = Z j := by
        unfold pj
        rw [List.getD_eq_getElem?_getD, List.getElem?_map, List.getElem?_range hj]; rfl
      rw [hpj]
      exact ⟨e0, by rw [Nat.add_assoc]; exact e1⟩
theorem seven_of (l : List Value) (h : l.length = 7) : ∃ a b c d e f g, l = [a, b, c, d, e, f, g] := by
  match l, h with
  | [a, b, c, d, e, f, g], _ => exact ⟨a, b, c, d, e, f, g, rfl⟩
theorem read_cfg_arg {v : Value} {d : DataW H} {p : List MemPlace} {r : Reach} {b0 : Nat} (hv : Value.okWide Tryd.prog w r b0 25 v) (h : DataW.Trod enc Tryd.prog w 0 (fun _ => true) true 25 v d p) :
    ∃ c : Cfg, ((∀ z ∈ c.n, -9223372036854775808 ≤ z ∧ z ≤ 9223372036854775807) ∧ c.ps.length ≤ maxLen) ∧ CfgA w v c := by
  obtain ⟨cs, rfl, hsz⟩ := okWide_struct Tryd.underlying25 hv
  have c7 : Tryd.prog.cellsOf 25 = 7 := by kernel_rfl
  obtain ⟨a0, a1, a2, a3, a4, a5, a6, hl⟩ := seven_of cs.toList (by rw [Array.length_toList, hsz, c7])
  obtain rfl : cs = #[a0, a1, a2, a3, a4, a5, a6] := by rw [← Array.toArray_toList (xs := cs), hl]
  obtain ⟨fuel, hf⟩ := h
  obtain ⟨xs, k, _, _, hcl, hxl, hfld⟩ := DataW.trod_struct Tryd.underlying25 hf
  obtain ⟨v0, y0, i0, t0⟩ := field_cell hfld hxl (i := 0) (off := 0) rfl (by kernel_rfl) (by kernel_rfl) (by rw [hcl, c7]; decide)
  obtain ⟨v1, y1, i1, t1⟩ := field_cell hfld hxl (i := 1) (off := 1) rfl (by kernel_rfl) (by kernel_rfl) (by rw [hcl, c7]; decide)
  obtain ⟨v2, y2, i2, t2⟩ := field_cell hfld hxl (i := 2) (off := 2) rfl (by kernel_rfl) (by kernel_rfl) (by rw [hcl, c7]; decide)
  obtain ⟨v3, y3, i3, t3⟩ := field_cell hfld hxl (i := 3) (off := 3) rfl (by kernel_rfl) (by kernel_rfl) (by rw [hcl, c7]; decide)
  obtain ⟨v4, y4, i4, t4⟩ := field_cell hfld hxl (i := 4) (off := 4) rfl (by kernel_rfl) (by kernel_rfl) (by rw [hcl, c7]; decide)
  obtain ⟨v5, y5, i5, t5⟩ := field_cell hfld hxl (i := 5) (off := 5) rfl (by kernel_rfl) (by kernel_rfl) (by rw [hcl, c7]; decide)
  obtain ⟨v6, y6, i6, t6⟩ := field_cell hfld hxl (i := 6) (off := 6) rfl (by kernel_rfl) (by kernel_rfl) (by rw [hcl, c7]; decide)
  obtain rfl : a0 = v0 := Option.some.inj i0
  obtain rfl : a1 = v1 := Option.some.inj i1
  obtain rfl : a2 = v2 := Option.some.inj i2
  obtain rfl : a3 = v3 := Option.some.inj i3
  obtain rfl : a4 = v4 := Option.some.inj i4
  obtain rfl : a5 = v5 := Option.some.inj i5
  obtain rfl : a6 = v6 := Option.some.inj i6
  obtain ⟨n0, e0, _, w0⟩ := DataW.trod_int Tryd.underlying3 t0
  obtain ⟨n1, e1, _, w1⟩ := DataW.trod_int Tryd.underlying3 t1
  obtain ⟨n2, e2, _, w2⟩ := DataW.trod_int Tryd.underlying3 t2
  obtain ⟨n3, e3, _, w3⟩ := DataW.trod_int Tryd.underlying3 t3
  obtain ⟨n4, e4, _, w4⟩ := DataW.trod_int Tryd.underlying3 t4
  obtain ⟨n5, e5, _, w5⟩ := DataW.trod_int Tryd.underlying3 t5
  obtain rfl := (List.cons.inj e0).1
  obtain rfl := (List.cons.inj e1).1
  obtain rfl := (List.cons.inj e2).1
  obtain rfl := (List.cons.inj e3).1
  obtain rfl := (List.cons.inj e4).1
  obtain rfl := (List.cons.inj e5).1
  obtain ⟨ps, hps, hat⟩ := read_pairs t6
  refine ⟨⟨[n0, n1, n2, n3, n4, n5], ps⟩, ⟨fun z hz => ?_, hps⟩, n0, n1, n2, n3, n4, n5, a6, rfl, rfl, hat⟩
  simp only [List.mem_cons, List.not_mem_nil, or_false] at hz
  rcases hz with rfl | rfl | rfl | rfl | rfl | rfl
  · exact bounds_i64 w0
  · exact bounds_i64 w1
  · exact bounds_i64 w2
  · exact bounds_i64 w3
  · exact bounds_i64 w4
  · exact bounds_i64 w5
end

def verB : ByteArray := ⟨#[115, 101, 114, 118, 101, 114, 95, 118, 101, 114, 115, 105, 111, 110]⟩
def oneB : ByteArray := ⟨#[49, 54]⟩
def baseC (r : Int) : Cfg := ⟨[r, 4, 8, 4096, 8192, 32], [(verB, oneB)]⟩
theorem base_printed (r : Int) (h0 : 1 ≤ r) (h1 : r ≤ 8) : printC (baseC r) = (textC (baseC r), 0) ∧ parseC (textC (baseC r)) = (0, 0, baseC r) := by
  have hr : r = 1 ∨ r = 2 ∨ r = 3 ∨ r = 4 ∨ r = 5 ∨ r = 6 ∨ r = 7 ∨ r = 8 := by omega
  rcases hr with rfl | rfl | rfl | rfl | rfl | rfl | rfl | rfl <;> exact ⟨by kernel_rfl, by kernel_rfl⟩

set_option maxHeartbeats 1000000 in
theorem base_any (w : World) : Calls Tryd.prog 16 #[] w fun e w' => ∃ u, e = .returned u ∧ CfgA w' u (baseC 2) ∧ Below w.heap.size w w' := by
  go_enter Tryd.func16, Tryd.ntmps16
  go_wp2_with fail
  obtain ⟨W, hW⟩ : ∃ W, (w.alloc (.cells #[.int .i64 2, .int .i64 4, .int .i64 8, .int .i64 4096, .int .i64 8192, .int .i64 32, .slice (some ⟨w.heap.size + 1, 0, none⟩) 1 1] 25)).alloc (.cells #[.string verB, .string oneB] 40) = W := ⟨_, rfl⟩
  have h1 : Blk W w.heap.size 25 #[.int .i64 2, .int .i64 4, .int .i64 8, .int .i64 4096, .int .i64 8192, .int .i64 32, .slice (some ⟨w.heap.size + 1, 0, none⟩) 1 1] := by rw [← hW]; exact (Blk.new w _ _).alloc _
  have h2 : Blk W (w.heap.size + 1) 40 #[.string verB, .string oneB] := by
    rw [← hW]
    have := Blk.new (w.alloc (.cells #[.int .i64 2, .int .i64 4, .int .i64 8, .int .i64 4096, .int .i64 8192, .int .i64 32, .slice (some ⟨w.heap.size + 1, 0, none⟩) 1 1] 25)) 40 #[.string verB, .string oneB]
    rw [World.size_alloc] at this
    exact this
  have h3 : Below w.heap.size w W := by rw [← hW]; exact ((Below.refl _ w).alloc (Nat.le_refl _) _).alloc (by simp) _
  have hW' := hW
  unfold verB oneB at hW'
  rw [hW']
  have q0 : W.cell? ⟨w.heap.size, 0, none⟩ = some (.int .i64 2) := h1.cell 0
  have q1 : W.cell? ⟨w.heap.size, 1, none⟩ = some (.int .i64 4) := h1.cell 1
  have q2 : W.cell? ⟨w.heap.size, 2, none⟩ = some (.int .i64 8) := h1.cell 2
  have q3 : W.cell? ⟨w.heap.size, 3, none⟩ = some (.int .i64 4096) := h1.cell 3
  have q4 : W.cell? ⟨w.heap.size, 4, none⟩ = some (.int .i64 8192) := h1.cell 4
  have q5 : W.cell? ⟨w.heap.size, 5, none⟩ = some (.int .i64 32) := h1.cell 5
  have q6 : W.cell? ⟨w.heap.size, 6, none⟩ = some (.slice (some ⟨w.heap.size + 1, 0, none⟩) 1 1) := h1.cell 6
  refine bodyPost_ret (by simp [results, Tryd.results16, go_sem, q0, q1, q2, q3, q4, q5, q6]; try rfl) rfl ?_
  refine ⟨_, rfl, ⟨2, 4, 8, 4096, 8192, 32, _, rfl, rfl, some ⟨w.heap.size + 1, 0, none⟩, 1, rfl, .inr ⟨w.heap.size + 1, 0, rfl, h2.lt, fun j hj => ?_⟩⟩, h3⟩
  have hj0 : j = 0 := by
    have : j < 1 := hj
    omega
  subst hj0
  exact ⟨h2.cell 0, h2.cell 1⟩

theorem base_bears (r : Int) (h0 : 1 ≤ r) (h1 : r ≤ 8) : Bears (baseC r) 100000 := by
  refine ⟨fun z hz => ?_, (show 1 ≤ 100000 by decide), fun j hj => ?_⟩
  · simp only [baseC, List.mem_cons, List.not_mem_nil, or_false] at hz
    rcases hz with rfl | rfl | rfl | rfl | rfl | rfl <;> omega
  · have hj0 : j = 0 := by
      have : j < 1 := hj
      omega
    subst hj0
    exact ⟨(show 14 ≤ 100000 by decide), (show 2 ≤ 100000 by decide)⟩
set_option maxHeartbeats 1000000 in
theorem ordinary_any (x : Int) (w : World) (hx : 0 ≤ x ∧ x ≤ 255) :
    Calls Tryd.prog 6 #[.int .u8 x] w fun e w' => e = .returned (.bool true) ∧ Below w.heap.size w w' := by
  obtain ⟨r, hr⟩ : ∃ r, 1 + x % 8 = r := ⟨_, rfl⟩
  have hr0 : 1 ≤ r ∧ r ≤ 8 := by omega
  obtain ⟨q, hq⟩ : ∃ q, textC (baseC r) = q := ⟨_, rfl⟩
  obtain ⟨hp1, hp2⟩ := base_printed r hr0.1 hr0.2
  rw [hq] at hp1 hp2
  have HP1 := hide hp1
  have HP2 := hide hp2
  have HBe := hide (base_bears r hr0.1 hr0.2)
  have HR := hide hr
  clear hq hp1 hp2 hr0 hr
  go_enter Tryd.func6, Tryd.ntmps6
  go_wp2_with fail
  refine (base_any _).mono ?_
  rintro e w1 ⟨u, rfl, hu, hb1⟩
  obtain ⟨n0, n1, n2, n3, n4, n5, v, hn, rfl, hv⟩ := hu
  have hn' : ([2, 4, 8, 4096, 8192, 32] : List Int) = [n0, n1, n2, n3, n4, n5] := hn
  injection hn' with e0 hn'
  injection hn' with e1 hn'
  injection hn' with e2 hn'
  injection hn' with e3 hn'
  injection hn' with e4 hn'
  injection hn' with e5 _
  subst e0 e1 e2 e3 e4 e5
  have HV : Hid (PairsAt w1 v (baseC r).ps) := hv
  have HB1 := hide hb1
  obtain ⟨a, cap, rfl, _⟩ := hv
  clear hb1 hn
  rw [show (baseC 2).ps.length = 1 from rfl] at HV ⊢
  go_upto_region 3 with fail
  rw [HR.out]
  refine Code.wp_named (fun W => Blk W w1.heap.size 25 #[.int .i64 r, .int .i64 4, .int .i64 8, .int .i64 4096, .int .i64 8192, .int .i64 32, .slice a 1 cap] ∧ Below w1.heap.size w1 W) ⟨Blk.new w1 _ _, (Below.refl _ _).alloc (Nat.le_refl _) _⟩ ?_
  rintro W ⟨hx', hB⟩
  have HX := hide hx'
  have HB := hide (below_via HB1.out hB)
  have HU : Hid (CfgA W (.agg #[.int .i64 r, .int .i64 4, .int .i64 8, .int .i64 4096, .int .i64 8192, .int .i64 32, .slice a 1 cap]) (baseC r)) := ⟨r, 4, 8, 4096, 8192, 32, _, rfl, rfl, HV.out.below hB⟩
  obtain ⟨x0, x1, x2, x3, x4, x5, x6⟩ := cells25 hx'
  clear hx' hB
  go_wp2_with fail
  refine (print_any (baseC r) _ _ HU.out HBe.out).mono ?_
  rintro e w2 ⟨rfl, hb2⟩
  rw [HP1.out]
  have HX2 := hide (HX.out.below hb2 HX.out.lt)
  have HB2 := hide (below_via HB.out hb2)
  have HU2 := hide (HU.out.below hb2)
  clear x0 x1 x2 x3 x4 x5 x6 hb2
  rw [show ((q, 0) : ByteArray × Int).1 = q from rfl, show ((q, 0) : ByteArray × Int).2 = 0 from rfl]
  go_wp2_with fail
  refine (pini_any q _).mono ?_
  rintro e w3 ⟨ug, rfl, hu, hb4⟩
  rw [HP2.out] at hu ⊢
  have HG := hide (CfgA.of_val hu)
  obtain ⟨m0, m1, m2, m3, m4, m5, mv, _, rfl, hv⟩ := HG.out
  obtain ⟨ma, mcap, rfl, _⟩ := hv
  have HX4 := hide (HX2.out.below hb4 HX2.out.lt)
  have HB4 := hide (below_via HB2.out hb4)
  have HU4 := hide (HU2.out.below hb4)
  clear hu hb4
  rw [show (baseC r).ps.length = 1 from rfl] at HG ⊢
  go_upto_region 5 with fail
  refine Code.wp_named (fun W => Blk W w3.heap.size 25 #[.int .i64 m0, .int .i64 m1, .int .i64 m2, .int .i64 m3, .int .i64 m4, .int .i64 m5, .slice ma 1 mcap] ∧ Below w3.heap.size w3 W) ⟨Blk.new w3 _ _, (Below.refl _ _).alloc (Nat.le_refl _) _⟩ ?_
  rintro W5 ⟨hy, hB⟩
  obtain ⟨y0, y1, y2, y3, y4, y5, y6⟩ := cells25 hy
  obtain ⟨x0, x1, x2, x3, x4, x5, x6⟩ := cells25 (HX4.out.below hB HX4.out.lt)
  have HB5 := hide (below_via HB4.out hB)
  have HU5 := hide (HU4.out.below hB)
  have HG5 := hide (HG.out.below hB)
  clear hy hB
  go_wp2_with fail
  refine (rsame_any (baseC r) (baseC r) _ _ _ HU5.out HG5.out (show 1 ≤ 1000000 by decide) (show 1 ≤ 1000000 by decide)).mono ?_
  rintro e w6 ⟨rfl, hb6⟩
  rw [cEq_refl]
  have HB6 := hide (below_via HB5.out hb6)
  clear hb6 x0 x1 x2 x3 x4 x5 x6 y0 y1 y2 y3 y4 y5 y6
  go_wp2_with fail
  refine (iniawake_any _).mono ?_
  rintro e w7 ⟨rfl, hb7⟩
  have HB7 := hide (below_via HB6.out hb7)
  clear hb7
  go_wp2_with fail
  go_returns
  exact ⟨rfl, HB7.out⟩
end Go.Proofs.YtlmelbijgckfpaaDoor
