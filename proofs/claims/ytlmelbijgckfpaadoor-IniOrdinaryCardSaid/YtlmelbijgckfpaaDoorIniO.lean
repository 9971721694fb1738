/-
  Equal settings, told by the program and by the reference; settings that are too long. No condition but on lengths.
-/
import Derived.Test.YtlmelbijgckfpaaDoorIniN
namespace Go.Proofs.YtlmelbijgckfpaaDoor
open Go.RowKit
set_option linter.unusedVariables false
set_option linter.unusedSimpArgs false
set_option maxRecDepth 100000

/-- Whether settings are one. -/
def cEq (c d : Cfg) : Bool := decide (c = d)
theorem cEq_no {c d : Cfg} (h : c ≠ d) : cEq c d = false := decide_eq_false h
theorem cEq_yes {c d : Cfg} (h : c = d) : cEq c d = true := decide_eq_true h
theorem cEq_rows (l : List Int) (ps qs : List (ByteArray × ByteArray)) : cEq ⟨l, ps⟩ ⟨l, qs⟩ = rowEq ps qs := by
  unfold cEq rowEq
  by_cases h : ps = qs
  · rw [h]; simp
  · have : (⟨l, ps⟩ : Cfg) ≠ ⟨l, qs⟩ := fun e => h (by cases e; rfl)
    rw [decide_eq_false this, decide_eq_false h]
/-- Value u is the settings c. -/
def CfgA (w : World) (u : Value) (c : Cfg) : Prop := ∃ n0 n1 n2 n3 n4 n5 v, c.n = [n0, n1, n2, n3, n4, n5] ∧ u = .agg #[.int .i64 n0, .int .i64 n1, .int .i64 n2, .int .i64 n3, .int .i64 n4, .int .i64 n5, v] ∧ PairsAt w v c.ps
theorem CfgA.below {w w' : World} {u : Value} {c : Cfg} (h : CfgA w u c) (hb : Below w.heap.size w w') : CfgA w' u c := by
  obtain ⟨n0, n1, n2, n3, n4, n5, v, h1, h2, h3⟩ := h
  exact ⟨n0, n1, n2, n3, n4, n5, v, h1, h2, h3.below hb⟩
theorem CfgA.of_val {w : World} {base : Nat} {u : Value} {c : Cfg} (h : CfgV w base c u) : CfgA w u c := by
  obtain ⟨h6, v, rfl, hr⟩ := h
  obtain ⟨n0, n1, n2, n3, n4, n5, hn⟩ := six_of _ h6
  exact ⟨n0, n1, n2, n3, n4, n5, v, hn, by unfold cfgL; rw [hn]; rfl, PairsAt.of_own hr⟩
theorem two_boxes (w : World) (c d : Array Value) : Blk ((w.alloc (.cells c 25)).alloc (.cells d 25)) w.heap.size 25 c ∧ Blk ((w.alloc (.cells c 25)).alloc (.cells d 25)) (w.heap.size + 1) 25 d ∧ Below w.heap.size w ((w.alloc (.cells c 25)).alloc (.cells d 25)) ∧ w.heap.size + 2 ≤ ((w.alloc (.cells c 25)).alloc (.cells d 25)).heap.size := by
  refine ⟨(Blk.new w _ _).alloc _, ?_, ((Below.refl _ w).alloc (Nat.le_refl _) _).alloc (by simp) _, by simp⟩
  have := Blk.new (w.alloc (.cells c 25)) 25 d
  rw [World.size_alloc] at this
  exact this

set_option maxHeartbeats 4000000 in
theorem rsame_any (c d : Cfg) (u v : Value) (w : World) (hc : CfgA w u c) (hd : CfgA w v d) (hl : c.ps.length ≤ 1000000) (hl' : d.ps.length ≤ 1000000) :
    Calls Tryd.prog 12 #[u, v] w fun e w' => e = .returned (.bool (cEq c d)) ∧ Below w.heap.size w w' := by
  obtain ⟨n0, n1, n2, n3, n4, n5, vc, hcn, rfl, hv⟩ := hc
  obtain ⟨m0, m1, m2, m3, m4, m5, vd, hdn, rfl, hv'⟩ := hd
  obtain ⟨cn, ps⟩ := c
  obtain ⟨dn, qs⟩ := d
  obtain rfl : cn = _ := hcn
  obtain rfl : dn = _ := hdn
  obtain ⟨a, cap, rfl, hv⟩ := hv
  obtain ⟨a', cap', rfl, hv'⟩ := hv'
  have HV := hide hv
  have HV' := hide hv'
  clear hv hv'
  go_enter Tryd.func12, Tryd.ntmps12
  go_upto_region 1 with fail
  refine Code.wp_named (fun W => Blk W w.heap.size 25 #[.int .i64 n0, .int .i64 n1, .int .i64 n2, .int .i64 n3, .int .i64 n4, .int .i64 n5, .slice a ps.length cap] ∧ Blk W (w.heap.size + 1) 25 #[.int .i64 m0, .int .i64 m1, .int .i64 m2, .int .i64 m3, .int .i64 m4, .int .i64 m5, .slice a' qs.length cap'] ∧ Below w.heap.size w W ∧ w.heap.size + 2 ≤ W.heap.size) (two_boxes w _ _) ?_
  rintro W ⟨hx, hy, hB, hsz⟩
  have HX := hide hx
  have HY := hide hy
  have HB := hide hB
  clear hx hy hB
  have e0 : W.cell? ⟨w.heap.size, 0, none⟩ = some (.int .i64 n0) := HX.out.cell 0
  have e1 : W.cell? ⟨w.heap.size, 1, none⟩ = some (.int .i64 n1) := HX.out.cell 1
  have e2 : W.cell? ⟨w.heap.size, 2, none⟩ = some (.int .i64 n2) := HX.out.cell 2
  have e3 : W.cell? ⟨w.heap.size, 3, none⟩ = some (.int .i64 n3) := HX.out.cell 3
  have e4 : W.cell? ⟨w.heap.size, 4, none⟩ = some (.int .i64 n4) := HX.out.cell 4
  have e5 : W.cell? ⟨w.heap.size, 5, none⟩ = some (.int .i64 n5) := HX.out.cell 5
  have e6 : W.cell? ⟨w.heap.size, 6, none⟩ = some (.slice a ps.length cap) := HX.out.cell 6
  have f0 : W.cell? ⟨w.heap.size + 1, 0, none⟩ = some (.int .i64 m0) := HY.out.cell 0
  have f1 : W.cell? ⟨w.heap.size + 1, 1, none⟩ = some (.int .i64 m1) := HY.out.cell 1
  have f2 : W.cell? ⟨w.heap.size + 1, 2, none⟩ = some (.int .i64 m2) := HY.out.cell 2
  have f3 : W.cell? ⟨w.heap.size + 1, 3, none⟩ = some (.int .i64 m3) := HY.out.cell 3
  have f4 : W.cell? ⟨w.heap.size + 1, 4, none⟩ = some (.int .i64 m4) := HY.out.cell 4
  have f5 : W.cell? ⟨w.heap.size + 1, 5, none⟩ = some (.int .i64 m5) := HY.out.cell 5
  have f6 : W.cell? ⟨w.heap.size + 1, 6, none⟩ = some (.slice a' qs.length cap') := HY.out.cell 6
  by_cases h0 : n0 = m0
  case neg =>
    have HE : Hid (cEq ⟨[n0, n1, n2, n3, n4, n5], ps⟩ ⟨[m0, m1, m2, m3, m4, m5], qs⟩ = false) := cEq_no fun e => h0 (by injection e with e _; injection e)
    have d0 : (n0 == m0) = false := by simpa using h0
    go_wp2_with fail
    go_returns
    exact ⟨by rw [HE.out]; rfl, HB.out⟩
  subst h0
  by_cases h1 : n1 = m1
  case neg =>
    have HE : Hid (cEq ⟨[n0, n1, n2, n3, n4, n5], ps⟩ ⟨[n0, m1, m2, m3, m4, m5], qs⟩ = false) := cEq_no fun e => h1 (by injection e with e _; injection e with _ e; injection e)
    have d1 : (n1 == m1) = false := by simpa using h1
    go_wp2_with fail
    go_returns
    exact ⟨by rw [HE.out]; rfl, HB.out⟩
  subst h1
  by_cases h2 : n2 = m2
  case neg =>
    have HE : Hid (cEq ⟨[n0, n1, n2, n3, n4, n5], ps⟩ ⟨[n0, n1, m2, m3, m4, m5], qs⟩ = false) := cEq_no fun e => h2 (by injection e with e _; simp at e; exact e.1)
    have d2 : (n2 == m2) = false := by simpa using h2
    go_wp2_with fail
    go_returns
    exact ⟨by rw [HE.out]; rfl, HB.out⟩
  subst h2
  by_cases h3 : n3 = m3
  case neg =>
    have HE : Hid (cEq ⟨[n0, n1, n2, n3, n4, n5], ps⟩ ⟨[n0, n1, n2, m3, m4, m5], qs⟩ = false) := cEq_no fun e => h3 (by injection e with e _; simp at e; exact e.1)
    have d3 : (n3 == m3) = false := by simpa using h3
    go_wp2_with fail
    go_returns
    exact ⟨by rw [HE.out]; rfl, HB.out⟩
  subst h3
  by_cases h4 : n4 = m4
  case neg =>
    have HE : Hid (cEq ⟨[n0, n1, n2, n3, n4, n5], ps⟩ ⟨[n0, n1, n2, n3, m4, m5], qs⟩ = false) := cEq_no fun e => h4 (by injection e with e _; simp at e; exact e.1)
    have d4 : (n4 == m4) = false := by simpa using h4
    go_wp2_with fail
    go_returns
    exact ⟨by rw [HE.out]; rfl, HB.out⟩
  subst h4
  by_cases h5 : n5 = m5
  case neg =>
    have HE : Hid (cEq ⟨[n0, n1, n2, n3, n4, n5], ps⟩ ⟨[n0, n1, n2, n3, n4, m5], qs⟩ = false) := cEq_no fun e => h5 (by injection e with e _; simp at e; exact e)
    have d5 : (n5 == m5) = false := by simpa using h5
    go_wp2_with fail
    go_returns
    exact ⟨by rw [HE.out]; rfl, HB.out⟩
  subst h5
  have HQ := hide (cEq_rows [n0, n1, n2, n3, n4, n5] ps qs)
  by_cases hz : ps.length = qs.length
  case neg =>
    have HE : Hid (rowEq ps qs = false) := rowEq_no fun e => hz (by rw [e])
    have hz1 : ¬ (ps.length : Int) = (qs.length : Int) := by omega
    have hz2 : ((ps.length : Int) == (qs.length : Int)) = false := by simpa using hz1
    go_wp2_with fail
    go_returns
    exact ⟨by rw [HQ.out, HE.out]; rfl, HB.out⟩
  have HZ := hide hz
  rw [← hz] at f6
  have HV2 : Hid (PairsAt W (.slice a ps.length cap) ps) := PairsAt.below ⟨a, cap, rfl, HV.out⟩ HB.out
  have HV3 : Hid (PairsAt W (.slice a' qs.length cap') qs) := PairsAt.below ⟨a', cap', rfl, HV'.out⟩ HB.out
  clear hz hl' HV HV'
  go_wp2_with fail
  go_loopw [5] (fun i wr => ∃ k : Nat, i = .int .i64 k ∧ k ≤ ps.length ∧ Hid (ps.take k = qs.take k) ∧ Below W.heap.size W wr) (fun i _ => (ps.length - (intOf i).toNat))
  case atStart => exact ⟨0, rfl, Nat.zero_le _, rfl, Below.refl _ _⟩
  case round =>
    clear e0 e1 e2 e3 e4 e5 f0 f1 f2 f3 f4 f5
    obtain ⟨k, rfl, hk, HK, hB⟩ := hrel
    have HB2 := hide hB
    have hBs := hB.size
    have e6b : wr.cell? ⟨w.heap.size, 6, none⟩ = some (.slice a ps.length cap) := (hB.cell (p := ⟨w.heap.size, 6, none⟩) (by show w.heap.size < W.heap.size; omega)).trans e6
    have f6b : wr.cell? ⟨w.heap.size + 1, 6, none⟩ = some (.slice a' ps.length cap') := (hB.cell (p := ⟨w.heap.size + 1, 6, none⟩) (by show w.heap.size + 1 < W.heap.size; omega)).trans f6
    by_cases hkk : k < ps.length
    · have hki : (k : Int) < (ps.length : Int) := by omega
      have hk0 : (0 : Int) ≤ (k : Int) := by omega
      obtain ⟨_, _, hsl, hor⟩ := HV2.out
      cases hsl
      obtain ⟨_, _, hsl', hor'⟩ := HV3.out
      cases hsl'
      rcases hor with h0 | ⟨b, off, rfl, hb, hc⟩
      · subst h0; simp at hkk
      rcases hor' with h0 | ⟨b', off', rfl, hb', hc'⟩
      · have := HZ.out; subst h0; rw [List.length_nil] at this; omega
      obtain ⟨c0, c1⟩ := hc k hkk
      obtain ⟨d0, d1⟩ := hc' k (by have := HZ.out; omega)
      rw [← hB.cell hb] at c0 c1
      rw [← hB.cell hb'] at d0 d1
      have HT := hide (take_pj ps k hkk)
      have HT' := hide (take_pj qs k (by have := HZ.out; omega))
      clear hc hc' hB e6 f6
      obtain ⟨⟨n, x⟩, hp⟩ : ∃ p, pj ps k = p := ⟨_, rfl⟩
      obtain ⟨⟨n', x'⟩, hq⟩ : ∃ p, pj qs k = p := ⟨_, rfl⟩
      have HP := hide hp
      have HQ' := hide hq
      rw [hp] at c0 c1
      rw [hq] at d0 d1
      clear hp hq
      have hne := pair_neq
      have hg := pair_guard
      by_cases he : (n, x) = (n', x')
      · have hd : pEq (n, x) (n', x') = true := decide_eq_true he
        have HE : Hid (ps.take (k + 1) = qs.take (k + 1)) := by show _ = _; rw [HT.out, HT'.out, HK.out, HP.out, HQ'.out, he]
        clear he
        go_wp2_with fail
        go_quiet (fail)
        go_wp2_with fail
        go_roundw
        case rel => exact ⟨k + 1, by go_num, by omega, HE.out, below_drewN HB2.out _⟩
        case measure => simp [intOf]; omega
      · have hd : pEq (n, x) (n', x') = false := decide_eq_false he
        have HE : Hid (rowEq ps qs = false) := rowEq_no fun e => he (by rw [← HP.out, ← HQ'.out]; exact pj_of_eq k e)
        clear he
        go_wp2_with fail
        go_quiet (fail)
        go_wp2_with fail
        go_returns
        exact ⟨by rw [HQ.out, HE.out]; rfl, below_drewN (below_via HB.out HB2.out) _⟩
    · have hki : ¬ (k : Int) < (ps.length : Int) := by omega
      have HE : Hid (rowEq ps qs = true) := rowEq_yes (by
        have h := HK.out
        rwa [List.take_of_length_le (by omega), List.take_of_length_le (by have := HZ.out; omega)] at h)
      clear hB e6 f6
      go_wp2_with fail
      go_returns
      exact ⟨by rw [HQ.out, HE.out]; rfl, below_via HB.out HB2.out⟩

set_option maxHeartbeats 4000000 in
theorem same_any (c d : Cfg) (u v : Value) (w : World) (hc : CfgA w u c) (hd : CfgA w v d) (hl : c.ps.length ≤ 1000000) (hl' : d.ps.length ≤ 1000000) :
    Calls Tryd.prog 30 #[u, v] w fun e w' => e = .returned (.bool (cEq c d)) ∧ Below w.heap.size w w' := by
  obtain ⟨n0, n1, n2, n3, n4, n5, vc, hcn, rfl, hv⟩ := hc
  obtain ⟨m0, m1, m2, m3, m4, m5, vd, hdn, rfl, hv'⟩ := hd
  obtain ⟨cn, ps⟩ := c
  obtain ⟨dn, qs⟩ := d
  obtain rfl : cn = _ := hcn
  obtain rfl : dn = _ := hdn
  obtain ⟨a, cap, rfl, hv⟩ := hv
  obtain ⟨a', cap', rfl, hv'⟩ := hv'
  have HV := hide hv
  have HV' := hide hv'
  clear hv hv'
  go_enter Tryd.func30, Tryd.ntmps30
  go_upto_region 1 with fail
  refine Code.wp_named (fun W => Blk W w.heap.size 25 #[.int .i64 n0, .int .i64 n1, .int .i64 n2, .int .i64 n3, .int .i64 n4, .int .i64 n5, .slice a ps.length cap] ∧ Blk W (w.heap.size + 1) 25 #[.int .i64 m0, .int .i64 m1, .int .i64 m2, .int .i64 m3, .int .i64 m4, .int .i64 m5, .slice a' qs.length cap'] ∧ Below w.heap.size w W ∧ w.heap.size + 2 ≤ W.heap.size) (two_boxes w _ _) ?_
  rintro W ⟨hx, hy, hB, hsz⟩
  have HX := hide hx
  have HY := hide hy
  have HB := hide hB
  clear hx hy hB
  have e0 : W.cell? ⟨w.heap.size, 0, none⟩ = some (.int .i64 n0) := HX.out.cell 0
  have e1 : W.cell? ⟨w.heap.size, 1, none⟩ = some (.int .i64 n1) := HX.out.cell 1
  have e2 : W.cell? ⟨w.heap.size, 2, none⟩ = some (.int .i64 n2) := HX.out.cell 2
  have e3 : W.cell? ⟨w.heap.size, 3, none⟩ = some (.int .i64 n3) := HX.out.cell 3
  have e4 : W.cell? ⟨w.heap.size, 4, none⟩ = some (.int .i64 n4) := HX.out.cell 4
  have e5 : W.cell? ⟨w.heap.size, 5, none⟩ = some (.int .i64 n5) := HX.out.cell 5
  have HV2 : Hid (PairsAt W (.slice a ps.length cap) ps) := PairsAt.below ⟨a, cap, rfl, HV.out⟩ HB.out
  have HV3 : Hid (PairsAt W (.slice a' qs.length cap') qs) := PairsAt.below ⟨a', cap', rfl, HV'.out⟩ HB.out
  clear HV HV'
  go_upto_region 2 with fail
  refine Code.wp_named (fun W' => Blk W' W.heap.size 89 #[.int .i64 n0, .int .i64 n1, .int .i64 n2, .int .i64 n3, .int .i64 n4, .int .i64 n5] ∧ Below W.heap.size W W') ⟨Blk.new W _ _, (Below.refl _ W).alloc (Nat.le_refl _) _⟩ ?_
  rintro W' ⟨ha, hB2⟩
  have g0 : W'.cell? ⟨W.heap.size, 0, none⟩ = some (.int .i64 n0) := ha.cell 0
  have g1 : W'.cell? ⟨W.heap.size, 1, none⟩ = some (.int .i64 n1) := ha.cell 1
  have g2 : W'.cell? ⟨W.heap.size, 2, none⟩ = some (.int .i64 n2) := ha.cell 2
  have g3 : W'.cell? ⟨W.heap.size, 3, none⟩ = some (.int .i64 n3) := ha.cell 3
  have g4 : W'.cell? ⟨W.heap.size, 4, none⟩ = some (.int .i64 n4) := ha.cell 4
  have g5 : W'.cell? ⟨W.heap.size, 5, none⟩ = some (.int .i64 n5) := ha.cell 5
  have hX' := HX.out.below hB2 (by omega)
  have hY' := HY.out.below hB2 (by omega)
  have e6 : W'.cell? ⟨w.heap.size, 6, none⟩ = some (.slice a ps.length cap) := hX'.cell 6
  have f0 : W'.cell? ⟨w.heap.size + 1, 0, none⟩ = some (.int .i64 m0) := hY'.cell 0
  have f1 : W'.cell? ⟨w.heap.size + 1, 1, none⟩ = some (.int .i64 m1) := hY'.cell 1
  have f2 : W'.cell? ⟨w.heap.size + 1, 2, none⟩ = some (.int .i64 m2) := hY'.cell 2
  have f3 : W'.cell? ⟨w.heap.size + 1, 3, none⟩ = some (.int .i64 m3) := hY'.cell 3
  have f4 : W'.cell? ⟨w.heap.size + 1, 4, none⟩ = some (.int .i64 m4) := hY'.cell 4
  have f5 : W'.cell? ⟨w.heap.size + 1, 5, none⟩ = some (.int .i64 m5) := hY'.cell 5
  have f6 : W'.cell? ⟨w.heap.size + 1, 6, none⟩ = some (.slice a' qs.length cap') := hY'.cell 6
  have HB3 := hide (below_via HB.out hB2)
  have HV4 := hide (HV2.out.below hB2)
  have HV5 := hide (HV3.out.below hB2)
  have hq := six_eql
  have hg := six_guard
  clear e0 e1 e2 e3 e4 e5 ha hB2 hX' hY' HV2 HV3
  by_cases hs : [n0, n1, n2, n3, n4, n5] = [m0, m1, m2, m3, m4, m5]
  · have hd : sixEq [n0, n1, n2, n3, n4, n5] [m0, m1, m2, m3, m4, m5] = true := decide_eq_true hs
    have HQ : Hid (cEq ⟨[n0, n1, n2, n3, n4, n5], ps⟩ ⟨[m0, m1, m2, m3, m4, m5], qs⟩ = rowEq ps qs) := by show _ = _; rw [← hs]; exact cEq_rows _ _ _
    clear hs
    go_wp2_with fail
    refine (equal_any _ _ ps qs _ hl hl' HV4.out HV5.out).mono ?_
    rintro e w1 ⟨rfl, hb1⟩
    have HB4 := hide (below_via HB3.out hb1)
    clear hb1 hq hg
    go_wp2_with fail
    go_returns
    exact ⟨by rw [HQ.out]; rfl, HB4.out⟩
  · have hd : sixEq [n0, n1, n2, n3, n4, n5] [m0, m1, m2, m3, m4, m5] = false := decide_eq_false hs
    have HQ : Hid (cEq ⟨[n0, n1, n2, n3, n4, n5], ps⟩ ⟨[m0, m1, m2, m3, m4, m5], qs⟩ = false) := cEq_no fun e => hs (by injection e)
    clear hs
    go_wp2_with fail
    go_returns
    exact ⟨by rw [HQ.out]; rfl, HB3.out⟩

/-- Few pairs, and short. -/
def Short (ps : List (ByteArray × ByteArray)) : Prop := ps.length ≤ 40 ∧ ∀ j, j < ps.length → (pj ps j).1.size ≤ 200 ∧ (pj ps j).2.size ≤ 200
set_option maxHeartbeats 1000000 in
theorem far_any (c : Cfg) (u : Value) (w : World) (hc : CfgA w u c) (hl : c.ps.length ≤ 9223372036854775807) :
    Calls Tryd.prog 13 #[u] w fun e w' => (e = .returned (.bool true) ∨ (e = .returned (.bool false) ∧ Short c.ps)) ∧ Below w.heap.size w w' := by
  obtain ⟨n0, n1, n2, n3, n4, n5, vc, hcn, rfl, hv⟩ := hc
  obtain ⟨cn, ps⟩ := c
  obtain rfl : cn = _ := hcn
  obtain ⟨a, cap, rfl, hv⟩ := hv
  have HV := hide hv
  clear hv
  go_enter Tryd.func13, Tryd.ntmps13
  go_wp2_with fail
  go_loopw [8] (fun i wr => ∃ k : Nat, i = .int .i64 k ∧ k ≤ ps.length ∧ k ≤ 40 ∧ Hid (∀ j, j < k → (pj ps j).1.size ≤ 200 ∧ (pj ps j).2.size ≤ 200) ∧ Below w.heap.size w wr) (fun i _ => (ps.length - (intOf i).toNat))
  case atStart => exact ⟨0, rfl, Nat.zero_le _, Nat.zero_le _, fun j h => absurd h (Nat.not_lt_zero _), (Below.refl _ w).alloc (Nat.le_refl _) _⟩
  case round =>
    obtain ⟨k, rfl, hk, hk40, HK, hB⟩ := hrel
    have HB := hide hB
    have hBs := hB.size
    by_cases hkk : k < ps.length
    · have hki : (k : Int) < (ps.length : Int) := by omega
      have hk0 : (0 : Int) ≤ (k : Int) := by omega
      rcases HV.out with h0 | ⟨b, off, rfl, hb, hc⟩
      · subst h0; simp at hkk
      obtain ⟨c0, c1⟩ := hc k hkk
      rw [← hB.cell hb] at c0 c1
      clear hc hB
      obtain ⟨⟨n, x⟩, hp⟩ : ∃ p, pj ps k = p := ⟨_, rfl⟩
      have HP := hide hp
      rw [hp] at c0 c1
      clear hp
      by_cases h40 : k < 40
      case neg =>
        have i40 : (40 : Int) ≤ (k : Int) := by omega
        go_wp2_with fail
        go_returns
        exact ⟨.inl rfl, HB.out.alloc hBs _⟩
      have i40 : ¬ (40 : Int) ≤ (k : Int) := by omega
      by_cases hn : n.size ≤ 200
      case neg =>
        have i1 : (200 : Int) < (n.size : Int) := by omega
        go_wp2_with fail
        go_returns
        exact ⟨.inl rfl, HB.out.alloc hBs _⟩
      have i1 : ¬ (200 : Int) < (n.size : Int) := by omega
      by_cases hx : x.size ≤ 200
      case neg =>
        have i2 : (200 : Int) < (x.size : Int) := by omega
        go_wp2_with fail
        go_returns
        exact ⟨.inl rfl, HB.out.alloc hBs _⟩
      have i2 : ¬ (200 : Int) < (x.size : Int) := by omega
      go_wp2_with fail
      go_roundw
      case rel =>
        refine ⟨k + 1, by go_num, by omega, by omega, fun j hj => ?_, HB.out.alloc hBs _⟩
        by_cases hjk : j = k
        · rw [hjk, HP.out]; exact ⟨hn, hx⟩
        · exact HK.out j (by omega)
      case measure => simp [intOf]; omega
    · have hki : ¬ (k : Int) < (ps.length : Int) := by omega
      clear hB
      go_wp2_with fail
      go_returns
      exact ⟨.inr ⟨rfl, by show ps.length ≤ 40; omega, fun j hj => HK.out j (by have h : j < ps.length := hj; omega)⟩, HB.out⟩
end Go.Proofs.YtlmelbijgckfpaaDoor
