/-
  The program's Parse, of what is not too long: walked. No condition but on lengths.
-/
import Derived.Test.YtlmelbijgckfpaaDoorIniK
namespace Go.Proofs.YtlmelbijgckfpaaDoor
open Go.RowKit Go.Shelf Go.Maps
attribute [local go_sem] Oper.semAt_some
set_option linter.unusedVariables false
set_option linter.unusedSimpArgs false
set_option maxRecDepth 100000

/-- The three results' blocks. -/
structure Res (W : World) (H : Nat) (l e : Int) : Prop where
  cfg : Blk W H 25 (cfgL Cfg.zero (.slice none 0 0)).toArray
  line : Blk W (H + 1) 3 #[.int .i64 l]
  err : Blk W (H + 2) 26 #[.int .i64 e]
/-- Ahead of round k. -/
structure Ahead (w W : World) (H B : Nat) (ls : List ByteArray) (T : Int × Nat × Cfg) (k : Nat) : Prop where
  res : Res W H 0 0
  cnt : Blk W (H + 5) 3 #[.int .i64 k]
  txt : ∃ st, RTxt W (H + 4) (H + 3) B st ∧ st.c.ps.length ≤ k ∧ st.seen.length ≤ k ∧ doL st k (ls.drop k) = T
  old : Below H w W
  size : B ≤ W.heap.size
theorem Res.mild {W W' : World} {H B b : Nat} {l e : Int} (h : Res W H l e) (hm : Mild B b W W') (hb : H + 2 < b) : Res W' H l e :=
  ⟨hm.blk h.cfg (by omega), hm.blk h.line (by omega), hm.blk h.err (by omega)⟩
theorem Ahead.mild {w W W' : World} {H B b : Nat} {ls : List ByteArray} {T : Int × Nat × Cfg} {k : Nat} (h : Ahead w W H B ls T k) (hm : Mild B b W W') (hb : H + 5 < b) (hB : b < B) (hH : H ≤ W.heap.size) : Ahead w W' H B ls T k := by
  obtain ⟨st, h1, h2⟩ := h.txt
  exact ⟨h.res.mild hm (by omega), hm.blk h.cnt (by omega), ⟨st, h1.mild hm (by omega) (by omega) (by omega) hB, h2⟩, hm.below h.old hH (by omega) (by omega),
    Nat.le_trans h.size (by obtain ⟨row, hg, _⟩ := hm; exact hg.size)⟩

theorem RTxt.put {w : World} {T M base : Nat} {st : St} (h : RTxt w T M base st) (g : Nat) (u : Value) (hT : T ≠ g) (hM : M ≠ g) (hb : g < base) : RTxt (w.setCell ⟨g, 0, none⟩ u) T M base st := by
  obtain ⟨h6, hne, hset, v, hblk, hrow⟩ := h
  exact ⟨h6, hne, hset.same (Below.heap_setCell w ⟨g, 0, none⟩ u M hM), v, hblk.far (p := ⟨g, 0, none⟩) hT u, ownsRow_setCell_below hrow (a := ⟨g, 0, none⟩) hb u⟩
/-- The three results' blocks, written one after the other, in any order. -/
structure Tri (w2 W : World) (H : Nat) (a b c : Array Value) : Prop where
  x : Blk W H 25 a
  y : Blk W (H + 1) 3 b
  z : Blk W (H + 1 + 1) 26 c
  os : W.os = w2.os
  tape : W.tape = w2.tape
  output : W.output = w2.output
  size : W.heap.size = w2.heap.size
  far : ∀ k, k ≠ H → k ≠ H + 1 → k ≠ H + 1 + 1 → W.heap[k]? = w2.heap[k]?
theorem Tri.drew {w2 W : World} {H : Nat} {a b c : Array Value} (h : Tri w2 W H a b c) : Tri w2 W.drew H a b c := ⟨h.x, h.y, h.z, h.os, h.tape, h.output, h.size, h.far⟩
theorem Tri.put0 {w2 W : World} {H : Nat} {a b c : Array Value} (h : Tri w2 W H a b c) (i : Nat) (u : Value) : Tri w2 (W.setCell ⟨H, i, none⟩ u) H (a.setIfInBounds i u) b c :=
  ⟨h.x.put i u, h.y.far (p := ⟨H, i, none⟩) (by show H + 1 ≠ H; omega) u, h.z.far (p := ⟨H, i, none⟩) (by show H + 1 + 1 ≠ H; omega) u, h.os, h.tape, h.output, by simpa [World.setCell] using h.size, fun k h0 h1 h2 => (Below.heap_setCell W ⟨H, i, none⟩ u k h0).trans (h.far k h0 h1 h2)⟩
theorem Tri.put1 {w2 W : World} {H : Nat} {a b c : Array Value} (h : Tri w2 W H a b c) (i : Nat) (u : Value) : Tri w2 (W.setCell ⟨H + 1, i, none⟩ u) H a (b.setIfInBounds i u) c :=
  ⟨h.x.far (p := ⟨H + 1, i, none⟩) (by show H ≠ H + 1; omega) u, h.y.put i u, h.z.far (p := ⟨H + 1, i, none⟩) (by show H + 1 + 1 ≠ H + 1; omega) u, h.os, h.tape, h.output, by simpa [World.setCell] using h.size, fun k h0 h1 h2 => (Below.heap_setCell W ⟨H + 1, i, none⟩ u k h1).trans (h.far k h0 h1 h2)⟩
theorem Tri.put2 {w2 W : World} {H : Nat} {a b c : Array Value} (h : Tri w2 W H a b c) (i : Nat) (u : Value) : Tri w2 (W.setCell ⟨H + 1 + 1, i, none⟩ u) H a b (c.setIfInBounds i u) :=
  ⟨h.x.far (p := ⟨H + 1 + 1, i, none⟩) (by show H ≠ H + 1 + 1; omega) u, h.y.far (p := ⟨H + 1 + 1, i, none⟩) (by show H + 1 ≠ H + 1 + 1; omega) u, h.z.put i u, h.os, h.tape, h.output, by simpa [World.setCell] using h.size, fun k h0 h1 h2 => (Below.heap_setCell W ⟨H + 1 + 1, i, none⟩ u k h2).trans (h.far k h0 h1 h2)⟩
theorem Tri.conv {w2 W : World} {H : Nat} {a b c a' b' c' : Array Value} (h : Tri w2 W H a' b' c') (ha : a' = a) (hb : b' = b) (hc : c' = c) : Tri w2 W H a b c := by subst ha hb hc; exact h
/-- The world where SplitSeq is called. -/
def W3 (w : World) : World := ((w.alloc (.cells (cfgL Cfg.zero (.slice none 0 0)).toArray 25)).alloc (.cells #[.int .i64 0] 3)).alloc (.cells #[.int .i64 0] 26)
def W5 (w : World) : World := ((W3 w).alloc (.map #[] 0)).alloc (.cells (txtL Cfg.zero (.slice none 0 0) (.map (some (w.heap.size + 1 + 1 + 1)))).toArray 43)
def W6 (w : World) : World := (W5 w).alloc (.cells #[.int .i64 0] 3)
theorem W3_size (w : World) : (W3 w).heap.size = w.heap.size + 3 := by unfold W3; simp
theorem W5_size (w : World) : (W5 w).heap.size = w.heap.size + 5 := by unfold W5; simp [W3_size]
theorem W6_size (w : World) : (W6 w).heap.size = w.heap.size + 6 := by unfold W6; simp [W5_size]
theorem W3_below (w : World) : Below w.heap.size w (W3 w) := (((Below.refl _ w).alloc (Nat.le_refl _) _).alloc (by simp) _).alloc (by simp; omega) _
theorem W6_below (w : World) : Below w.heap.size w (W6 w) := by
  refine Below.alloc (Below.alloc (Below.alloc (W3_below w) ?_ _) ?_ _) ?_ _
  · rw [W3_size]; omega
  · simp [W3_size]; omega
  · show w.heap.size ≤ (W5 w).heap.size
    rw [W5_size]; omega
theorem W6_res (w : World) : Res (W6 w) w.heap.size 0 0 := by
  have h3 : Res (W3 w) w.heap.size 0 0 := by
    refine ⟨((Blk.new w _ _).alloc _).alloc _, ?_, ?_⟩
    · have := (Blk.new (w.alloc (.cells (cfgL Cfg.zero (.slice none 0 0)).toArray 25)) 3 #[.int .i64 0]).alloc (.cells #[.int .i64 0] 26)
      rw [World.size_alloc] at this
      exact this
    · have := Blk.new ((w.alloc (.cells (cfgL Cfg.zero (.slice none 0 0)).toArray 25)).alloc (.cells #[.int .i64 0] 3)) 26 #[.int .i64 0]
      rw [World.size_alloc, World.size_alloc] at this
      exact this
  exact ⟨((h3.cfg.alloc _).alloc _).alloc _, ((h3.line.alloc _).alloc _).alloc _, ((h3.err.alloc _).alloc _).alloc _⟩
theorem W6_cnt (w : World) : Blk (W6 w) (w.heap.size + 5) 3 #[.int .i64 0] := by
  have := Blk.new (W5 w) 3 #[.int .i64 0]
  rw [W5_size] at this
  exact this
theorem W6_txt (w : World) (B : Nat) : RTxt (W6 w) (w.heap.size + 4) (w.heap.size + 3) B St.zero := by
  have hm := SetM.made (W3 w)
  rw [W3_size] at hm
  have hb := Blk.new ((W3 w).alloc (.map #[] 0)) 43 (txtL Cfg.zero (.slice none 0 0) (.map (some (w.heap.size + 1 + 1 + 1)))).toArray
  rw [World.size_alloc, W3_size] at hb
  refine ⟨rfl, by omega, ?_, .slice none 0 0, hb.alloc _, World.ownsRow_nil _ _ _ _⟩
  refine SetM.kept (SetM.kept hm (World.grownBy_alloc _ (.cells (txtL Cfg.zero (.slice none 0 0) (.map (some (w.heap.size + 1 + 1 + 1)))).toArray 43) none) (by simp)) (World.grownBy_alloc _ _ none) (by simp)

set_option maxHeartbeats 4000000 in
theorem parse_short (s : ByteArray) (w : World) (hs : ¬ 65536 < s.size) :
    Calls Tryd.prog 8 #[.string s] w fun e w' => ∃ u, e = .returned (.tuple #[u, .int .i64 (parseC s).2.1, .int .i64 (parseC s).1]) ∧ CfgV w' w.heap.size (parseC s).2.2 u ∧ Below w.heap.size w w' := by
  obtain ⟨T, hT⟩ : ∃ T, parseC s = T := ⟨_, rfl⟩
  have HR : Hid (doL St.zero 0 (linesB s) = T) := by show _ = _; rw [← hT]; unfold parseC; rw [if_neg hs]
  rw [hT]
  clear hT
  have h5i : ¬ (65536 : Int) < (s.size : Int) := by omega
  refine (callsIn_wide (n := 3)).1 ?_
  refine callsIn_of_wp_marks Tryd.func8 rfl trivial ?_ rfl
  simp only [Tryd.ntmps8, List.size_toArray, List.length_cons, List.length_nil, Nat.reduceAdd, Nat.reduceSub, Array.replicate_succ, Array.replicate_zero, List.push_toArray, List.append_toArray, List.nil_append, List.cons_append]
  gi_wp2
  rename_i hK
  refine hK _ ((W3 w).alloc (.map #[] 0)) ?_
  unfold W3
  clear hK
  gi_wp2
  refine ⟨trivial, (callsIn_wide.2 (split_any s (W6 w))).mono ?_⟩
  rintro e w1 ⟨rfl, hx0, hx1, hx2, hsz, hb⟩
  rw [W6_size] at hx0 hx1 hx2 hsz hb ⊢
  have hres : Res w1 w.heap.size 0 0 := ⟨(W6_res w).cfg.below hb (by omega), (W6_res w).line.below hb (by omega), (W6_res w).err.below hb (by omega)⟩
  have hcnt := (W6_cnt w).below hb (by omega)
  have htxt : RTxt w1 (w.heap.size + 4) (w.heap.size + 3) (w.heap.size + 9) St.zero := (W6_txt w _).below (by rw [W6_size]; exact hb)
  have hold : Below w.heap.size w w1 := (W6_below w).trans (hb.mono (by omega))
  have HA : Hid (Ahead w w1 w.heap.size (w.heap.size + 9) (linesB s) T 0) := ⟨hres, hcnt, ⟨St.zero, htxt, Nat.le_refl _, Nat.le_refl _, HR.out⟩, hold, by omega⟩
  have HX0 := hide hx0
  have HX1 := hide hx1
  have HX2 := hide hx2
  have hsz9 : w1.heap.size = w.heap.size + 9 := by omega
  clear hx0 hx1 hx2 hsz hb hres hcnt htxt hold
  gi_wp2
  refine wpIn_range_box (n := 3) (gf := 51) (b := w.heap.size + 6) (lo := w.heap.size + 6) (up := w.heap.size + 9) (lb := #[.pointer (some ⟨w.heap.size + 6 + 1, 0, none⟩), .pointer (some ⟨w.heap.size + 6, 0, none⟩), .pointer (some ⟨w.heap.size + 6 + 2, 0, none⟩)]) (xs := linesV s) rfl (enters_of Tryd.func51 (by kernel_rfl) rfl) rfl (by omega) (by omega)
    (lines_gives (3 - 1) (w.heap.size + 6) s w1 (by omega) HX0.out HX1.out HX2.out) (Below.refl _ _)
    (fun k W => Ahead w W w.heap.size (w.heap.size + 9) (linesB s) T k)
    (fun c k W => c = .ret ∧ ∃ (l : Nat) (e : Int), Res W w.heap.size l e ∧ T = (e, l, Cfg.zero) ∧ Below w.heap.size w W)
    (fun k A B h hm => by
      rw [hsz9] at hm
      exact h.mild hm (by omega) (by omega) (by have := h.size; omega))
    (fun c k A B h hm => by
      obtain ⟨rfl, l, e, h1, h2, h3⟩ := h
      exact ⟨rfl, l, e, h1.mild hm (by omega), h2, hm.below h3 h3.size (by omega) (by omega)⟩)
    HA.out
    (fun x => { tmps := #[.string s, undef, .pointer (some ⟨w.heap.size, 0, none⟩), .pointer (some ⟨w.heap.size + 1, 0, none⟩), .pointer (some ⟨w.heap.size + 1 + 1, 0, none⟩), .pointer (some ⟨w.heap.size + 1 + 1 + 1 + 1, 0, none⟩), .pointer (some ⟨w.heap.size + 1 + 1 + 1 + 1 + 1, 0, none⟩), x, undef, .string s, .int .i64 s.size, .bool false, undef, .map (some (w.heap.size + 1 + 1 + 1)), .agg #[.int .i64 0, .int .i64 0, .int .i64 0, .int .i64 0, .int .i64 0, .int .i64 0, .slice none 0 0, .map (some (w.heap.size + 1 + 1 + 1))], .string s, .func (.func 51) #[] #[.pointer (some ⟨w.heap.size + 6 + 1, 0, none⟩), .pointer (some ⟨w.heap.size + 6, 0, none⟩), .pointer (some ⟨w.heap.size + 6 + 2, 0, none⟩)], x, undef, undef, undef, undef, undef, undef, undef, undef, undef, undef, undef], defers := [] }) ?assign ?body ?done ?stop
  case assign =>
    intro l x W K hK
    gi_wp2
    exact hK
  case body =>
    rintro l k x W hx h
    obtain ⟨rfl, hk, hxs⟩ := linesV_at s k x hx
    obtain ⟨st, htx, hps, hse, hdo⟩ := h.txt
    have hls := (linesB_lens s).1
    have hdr := drop_tj (linesB s) k hk
    obtain ⟨p, hp⟩ : ∃ p, tj (linesB s) k = p := ⟨_, rfl⟩
    rw [hp] at hxs hdr ⊢
    have hk0 : (0 : Int) ≤ (k : Int) := by omega
    have hk1 : (k : Int) ≤ 65537 := by omega
    have c5 : W.cell? ⟨w.heap.size + 1 + 1 + 1 + 1 + 1, 0, none⟩ = some (.int .i64 k) := h.cnt.cell 0
    have f5 : W.frozen? ⟨w.heap.size + 1 + 1 + 1 + 1 + 1, 0, none⟩ = false := h.cnt.frozen 0
    obtain ⟨W4, hW4⟩ : ∃ W4, W.setCell ⟨w.heap.size + 1 + 1 + 1 + 1 + 1, 0, none⟩ (.int .i64 ((k : Int) + 1)) = W4 := ⟨_, rfl⟩
    have HTx : Hid (RTxt W4 (w.heap.size + 4) (w.heap.size + 3) (w.heap.size + 9) st) := by show RTxt _ _ _ _ _; rw [← hW4]; exact htx.put (w.heap.size + 5) _ (by omega) (by omega) (by omega)
    have HH := hide h
    have HDo := hide hdo
    have HDr := hide hdr
    have HW4 := hide hW4
    have HB4 : Hid (w.heap.size + 9 ≤ W4.heap.size) := by show _ ≤ _; rw [← hW4]; simpa [World.setCell] using h.size
    have HCnt4 : Hid (Blk W4 (w.heap.size + 5) 3 #[.int .i64 ((k : Int) + 1)]) := by show Blk _ _ _ _; rw [← hW4]; exact h.cnt.put 0 _
    clear h htx hdo hdr hp hx HA HX0 HX1 HX2
    gi_wp2
    refine ⟨trivial, (CallsIn.inRound l (callsIn_wide.2 (line_any (w.heap.size + 4) (w.heap.size + 3) (w.heap.size + 9) st p W4 (by omega) (by omega) HB4.out (by omega) (by omega) (by omega) HTx.out))).mono ?_⟩
    rintro e w2 ⟨rfl, hr2, hl2⟩
    have hlow : ∀ (g : Nat) (o : Obj), g < w.heap.size + 9 → g ≠ w.heap.size + 4 → g ≠ w.heap.size + 3 → g ≠ w.heap.size + 5 → W.heap[g]? = some o → w2.heap[g]? = some o := by
      intro g o h1 h2 h3 h4 ho
      refine (hl2.low g h1 h2 h3).trans ?_
      rw [← hW4]
      exact (Below.heap_setCell W ⟨w.heap.size + 5, 0, none⟩ _ g h4).trans ho
    have hres2 : Res w2 w.heap.size 0 0 := ⟨hlow _ _ (by omega) (by omega) (by omega) (by omega) HH.out.res.cfg, hlow _ _ (by omega) (by omega) (by omega) (by omega) HH.out.res.line, hlow _ _ (by omega) (by omega) (by omega) (by omega) HH.out.res.err⟩
    have hcnt2 : Blk w2 (w.heap.size + 5) 3 #[.int .i64 ((k : Int) + 1)] := (hl2.low (w.heap.size + 5) (by omega) (by omega) (by omega)).trans HCnt4.out
    have hold4 : Below w.heap.size w W4 := by rw [← hW4]; exact HH.out.old.setCell (p := ⟨w.heap.size + 5, 0, none⟩) (by show w.heap.size ≤ w.heap.size + 5; omega) _
    have hold2 : Below w.heap.size w w2 := hl2.below hold4 (by omega) (by omega) (by omega)
    have hsz2 : w.heap.size + 9 ≤ w2.heap.size := Nat.le_trans HB4.out hl2.size
    have HKH : Hid (KeepsHigh (w.heap.size + 9) W w2) := by
      refine ⟨?_, fun g o h1 h2 h3 => ?_⟩
      · refine Nat.le_trans ?_ hl2.size
        rw [← hW4]; simp [World.setCell]
      · refine hl2.high g o h1 ?_ h3
        rw [← hW4]
        exact (Below.heap_setCell W ⟨w.heap.size + 5, 0, none⟩ _ g (by show g ≠ w.heap.size + 5; omega)).trans h2
    have HKI : Hid (KeepsIn (w.heap.size + 6) (w.heap.size + 9) W w2) := fun g o h1 h2 ho => hlow g o h2 (by omega) (by omega) (by omega) ho
    have hcast : ((k + 1 : Nat) : Int) = (k : Int) + 1 := by omega
    have hlens := lineP_lens st p
    have HFin : Hid ((lineP st p).1 = 0 → Ahead w w2 w.heap.size (w.heap.size + 9) (linesB s) T (k + 1)) := by
      intro hz
      refine ⟨hres2, by rw [hcast]; exact hcnt2, ⟨_, hr2, by omega, by omega, ?_⟩, hold2, hsz2⟩
      rw [← doL_ok st k p _ hz, ← HDr.out]; exact HDo.out
    have HRes2 := hide hres2
    have HCnt2 := hide hcnt2
    have HOld2 := hide hold2
    have HBad : Hid ((lineP st p).1 ≠ 0 → T = ((lineP st p).1, k + 1, Cfg.zero)) := fun hz => by rw [← HDo.out, HDr.out, doL_bad st k p _ hz]
    clear hlow hres2 hcnt2 hold4 hold2 hcast hlens hr2 hl2
    generalize (lineP st p).1 = z at HFin HBad ⊢
    by_cases hz : z = 0
    · have HF := hide (HFin.out hz)
      subst hz
      gi_wp2
      rw [hsz9]
      exact ⟨HKH.out, HKI.out, HF.out⟩
    · have HT := hide (HBad.out hz)
      have q0 : w2.cell? ⟨w.heap.size, 0, none⟩ = some (.int .i64 0) := HRes2.out.cfg.cell 0
      have r0 := HRes2.out.cfg.frozen 0
      have q1 : w2.cell? ⟨w.heap.size, 1, none⟩ = some (.int .i64 0) := HRes2.out.cfg.cell 1
      have r1 := HRes2.out.cfg.frozen 1
      have q2 : w2.cell? ⟨w.heap.size, 2, none⟩ = some (.int .i64 0) := HRes2.out.cfg.cell 2
      have r2 := HRes2.out.cfg.frozen 2
      have q3 : w2.cell? ⟨w.heap.size, 3, none⟩ = some (.int .i64 0) := HRes2.out.cfg.cell 3
      have r3 := HRes2.out.cfg.frozen 3
      have q4 : w2.cell? ⟨w.heap.size, 4, none⟩ = some (.int .i64 0) := HRes2.out.cfg.cell 4
      have r4 := HRes2.out.cfg.frozen 4
      have q5 : w2.cell? ⟨w.heap.size, 5, none⟩ = some (.int .i64 0) := HRes2.out.cfg.cell 5
      have r5 := HRes2.out.cfg.frozen 5
      have q6 : w2.cell? ⟨w.heap.size, 6, none⟩ = some (.slice none 0 0) := HRes2.out.cfg.cell 6
      have r6 := HRes2.out.cfg.frozen 6
      have q7 : w2.cell? ⟨w.heap.size + 1, 0, none⟩ = some (.int .i64 0) := HRes2.out.line.cell 0
      have r7 := HRes2.out.line.frozen 0
      have q8 : w2.cell? ⟨w.heap.size + 1 + 1, 0, none⟩ = some (.int .i64 0) := HRes2.out.err.cell 0
      have r8 : w2.frozen? ⟨w.heap.size + 1 + 1, 0, none⟩ = false := HRes2.out.err.frozen 0
      have q9 : w2.cell? ⟨w.heap.size + 1 + 1 + 1 + 1 + 1, 0, none⟩ = some (.int .i64 ((k : Int) + 1)) := HCnt2.out.cell 0
      gi_wp2_with fail
      have hmx : Tryd.prog.follows .mixedOrders = true := by kernel_rfl
      have fin : ∀ W', Tri w2 W' w.heap.size (cfgL Cfg.zero (.slice none 0 0)).toArray #[.int .i64 ((k : Int) + 1)] #[.int .i64 z] →
          KeepsHigh w1.heap.size W W' ∧ ∃ (l : Nat) (e : Int), Res W' w.heap.size l e ∧ T = (e, l, Cfg.zero) ∧ Below w.heap.size w W' := by
        intro W' h
        rw [hsz9]
        refine ⟨HKH.out.trans ⟨by rw [h.size]; exact Nat.le_refl _, fun g o h1 h2 _ => (h.far g (by omega) (by omega) (by omega)).trans h2⟩, k + 1, z, ⟨h.x, ?_, h.z⟩, HT.out, ?_⟩
        · rw [show ((k + 1 : Nat) : Int) = (k : Int) + 1 by omega]; exact h.y
        · exact ⟨h.os.trans HOld2.out.os, h.tape.trans HOld2.out.tape, h.output.trans HOld2.out.output, by rw [h.size]; exact HOld2.out.size, fun g hg => (h.far g (by omega) (by omega) (by omega)).trans (HOld2.out.block g hg)⟩
      have tri0 : Tri w2 w2 w.heap.size (cfgL Cfg.zero (.slice none 0 0)).toArray #[.int .i64 0] #[.int .i64 0] := ⟨HRes2.out.cfg, HRes2.out.line, HRes2.out.err, rfl, rfl, rfl, rfl, fun _ _ _ _ => rfl⟩
      have Fin := hide fin
      have Tri0 := hide tri0
      clear fin tri0
      gi_region_o
      all_goals (try clear hmx q0 q1 q2 q3 q4 q5 q6 q7 q8 q9 r0 r1 r2 r3 r4 r5 r6 r7 r8)
      all_goals gi_wp2
      all_goals
        refine (fun q => ⟨q.1, rfl, q.2⟩) (Fin.out _ ?_)
        apply Tri.conv
        · repeat first
            | with_reducible exact Tri0.out
            | with_reducible apply Tri.drew
            | with_reducible apply Tri.put0
            | with_reducible apply Tri.put1
            | with_reducible apply Tri.put2
        all_goals rfl
  case done =>
    rintro D W hD h hK
    rw [hsz9] at hD
    obtain ⟨st, ⟨hc6, hne, hset, pv, hblk, hrow⟩, _, _, hdo⟩ := h.txt
    have hT : T = (0, 0, st.c) := by
      rw [← hdo, List.drop_eq_nil_of_le (by rw [linesV_texts, List.length_map]; exact Nat.le_refl _), doL_nil]
    obtain ⟨n0, n1, n2, n3, n4, n5, hnn⟩ := six_of _ hc6
    obtain ⟨pa, pc, rfl⟩ := own_slice hrow
    have hcl : (cfgL st.c (.slice pa st.c.ps.length pc)).toArray = #[.int .i64 n0, .int .i64 n1, .int .i64 n2, .int .i64 n3, .int .i64 n4, .int .i64 n5, .slice pa st.c.ps.length pc] := by unfold cfgL; rw [hnn]; rfl
    have hct : (txtL st.c (.slice pa st.c.ps.length pc) (.map (some (w.heap.size + 3)))).toArray = #[.int .i64 n0, .int .i64 n1, .int .i64 n2, .int .i64 n3, .int .i64 n4, .int .i64 n5, .slice pa st.c.ps.length pc, .map (some (w.heap.size + 3))] := by unfold txtL; rw [hnn]; rfl
    rw [hct] at hblk
    have p0 : W.cell? ⟨w.heap.size + 1 + 1 + 1 + 1, 0, none⟩ = some (.int .i64 n0) := hblk.cell 0
    have p1 : W.cell? ⟨w.heap.size + 1 + 1 + 1 + 1, 1, none⟩ = some (.int .i64 n1) := hblk.cell 1
    have p2 : W.cell? ⟨w.heap.size + 1 + 1 + 1 + 1, 2, none⟩ = some (.int .i64 n2) := hblk.cell 2
    have p3 : W.cell? ⟨w.heap.size + 1 + 1 + 1 + 1, 3, none⟩ = some (.int .i64 n3) := hblk.cell 3
    have p4 : W.cell? ⟨w.heap.size + 1 + 1 + 1 + 1, 4, none⟩ = some (.int .i64 n4) := hblk.cell 4
    have p5 : W.cell? ⟨w.heap.size + 1 + 1 + 1 + 1, 5, none⟩ = some (.int .i64 n5) := hblk.cell 5
    have p6 : W.cell? ⟨w.heap.size + 1 + 1 + 1 + 1, 6, none⟩ = some (.slice pa st.c.ps.length pc) := hblk.cell 6
    obtain ⟨W2, hW2⟩ : ∃ W2, W.setRow w.heap.size #[.int .i64 n0, .int .i64 n1, .int .i64 n2, .int .i64 n3, .int .i64 n4, .int .i64 n5, .slice pa st.c.ps.length pc] = W2 := ⟨_, rfl⟩
    have t1 : Blk W2 (w.heap.size + 1) 3 #[.int .i64 0] := by rw [← hW2]; exact (setRow_other W _ _ _ (by omega)).trans h.res.line
    have t2 : Blk W2 (w.heap.size + 2) 26 #[.int .i64 0] := by rw [← hW2]; exact (setRow_other W _ _ _ (by omega)).trans h.res.err
    have s1 : W2.cell? ⟨w.heap.size + 1, 0, none⟩ = some (.int .i64 0) := t1.cell 0
    have s2 : W2.cell? ⟨w.heap.size + 1 + 1, 0, none⟩ = some (.int .i64 0) := t2.cell 0
    have r1 : W2.frozen? ⟨w.heap.size + 1, 0, none⟩ = false := t1.frozen 0
    have r2 : W2.frozen? ⟨w.heap.size + 1 + 1, 0, none⟩ = false := t2.frozen 0
    have Ht1 := hide t1
    have Ht2 := hide t2
    clear t1 t2
    have HRes := hide h.res
    have HTT := hide hT
    have HCl := hide hcl
    have HH := hide h
    have HRow := hide hrow
    have HW2 := hide hW2
    have Hc6 := hide hc6
    clear h hT hcl hct hdo hblk hrow hset hnn hW2 hc6
    gi_wp2_with ((with_reducible refine wpListIn_store_row ?_ 25 (.tmp 2) (.tmp 28) ?_ w.heap.size #[.int .i64 n0, .int .i64 n1, .int .i64 n2, .int .i64 n3, .int .i64 n4, .int .i64 n5, .slice pa st.c.ps.length pc] ?_ ?_ 25 (cfgL Cfg.zero (.slice none 0 0)).toArray ?_ ?_ ?_ ?_ ?_); exact rfl; exact rfl; exact rfl; exact rfl; exact HRes.out.cfg; exact sizeCfg; exact rfl; simp [Value.oneCell']; rw [HW2.out])
    obtain ⟨W4, hW4⟩ : ∃ W4, (W2.setCell ⟨w.heap.size + 1, 0, none⟩ (.int .i64 0)).setCell ⟨w.heap.size + 1 + 1, 0, none⟩ (.int .i64 0) = W4 := ⟨_, rfl⟩
    rw [hW4]
    have old4 : ∀ (g : Nat), g ≠ w.heap.size → g ≠ w.heap.size + 1 → g ≠ w.heap.size + 2 → W4.heap[g]? = W.heap[g]? := by
      intro g h0 h1 h2
      rw [← hW4]
      refine (Below.heap_setCell _ ⟨w.heap.size + 1 + 1, 0, none⟩ _ g h2).trans ((Below.heap_setCell _ ⟨w.heap.size + 1, 0, none⟩ _ g h1).trans ?_)
      rw [← HW2.out]
      exact setRow_other W _ _ _ h0
    have hK4 : W4.heap[D]? = some (.deferred (some [])) := (old4 D (by omega) (by omega) (by omega)).trans hK
    have d1 : Blk W4 w.heap.size 25 #[.int .i64 n0, .int .i64 n1, .int .i64 n2, .int .i64 n3, .int .i64 n4, .int .i64 n5, .slice pa st.c.ps.length pc] := by
      rw [← hW4]
      refine (Below.heap_setCell _ ⟨w.heap.size + 1 + 1, 0, none⟩ _ _ (by show w.heap.size ≠ w.heap.size + 1 + 1; omega)).trans ((Below.heap_setCell _ ⟨w.heap.size + 1, 0, none⟩ _ _ (by show w.heap.size ≠ w.heap.size + 1; omega)).trans ?_)
      rw [← HW2.out]
      exact HRes.out.cfg.row _
    have d2 : Blk W4 (w.heap.size + 1) 3 #[.int .i64 0] := by
      rw [← hW4]
      exact (Below.heap_setCell _ ⟨w.heap.size + 1 + 1, 0, none⟩ _ _ (by show w.heap.size + 1 ≠ w.heap.size + 1 + 1; omega)).trans (Ht1.out.put 0 _)
    have d3 : Blk W4 (w.heap.size + 2) 26 #[.int .i64 0] := by
      rw [← hW4]
      exact Blk.put (show Blk _ (w.heap.size + 2) 26 #[.int .i64 0] from (Below.heap_setCell _ ⟨w.heap.size + 1, 0, none⟩ _ _ (by show w.heap.size + 2 ≠ w.heap.size + 1; omega)).trans Ht2.out) 0 _
    have d4 : W4.ownsRow (w.heap.size + 9) 40 2 (.slice pa st.c.ps.length pc) st.c.ps.length (pairCells st.c.ps) := by
      rw [← hW4]
      refine ownsRow_setCell_below (a := ⟨w.heap.size + 1 + 1, 0, none⟩) (ownsRow_setCell_below (a := ⟨w.heap.size + 1, 0, none⟩) ?_ (by show w.heap.size + 1 < w.heap.size + 9; omega) _) (by show w.heap.size + 1 + 1 < w.heap.size + 9; omega) _
      rw [← HW2.out]
      exact own_row HRow.out (by omega) _
    have d5 : Below w.heap.size w W4 := by
      rw [← hW4, ← HW2.out]
      exact ((below_row HH.out.old (Nat.le_refl _) _).setCell (p := ⟨w.heap.size + 1, 0, none⟩) (by show w.heap.size ≤ w.heap.size + 1; omega) _).setCell (p := ⟨w.heap.size + 1 + 1, 0, none⟩) (by show w.heap.size ≤ w.heap.size + 1 + 1; omega) _
    refine ⟨by simp, .inl ⟨_, _, rfl, run_takeDeferred hK4, ?_⟩⟩
    obtain ⟨Wz, hWz⟩ : ∃ Wz, W4.putObj D (.deferred none) = Wz := ⟨_, rfl⟩
    rw [hWz]
    have b1 : Blk Wz w.heap.size 25 #[.int .i64 n0, .int .i64 n1, .int .i64 n2, .int .i64 n3, .int .i64 n4, .int .i64 n5, .slice pa st.c.ps.length pc] := by rw [← hWz]; exact (World.putObj_heap_other (by omega)).trans d1
    have b2 : Blk Wz (w.heap.size + 1) 3 #[.int .i64 0] := by rw [← hWz]; exact (World.putObj_heap_other (by omega)).trans d2
    have b3 : Blk Wz (w.heap.size + 2) 26 #[.int .i64 0] := by rw [← hWz]; exact (World.putObj_heap_other (by omega)).trans d3
    have b4 : Wz.ownsRow w.heap.size 40 2 (.slice pa st.c.ps.length pc) st.c.ps.length (pairCells st.c.ps) := by rw [← hWz]; exact own_lower (ownsRow_putObj d4 (.deferred none) hK4 rfl) (by omega)
    have hB2 : Below w.heap.size w Wz := by rw [← hWz]; exact ⟨d5.os, d5.tape, d5.output, by simpa [World.putObj] using d5.size, fun k hk => (World.putObj_heap_other (by omega)).trans (d5.block k hk)⟩
    have q0 : Wz.cell? ⟨w.heap.size, 0, none⟩ = some (.int .i64 n0) := b1.cell 0
    have q1 : Wz.cell? ⟨w.heap.size, 1, none⟩ = some (.int .i64 n1) := b1.cell 1
    have q2 : Wz.cell? ⟨w.heap.size, 2, none⟩ = some (.int .i64 n2) := b1.cell 2
    have q3 : Wz.cell? ⟨w.heap.size, 3, none⟩ = some (.int .i64 n3) := b1.cell 3
    have q4 : Wz.cell? ⟨w.heap.size, 4, none⟩ = some (.int .i64 n4) := b1.cell 4
    have q5 : Wz.cell? ⟨w.heap.size, 5, none⟩ = some (.int .i64 n5) := b1.cell 5
    have q6 : Wz.cell? ⟨w.heap.size, 6, none⟩ = some (.slice pa st.c.ps.length pc) := b1.cell 6
    have q7 : Wz.cell? ⟨w.heap.size + 1, 0, none⟩ = some (.int .i64 0) := b2.cell 0
    have q8 : Wz.cell? ⟨w.heap.size + 1 + 1, 0, none⟩ = some (.int .i64 0) := b3.cell 0
    rw [HTT.out]
    refine ⟨_, (by simp [results, Tryd.results8, go_sem, q0, q1, q2, q3, q4, q5, q6, q7, q8]; try rfl), _, rfl, ⟨Hc6.out, _, by rw [← HCl.out], b4⟩, hB2⟩
  case stop =>
    rintro D c k W hD hk ⟨rfl, l, e, h1, h2, h3⟩ hK
    gi_wp2
    refine ⟨by simp, .inl ⟨_, _, rfl, run_takeDeferred hK, ?_⟩⟩
    obtain ⟨W2, hW2⟩ : ∃ W2, W.putObj D (.deferred none) = W2 := ⟨_, rfl⟩
    rw [hW2]
    have b1 : Blk W2 w.heap.size 25 (cfgL Cfg.zero (.slice none 0 0)).toArray := by rw [← hW2]; exact (World.putObj_heap_other (by omega)).trans h1.cfg
    have b2 : Blk W2 (w.heap.size + 1) 3 #[.int .i64 l] := by rw [← hW2]; exact (World.putObj_heap_other (by omega)).trans h1.line
    have b3 : Blk W2 (w.heap.size + 2) 26 #[.int .i64 e] := by rw [← hW2]; exact (World.putObj_heap_other (by omega)).trans h1.err
    have hB2 : Below w.heap.size w W2 := by rw [← hW2]; exact ⟨h3.os, h3.tape, h3.output, by simpa [World.putObj] using h3.size, fun k hk => (World.putObj_heap_other (by omega)).trans (h3.block k hk)⟩
    have q0 : W2.cell? ⟨w.heap.size, 0, none⟩ = some (.int .i64 0) := b1.cell 0
    have q1 : W2.cell? ⟨w.heap.size, 1, none⟩ = some (.int .i64 0) := b1.cell 1
    have q2 : W2.cell? ⟨w.heap.size, 2, none⟩ = some (.int .i64 0) := b1.cell 2
    have q3 : W2.cell? ⟨w.heap.size, 3, none⟩ = some (.int .i64 0) := b1.cell 3
    have q4 : W2.cell? ⟨w.heap.size, 4, none⟩ = some (.int .i64 0) := b1.cell 4
    have q5 : W2.cell? ⟨w.heap.size, 5, none⟩ = some (.int .i64 0) := b1.cell 5
    have q6 : W2.cell? ⟨w.heap.size, 6, none⟩ = some (.slice none 0 0) := b1.cell 6
    have q7 : W2.cell? ⟨w.heap.size + 1, 0, none⟩ = some (.int .i64 l) := b2.cell 0
    have q8 : W2.cell? ⟨w.heap.size + 1 + 1, 0, none⟩ = some (.int .i64 e) := b3.cell 0
    rw [h2]
    refine ⟨_, (by simp [results, Tryd.results8, go_sem, q0, q1, q2, q3, q4, q5, q6, q7, q8]; try rfl), _, rfl, CfgV.zero _ _, hB2⟩
end Go.Proofs.YtlmelbijgckfpaaDoor
