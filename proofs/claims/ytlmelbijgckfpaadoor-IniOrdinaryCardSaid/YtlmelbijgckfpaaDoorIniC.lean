/-
  The reference's line: what it changes, what it answers. No condition but on lengths.
-/
import Derived.Test.YtlmelbijgckfpaaDoorIniB
import Derived.Test.YtlmelbijgckfpaaDoorRange2
import Derived.StillTailTactics
import Derived.Deep.RegionLaw
import Derived.Deep.AppendLies
import Derived.Deep.RegionHeld3
import Derived.Laws.StructEq
namespace Go.Proofs.YtlmelbijgckfpaaDoor
open Go.RowKit
set_option linter.unusedVariables false
set_option linter.unusedSimpArgs false
set_option maxRecDepth 100000

theorem infoPair : (Tryd.prog.info? 40).map (fun i => (i.zero, i.size, i.bytes)) = some (some (.agg #[.string ⟨#[]⟩, .string ⟨#[]⟩]), 2, 32) := by kernel_rfl
def pairCells (ps : List (ByteArray × ByteArray)) : List Value := ps.flatMap fun p => [.string p.1, .string p.2]
theorem pairCells_snoc (ps : List (ByteArray × ByteArray)) (p : ByteArray × ByteArray) : pairCells (ps ++ [p]) = pairCells ps ++ [.string p.1, .string p.2] := by
  unfold pairCells; rw [List.flatMap_append]; rfl

/-- As w was but for blocks T and M, and for rows of cells from B on. -/
structure Low (T M B : Nat) (w w' : World) : Prop where
  os : w'.os = w.os
  tape : w'.tape = w.tape
  output : w'.output = w.output
  size : w.heap.size ≤ w'.heap.size
  low : ∀ k, k < B → k ≠ T → k ≠ M → w'.heap[k]? = w.heap[k]?
  high : ∀ (k : Nat) (o : Obj), B ≤ k → w.heap[k]? = some o → o.isCells = false → w'.heap[k]? = some o
theorem Low.refl (T M B : Nat) (w : World) : Low T M B w w := ⟨rfl, rfl, rfl, Nat.le_refl _, fun _ _ _ _ => rfl, fun _ _ _ h _ => h⟩
theorem Low.trans {T M B : Nat} {u v w : World} (h : Low T M B u v) (k : Low T M B v w) : Low T M B u w :=
  ⟨k.os.trans h.os, k.tape.trans h.tape, k.output.trans h.output, Nat.le_trans h.size k.size, fun i h1 h2 h3 => (k.low i h1 h2 h3).trans (h.low i h1 h2 h3), fun i o h1 h2 h3 => k.high i o h1 (h.high i o h1 h2 h3) h3⟩
theorem Low.of_below {w w' : World} (T M B : Nat) (hB : B ≤ w.heap.size) (h : Below w.heap.size w w') : Low T M B w w' :=
  ⟨h.os, h.tape, h.output, h.size, fun k hk _ _ => h.block k (Nat.lt_of_lt_of_le hk hB), fun k o _ hk _ => (h.block k (Array.getElem?_eq_some_iff.1 hk).1).trans hk⟩
theorem Low.put {T M B : Nat} (w : World) (hT : T < B) (i : Nat) (u : Value) : Low T M B w (w.setCell ⟨T, i, none⟩ u) :=
  ⟨rfl, rfl, rfl, by simp [World.setCell], fun k _ h1 _ => Below.heap_setCell w ⟨T, i, none⟩ u k h1, fun k o hk h _ => (Below.heap_setCell w ⟨T, i, none⟩ u k (fun e => by simp at e; omega)).trans h⟩
theorem Low.grown {T M B base e size m : Nat} {v : Value} {xs : List Value} {w w' : World} (ho : w.ownsRow base e size v m xs) (hg : w.grownBy w' v.ownBlock) (hb : B ≤ base) (hB : B ≤ w.heap.size) : Low T M B w w' := by
  have hrow : ∀ j, v.ownBlock = some j → B ≤ j ∧ ∀ o, w.heap[j]? = some o → o.isCells = true := by
    intro j hj
    rcases ho.2 with ⟨rfl, _⟩ | ⟨g, cap, cur, rfl, h1, h2, _⟩
    · cases hj
    · have : g = j := by simpa [Value.ownBlock] using hj
      subst this
      exact ⟨by omega, fun o ho => by rw [h2] at ho; cases ho; rfl⟩
  exact ⟨hg.os, hg.tape, hg.output, hg.size, fun k hk _ _ => hg.block k (by omega) (fun e => by have := (hrow k e.symm).1; omega),
    fun k o _ hk ho' => (hg.block k (Array.getElem?_eq_some_iff.1 hk).1 (fun e => by rw [(hrow k e.symm).2 o hk] at ho'; cases ho')).trans hk⟩
theorem Low.blk {T M B g : Nat} {t : TypeId} {cs : Array Value} {w w' : World} (h : Low T M B w w') (k : Blk w g t cs) (hg : g < B) (h1 : g ≠ T) (h2 : g ≠ M) : Blk w' g t cs := (h.low g hg h1 h2).trans k
theorem Low.below {T M B B0 : Nat} {a w w' : World} (h : Low T M B w w') (k : Below B0 a w) (hB : B0 ≤ B) (hT : B0 ≤ T) (hM : B0 ≤ M) : Below B0 a w' :=
  ⟨h.os.trans k.os, h.tape.trans k.tape, h.output.trans k.output, Nat.le_trans k.size h.size, fun i hi => (h.low i (by omega) (by omega) (by omega)).trans (k.block i hi)⟩

/-- The cells of settings: six numbers, the parameters' slice. -/
def cfgL (c : Cfg) (v : Value) : List Value := c.n.map (Value.int .i64) ++ [v]
theorem cfgL_len (c : Cfg) (v : Value) (h : c.n.length = 6) : (cfgL c v).length = 7 := by unfold cfgL; simp [h]
theorem cfgL_num (c : Cfg) (v : Value) (h : c.n.length = 6) (i : Nat) (hi : i < 6) : (cfgL c v).toArray[i]? = some (.int .i64 (c.n.getD i 0)) := by
  unfold cfgL
  rw [List.getElem?_toArray, List.getElem?_append_left (by simp [h]; exact hi), List.getElem?_map, List.getD_eq_getElem?_getD, List.getElem?_eq_getElem (by omega)]; rfl
theorem cfgL_ps (c : Cfg) (v : Value) (h : c.n.length = 6) : (cfgL c v).toArray[6]? = some v := by
  unfold cfgL
  rw [List.getElem?_toArray, List.getElem?_append_right (by simp [h])]
  simp [h]
theorem cfgL_put (c : Cfg) (v : Value) (h : c.n.length = 6) (i : Nat) (hi : i < 6) (x : Int) : (cfgL c v).toArray.setIfInBounds i (.int .i64 x) = (cfgL (c.put i x) v).toArray := by
  unfold cfgL Cfg.put
  rw [List.setIfInBounds_toArray, List.set_append_left _ _ (by simp [h]; exact hi), List.map_set]
theorem cfgL_row (c : Cfg) (v u : Value) (h : c.n.length = 6) : (cfgL c v).toArray.setIfInBounds 6 u = (cfgL c u).toArray := by
  unfold cfgL
  rw [List.setIfInBounds_toArray, List.set_append_right _ _ (by simp [h])]
  simp [h]
theorem put_length (c : Cfg) (i : Nat) (x : Int) : (c.put i x).n.length = c.n.length := by unfold Cfg.put; simp

/-- Block C is the settings c, whose parameters lie from base on. -/
def RCfg (w : World) (C base : Nat) (c : Cfg) : Prop := c.n.length = 6 ∧ ∃ v, Blk w C 25 (cfgL c v).toArray ∧ w.ownsRow base 40 2 v c.ps.length (pairCells c.ps)

theorem isParam_iff (s : ByteArray) : isParam s = true ↔ 6 < s.size ∧ s.extract 0 6 = ⟨#[112, 97, 114, 97, 109, 46]⟩ := by
  unfold isParam
  rw [Bool.and_eq_true]
  have e : nParam.data.toList = [112, 97, 114, 97, 109, 46] := rfl
  constructor
  · rintro ⟨h1, h2⟩
    refine ⟨of_decide_eq_true h2, ?_⟩
    rw [ext_iff, ext_take, bs_list]
    have h3 : nParam.data.toList <+: s.data.toList := List.isPrefixOf_iff_prefix.1 h1
    exact (List.prefix_iff_eq_take.1 h3).symm
  · rintro ⟨h1, h2⟩
    refine ⟨?_, decide_eq_true h1⟩
    rw [ext_iff, ext_take, bs_list] at h2
    refine List.isPrefixOf_iff_prefix.2 (List.prefix_iff_eq_take.2 ?_)
    rw [e]
    exact h2.symm
theorem not_param (s : ByteArray) (h : isParam s = false) : s.size ≤ 6 ∨ (6 < s.size ∧ s.extract 0 6 ≠ ⟨#[112, 97, 114, 97, 109, 46]⟩) := by
  by_cases h1 : 6 < s.size
  · refine Or.inr ⟨h1, fun h2 => ?_⟩
    rw [(isParam_iff s).2 ⟨h1, h2⟩] at h; cases h
  · exact Or.inl (by omega)

theorem own_cells2 {w : World} {base e size m : Nat} {v : Value} {xs : List Value} {C : Nat} (ho : w.ownsRow base e size v m xs) (hC : C < base) (i : Nat) (u : Value) : (w.setCell ⟨C, i, none⟩ u).ownsRow base e size v m xs := ownsRow_setCell_below ho (a := ⟨C, i, none⟩) hC u

theorem own_ge {base e size m j : Nat} {v : Value} {xs : List Value} {w : World} (ho : w.ownsRow base e size v m xs) (h : v.ownBlock = some j) : base ≤ j := by
  rcases ho.2 with ⟨rfl, _⟩ | ⟨g, cap, cur, rfl, h1, _⟩
  · cases h
  · have : g = j := by simpa [Value.ownBlock] using h
    omega
theorem own_types {w : World} {b b' e e' z z' n n' : Nat} {v v' : Value} {xs xs' : List Value} (h : w.ownsRow b e z v n xs) (h' : w.ownsRow b' e' z' v' n' xs') (he : e ≠ e') : v.ownBlock = none ∨ v.ownBlock ≠ v'.ownBlock := by
  rcases h.2 with ⟨rfl, _⟩ | ⟨g, cap, cur, rfl, _, h1, _⟩
  · exact .inl rfl
  · rcases h'.2 with ⟨rfl, _⟩ | ⟨g', cap', cur', rfl, _, h1', _⟩
    · exact .inr (by simp [Value.ownBlock])
    · refine .inr fun hg => ?_
      have : g = g' := by simpa [Value.ownBlock] using hg
      subst this
      rw [h1] at h1'
      exact he (by cases h1'; rfl)
set_option maxHeartbeats 2000000 in
theorem rone_param (C base : Nat) (st : St) (s name value : ByteArray) (sv : Value) (w : World) (hC : C < base) (hb : base ≤ w.heap.size) (hs : s.size ≤ 100000) (hps : st.c.ps.length ≤ 100000)
    (hk : keyP s = some (name, value)) (hn : name.size ≠ 0) (hp : isParam name = true) (hc : RCfg w C base st.c) (hsv : w.ownsRow base 9 1 sv st.seen.length (texV st.seen)) :
    Calls Tryd.prog 21 #[.pointer (some ⟨C, 0, none⟩), sv, .string s] w fun e w' => e = .returned (.tuple #[sv, .int .i64 0]) ∧ RCfg w' C base ⟨st.c.n, st.c.ps ++ [(name.extract 6 name.size, value)]⟩ ∧ w'.ownsRow base 9 1 sv st.seen.length (texV st.seen) ∧ Low C C base w w' := by
  obtain ⟨i0, hi, hz0, hz1, hz2⟩ := info_parts infoPair
  obtain ⟨hc6, v, hblk, hrow⟩ := hc
  obtain ⟨h6, hpre⟩ := (isParam_iff name).1 hp
  have hkv : keyV s = .tuple #[.string name, .string value, .bool true] := by unfold keyV; rw [hk]
  have HKV := hide hkv
  have h6i : (6 : Int) < (name.size : Int) := by omega
  have h6j : (6 : Int) ≤ (name.size : Int) := by omega
  rcases empty_tests name with ⟨h0, _⟩ | ⟨_, hn1, hn2⟩
  · exact absurd h0 hn
  have HBlk := hide hblk
  have HRow := hide hrow
  have HSv := hide hsv
  obtain ⟨sa, sc, rfl⟩ := own_slice hsv
  obtain ⟨va, vc, rfl⟩ := own_slice hrow
  clear hkv hblk hrow hsv hp hk hn
  go_enter Tryd.func21, Tryd.ntmps21
  go_wp2_with fail
  refine (rkey_any s _ hs).mono ?_
  rintro e w1 ⟨rfl, hb1⟩
  rw [HKV.out]
  have HL1 := hide (Low.of_below C C base hb hb1)
  have hblk := HBlk.out.below hb1 HBlk.out.lt
  have g0 := hblk.cell 6
  rw [cfgL_ps _ _ hc6] at g0
  have f0 := hblk.frozen 6
  have HBlk1 := hide hblk
  have HRow1 := hide (own_below HRow.out hb1)
  have HSv1 := hide (own_below HSv.out hb1)
  have hbs : base ≤ w1.heap.size := Nat.le_trans hb hb1.size
  clear hblk hb1
  go_wp2_with fail
  have hrd : w1.drew.ownsRow base 40 2 (.slice va st.c.ps.length vc) st.c.ps.length (pairCells st.c.ps) := HRow1.out
  have HRd := hide hrd
  clear hrd
  have HNE : Hid (some C ≠ (Value.slice va st.c.ps.length vc).ownBlock) := fun e => by have := own_ge HRow1.out e.symm; omega
  have HBd : Hid (Blk (w1.drew.alloc (.cells #[.string (name.extract 6 name.size), .string value] 40)) C 25 (cfgL st.c (.slice va st.c.ps.length vc)).toArray) := (show Blk w1.drew C 25 _ from HBlk1.out).alloc _
  have HSd : Hid ((w1.drew.alloc (.cells #[.string (name.extract 6 name.size), .string value] 40)).ownsRow base 9 1 (.slice sa st.seen.length sc) st.seen.length (texV st.seen)) := (show w1.drew.ownsRow _ _ _ _ _ _ from HSv1.out).alloc _
  have HLd : Hid (Low C C base w (w1.drew.alloc (.cells #[.string (name.extract 6 name.size), .string value] 40))) := HL1.out.trans (Low.of_below C C base hbs (((Below.refl _ w1).drew).alloc (Nat.le_refl _) _))
  have hblkb : Blk (w1.alloc (.cells #[.string (name.extract 6 name.size), .string value] 40)) C 25 (cfgL st.c (.slice va st.c.ps.length vc)).toArray := HBlk1.out.alloc _
  have g0b := hblkb.cell 6
  rw [cfgL_ps _ _ hc6] at g0b
  have f0b := hblkb.frozen 6
  clear hblkb
  go_region_law ((refine step_append_lies _ (by rfl) _ _ 23 (by rfl) base 40 i0 (.agg #[.string ⟨#[]⟩, .string ⟨#[]⟩]) 2 32 Tryd.underlying23 hi hz0 hz1 hz2 rfl (by decide) _ st.c.ps.length (pairCells st.c.ps) (by rfl) (HRd.out.alloc _) ⟨w1.heap.size, 0, none⟩ 1 1 [.string (name.extract 6 name.size), .string value] (by rfl) rfl (World.news_of_block (heap_alloc_new w1.drew _)) (by simp [Value.oneCell']) (by decide) (by simp [maxLen]; omega) (by omega) (by simp; omega) _ rfl ?_; intro g cap w3 hown3 hg3 hat hlt3; have hbC := HBd.out.grown hg3 HNE.out; have e6 := hbC.cell 6; rw [cfgL_ps _ _ hc6] at e6; have f6 := hbC.frozen 6; have HbC := hide hbC; have HOwn3 := hide hown3; have HG3 := hide hg3; clear hbC hown3 hg3))
  all_goals
    go_wp2_with fail
    go_returns
    refine ⟨rfl, ⟨hc6, .slice (some ⟨g, 0, none⟩) (st.c.ps.length + 1) cap, by have := HbC.out.put 6 (.slice (some ⟨g, 0, none⟩) (st.c.ps.length + 1) cap); rw [cfgL_row _ _ _ hc6] at this; exact this, ?_⟩, own_cells2 (HSd.out.kept HG3.out (own_types HSd.out (HRd.out.alloc (.cells #[.string (name.extract 6 name.size), .string value] 40)) (by decide))) hC 6 _, ?_⟩
    · rw [pairCells_snoc, List.length_append]; exact own_cells2 HOwn3.out hC 6 _
    · exact (HLd.out.trans (Low.grown (HRd.out.alloc _) HG3.out (Nat.le_refl _) (by simp; omega))).trans (Low.put _ hC 6 _)
end Go.Proofs.YtlmelbijgckfpaaDoor
