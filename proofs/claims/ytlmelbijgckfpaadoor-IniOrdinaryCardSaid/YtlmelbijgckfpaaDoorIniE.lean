/-
  The reference's Parse. No condition but on lengths.
-/
import Derived.Test.YtlmelbijgckfpaaDoorIniD
namespace Go.Proofs.YtlmelbijgckfpaaDoor
open Go.RowKit
set_option linter.unusedVariables false
set_option linter.unusedSimpArgs false
set_option maxRecDepth 100000

theorem infoCfg : (Tryd.prog.info? 25).map (fun i => (i.zero, i.size)) = some (some (.agg (cfgL Cfg.zero (.slice none 0 0)).toArray), 7) := by kernel_rfl
/-- A value of settings, whose parameters lie from base on. -/
def CfgV (w : World) (base : Nat) (c : Cfg) (u : Value) : Prop := c.n.length = 6 ∧ ∃ v, u = .agg (cfgL c v).toArray ∧ w.ownsRow base 40 2 v c.ps.length (pairCells c.ps)
theorem CfgV.zero (w : World) (base : Nat) : CfgV w base Cfg.zero (.agg (cfgL Cfg.zero (.slice none 0 0)).toArray) := ⟨rfl, _, rfl, World.ownsRow_nil _ _ _ _⟩
theorem put_n (st : St) (s : ByteArray) (h : st.c.n.length = 6) : (oneP st s).2.c.n.length = 6 := by
  unfold oneP
  split
  · exact h
  · split
    · exact h
    · split
      · exact h
      · unfold setP
        split
        · exact h
        · split
          · exact h
          · split
            · exact h
            · rw [← h]; exact put_length _ _ _
theorem oneP_lens (st : St) (s : ByteArray) : (oneP st s).2.c.ps.length ≤ st.c.ps.length + 1 ∧ (oneP st s).2.seen.length ≤ st.seen.length + 1 := by
  unfold oneP
  split
  · exact ⟨Nat.le_succ _, Nat.le_succ _⟩
  · split
    · exact ⟨Nat.le_succ _, Nat.le_succ _⟩
    · split
      · exact ⟨by simp only [List.length_append, List.length_singleton]; omega, Nat.le_succ _⟩
      · unfold setP
        split
        · exact ⟨Nat.le_succ _, Nat.le_succ _⟩
        · split
          · exact ⟨Nat.le_succ _, Nat.le_succ _⟩
          · split
            · exact ⟨Nat.le_succ _, Nat.le_succ _⟩
            · exact ⟨Nat.le_succ _, by simp only [List.length_append, List.length_singleton]; omega⟩
theorem linesB_lens (s : ByteArray) : (linesB s).length ≤ s.size + 1 ∧ ∀ f ∈ linesB s, f.size ≤ s.size := by
  obtain ⟨h1, h2⟩ := lines_sum s.data.toList.length s.data.toList
  have e : s.data.toList.length = s.size := Array.length_toList
  unfold linesB
  refine ⟨by rw [List.length_map]; unfold lines; omega, ?_⟩
  intro f hf
  obtain ⟨g, hg, rfl⟩ := List.mem_map.1 hf
  have := h2 g hg
  have hz : (bs g).size = g.length := by simp [bs, ByteArray.size]
  rw [hz]; omega
theorem doL_nil (st : St) (k : Nat) : doL st k [] = (0, 0, st.c) := rfl
theorem doL_ok (st : St) (k : Nat) (l : ByteArray) (ls : List ByteArray) (h : (lineP st l).1 = 0) : doL st k (l :: ls) = doL (lineP st l).2 (k + 1) ls := by rw [doL, if_pos h]
theorem doL_bad (st : St) (k : Nat) (l : ByteArray) (ls : List ByteArray) (h : (lineP st l).1 ≠ 0) : doL st k (l :: ls) = ((lineP st l).1, k + 1, Cfg.zero) := by rw [doL, if_neg h]

theorem own_low {w w' : World} {C B b e z n : Nat} {v : Value} {xs : List Value} (ho : w.ownsRow b e z v n xs) (h : Lw C B w w') (hC : C < b) (hB : w.heap.size ≤ B) : w'.ownsRow b e z v n xs := by
  refine ⟨ho.1, ?_⟩
  rcases ho.2 with hn | ⟨g, cap, cur, rfl, h1, h2, h3⟩
  · exact .inl hn
  · refine .inr ⟨g, cap, cur, rfl, h1, ?_, h3⟩
    have hlt : g < w.heap.size := (Array.getElem?_eq_some_iff.1 h2).1
    exact (h.low g (by omega) (by omega)).trans h2
theorem idle_yes (s : ByteArray) (h : idleP s = true) : (trimS s).size = 0 ∨ (0 < (trimS s).size ∧ sb (trimS s) 0 = 35) := by
  have := of_decide_eq_true h
  by_cases h0 : (trimS s).size = 0
  · exact .inl h0
  · exact .inr ⟨by omega, this.resolve_left h0⟩
theorem idle_no (s : ByteArray) (h : idleP s = false) : 0 < (trimS s).size ∧ sb (trimS s) 0 ≠ 35 := by
  have := of_decide_eq_false h
  exact ⟨by omega, fun e => this (.inr e)⟩
theorem lineP_idle (st : St) (s : ByteArray) (h : idleP s = true) : lineP st s = (0, st) := by unfold lineP; rw [if_pos h]
theorem lineP_not (st : St) (s : ByteArray) (h : idleP s = false) : lineP st s = oneP st s := by unfold lineP; rw [h]; rfl
theorem drop_tj (ls : List ByteArray) (k : Nat) (h : k < ls.length) : ls.drop k = tj ls k :: ls.drop (k + 1) := by
  unfold tj
  rw [List.drop_eq_getElem_cons h, List.getD_eq_getElem?_getD, List.getElem?_eq_getElem h]; rfl
theorem Blk.row {w : World} {g : Nat} {t : TypeId} {old : Array Value} (h : Blk w g t old) (cs : Array Value) : Blk (w.setRow g cs) g t cs := setRow_heap w g old cs t (0, 0) h
theorem below_row {B g : Nat} {a w : World} (h : Below B a w) (hg : B ≤ g) (cs : Array Value) : Below B a (w.setRow g cs) :=
  ⟨h.os, h.tape, h.output, by simpa using h.size, fun k hk => (setRow_other w g k cs (by omega)).trans (h.block k hk)⟩
theorem own_lower {w : World} {b b' e z n : Nat} {v : Value} {xs : List Value} (ho : w.ownsRow b e z v n xs) (hb : b' ≤ b) : w.ownsRow b' e z v n xs := by
  refine ⟨ho.1, ?_⟩
  rcases ho.2 with hn | ⟨g, cap, cur, rfl, h1, h2⟩
  · exact .inl hn
  · exact .inr ⟨g, cap, cur, rfl, Nat.le_trans hb h1, h2⟩
theorem own_row {w : World} {b e z n g : Nat} {v : Value} {xs : List Value} (ho : w.ownsRow b e z v n xs) (hg : g < b) (cs : Array Value) : (w.setRow g cs).ownsRow b e z v n xs := by
  refine ⟨ho.1, ?_⟩
  rcases ho.2 with hn | ⟨g', cap, cur, rfl, h1, h2, h3⟩
  · exact .inl hn
  · exact .inr ⟨g', cap, cur, rfl, h1, (setRow_other w g g' cs (by omega)).trans h2, h3⟩
theorem sizeCfg : (Tryd.prog.info? 25).map (·.size) = some 7 := by kernel_rfl
theorem six_of (l : List Int) (h : l.length = 6) : ∃ a b c d e f, l = [a, b, c, d, e, f] := by
  match l, h with
  | [a, b, c, d, e, f], _ => exact ⟨a, b, c, d, e, f, rfl⟩
set_option maxHeartbeats 4000000 in
theorem rparseIni_any (s : ByteArray) (w : World) (hs : s.size ≤ 90000) :
    Calls Tryd.prog 9 #[.string s] w fun e w' => ∃ u, e = .returned (.tuple #[u, .int .i64 (parseC s).2.1, .int .i64 (parseC s).1]) ∧ CfgV w' w.heap.size (parseC s).2.2 u ∧ Below w.heap.size w w' := by
  obtain ⟨T, hT⟩ : ∃ T, parseC s = T := ⟨_, rfl⟩
  rw [hT]
  have HT := hide hT
  clear hT
  by_cases h5 : 65536 < s.size
  · have HR : Hid (T = (5, 0, Cfg.zero)) := by show _ = _; rw [← HT.out]; unfold parseC; rw [if_pos h5]
    rw [HR.out]
    have h5i : (65536 : Int) < (s.size : Int) := by omega
    go_enter Tryd.func9, Tryd.ntmps9
    go_wp2_with fail
    go_returns
    exact ⟨_, rfl, CfgV.zero _ _, (Below.refl _ w).alloc (Nat.le_refl _) _⟩
  · have HR : Hid (doL St.zero 0 (linesB s) = T) := by show _ = _; rw [← HT.out]; unfold parseC; rw [if_neg h5]
    have h5i : ¬ (65536 : Int) < (s.size : Int) := by omega
    obtain ⟨hn1, hn2⟩ := linesB_lens s
    obtain ⟨ls, hls⟩ : ∃ ls, linesB s = ls := ⟨_, rfl⟩
    have hn2' : ∀ k, (tj ls k).size ≤ s.size := by
      intro k
      unfold tj
      rw [List.getD_eq_getElem?_getD]
      by_cases hk : k < ls.length
      · rw [List.getElem?_eq_getElem hk]; exact hn2 _ (by rw [hls]; exact List.getElem_mem hk)
      · rw [List.getElem?_eq_none (by omega)]; exact Nat.zero_le _
    have HLN := hide hn2'
    have HLS := hide hls
    rw [hls] at HR hn1
    clear hn2 hn2' hls
    go_enter Tryd.func9, Tryd.ntmps9
    go_wp2_with fail
    refine (rlines_any s _ (by omega)).mono ?_
    rintro e w1 ⟨lv, rfl, hl, hb1⟩
    rw [HLS.out] at hl
    have hb1s := hb1.size
    have hs2 : ((w.alloc (.cells (cfgL Cfg.zero (.slice none 0 0)).toArray 25)).alloc (.cells (cfgL Cfg.zero (.slice none 0 0)).toArray 25)).heap.size = w.heap.size + 2 := by simp
    have hB1 : Below (w.heap.size + 2) ((w.alloc (.cells (cfgL Cfg.zero (.slice none 0 0)).toArray 25)).alloc (.cells (cfgL Cfg.zero (.slice none 0 0)).toArray 25)) w1 := by rw [← hs2]; exact hb1
    have hR1 : Blk w1 w.heap.size 25 (cfgL Cfg.zero (.slice none 0 0)).toArray := ((Blk.new w _ _).alloc _).below hB1 (by omega)
    have hC1 : Blk w1 (w.heap.size + 1) 25 (cfgL Cfg.zero (.slice none 0 0)).toArray := by
      have := Blk.new (w.alloc (.cells (cfgL Cfg.zero (.slice none 0 0)).toArray 25)) 25 (cfgL Cfg.zero (.slice none 0 0)).toArray
      rw [show (w.alloc (.cells (cfgL Cfg.zero (.slice none 0 0)).toArray 25)).heap.size = w.heap.size + 1 by simp] at this
      exact this.below hB1 (by omega)
    have HW : Hid (Below w.heap.size w w1) := (((Below.refl _ w).alloc (Nat.le_refl _) _).alloc (by simp) _).trans (hB1.mono (by omega))
    have hsz1 : w.heap.size + 2 ≤ w1.heap.size := by rw [← hs2]; exact hB1.size
    obtain ⟨B, hB⟩ : ∃ B, w1.heap.size = B := ⟨_, rfl⟩
    have hl2 : w1.ownsRow (w.heap.size + 2) 9 1 lv ls.length (texV ls) := by rw [← hs2]; exact hl
    have HL := hide hl2
    have HR1 := hide hR1
    have HC1 := hide hC1
    have hBs : w.heap.size + 2 ≤ B := by omega
    have HN := hide (World.ownsRow_nil w1 B 40 2)
    obtain ⟨la, lc, rfl⟩ := own_slice hl2
    clear hl hl2 hR1 hC1 hB1 hs2 hb1 hb1s
    go_wp2_with fail
    go_loopw [6, 8, 9, 10, 11] (fun v i _ _ _ wr => ∃ (k : Nat) (st : St), i = .int .i64 k ∧ k ≤ ls.length ∧ st.c.ps.length ≤ k ∧ st.seen.length ≤ k ∧ Hid (doL st k (ls.drop k) = T) ∧ RCfg wr (w.heap.size + 1) B st.c ∧ wr.ownsRow B 9 1 v st.seen.length (texV st.seen) ∧ Lw (w.heap.size + 1) B w1 wr) (fun _ i _ _ _ _ => (ls.length - (intOf i).toNat))
    case atStart => exact ⟨0, St.zero, rfl, Nat.zero_le _, Nat.zero_le _, Nat.zero_le _, HR, ⟨rfl, _, HC1.out, HN.out⟩, World.ownsRow_nil _ _ _ _, Lw.refl _ _ _⟩
    case round =>
      obtain ⟨k, st, rfl, hk, hps, hse, He, hcf, hsv, hlw⟩ := hrel
      obtain ⟨va, vc, rfl⟩ := own_slice hsv
      have HCf := hide hcf
      have HSv := hide hsv
      have HLw := hide hlw
      have hwB : B ≤ wr.heap.size := by have := hlw.size; omega
      have HRr : Hid (Blk wr w.heap.size 25 (cfgL Cfg.zero (.slice none 0 0)).toArray) := (hlw.low w.heap.size (by omega) (by omega)).trans HR1.out
      have hrow := own_low HL.out hlw (by omega) (by omega)
      clear hcf hsv hlw
      by_cases hkk : k < ls.length
      · have hki : (k : Int) < (ls.length : Int) := by omega
        have hk0 : (0 : Int) ≤ (k : Int) := by omega
        obtain ⟨la', lc', hla, _, htx⟩ := texAt hrow
        cases hla
        rcases htx with h0 | ⟨b, off, rfl, hb, hc⟩
        · subst h0; simp at hkk
        have c0 := hc k hkk
        have hd := drop_tj ls k hkk
        obtain ⟨x, hx⟩ : ∃ x, tj ls k = x := ⟨_, rfl⟩
        have hxs : x.size ≤ s.size := by rw [← hx]; exact HLN.out k
        rw [hx] at c0 hd
        have HD := hide hd
        clear hc hrow hx hd
        cases hid : idleP x with
        | true =>
          have HE : Hid (doL st (k + 1) (ls.drop (k + 1)) = T) := by
            show _ = _
            have h1 := lineP_idle st x hid
            have h2 := doL_ok st k x (ls.drop (k + 1)) (by rw [h1])
            rw [h1] at h2
            rw [← h2, ← HD.out]; exact He.out
          obtain ⟨t, ht⟩ : ∃ t, trimS x = t := ⟨_, rfl⟩
          have Ht := hide ht
          have hor := idle_yes x hid
          rw [ht] at hor
          clear hid ht
          rcases hor with h0 | ⟨h0, h35⟩
          · obtain rfl := size_zero h0
            clear h0
            go_wp2_with fail
            refine (rtrim_any x _ (by omega)).mono ?_
            rintro e w2 ⟨rfl, rfl⟩
            rw [Ht.out]
            go_wp2_with fail
            go_roundw
            case rel => exact ⟨k + 1, st, by go_num, by omega, by omega, by omega, HE.out, HCf.out, HSv.out, HLw.out⟩
            case measure => simp [intOf]; omega
          · rcases empty_tests t with ⟨h1, _⟩ | ⟨_, hn1', hn2'⟩
            · omega
            have hg := sb_get t 0 h0
            rw [h35] at hg
            have h0i : (0 : Int) < (t.size : Int) := by omega
            clear h35
            go_wp2_with fail
            refine (rtrim_any x _ (by omega)).mono ?_
            rintro e w2 ⟨rfl, rfl⟩
            rw [Ht.out]
            go_wp2_with fail
            go_roundw
            case rel => exact ⟨k + 1, st, by go_num, by omega, by omega, by omega, HE.out, HCf.out, HSv.out, HLw.out⟩
            case measure => simp [intOf]; omega
        | false =>
          have hp := lineP_not st x hid
          obtain ⟨h0, h35⟩ := idle_no x hid
          obtain ⟨t, ht⟩ : ∃ t, trimS x = t := ⟨_, rfl⟩
          have Ht := hide ht
          rw [ht] at h0 h35
          rcases empty_tests t with ⟨h1, _⟩ | ⟨_, hn1', hn2'⟩
          · omega
          have hg := sb_get t 0 h0
          have h0i : (0 : Int) < (t.size : Int) := by omega
          have d35 : (sb t 0 == 35) = false := by simpa using h35
          have hok := doL_ok st k x (ls.drop (k + 1))
          have hbad := doL_bad st k x (ls.drop (k + 1))
          rw [hp] at hok hbad
          have HOk := hide hok
          have HBad := hide hbad
          have HLens := hide (oneP_lens st x)
          clear hid ht h35 hp hok hbad
          go_wp2_with fail
          refine (rtrim_any x _ (by omega)).mono ?_
          rintro e w2 ⟨rfl, rfl⟩
          rw [Ht.out]
          go_wp2_with fail
          refine (rone_any (w.heap.size + 1) B st x (.slice va st.seen.length vc) _ (by omega) hwB (by omega) (by omega) (by omega) HCf.out HSv.out).mono ?_
          rintro e w2 ⟨v2, rfl, hcf2, hsv2, hlw2⟩
          have HCf2 := hide hcf2
          have HSv2 := hide hsv2
          have HLw2 := hide (HLw.out.trans hlw2)
          have hr2 : Blk w2 w.heap.size 25 (cfgL Cfg.zero (.slice none 0 0)).toArray := (hlw2.low w.heap.size (by omega) (by omega)).trans HRr.out
          have HR2 := hide hr2
          clear hcf2 hsv2 hlw2 hr2
          generalize hz : (oneP st x).1 = z
          by_cases hz0 : z = 0
          · have HE : Hid (doL (oneP st x).2 (k + 1) (ls.drop (k + 1)) = T) := by
              show _ = _
              rw [← HOk.out (hz.trans hz0), ← HD.out]; exact He.out
            subst hz0
            clear hz
            go_wp2_with fail
            go_roundw
            case rel => exact ⟨k + 1, (oneP st x).2, by go_num, by omega, by have := HLens.out.1; omega, by have := HLens.out.2; omega, HE.out, HCf2.out, HSv2.out, HLw2.out⟩
            case measure => simp [intOf]; omega
          · have HE : Hid (T = (z, k + 1, Cfg.zero)) := by
              show _ = _
              rw [← He.out, HD.out, HBad.out (by rw [hz]; exact hz0), hz]
            clear hz
            obtain ⟨W, hW⟩ : ∃ W, w2.setRow w.heap.size #[.int .i64 0, .int .i64 0, .int .i64 0, .int .i64 0, .int .i64 0, .int .i64 0, .slice none 0 0] = W := ⟨_, rfl⟩
            have hWB : Blk W w.heap.size 25 #[.int .i64 0, .int .i64 0, .int .i64 0, .int .i64 0, .int .i64 0, .int .i64 0, .slice none 0 0] := by rw [← hW]; exact HR2.out.row _
            have hb0 : Below w.heap.size w W := by rw [← hW]; exact below_row (HLw2.out.below HW.out (by omega) (by omega)) (Nat.le_refl _) _
            have q0 : W.cell? ⟨w.heap.size, 0, none⟩ = some (.int .i64 0) := hWB.cell 0
            have q1 : W.cell? ⟨w.heap.size, 1, none⟩ = some (.int .i64 0) := hWB.cell 1
            have q2 : W.cell? ⟨w.heap.size, 2, none⟩ = some (.int .i64 0) := hWB.cell 2
            have q3 : W.cell? ⟨w.heap.size, 3, none⟩ = some (.int .i64 0) := hWB.cell 3
            have q4 : W.cell? ⟨w.heap.size, 4, none⟩ = some (.int .i64 0) := hWB.cell 4
            have q5 : W.cell? ⟨w.heap.size, 5, none⟩ = some (.int .i64 0) := hWB.cell 5
            have q6 : W.cell? ⟨w.heap.size, 6, none⟩ = some (.slice none 0 0) := hWB.cell 6
            have Hb0 := hide hb0
            clear hb0 hWB
            go_wp2_with ((with_reducible refine wpList_store_row ?_ 25 (.tmp 2) (.tmp 47) ?_ w.heap.size #[.int .i64 0, .int .i64 0, .int .i64 0, .int .i64 0, .int .i64 0, .int .i64 0, .slice none 0 0] ?_ ?_ 25 (cfgL Cfg.zero (.slice none 0 0)).toArray ?_ ?_ ?_ ?_ ?_); exact rfl; exact rfl; exact rfl; exact rfl; exact HR2.out; exact sizeCfg; exact rfl; simp [Value.oneCell']; rw [hW])
            go_wp2_with fail
            (try simp only [Exit.inBlock, Exit.then])
            refine bodyPost_ret (by simp [results, Tryd.results9, go_sem, q0, q1, q2, q3, q4, q5, q6]; try rfl) rfl ?_
            rw [HE.out]
            exact ⟨_, rfl, CfgV.zero _ _, Hb0.out⟩
      · have HE : Hid (T = (0, 0, st.c)) := by
          show _ = _
          rw [← He.out, List.drop_eq_nil_of_le (by omega), doL_nil]
        have hki : ¬ (k : Int) < (ls.length : Int) := by omega
        obtain ⟨hc6, pv, hblk, hprow⟩ := HCf.out
        obtain ⟨n0, n1, n2, n3, n4, n5, hnn⟩ := six_of _ hc6
        obtain ⟨pa, pc, rfl⟩ := own_slice hprow
        have hcl : (cfgL st.c (.slice pa st.c.ps.length pc)).toArray = #[.int .i64 n0, .int .i64 n1, .int .i64 n2, .int .i64 n3, .int .i64 n4, .int .i64 n5, .slice pa st.c.ps.length pc] := by unfold cfgL; rw [hnn]; rfl
        have HCl := hide hcl
        rw [hcl] at hblk
        have HBlk := hide hblk
        have HPRow := hide hprow
        have p0 : wr.cell? ⟨w.heap.size + 1, 0, none⟩ = some (.int .i64 n0) := HBlk.out.cell 0
        have p1 : wr.cell? ⟨w.heap.size + 1, 1, none⟩ = some (.int .i64 n1) := HBlk.out.cell 1
        have p2 : wr.cell? ⟨w.heap.size + 1, 2, none⟩ = some (.int .i64 n2) := HBlk.out.cell 2
        have p3 : wr.cell? ⟨w.heap.size + 1, 3, none⟩ = some (.int .i64 n3) := HBlk.out.cell 3
        have p4 : wr.cell? ⟨w.heap.size + 1, 4, none⟩ = some (.int .i64 n4) := HBlk.out.cell 4
        have p5 : wr.cell? ⟨w.heap.size + 1, 5, none⟩ = some (.int .i64 n5) := HBlk.out.cell 5
        have p6 : wr.cell? ⟨w.heap.size + 1, 6, none⟩ = some (.slice pa st.c.ps.length pc) := HBlk.out.cell 6
        obtain ⟨W, hW⟩ : ∃ W, wr.setRow w.heap.size #[.int .i64 n0, .int .i64 n1, .int .i64 n2, .int .i64 n3, .int .i64 n4, .int .i64 n5, .slice pa st.c.ps.length pc] = W := ⟨_, rfl⟩
        have hWB : Blk W w.heap.size 25 #[.int .i64 n0, .int .i64 n1, .int .i64 n2, .int .i64 n3, .int .i64 n4, .int .i64 n5, .slice pa st.c.ps.length pc] := by rw [← hW]; exact HRr.out.row _
        have Hb0 : Hid (Below w.heap.size w W) := by show Below _ _ _; rw [← hW]; exact below_row (HLw.out.below HW.out (by omega) (by omega)) (Nat.le_refl _) _
        have HOw : Hid (W.ownsRow w.heap.size 40 2 (.slice pa st.c.ps.length pc) st.c.ps.length (pairCells st.c.ps)) := by show World.ownsRow _ _ _ _ _ _ _; rw [← hW]; exact own_lower (own_row HPRow.out (show w.heap.size < B by omega) _) (show w.heap.size ≤ B by omega)
        have q0 : W.cell? ⟨w.heap.size, 0, none⟩ = some (.int .i64 n0) := hWB.cell 0
        have q1 : W.cell? ⟨w.heap.size, 1, none⟩ = some (.int .i64 n1) := hWB.cell 1
        have q2 : W.cell? ⟨w.heap.size, 2, none⟩ = some (.int .i64 n2) := hWB.cell 2
        have q3 : W.cell? ⟨w.heap.size, 3, none⟩ = some (.int .i64 n3) := hWB.cell 3
        have q4 : W.cell? ⟨w.heap.size, 4, none⟩ = some (.int .i64 n4) := hWB.cell 4
        have q5 : W.cell? ⟨w.heap.size, 5, none⟩ = some (.int .i64 n5) := hWB.cell 5
        have q6 : W.cell? ⟨w.heap.size, 6, none⟩ = some (.slice pa st.c.ps.length pc) := hWB.cell 6
        have Hc6 := hide hc6
        clear hblk hprow hcl hnn hc6 hWB
        go_wp2_with ((with_reducible refine wpList_store_row ?_ 25 (.tmp 2) (.tmp 52) ?_ w.heap.size #[.int .i64 n0, .int .i64 n1, .int .i64 n2, .int .i64 n3, .int .i64 n4, .int .i64 n5, .slice pa st.c.ps.length pc] ?_ ?_ 25 (cfgL Cfg.zero (.slice none 0 0)).toArray ?_ ?_ ?_ ?_ ?_); exact rfl; exact rfl; exact rfl; exact rfl; exact HRr.out; exact sizeCfg; exact rfl; simp [Value.oneCell']; rw [hW])
        go_wp2_with fail
        (try simp only [Exit.inBlock, Exit.then])
        refine bodyPost_ret (by simp [results, Tryd.results9, go_sem, q0, q1, q2, q3, q4, q5, q6]; try rfl) rfl ?_
        rw [HE.out]
        exact ⟨_, rfl, ⟨Hc6.out, _, by rw [← HCl.out], HOw.out⟩, Hb0.out⟩
end Go.Proofs.YtlmelbijgckfpaaDoor
