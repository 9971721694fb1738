/-
  The program's Parse of any text; the program's Print. No condition but on lengths.
-/
import Derived.Test.YtlmelbijgckfpaaDoorIniQ
import Derived.Test.YtlmelbijgckfpaaDoorIniL
namespace Go.Proofs.YtlmelbijgckfpaaDoor
open Go.RowKit Go.Shelf Go.Maps
set_option linter.unusedVariables false
set_option linter.unusedSimpArgs false
set_option maxRecDepth 100000

section
attribute [local go_sem] Oper.semAt_some
set_option maxHeartbeats 2000000 in
theorem parse_longer (s : ByteArray) (w : World) (hs : 65536 < s.size) :
    Calls Tryd.prog 8 #[.string s] w fun e w' => ∃ u, e = .returned (.tuple #[u, .int .i64 (parseC s).2.1, .int .i64 (parseC s).1]) ∧ CfgV w' w.heap.size (parseC s).2.2 u ∧ Below w.heap.size w w' := by
  have HR : Hid (parseC s = (5, 0, Cfg.zero)) := by show _ = _; unfold parseC; rw [if_pos hs]
  rw [HR.out]
  have h5i : (65536 : Int) < (s.size : Int) := by omega
  clear hs
  refine (callsIn_wide (n := 3)).1 ?_
  refine callsIn_of_wp_marks Tryd.func8 rfl trivial ?_ rfl
  simp only [Tryd.ntmps8, List.size_toArray, List.length_cons, List.length_nil, Nat.reduceAdd, Nat.reduceSub, Array.replicate_succ, Array.replicate_zero, List.push_toArray, List.append_toArray, List.nil_append, List.cons_append]
  gi_wp2
  refine ⟨_, (by simp [results, Tryd.results8, go_sem]; try rfl), _, rfl, CfgV.zero _ _, ?_⟩
  exact (((Below.refl _ w).alloc (Nat.le_refl _) _).alloc (by simp) _).alloc (by simp; omega) _
end
theorem pini_any (s : ByteArray) (w : World) :
    Calls Tryd.prog 8 #[.string s] w fun e w' => ∃ u, e = .returned (.tuple #[u, .int .i64 (parseC s).2.1, .int .i64 (parseC s).1]) ∧ CfgV w' w.heap.size (parseC s).2.2 u ∧ Below w.heap.size w w' := by
  by_cases h : 65536 < s.size
  · exact parse_longer s w h
  · exact parse_short s w h

/-- Settings that Print bears: their numbers are numbers, their parameters not too many, nor too long. -/
structure Bears (c : Cfg) (m : Nat) : Prop where
  num : ∀ z ∈ c.n, -9223372036854775808 ≤ z ∧ z ≤ 9223372036854775807
  many : c.ps.length ≤ m
  long : ∀ j, j < c.ps.length → (pj c.ps j).1.size ≤ m ∧ (pj c.ps j).2.size ≤ m
theorem parsed_many (s : ByteArray) : (parseC s).2.2.ps.length ≤ 65537 := by
  unfold parseC
  split
  · exact Nat.zero_le _
  · rename_i h
    have h1 := (linesB_lens s).1
    have : ∀ (ls : List ByteArray) (st : St) (k : Nat), (doL st k ls).2.2.ps.length ≤ st.c.ps.length + ls.length := by
      intro ls
      induction ls with
      | nil => intro st k; exact Nat.le_refl _
      | cons l ls ih =>
        intro st k
        by_cases hz : (lineP st l).1 = 0
        · rw [doL_ok st k l ls hz]
          have := ih (lineP st l).2 (k + 1)
          have := (lineP_lens st l).1
          rw [List.length_cons]; omega
        · rw [doL_bad st k l ls hz]; exact Nat.zero_le _
    have := this (linesB s) St.zero 0
    have h0 : St.zero.c.ps.length = 0 := rfl
    omega
/-- Ahead of the first line. -/
structure Start (w W : World) (ca ta : Array Value) : Prop where
  box : Blk W w.heap.size 25 ca
  txt : Blk W (w.heap.size + 1) 43 ta
  out : Lib.IsBuilder 59 5 (w.heap.size + 2) (w.heap.size + 2) (Lib.byteCells []) W
  old : Below w.heap.size w W
  size : W.heap.size = w.heap.size + 3
theorem start_of (w : World) (ca ta : Array Value) : Start w (((w.alloc (.cells ca 25)).alloc (.cells ta 43)).alloc (.cells #[.pointer none, .slice none 0 0] 59)) ca ta := by
  refine ⟨((Blk.new w _ _).alloc _).alloc _, ?_, ?_, (((Below.refl _ w).alloc (Nat.le_refl _) _).alloc (by simp) _).alloc (by simp; omega) _, by simp⟩
  · have := Blk.new (w.alloc (.cells ca 25)) 43 ta
    rw [World.size_alloc] at this
    exact this.alloc _
  · have := Lib.fresh_isBuilder 59 5 ((w.alloc (.cells ca 25)).alloc (.cells ta 43))
    rw [World.size_alloc, World.size_alloc] at this
    exact this

theorem six_at (n0 n1 n2 n3 n4 n5 : Int) (u v : Value) (k : Nat) (h : k < 6) : (#[.int .i64 n0, .int .i64 n1, .int .i64 n2, .int .i64 n3, .int .i64 n4, .int .i64 n5, u, v] : Array Value)[k]? = some (.int .i64 ([n0, n1, n2, n3, n4, n5].getD k 0)) := by
  match k, h with
  | 0, _ => rfl
  | 1, _ => rfl
  | 2, _ => rfl
  | 3, _ => rfl
  | 4, _ => rfl
  | 5, _ => rfl

set_option maxHeartbeats 1000000 in
theorem print_any (c : Cfg) (u : Value) (w : World) (hc : CfgA w u c) (hb : Bears c 100000) :
    Calls Tryd.prog 14 #[u] w fun e w' => e = .returned (.tuple #[.string (printC c).1, .int .i64 (printC c).2]) ∧ Below w.heap.size w w' := by
  obtain ⟨tx, htx⟩ : ∃ t, textC c = t := ⟨_, rfl⟩
  have HTX := hide htx
  have HP : Hid (printC c = if (parseC tx).1 = 0 ∧ cEq c (parseC tx).2.2 = true then (tx, 0) else (⟨#[]⟩, 1)) := by show _ = _; unfold printC; rw [htx]
  have HC := hide hc
  have HBe := hide hb
  clear htx
  obtain ⟨n0, n1, n2, n3, n4, n5, vc, hcn, rfl, hv⟩ := hc
  have HV := hide hv
  have HN := hide hcn
  obtain ⟨a, cap, rfl, _⟩ := hv
  clear hb hcn
  go_enter Tryd.func14, Tryd.ntmps14
  go_upto_region 4 with fail
  refine Code.wp_named (fun W => Start w W #[.int .i64 n0, .int .i64 n1, .int .i64 n2, .int .i64 n3, .int .i64 n4, .int .i64 n5, .slice a c.ps.length cap] #[.int .i64 n0, .int .i64 n1, .int .i64 n2, .int .i64 n3, .int .i64 n4, .int .i64 n5, .slice a c.ps.length cap, .map none]) (start_of w _ _) ?_
  intro W hS
  obtain ⟨bs0, hbs0⟩ : ∃ l, (numB c.n 0).data.toList = l := ⟨_, rfl⟩
  have HBox := hide hS.box
  have HTxt := hide hS.txt
  have HOut : Hid (Lib.IsBuilder 59 5 (w.heap.size + 2) (w.heap.size + 2) (Lib.byteCells (numB c.n 0).data.toList) W) := hS.out
  have HOld := hide hS.old
  have hsz := hS.size
  clear hS hbs0
  go_wp2_with fail
  refine (settings_any _).mono ?_
  rintro e w1 ⟨rfl, rfl⟩
  have HNm : Hid (Blk (W.alloc (.cells nmV 9)) (w.heap.size + 3) 9 nmV) := by
    have := Blk.new W 9 nmV
    rw [hsz] at this
    exact this
  have HBa := hide ((Below.refl W.heap.size W).alloc (Nat.le_refl _) (.cells nmV 9))
  have HBox1 := hide (HBox.out.below HBa.out HBox.out.lt)
  have HTxt1 := hide (HTxt.out.below HBa.out HTxt.out.lt)
  have HOut1 := hide (builder_below HOut.out HBa.out)
  have HOld1 := hide (below_via HOld.out HBa.out)
  have hsz1 : (W.alloc (.cells nmV 9)).heap.size = w.heap.size + 4 := by rw [World.size_alloc, hsz]
  rw [hsz]
  generalize W.alloc (.cells nmV 9) = W1 at HNm HBox1 HTxt1 HOut1 HOld1 hsz1 ⊢
  clear HBox HTxt HOut HOld HBa hsz
  go_upto_block 0 with fail
  go_cut [] (fun wr => Lib.IsBuilder 59 5 (w.heap.size + 2) (w.heap.size + 2) (Lib.byteCells (numB c.n 6).data.toList) wr ∧ Below (w.heap.size + 2) W1 wr)
  case first =>
    go_wp2_with fail
    go_loopw [19] (fun i wr => ∃ k : Nat, i = .int .i64 k ∧ k ≤ 6 ∧ Lib.IsBuilder 59 5 (w.heap.size + 2) (w.heap.size + 2) (Lib.byteCells (numB c.n k).data.toList) wr ∧ Below (w.heap.size + 2) W1 wr ∧ Blk wr (w.heap.size + 3) 9 nmV) (fun i _ => (6 - (intOf i).toNat))
    case atStart => exact ⟨0, rfl, by decide, HOut1.out, Below.refl _ _, HNm.out⟩
    case round =>
      obtain ⟨k, rfl, hk, ho, hB, hnm⟩ := hrel
      have hBs := hB.size
      have HO := hide ho
      have HB := hide hB
      have HM := hide hnm
      clear ho hB hnm
      by_cases hkk : k < 6
      · have hki : (k : Int) < 6 := by omega
        have hk0 : (0 : Int) ≤ (k : Int) := by omega
        have c0 : wr.cell? ⟨w.heap.size + 3, k, none⟩ = some (.string (nm k)) := (HM.out.cell k).trans (nmV_at k hkk)
        have hx : c.n.getD k 0 ∈ c.n := by
          rw [List.getD_eq_getElem?_getD]
          have hl : k < c.n.length := by rw [HN.out]; exact hkk
          rw [List.getElem?_eq_getElem hl]; exact List.getElem_mem hl
        obtain ⟨b0, b1⟩ := HBe.out.num _ hx
        have c1 : wr.cell? ⟨w.heap.size + 1, k, none⟩ = some (.int .i64 (c.n.getD k 0)) := by
          rw [(HTxt1.out.below HB.out (by omega)).cell k, HN.out]
          exact six_at n0 n1 n2 n3 n4 n5 _ _ k hkk
        have HAt := hide (atV_nm (w.heap.size + 1) k hkk)
        have HSt := hide (numB_step c.n k)
        have hz0 := nm_size k
        have hz1 := text_le (c.n.getD k 0)
        have hz2 := numB_size c.n k
        generalize nm k = name at c0 HAt HSt hz0
        generalize c.n.getD k 0 = x at c1 HSt b0 b1 hz1
        clear hx
        go_wp2_with fail
        refine (number_any (w.heap.size + 1) name _).mono ?_
        rintro e w2 ⟨rfl, rfl⟩
        rw [HAt.out]
        go_wp2_with fail
        refine (text_any x _ b0 b1).mono ?_
        rintro e w3 ⟨rfl, hb3⟩
        have HO3 := hide (builder_below HO.out hb3)
        have HB3 := hide (HB.out.trans (hb3.mono (by omega)))
        have HM3 := hide (HM.out.below hb3 HM.out.lt)
        have hs3 := hb3.size
        clear hb3
        go_wp2_with fail
        refine (write_any (w.heap.size + 2) (w.heap.size + 2) _ name (text x) _ HO3.out (by omega) (by omega) (by rw [Array.length_toList]; show (numB c.n k).size ≤ _; omega) (by omega)).mono ?_
        rintro e w4 ⟨rfl, h1, h2, h3⟩
        rw [← HSt.out] at h1
        have HO4 := hide h1
        have HB4 := hide (HB3.out.trans h2)
        have HM4 := hide (blk_kept HM3.out h3 (by omega) (by decide))
        clear h1 h2 h3
        go_wp2_with fail
        go_roundw
        case rel => exact ⟨k + 1, by go_num, by omega, HO4.out, HB4.out, HM4.out⟩
        case measure => simp [intOf]; omega
      · have hki : ¬ (k : Int) < 6 := by omega
        obtain rfl : k = 6 := by omega
        go_wp2_with fail
        go_meet
        exact ⟨HO.out, HB.out⟩
  case rest =>
    obtain ⟨ho, hB⟩ := hcut
    obtain ⟨t6, ht6⟩ : ∃ t, numB c.n 6 = t := ⟨_, rfl⟩
    have HTC : Hid (parB t6 c.ps c.ps.length = tx) := by show _ = _; rw [← ht6, ← HTX.out]; rfl
    have hz6 := numB_size c.n 6
    rw [ht6] at ho hz6
    clear ht6
    have HO := hide ho
    have HB := hide hB
    have hW1s : w.heap.size + 2 ≤ W1.heap.size := by omega
    have HOldW := hide (HOld1.out.trans (hB.mono (by omega)))
    have hbx := HBox1.out.below hB (by omega)
    have g6 := hbx.cell 6
    simp at g6
    clear ho hB hbx
    go_upto_block 2 with fail
    go_cut [] (fun wr => Lib.IsBuilder 59 5 (w.heap.size + 2) (w.heap.size + 2) (Lib.byteCells tx.data.toList) wr ∧ Below (w.heap.size + 2) W1 wr)
    case first =>
      go_wp2_with fail
      go_loopw [35] (fun i wr => ∃ k : Nat, i = .int .i64 k ∧ k ≤ c.ps.length ∧ Lib.IsBuilder 59 5 (w.heap.size + 2) (w.heap.size + 2) (Lib.byteCells (parB t6 c.ps k).data.toList) wr ∧ Below (w.heap.size + 2) W1 wr) (fun i _ => (c.ps.length - (intOf i).toNat))
      case atStart => exact ⟨0, rfl, Nat.zero_le _, HO.out, HB.out⟩
      case round =>
        clear HO HB HOldW g6
        obtain ⟨k, rfl, hk, ho, hB⟩ := hrel
        have hBs := hB.size
        have HO := hide ho
        have HB := hide hB
        have hOld := HOld1.out.trans (hB.mono (by omega))
        have HOld := hide hOld
        clear ho hB
        by_cases hkk : k < c.ps.length
        · have hki : (k : Int) < (c.ps.length : Int) := by omega
          have hk0 : (0 : Int) ≤ (k : Int) := by omega
          obtain ⟨_, _, hsl, hor⟩ := HV.out
          cases hsl
          rcases hor with h0 | ⟨b, off, rfl, hbl, hcc⟩
          · rw [h0] at hkk; exact absurd hkk (Nat.not_lt_zero _)
          obtain ⟨c0, c1⟩ := hcc k hkk
          rw [← hOld.cell hbl] at c0 c1
          obtain ⟨z0, z1⟩ := HBe.out.long k hkk
          have HSt := hide (parB_step t6 c.ps k)
          have hz2 := parB_size t6 c.ps 100000 HBe.out.long k (by omega)
          have hz4 := HBe.out.many
          generalize (pj c.ps k).1 = n at c0 z0 HSt
          generalize (pj c.ps k).2 = x at c1 z1 HSt
          have y0 : (⟨#[112, 97, 114, 97, 109, 46]⟩ : ByteArray).size = 6 := rfl
          have y1 : ((⟨#[112, 97, 114, 97, 109, 46]⟩ : ByteArray) ++ n).size = 6 + n.size := by rw [ByteArray.size_append]; rfl
          have HBl := hide ((Below.refl wr.heap.size wr).alloc (Nat.le_refl _) (.cells #[.string n, .string x] 40))
          clear hcc hOld
          go_wp2_with fail
          have q1 : ((⟨#[112, 97, 114, 97, 109, 46]⟩ : ByteArray) ++ n).size ≤ 1000000 := by rw [y1]; omega
          have q2 : x.size ≤ 1000000 := by omega
          have q3 : (parB t6 c.ps k).data.toList.length ≤ 100000000000000 := by rw [Array.length_toList]; show (parB t6 c.ps k).size ≤ _; omega
          have q4 : w.heap.size + 2 ≤ (wr.alloc (.cells #[.string n, .string x] 40)).heap.size := by rw [World.size_alloc]; omega
          have HOa := hide (builder_below HO.out HBl.out)
          have hcall := write_any (w.heap.size + 2) (w.heap.size + 2) _ ((⟨#[112, 97, 114, 97, 109, 46]⟩ : ByteArray) ++ n) x _ HOa.out q1 q2 q3 q4
          refine hcall.mono ?_
          rintro e w4 ⟨rfl, h1, h2, _⟩
          have h1' : Lib.IsBuilder 59 5 (w.heap.size + 2) (w.heap.size + 2) (Lib.byteCells (parB t6 c.ps (k + 1)).data.toList) w4 := by rw [HSt.out]; exact h1
          have HO4 := hide h1'
          have HB4 := hide ((HB.out.trans (HBl.out.mono (by omega))).trans h2)
          clear h1 h1' h2 y0 y1 hz2
          go_wp2_with fail
          go_roundw
          case rel => exact ⟨k + 1, by go_num, by omega, HO4.out, HB4.out⟩
          case measure => simp [intOf]; omega
        · have hki : ¬ (k : Int) < (c.ps.length : Int) := by omega
          obtain rfl : k = c.ps.length := by omega
          have ho := HO.out
          rw [HTC.out] at ho
          have HO2 := hide ho
          clear ho
          go_wp2_with fail
          go_meet
          exact ⟨HO2.out, HB.out⟩
    case rest =>
      clear HO HB HOldW g6
      obtain ⟨ho, hB⟩ := hcut
      have HO := hide ho
      have HB := hide hB
      have HOld := hide (HOld1.out.trans (hB.mono (by omega)))
      have HX := hide (HBox1.out.below hB (by omega))
      have hBs := hB.size
      clear ho hB
      go_wp2_with fail
      refine (Tryd.Builder_String_any_f (w.heap.size + 2) (w.heap.size + 2) tx.data.toList _ (Lib.IsBuilderF.of HO.out) (by omega)).mono ?_
      rintro e w2 ⟨rfl, ho2, hb2⟩
      have HTx : Hid ((⟨tx.data.toList.toArray⟩ : ByteArray) = tx) := rfl
      rw [HTx.out]
      have HO2 := hide ho2
      have HX2 := hide (HX.out.below hb2 (by omega))
      have HOld2 := hide (HOld.out.trans (hb2.mono (by omega)))
      have hs2 := hb2.size
      have HCw := hide (HC.out.below HOld2.out)
      clear ho2 hb2
      obtain ⟨⟨pe, pl, d⟩, hT⟩ : ∃ T, parseC tx = T := ⟨_, rfl⟩
      have HT := hide hT
      rw [hT] at HP
      clear hT
      go_wp2_with fail
      refine (pini_any tx _).mono ?_
      rintro e w3 ⟨ud, rfl, hcv, hb3⟩
      rw [HT.out] at hcv ⊢
      have hda := CfgA.of_val hcv
      have hpl := parsed_many tx
      rw [HT.out] at hpl
      have HDA := hide hda
      obtain ⟨m0, m1, m2, m3, m4, m5, vd, hdn, rfl, hvd⟩ := hda
      have HO3 := hide (builderF_below HO2.out hb3)
      have HX3 := hide (HX2.out.below hb3 HX2.out.lt)
      have HOld3 := hide (below_via HOld2.out hb3)
      have HC3 := hide (HCw.out.below hb3)
      have hs3 := hb3.size
      clear hcv hb3 hdn
      obtain ⟨da, dc, rfl, _⟩ := hvd
      go_upto_region 15 with fail
      refine Code.wp_named (fun W => Blk W w3.heap.size 25 #[.int .i64 m0, .int .i64 m1, .int .i64 m2, .int .i64 m3, .int .i64 m4, .int .i64 m5, .slice da d.ps.length dc] ∧ Below w3.heap.size w3 W) ⟨Blk.new w3 _ _, (Below.refl _ _).alloc (Nat.le_refl _) _⟩ ?_
      rintro W5 ⟨hy, hb5⟩
      have HY5 := hide hy
      have HO5 := hide (builderF_below HO3.out hb5)
      have hx5 := HX3.out.below hb5 HX3.out.lt
      have HOld5 := hide (below_via HOld3.out hb5)
      have HC5 := hide (HC3.out.below hb5)
      have HDA5 := hide (HDA.out.below hb5)
      have hs5 := hb5.size
      have x0 : W5.cell? ⟨w.heap.size, 0, none⟩ = some (.int .i64 n0) := hx5.cell 0
      have x1 : W5.cell? ⟨w.heap.size, 1, none⟩ = some (.int .i64 n1) := hx5.cell 1
      have x2 : W5.cell? ⟨w.heap.size, 2, none⟩ = some (.int .i64 n2) := hx5.cell 2
      have x3 : W5.cell? ⟨w.heap.size, 3, none⟩ = some (.int .i64 n3) := hx5.cell 3
      have x4 : W5.cell? ⟨w.heap.size, 4, none⟩ = some (.int .i64 n4) := hx5.cell 4
      have x5 : W5.cell? ⟨w.heap.size, 5, none⟩ = some (.int .i64 n5) := hx5.cell 5
      have x6 : W5.cell? ⟨w.heap.size, 6, none⟩ = some (.slice a c.ps.length cap) := hx5.cell 6
      have y0 : W5.cell? ⟨w3.heap.size, 0, none⟩ = some (.int .i64 m0) := hy.cell 0
      have y1 : W5.cell? ⟨w3.heap.size, 1, none⟩ = some (.int .i64 m1) := hy.cell 1
      have y2 : W5.cell? ⟨w3.heap.size, 2, none⟩ = some (.int .i64 m2) := hy.cell 2
      have y3 : W5.cell? ⟨w3.heap.size, 3, none⟩ = some (.int .i64 m3) := hy.cell 3
      have y4 : W5.cell? ⟨w3.heap.size, 4, none⟩ = some (.int .i64 m4) := hy.cell 4
      have y5 : W5.cell? ⟨w3.heap.size, 5, none⟩ = some (.int .i64 m5) := hy.cell 5
      have y6 : W5.cell? ⟨w3.heap.size, 6, none⟩ = some (.slice da d.ps.length dc) := hy.cell 6
      have hz4 := HBe.out.many
      have hz7 := parB_size t6 c.ps 100000 HBe.out.long c.ps.length (Nat.le_refl _)
      rw [HTC.out] at hz7
      clear hy hb5 hx5
      by_cases hpe : pe = 0
      · have HRt : Hid (cEq c d = true → printC c = (tx, 0)) := fun hq => by rw [HP.out, if_pos ⟨hpe, hq⟩]
        have HRf : Hid (cEq c d = false → printC c = (⟨#[]⟩, 1)) := fun hq => by rw [HP.out, if_neg (fun h => by rw [hq] at h; exact absurd h.2 (by decide))]
        subst hpe
        go_wp2_with fail
        refine (same_any c d _ _ _ HC5.out HDA5.out (by omega) (by omega)).mono ?_
        rintro e w6 ⟨rfl, hb6⟩
        have HO6 := hide (builderF_below HO5.out hb6)
        have HOld6 := hide (below_via HOld5.out hb6)
        have hs6 := hb6.size
        clear hb6 x0 x1 x2 x3 x4 x5 x6 y0 y1 y2 y3 y4 y5 y6 hz7
        cases hq : cEq c d with
        | true =>
          have HR := hide (HRt.out hq)
          clear hq
          go_wp2_with fail
          refine (Tryd.Builder_String_any_f (w.heap.size + 2) (w.heap.size + 2) tx.data.toList _ HO6.out (by omega)).mono ?_
          rintro e w7 ⟨rfl, _, hb7⟩
          have hTx2 : (⟨tx.data.toList.toArray⟩ : ByteArray) = tx := rfl
          rw [hTx2]
          clear hTx2
          have HOld7 := hide (HOld6.out.trans (hb7.mono (by omega)))
          clear hb7
          go_wp2_with fail
          go_returns
          exact ⟨by rw [HR.out]; rfl, HOld7.out⟩
        | false =>
          have HR := hide (HRf.out hq)
          clear hq
          go_wp2_with fail
          go_returns
          exact ⟨by rw [HR.out]; rfl, HOld6.out⟩
      · have HR : Hid (printC c = (⟨#[]⟩, 1)) := by show _ = _; rw [HP.out, if_neg (fun h => hpe h.1)]
        have hpe2 : (pe == 0) = false := by simpa using hpe
        go_wp2_with fail
        go_returns
        exact ⟨by rw [HR.out]; rfl, HOld5.out⟩
end Go.Proofs.YtlmelbijgckfpaaDoor
