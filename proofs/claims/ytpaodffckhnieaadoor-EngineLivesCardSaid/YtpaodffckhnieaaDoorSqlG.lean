/-
  The reference's Parse, and that it is the program's own. No condition but on lengths.
-/
import Derived.Test.YtpaodffckhnieaaDoorSqlF
namespace Go.Proofs.YtpaodffckhnieaaDoor
open Go.RowKit
set_option linter.unusedVariables false
set_option linter.unusedSimpArgs false
set_option maxRecDepth 100000

theorem ext_iff (a b : ByteArray) : a = b ↔ a.data.toList = b.data.toList := by
  constructor
  · rintro rfl; rfl
  · intro h
    obtain ⟨x⟩ := a
    obtain ⟨y⟩ := b
    congr 1
    exact Array.toList_inj.1 h
theorem ext_head (t : ByteArray) (n : Nat) : (t.extract 0 n).data.toList = t.data.toList.take n := by
  rw [ByteArray.data_extract, Array.toList_extract, List.extract_eq_take_drop]; simp
theorem ext_tail (t : ByteArray) (n : Nat) : (t.extract n t.size).data.toList = t.data.toList.drop n := by
  rw [ByteArray.data_extract, Array.toList_extract, List.extract_eq_take_drop]
  exact List.take_of_length_le (by rw [List.length_drop, Array.length_toList]; exact Nat.le_refl _)
/-- What a text says that has no blanks around it, as the document has it. -/
def rsayP (t : ByteArray) : Int × Int × ByteArray :=
  match wordK t with
  | some k => (k, 0, ⟨#[]⟩)
  | none =>
    if 7 < t.size ∧ t.extract 0 7 = ⟨#[115, 101, 108, 101, 99, 116, 32]⟩ then (match parseN (t.extract 7 t.size) 99 with | some n => (5, n, ⟨#[]⟩) | none => badV)
    else if 5 < t.size ∧ t.extract 0 5 = ⟨#[102, 97, 105, 108, 32]⟩ then (if codeS (t.extract 5 t.size) = true then (8, 0, t.extract 5 t.size) else badV) else badV
theorem take_cat {l : List UInt8} {n : Nat} {p : List UInt8} (h : l.take n = p) : l = p ++ l.drop n := by rw [← h, List.take_append_drop]
theorem parseN_empty {b : ByteArray} (h : b.size = 0) : parseN b 99 = none := by unfold parseN; rw [if_pos (Or.inl h)]
theorem codeS_empty {b : ByteArray} (h : b.size = 0) : codeS b = false := by unfold codeS; rw [h]; rfl
theorem sel_not_fail (l : List UInt8) : ¬ List.take 5 ([115, 101, 108, 101, 99, 116, 32] ++ l) = [102, 97, 105, 108, 32] := by simp
theorem rsay_eq (t : ByteArray) : rsayP t = sayP t := by
  unfold rsayP sayP
  cases hk : wordK t with
  | some k => rfl
  | none =>
    show (if 7 < t.size ∧ t.extract 0 7 = ⟨#[115, 101, 108, 101, 99, 116, 32]⟩ then _ else _) = if Lib.indexByte t.data.toList 32 < 0 then badV else _
    have hsz : t.data.toList.length = t.size := Array.length_toList
    by_cases hA : t.extract 0 7 = ⟨#[115, 101, 108, 101, 99, 116, 32]⟩
    · have hA2 : t.data.toList.take 7 = [115, 101, 108, 101, 99, 116, 32] := by rw [← ext_head, hA]
      have hi : Lib.indexByte t.data.toList 32 = 6 := by rw [take_cat hA2]; simp [Lib.indexByte]
      have h7 : 7 ≤ t.size := by have := congrArg List.length hA2; rw [List.length_take] at this; simp at this; omega
      have h6 : t.extract 0 6 = ⟨#[115, 101, 108, 101, 99, 116]⟩ := by rw [ext_iff, ext_head, take_cat hA2]; rfl
      have h5 : ¬ t.extract 0 5 = ⟨#[102, 97, 105, 108, 32]⟩ := by rw [ext_iff, ext_head, take_cat hA2]; exact sel_not_fail _
      rw [hi, if_neg (by decide : ¬ (6 : Int) < 0)]
      show _ = pairP (t.extract 0 6) (t.extract 7 t.size)
      unfold pairP
      rw [if_pos h6]
      by_cases h8 : 7 < t.size
      · rw [if_pos ⟨h8, hA⟩]; cases parseN (t.extract 7 t.size) 99 <;> rfl
      · rw [if_neg (fun h => h8 h.1), if_neg (fun h => h5 h.2), parseN_empty (by rw [ByteArray.size_extract]; omega)]
    · rw [if_neg (fun h => hA h.2)]
      by_cases hB : t.extract 0 5 = ⟨#[102, 97, 105, 108, 32]⟩
      · have hB2 : t.data.toList.take 5 = [102, 97, 105, 108, 32] := by rw [← ext_head, hB]
        have hi : Lib.indexByte t.data.toList 32 = 4 := by rw [take_cat hB2]; simp [Lib.indexByte]
        have h5 : 5 ≤ t.size := by have := congrArg List.length hB2; rw [List.length_take] at this; simp at this; omega
        have h4 : t.extract 0 4 = ⟨#[102, 97, 105, 108]⟩ := by rw [ext_iff, ext_head, take_cat hB2]; rfl
        have h4n : ¬ t.extract 0 4 = ⟨#[115, 101, 108, 101, 99, 116]⟩ := by rw [h4, ext_iff]; decide
        rw [hi, if_neg (by decide : ¬ (4 : Int) < 0)]
        show _ = pairP (t.extract 0 4) (t.extract 5 t.size)
        unfold pairP
        rw [if_neg h4n, if_pos h4]
        by_cases h8 : 5 < t.size
        · rw [if_pos ⟨h8, hB⟩]
        · rw [if_neg (fun h => h8 h.1), if_neg (by rw [codeS_empty (by rw [ByteArray.size_extract]; omega)]; decide)]
      · rw [if_neg (fun h => hB h.2)]
        by_cases hc : Lib.indexByte t.data.toList 32 < 0
        · rw [if_pos hc]
        · rw [if_neg hc]
          obtain ⟨i, hi⟩ : ∃ i : Nat, Lib.indexByte t.data.toList 32 = (i : Int) := ⟨(Lib.indexByte t.data.toList 32).toNat, by omega⟩
          rw [hi]
          show badV = pairP (t.extract 0 i) (t.extract (i + 1) t.size)
          have h32 := (Lib.indexByte_some hi).1
          have hlt : i < t.data.toList.length := (List.getElem?_eq_some_iff.1 h32).1
          have key : ∀ p : List UInt8, t.data.toList.take i = p → t.data.toList.take (p.length + 1) = p ++ [32] := by
            intro p hp
            have hl : i = p.length := by rw [← hp, List.length_take]; omega
            rw [← hl, List.take_add_one, h32, hp]; rfl
          unfold pairP
          rw [if_neg, if_neg]
          · intro h
            rw [ext_iff, ext_head] at h
            exact hB (by rw [ext_iff, ext_head]; exact key _ h)
          · intro h
            rw [ext_iff, ext_head] at h
            exact hA (by rw [ext_iff, ext_head]; exact key _ h)

set_option maxHeartbeats 4000000 in
theorem rparse_v (s : ByteArray) (w : World) (hs : s.size ≤ 100000) :
    Calls Tryd.prog 33 #[.string s] w fun e w' => e = .returned (verbV (parseP s)) ∧ Below w.heap.size w w' := by
  have hts := trimS_size s
  obtain ⟨t, ht⟩ : ∃ t, trimS s = t := ⟨_, rfl⟩
  have HP : Hid (parseP s = rsayP t) := by show _ = _; rw [rsay_eq, ← ht]; rfl
  have Ht := hide ht
  rw [ht] at hts
  have htl : t.size ≤ 100000 := Nat.le_trans hts hs
  clear ht hts
  by_cases h0 : t = ByteArray.empty
  · have hP : Hid (parseP s = (1, 0, ⟨#[]⟩)) := by show _ = _; rw [HP.out, h0]; rfl
    clear HP 
    subst h0
    go_enter Tryd.func33, Tryd.ntmps33
    go_upto_region 1 with fail
    refine Code.wp_named (fun W => Blk W w.heap.size 26 #[.int .i64 0, .int .i64 0, .string ⟨#[]⟩] ∧ Below w.heap.size w W) ⟨Blk.new w _ _, (Below.refl _ _).alloc (Nat.le_refl _) _⟩ ?_
    rintro W ⟨hx, hB⟩
    have e0 := hx.cell 0; have e1 := hx.cell 1; have e2 := hx.cell 2
    have f0 := hx.frozen 0; have f1 := hx.frozen 1; have f2 := hx.frozen 2
    simp at e0 e1 e2
    have HX := hide hx
    have HB := hide hB
    clear hx hB
    go_wp2_with fail
    refine (rtrim_any s _ hs).mono ?_
    rintro e w1 ⟨rfl, rfl⟩
    rw [Ht.out]
    go_wp2_with fail
    obtain ⟨g0, g1, g2, hB2⟩ := store3 HX.out HB.out (.int .i64 (1)) (.int .i64 (0)) (.string ⟨#[]⟩)
    generalize ((W.setCell ⟨w.heap.size, 0, none⟩ (.int .i64 (1))).setCell ⟨w.heap.size, 1, none⟩ (.int .i64 (0))).setCell ⟨w.heap.size, 2, none⟩ (.string ⟨#[]⟩) = W2 at g0 g1 g2 hB2 ⊢
    exact bodyPost_ret (v := verbV ((1), (0), ⟨#[]⟩)) (by simp [results, Tryd.results33, go_sem, g0, g1, g2, verbV]) rfl ⟨by rw [hP.out], hB2⟩
  have e0x := str_ne_empty h0
  by_cases h1 : t = ⟨#[98, 101, 103, 105, 110]⟩
  · have hP : Hid (parseP s = (2, 0, ⟨#[]⟩)) := by show _ = _; rw [HP.out, h1]; rfl
    clear HP h0 e0x
    subst h1
    go_enter Tryd.func33, Tryd.ntmps33
    go_upto_region 1 with fail
    refine Code.wp_named (fun W => Blk W w.heap.size 26 #[.int .i64 0, .int .i64 0, .string ⟨#[]⟩] ∧ Below w.heap.size w W) ⟨Blk.new w _ _, (Below.refl _ _).alloc (Nat.le_refl _) _⟩ ?_
    rintro W ⟨hx, hB⟩
    have e0 := hx.cell 0; have e1 := hx.cell 1; have e2 := hx.cell 2
    have f0 := hx.frozen 0; have f1 := hx.frozen 1; have f2 := hx.frozen 2
    simp at e0 e1 e2
    have HX := hide hx
    have HB := hide hB
    clear hx hB
    go_wp2_with fail
    refine (rtrim_any s _ hs).mono ?_
    rintro e w1 ⟨rfl, rfl⟩
    rw [Ht.out]
    go_wp2_with fail
    obtain ⟨g0, g1, g2, hB2⟩ := store3 HX.out HB.out (.int .i64 (2)) (.int .i64 (0)) (.string ⟨#[]⟩)
    generalize ((W.setCell ⟨w.heap.size, 0, none⟩ (.int .i64 (2))).setCell ⟨w.heap.size, 1, none⟩ (.int .i64 (0))).setCell ⟨w.heap.size, 2, none⟩ (.string ⟨#[]⟩) = W2 at g0 g1 g2 hB2 ⊢
    exact bodyPost_ret (v := verbV ((2), (0), ⟨#[]⟩)) (by simp [results, Tryd.results33, go_sem, g0, g1, g2, verbV]) rfl ⟨by rw [hP.out], hB2⟩
  have e1x := str_ne (l := [98, 101, 103, 105, 110]) h1
  by_cases h2 : t = ⟨#[99, 111, 109, 109, 105, 116]⟩
  · have hP : Hid (parseP s = (3, 0, ⟨#[]⟩)) := by show _ = _; rw [HP.out, h2]; rfl
    clear HP h0 e0x h1 e1x
    subst h2
    go_enter Tryd.func33, Tryd.ntmps33
    go_upto_region 1 with fail
    refine Code.wp_named (fun W => Blk W w.heap.size 26 #[.int .i64 0, .int .i64 0, .string ⟨#[]⟩] ∧ Below w.heap.size w W) ⟨Blk.new w _ _, (Below.refl _ _).alloc (Nat.le_refl _) _⟩ ?_
    rintro W ⟨hx, hB⟩
    have e0 := hx.cell 0; have e1 := hx.cell 1; have e2 := hx.cell 2
    have f0 := hx.frozen 0; have f1 := hx.frozen 1; have f2 := hx.frozen 2
    simp at e0 e1 e2
    have HX := hide hx
    have HB := hide hB
    clear hx hB
    go_wp2_with fail
    refine (rtrim_any s _ hs).mono ?_
    rintro e w1 ⟨rfl, rfl⟩
    rw [Ht.out]
    go_wp2_with fail
    obtain ⟨g0, g1, g2, hB2⟩ := store3 HX.out HB.out (.int .i64 (3)) (.int .i64 (0)) (.string ⟨#[]⟩)
    generalize ((W.setCell ⟨w.heap.size, 0, none⟩ (.int .i64 (3))).setCell ⟨w.heap.size, 1, none⟩ (.int .i64 (0))).setCell ⟨w.heap.size, 2, none⟩ (.string ⟨#[]⟩) = W2 at g0 g1 g2 hB2 ⊢
    exact bodyPost_ret (v := verbV ((3), (0), ⟨#[]⟩)) (by simp [results, Tryd.results33, go_sem, g0, g1, g2, verbV]) rfl ⟨by rw [hP.out], hB2⟩
  have e2x := str_ne (l := [99, 111, 109, 109, 105, 116]) h2
  by_cases h3 : t = ⟨#[114, 111, 108, 108, 98, 97, 99, 107]⟩
  · have hP : Hid (parseP s = (4, 0, ⟨#[]⟩)) := by show _ = _; rw [HP.out, h3]; rfl
    clear HP h0 e0x h1 e1x h2 e2x
    subst h3
    go_enter Tryd.func33, Tryd.ntmps33
    go_upto_region 1 with fail
    refine Code.wp_named (fun W => Blk W w.heap.size 26 #[.int .i64 0, .int .i64 0, .string ⟨#[]⟩] ∧ Below w.heap.size w W) ⟨Blk.new w _ _, (Below.refl _ _).alloc (Nat.le_refl _) _⟩ ?_
    rintro W ⟨hx, hB⟩
    have e0 := hx.cell 0; have e1 := hx.cell 1; have e2 := hx.cell 2
    have f0 := hx.frozen 0; have f1 := hx.frozen 1; have f2 := hx.frozen 2
    simp at e0 e1 e2
    have HX := hide hx
    have HB := hide hB
    clear hx hB
    go_wp2_with fail
    refine (rtrim_any s _ hs).mono ?_
    rintro e w1 ⟨rfl, rfl⟩
    rw [Ht.out]
    go_wp2_with fail
    obtain ⟨g0, g1, g2, hB2⟩ := store3 HX.out HB.out (.int .i64 (4)) (.int .i64 (0)) (.string ⟨#[]⟩)
    generalize ((W.setCell ⟨w.heap.size, 0, none⟩ (.int .i64 (4))).setCell ⟨w.heap.size, 1, none⟩ (.int .i64 (0))).setCell ⟨w.heap.size, 2, none⟩ (.string ⟨#[]⟩) = W2 at g0 g1 g2 hB2 ⊢
    exact bodyPost_ret (v := verbV ((4), (0), ⟨#[]⟩)) (by simp [results, Tryd.results33, go_sem, g0, g1, g2, verbV]) rfl ⟨by rw [hP.out], hB2⟩
  have e3x := str_ne (l := [114, 111, 108, 108, 98, 97, 99, 107]) h3
  by_cases h4 : t = ⟨#[101, 99, 104, 111]⟩
  · have hP : Hid (parseP s = (6, 0, ⟨#[]⟩)) := by show _ = _; rw [HP.out, h4]; rfl
    clear HP h0 e0x h1 e1x h2 e2x h3 e3x
    subst h4
    go_enter Tryd.func33, Tryd.ntmps33
    go_upto_region 1 with fail
    refine Code.wp_named (fun W => Blk W w.heap.size 26 #[.int .i64 0, .int .i64 0, .string ⟨#[]⟩] ∧ Below w.heap.size w W) ⟨Blk.new w _ _, (Below.refl _ _).alloc (Nat.le_refl _) _⟩ ?_
    rintro W ⟨hx, hB⟩
    have e0 := hx.cell 0; have e1 := hx.cell 1; have e2 := hx.cell 2
    have f0 := hx.frozen 0; have f1 := hx.frozen 1; have f2 := hx.frozen 2
    simp at e0 e1 e2
    have HX := hide hx
    have HB := hide hB
    clear hx hB
    go_wp2_with fail
    refine (rtrim_any s _ hs).mono ?_
    rintro e w1 ⟨rfl, rfl⟩
    rw [Ht.out]
    go_wp2_with fail
    obtain ⟨g0, g1, g2, hB2⟩ := store3 HX.out HB.out (.int .i64 (6)) (.int .i64 (0)) (.string ⟨#[]⟩)
    generalize ((W.setCell ⟨w.heap.size, 0, none⟩ (.int .i64 (6))).setCell ⟨w.heap.size, 1, none⟩ (.int .i64 (0))).setCell ⟨w.heap.size, 2, none⟩ (.string ⟨#[]⟩) = W2 at g0 g1 g2 hB2 ⊢
    exact bodyPost_ret (v := verbV ((6), (0), ⟨#[]⟩)) (by simp [results, Tryd.results33, go_sem, g0, g1, g2, verbV]) rfl ⟨by rw [hP.out], hB2⟩
  have e4x := str_ne (l := [101, 99, 104, 111]) h4
  by_cases h5 : t = ⟨#[110, 101, 120, 116]⟩
  · have hP : Hid (parseP s = (7, 0, ⟨#[]⟩)) := by show _ = _; rw [HP.out, h5]; rfl
    clear HP h0 e0x h1 e1x h2 e2x h3 e3x h4 e4x
    subst h5
    go_enter Tryd.func33, Tryd.ntmps33
    go_upto_region 1 with fail
    refine Code.wp_named (fun W => Blk W w.heap.size 26 #[.int .i64 0, .int .i64 0, .string ⟨#[]⟩] ∧ Below w.heap.size w W) ⟨Blk.new w _ _, (Below.refl _ _).alloc (Nat.le_refl _) _⟩ ?_
    rintro W ⟨hx, hB⟩
    have e0 := hx.cell 0; have e1 := hx.cell 1; have e2 := hx.cell 2
    have f0 := hx.frozen 0; have f1 := hx.frozen 1; have f2 := hx.frozen 2
    simp at e0 e1 e2
    have HX := hide hx
    have HB := hide hB
    clear hx hB
    go_wp2_with fail
    refine (rtrim_any s _ hs).mono ?_
    rintro e w1 ⟨rfl, rfl⟩
    rw [Ht.out]
    go_wp2_with fail
    obtain ⟨g0, g1, g2, hB2⟩ := store3 HX.out HB.out (.int .i64 (7)) (.int .i64 (0)) (.string ⟨#[]⟩)
    generalize ((W.setCell ⟨w.heap.size, 0, none⟩ (.int .i64 (7))).setCell ⟨w.heap.size, 1, none⟩ (.int .i64 (0))).setCell ⟨w.heap.size, 2, none⟩ (.string ⟨#[]⟩) = W2 at g0 g1 g2 hB2 ⊢
    exact bodyPost_ret (v := verbV ((7), (0), ⟨#[]⟩)) (by simp [results, Tryd.results33, go_sem, g0, g1, g2, verbV]) rfl ⟨by rw [hP.out], hB2⟩
  have e5x := str_ne (l := [110, 101, 120, 116]) h5
  have e0b : t.toList.isEmpty = false := by simpa using e0x
  have hw : wordK t = none := by unfold wordK; rw [if_neg h0, if_neg h1, if_neg h2, if_neg h3, if_neg h4, if_neg h5]
  have HQ : Hid (parseP s = if 7 < t.size ∧ t.extract 0 7 = ⟨#[115, 101, 108, 101, 99, 116, 32]⟩ then (match parseN (t.extract 7 t.size) 99 with | some n => (5, n, ⟨#[]⟩) | none => badV)
    else if 5 < t.size ∧ t.extract 0 5 = ⟨#[102, 97, 105, 108, 32]⟩ then (if codeS (t.extract 5 t.size) = true then (8, 0, t.extract 5 t.size) else badV) else badV) := by
    show _ = _
    rw [HP.out]; unfold rsayP; rw [hw]
  clear HP hw h0 h1 h2 h3 h4 h5
  by_cases hA : 7 < t.size ∧ t.extract 0 7 = ⟨#[115, 101, 108, 101, 99, 116, 32]⟩
  · have HQ2 : Hid (parseP s = match parseN (t.extract 7 t.size) 99 with | some n => (5, n, ⟨#[]⟩) | none => badV) := by show _ = _; rw [HQ.out, if_pos hA]
    obtain ⟨hA7, hA⟩ := hA
    have hA5 : ¬ t.extract 0 5 = ⟨#[102, 97, 105, 108, 32]⟩ := by
      have hA2 : t.data.toList.take 7 = [115, 101, 108, 101, 99, 116, 32] := by rw [← ext_head, hA]
      rw [ext_iff, ext_head, take_cat hA2]; exact sel_not_fail _
    have q5 := str_ne (l := [102, 97, 105, 108, 32]) hA5
    have z1 : (5 : Int) < (t.size : Int) := by omega
    have z2 : (7 : Int) < (t.size : Int) := by omega
    have z3 : (7 : Int) ≤ (t.size : Int) := by omega
    have z4 : (5 : Int) ≤ (t.size : Int) := by omega
    clear HQ hA7 hA5
    go_enter Tryd.func33, Tryd.ntmps33
    go_upto_region 1 with fail
    refine Code.wp_named (fun W => Blk W w.heap.size 26 #[.int .i64 0, .int .i64 0, .string ⟨#[]⟩] ∧ Below w.heap.size w W) ⟨Blk.new w _ _, (Below.refl _ _).alloc (Nat.le_refl _) _⟩ ?_
    rintro W ⟨hx, hB⟩
    have e0 := hx.cell 0; have e1 := hx.cell 1; have e2 := hx.cell 2
    have f0 := hx.frozen 0; have f1 := hx.frozen 1; have f2 := hx.frozen 2
    simp at e0 e1 e2
    have HX := hide hx
    have HB := hide hB
    clear hx hB
    go_wp2_with fail
    refine (rtrim_any s _ hs).mono ?_
    rintro e w1 ⟨rfl, rfl⟩
    rw [Ht.out]
    go_wp2_with fail
    refine (rparse_any _ 99 _).mono ?_
    rintro e w1 ⟨rfl, rfl⟩
    cases hn : parseN (t.extract 7 t.size) 99 with
    | none =>
      have hP2 : Hid (parseP s = badV) := by show _ = _; rw [HQ2.out, hn]
      clear hn
      rw [show parseV none = .tuple #[.int .i64 0, .bool false] from rfl]
      go_wp2_with fail
      obtain ⟨g0, g1, g2, hB2⟩ := store3 HX.out HB.out (.int .i64 (0)) (.int .i64 (0)) (.string ⟨#[]⟩)
      generalize ((W.setCell ⟨w.heap.size, 0, none⟩ (.int .i64 (0))).setCell ⟨w.heap.size, 1, none⟩ (.int .i64 (0))).setCell ⟨w.heap.size, 2, none⟩ (.string ⟨#[]⟩) = W2 at g0 g1 g2 hB2 ⊢
      exact bodyPost_ret (v := verbV ((0), (0), ⟨#[]⟩)) (by simp [results, Tryd.results33, go_sem, g0, g1, g2, verbV]) rfl ⟨by rw [hP2.out], hB2⟩
    | some n =>
      have hP2 : Hid (parseP s = (5, n, ⟨#[]⟩)) := by show _ = _; rw [HQ2.out, hn]
      clear hn
      rw [show parseV (some n) = .tuple #[.int .i64 n, .bool true] from rfl]
      go_wp2_with fail
      obtain ⟨g0, g1, g2, hB2⟩ := store3 HX.out HB.out (.int .i64 (5)) (.int .i64 (n)) (.string ⟨#[]⟩)
      generalize ((W.setCell ⟨w.heap.size, 0, none⟩ (.int .i64 (5))).setCell ⟨w.heap.size, 1, none⟩ (.int .i64 (n))).setCell ⟨w.heap.size, 2, none⟩ (.string ⟨#[]⟩) = W2 at g0 g1 g2 hB2 ⊢
      exact bodyPost_ret (v := verbV ((5), (n), ⟨#[]⟩)) (by simp [results, Tryd.results33, go_sem, g0, g1, g2, verbV]) rfl ⟨by rw [hP2.out], hB2⟩
  have HQ2 : Hid (parseP s = if 5 < t.size ∧ t.extract 0 5 = ⟨#[102, 97, 105, 108, 32]⟩ then (if codeS (t.extract 5 t.size) = true then (8, 0, t.extract 5 t.size) else badV) else badV) := by show _ = _; rw [HQ.out, if_neg hA]
  clear HQ
  have hA' : ¬ 7 < t.size ∨ (7 < t.size ∧ (t.extract 0 7).toList ≠ [115, 101, 108, 101, 99, 116, 32]) := by
    rcases Nat.lt_or_ge 7 t.size with h | h
    · refine Or.inr ⟨h, fun e => hA ⟨h, ?_⟩⟩
      rw [ext_iff]
      rw [ByteArray.toList_eq] at e
      exact e
    · exact Or.inl (by omega)
  clear hA
  by_cases hB : 5 < t.size ∧ t.extract 0 5 = ⟨#[102, 97, 105, 108, 32]⟩
  · have HQ3 : Hid (parseP s = if codeS (t.extract 5 t.size) = true then (8, 0, t.extract 5 t.size) else badV) := by show _ = _; rw [HQ2.out, if_pos hB]
    clear HQ2
    obtain ⟨hB5, hB⟩ := hB
    have z1 : (5 : Int) < (t.size : Int) := by omega
    have z4 : (5 : Int) ≤ (t.size : Int) := by omega
    have z6 : (t.extract 5 t.size).size ≤ 100000 := by rw [ByteArray.size_extract]; omega
    rcases hA' with hA' | ⟨hA', hA2⟩
    all_goals
      first
        | have z2 : ¬ (7 : Int) < (t.size : Int) := by omega
        | (have z2 : (7 : Int) < (t.size : Int) := by omega
           have z3 : (7 : Int) ≤ (t.size : Int) := by omega
           have z5 : ((t.extract 0 7).toList == [115, 101, 108, 101, 99, 116, 32]) = false := by simpa using hA2
           clear hA2)
      clear hA' hB5
      go_enter Tryd.func33, Tryd.ntmps33
      go_upto_region 1 with fail
      refine Code.wp_named (fun W => Blk W w.heap.size 26 #[.int .i64 0, .int .i64 0, .string ⟨#[]⟩] ∧ Below w.heap.size w W) ⟨Blk.new w _ _, (Below.refl _ _).alloc (Nat.le_refl _) _⟩ ?_
      rintro W ⟨hx, hB⟩
      have e0 := hx.cell 0; have e1 := hx.cell 1; have e2 := hx.cell 2
      have f0 := hx.frozen 0; have f1 := hx.frozen 1; have f2 := hx.frozen 2
      simp at e0 e1 e2
      have HX := hide hx
      have HB := hide hB
      clear hx hB
      go_wp2_with fail
      refine (rtrim_any s _ hs).mono ?_
      rintro e w1 ⟨rfl, rfl⟩
      rw [Ht.out]
      go_wp2_with fail
      refine (rcode_any _ _ z6).mono ?_
      rintro e w1 ⟨rfl, rfl⟩
      cases hn : codeS (t.extract 5 t.size) with
      | false =>
        have hP2 : Hid (parseP s = badV) := by show _ = _; rw [HQ3.out, hn]; rfl
        clear hn
        go_wp2_with fail
        obtain ⟨g0, g1, g2, hB2⟩ := store3 HX.out HB.out (.int .i64 (0)) (.int .i64 (0)) (.string ⟨#[]⟩)
        generalize ((W.setCell ⟨w.heap.size, 0, none⟩ (.int .i64 (0))).setCell ⟨w.heap.size, 1, none⟩ (.int .i64 (0))).setCell ⟨w.heap.size, 2, none⟩ (.string ⟨#[]⟩) = W2 at g0 g1 g2 hB2 ⊢
        exact bodyPost_ret (v := verbV ((0), (0), ⟨#[]⟩)) (by simp [results, Tryd.results33, go_sem, g0, g1, g2, verbV]) rfl ⟨by rw [hP2.out], hB2⟩
      | true =>
        have hP2 : Hid (parseP s = (8, 0, t.extract 5 t.size)) := by show _ = _; rw [HQ3.out, hn]; rfl
        clear hn
        go_wp2_with fail
        obtain ⟨g0, g1, g2, hB2⟩ := store3 HX.out HB.out (.int .i64 (8)) (.int .i64 (0)) (.string (t.extract 5 t.size))
        generalize ((W.setCell ⟨w.heap.size, 0, none⟩ (.int .i64 (8))).setCell ⟨w.heap.size, 1, none⟩ (.int .i64 (0))).setCell ⟨w.heap.size, 2, none⟩ (.string (t.extract 5 t.size)) = W2 at g0 g1 g2 hB2 ⊢
        exact bodyPost_ret (v := verbV ((8), (0), (t.extract 5 t.size))) (by simp [results, Tryd.results33, go_sem, g0, g1, g2, verbV]) rfl ⟨by rw [hP2.out], hB2⟩
  have hP2 : Hid (parseP s = badV) := by show _ = _; rw [HQ2.out, if_neg hB]
  have hB' : ¬ 5 < t.size ∨ (5 < t.size ∧ (t.extract 0 5).toList ≠ [102, 97, 105, 108, 32]) := by
    rcases Nat.lt_or_ge 5 t.size with h | h
    · refine Or.inr ⟨h, fun e => hB ⟨h, ?_⟩⟩
      rw [ext_iff]
      rw [ByteArray.toList_eq] at e
      exact e
    · exact Or.inl (by omega)
  clear hB HQ2
  rcases hA' with hA' | ⟨hA', hA2⟩
  all_goals
    first
      | have z2 : ¬ (7 : Int) < (t.size : Int) := by omega
      | (have z2 : (7 : Int) < (t.size : Int) := by omega
         have z3 : (7 : Int) ≤ (t.size : Int) := by omega
         have z5 : ((t.extract 0 7).toList == [115, 101, 108, 101, 99, 116, 32]) = false := by simpa using hA2
         clear hA2)
    rcases hB' with hB' | ⟨hB', hB2⟩
    all_goals try (exfalso; omega)
    all_goals
      first
        | have y2 : ¬ (5 : Int) < (t.size : Int) := by omega
        | (have y2 : (5 : Int) < (t.size : Int) := by omega
           have y3 : (5 : Int) ≤ (t.size : Int) := by omega
           have y5 : ((t.extract 0 5).toList == [102, 97, 105, 108, 32]) = false := by simpa using hB2
           clear hB2)
      clear hA' hB'
      go_enter Tryd.func33, Tryd.ntmps33
      go_upto_region 1 with fail
      refine Code.wp_named (fun W => Blk W w.heap.size 26 #[.int .i64 0, .int .i64 0, .string ⟨#[]⟩] ∧ Below w.heap.size w W) ⟨Blk.new w _ _, (Below.refl _ _).alloc (Nat.le_refl _) _⟩ ?_
      rintro W ⟨hx, hB⟩
      have e0 := hx.cell 0; have e1 := hx.cell 1; have e2 := hx.cell 2
      have f0 := hx.frozen 0; have f1 := hx.frozen 1; have f2 := hx.frozen 2
      simp at e0 e1 e2
      have HX := hide hx
      have HB := hide hB
      clear hx hB
      go_wp2_with fail
      refine (rtrim_any s _ hs).mono ?_
      rintro e w1 ⟨rfl, rfl⟩
      rw [Ht.out]
      go_wp2_with fail
      obtain ⟨g0, g1, g2, hB2⟩ := store3 HX.out HB.out (.int .i64 (0)) (.int .i64 (0)) (.string ⟨#[]⟩)
      generalize ((W.setCell ⟨w.heap.size, 0, none⟩ (.int .i64 (0))).setCell ⟨w.heap.size, 1, none⟩ (.int .i64 (0))).setCell ⟨w.heap.size, 2, none⟩ (.string ⟨#[]⟩) = W2 at g0 g1 g2 hB2 ⊢
      exact bodyPost_ret (v := verbV ((0), (0), ⟨#[]⟩)) (by simp [results, Tryd.results33, go_sem, g0, g1, g2, verbV]) rfl ⟨by rw [hP2.out], hB2⟩
end Go.Proofs.YtpaodffckhnieaaDoor
