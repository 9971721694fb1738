/-
  What any text says. No condition but on its length.
-/
import Derived.Test.YtpaodffckhnieaaDoorSqlB
namespace Go.Proofs.YtpaodffckhnieaaDoor
open Go.RowKit
set_option linter.unusedVariables false
set_option linter.unusedSimpArgs false
set_option maxRecDepth 100000

theorem scut_some (s : ByteArray) (i : Nat) (w : World) (hs : s.size ≤ 1000000) (h : Lib.indexByte s.data.toList 32 = (i : Int)) (hi : i < s.size) :
    Calls Tryd.prog 39 #[.string s, .string ⟨#[32]⟩] w fun e w' => Below w.heap.size w w' ∧ e = .returned (.tuple #[.string (s.extract 0 i), .string (s.extract (i + 1) s.size), .bool true]) := by
  have H := hide h
  clear h
  go_enter Tryd.func39, Tryd.ntmps39
  go_wp2_with fail
  refine (cut_some s i _ hs H.out hi).mono ?_
  rintro e w1 ⟨hb, rfl⟩
  have HB := hide hb
  clear hb
  go_wp2_with fail
  go_returns
  exact ⟨HB.out, rfl⟩

def verbV (v : Int × Int × ByteArray) : Value := .agg #[.int .i64 v.1, .int .i64 v.2.1, .string v.2.2]
abbrev badV : Int × Int × ByteArray := (0, 0, ⟨#[]⟩)
/-- A verb of two words. -/
def pairP (a b : ByteArray) : Int × Int × ByteArray :=
  if a = ⟨#[115, 101, 108, 101, 99, 116]⟩ then (match parseN b 99 with | some n => (5, n, ⟨#[]⟩) | none => badV)
  else if a = ⟨#[102, 97, 105, 108]⟩ then (if codeS b = true then (8, 0, b) else badV) else badV
/-- What a text says that has no blanks around it. -/
def sayP (t : ByteArray) : Int × Int × ByteArray :=
  match wordK t with
  | some k => (k, 0, ⟨#[]⟩)
  | none => if Lib.indexByte t.data.toList 32 < 0 then badV else pairP (t.extract 0 (Lib.indexByte t.data.toList 32).toNat) (t.extract ((Lib.indexByte t.data.toList 32).toNat + 1) t.size)
def parseP (s : ByteArray) : Int × Int × ByteArray := sayP (trimS s)

/-- What a struct's three cells hold behind three stores. -/
theorem store3 {W w : World} {T : TypeId} {x y z : Value} (hx : Blk W w.heap.size T #[x, y, z]) (hB : Below w.heap.size w W) (a b c : Value) :
    (((W.setCell ⟨w.heap.size, 0, none⟩ a).setCell ⟨w.heap.size, 1, none⟩ b).setCell ⟨w.heap.size, 2, none⟩ c).cell? ⟨w.heap.size, 0, none⟩ = some a
    ∧ (((W.setCell ⟨w.heap.size, 0, none⟩ a).setCell ⟨w.heap.size, 1, none⟩ b).setCell ⟨w.heap.size, 2, none⟩ c).cell? ⟨w.heap.size, 1, none⟩ = some b
    ∧ (((W.setCell ⟨w.heap.size, 0, none⟩ a).setCell ⟨w.heap.size, 1, none⟩ b).setCell ⟨w.heap.size, 2, none⟩ c).cell? ⟨w.heap.size, 2, none⟩ = some c
    ∧ Below w.heap.size w (((W.setCell ⟨w.heap.size, 0, none⟩ a).setCell ⟨w.heap.size, 1, none⟩ b).setCell ⟨w.heap.size, 2, none⟩ c) := by
  have hp := ((hx.put 0 a).put 1 b).put 2 c
  have g0 := hp.cell 0; have g1 := hp.cell 1; have g2 := hp.cell 2
  simp at g0 g1 g2
  exact ⟨g0, g1, g2, ((hB.setCell (p := ⟨w.heap.size, 0, none⟩) (Nat.le_refl _) a).setCell (p := ⟨w.heap.size, 1, none⟩) (Nat.le_refl _) b).setCell (p := ⟨w.heap.size, 2, none⟩) (Nat.le_refl _) c⟩

theorem pair_any (a b : ByteArray) (w : World) :
    Calls Tryd.prog 40 #[.string a, .string b] w fun e w' => e = .returned (verbV (pairP a b)) ∧ Below w.heap.size w w' := by
  by_cases ha : a = ⟨#[115, 101, 108, 101, 99, 116]⟩
  · have hP : Hid (pairP a b = match parseN b 99 with | some n => (5, n, ⟨#[]⟩) | none => badV) := by show _ = _; unfold pairP; rw [if_pos ha]
    subst ha
    go_enter Tryd.func40, Tryd.ntmps40
    go_upto_region 1 with fail
    refine Code.wp_named (fun W => Blk W w.heap.size 26 #[.int .i64 0, .int .i64 0, .string ⟨#[]⟩] ∧ Below w.heap.size w W) ⟨Blk.new w _ _, (Below.refl _ _).alloc (Nat.le_refl _) _⟩ ?_
    rintro W ⟨hx, hB⟩
    have e0 := hx.cell 0; have e1 := hx.cell 1; have e2 := hx.cell 2
    have f0 := hx.frozen 0; have f1 := hx.frozen 1; have f2 := hx.frozen 2
    simp at e0 e1 e2
    have HX := hide hx
    have HB := hide hB
    clear hx hB
    go_wp2_with fail
    refine (parse_any b 99 _).mono ?_
    rintro e w1 ⟨rfl, rfl⟩
    cases hn : parseN b 99 with
    | none =>
      have hP2 : Hid (pairP ⟨#[115, 101, 108, 101, 99, 116]⟩ b = badV) := by show _ = _; rw [hP.out, hn]
      clear hn
      rw [show parseV none = .tuple #[.int .i64 0, .bool false] from rfl]
      go_wp2_with fail
      obtain ⟨g0, g1, g2, hB2⟩ := store3 HX.out HB.out (.int .i64 (0)) (.int .i64 (0)) (.string ⟨#[]⟩)
      generalize ((W.setCell ⟨w.heap.size, 0, none⟩ (.int .i64 (0))).setCell ⟨w.heap.size, 1, none⟩ (.int .i64 (0))).setCell ⟨w.heap.size, 2, none⟩ (.string ⟨#[]⟩) = W2 at g0 g1 g2 hB2 ⊢
      exact bodyPost_ret (v := verbV ((0), (0), ⟨#[]⟩)) (by simp [results, Tryd.results40, go_sem, g0, g1, g2, verbV]) rfl ⟨by rw [hP2.out], hB2⟩
    | some n =>
      have hP2 : Hid (pairP ⟨#[115, 101, 108, 101, 99, 116]⟩ b = (5, n, ⟨#[]⟩)) := by show _ = _; rw [hP.out, hn]
      clear hn
      rw [show parseV (some n) = .tuple #[.int .i64 n, .bool true] from rfl]
      go_wp2_with fail
      obtain ⟨g0, g1, g2, hB2⟩ := store3 HX.out HB.out (.int .i64 (5)) (.int .i64 (n)) (.string ⟨#[]⟩)
      generalize ((W.setCell ⟨w.heap.size, 0, none⟩ (.int .i64 (5))).setCell ⟨w.heap.size, 1, none⟩ (.int .i64 (n))).setCell ⟨w.heap.size, 2, none⟩ (.string ⟨#[]⟩) = W2 at g0 g1 g2 hB2 ⊢
      exact bodyPost_ret (v := verbV ((5), (n), ⟨#[]⟩)) (by simp [results, Tryd.results40, go_sem, g0, g1, g2, verbV]) rfl ⟨by rw [hP2.out], hB2⟩
  have ha1 := str_ne (l := [115, 101, 108, 101, 99, 116]) ha
  by_cases hb : a = ⟨#[102, 97, 105, 108]⟩
  · have hP : Hid (pairP a b = if codeS b = true then (8, 0, b) else badV) := by show _ = _; unfold pairP; rw [if_neg ha, if_pos hb]
    clear ha ha1
    subst hb
    go_enter Tryd.func40, Tryd.ntmps40
    go_upto_region 1 with fail
    refine Code.wp_named (fun W => Blk W w.heap.size 26 #[.int .i64 0, .int .i64 0, .string ⟨#[]⟩] ∧ Below w.heap.size w W) ⟨Blk.new w _ _, (Below.refl _ _).alloc (Nat.le_refl _) _⟩ ?_
    rintro W ⟨hx, hB⟩
    have e0 := hx.cell 0; have e1 := hx.cell 1; have e2 := hx.cell 2
    have f0 := hx.frozen 0; have f1 := hx.frozen 1; have f2 := hx.frozen 2
    simp at e0 e1 e2
    have HX := hide hx
    have HB := hide hB
    clear hx hB
    go_wp2_with fail
    refine (code_any b _).mono ?_
    rintro e w1 ⟨rfl, hb1⟩
    have hx := HX.out.below hb1 HX.out.lt
    have HB1 := hide (below_via HB.out hb1)
    have e0 := hx.cell 0; have e1 := hx.cell 1; have e2 := hx.cell 2
    have f0 := hx.frozen 0; have f1 := hx.frozen 1; have f2 := hx.frozen 2
    simp at e0 e1 e2
    have HX1 := hide hx
    clear hx hb1
    cases hn : codeS b with
    | false =>
      have hP2 : Hid (pairP ⟨#[102, 97, 105, 108]⟩ b = badV) := by show _ = _; rw [hP.out, hn]; rfl
      clear hn
      go_wp2_with fail
      obtain ⟨g0, g1, g2, hB2⟩ := store3 HX1.out HB1.out (.int .i64 (0)) (.int .i64 (0)) (.string ⟨#[]⟩)
      generalize ((w1.setCell ⟨w.heap.size, 0, none⟩ (.int .i64 (0))).setCell ⟨w.heap.size, 1, none⟩ (.int .i64 (0))).setCell ⟨w.heap.size, 2, none⟩ (.string ⟨#[]⟩) = W2 at g0 g1 g2 hB2 ⊢
      exact bodyPost_ret (v := verbV ((0), (0), ⟨#[]⟩)) (by simp [results, Tryd.results40, go_sem, g0, g1, g2, verbV]) rfl ⟨by rw [hP2.out], hB2⟩
    | true =>
      have hP2 : Hid (pairP ⟨#[102, 97, 105, 108]⟩ b = (8, 0, b)) := by show _ = _; rw [hP.out, hn]; rfl
      clear hn
      go_wp2_with fail
      obtain ⟨g0, g1, g2, hB2⟩ := store3 HX1.out HB1.out (.int .i64 (8)) (.int .i64 (0)) (.string b)
      generalize ((w1.setCell ⟨w.heap.size, 0, none⟩ (.int .i64 (8))).setCell ⟨w.heap.size, 1, none⟩ (.int .i64 (0))).setCell ⟨w.heap.size, 2, none⟩ (.string b) = W2 at g0 g1 g2 hB2 ⊢
      exact bodyPost_ret (v := verbV ((8), (0), b)) (by simp [results, Tryd.results40, go_sem, g0, g1, g2, verbV]) rfl ⟨by rw [hP2.out], hB2⟩
  have hb1 := str_ne (l := [102, 97, 105, 108]) hb
  have hP2 : Hid (pairP a b = badV) := by show _ = _; unfold pairP; rw [if_neg ha, if_neg hb]
  clear ha hb
  go_enter Tryd.func40, Tryd.ntmps40
  go_upto_region 1 with fail
  refine Code.wp_named (fun W => Blk W w.heap.size 26 #[.int .i64 0, .int .i64 0, .string ⟨#[]⟩] ∧ Below w.heap.size w W) ⟨Blk.new w _ _, (Below.refl _ _).alloc (Nat.le_refl _) _⟩ ?_
  rintro W ⟨hx, hB⟩
  have e0 := hx.cell 0; have e1 := hx.cell 1; have e2 := hx.cell 2
  have f0 := hx.frozen 0; have f1 := hx.frozen 1; have f2 := hx.frozen 2
  simp at e0 e1 e2
  have HX := hide hx
  have HB := hide hB
  clear hx hB
  go_wp2_with fail
  obtain ⟨g0, g1, g2, hB2⟩ := store3 HX.out HB.out (.int .i64 (0)) (.int .i64 (0)) (.string ⟨#[]⟩)
  generalize ((W.setCell ⟨w.heap.size, 0, none⟩ (.int .i64 (0))).setCell ⟨w.heap.size, 1, none⟩ (.int .i64 (0))).setCell ⟨w.heap.size, 2, none⟩ (.string ⟨#[]⟩) = W2 at g0 g1 g2 hB2 ⊢
  exact bodyPost_ret (v := verbV ((0), (0), ⟨#[]⟩)) (by simp [results, Tryd.results40, go_sem, g0, g1, g2, verbV]) rfl ⟨by rw [hP2.out], hB2⟩

theorem indexByte_lt (l : List UInt8) (b : UInt8) : Lib.indexByte l b < l.length := by
  induction l with
  | nil => simp [Lib.indexByte]
  | cons x l ih =>
    unfold Lib.indexByte
    simp only [List.length_cons]
    repeat' split
    all_goals omega
theorem parse_two (s : ByteArray) (w : World) (hs : s.size ≤ 100000) (ht : (trimS s).size ≤ 100000) (hk : wordK (trimS s) = none) (hc : ¬ Lib.indexByte (trimS s).data.toList 32 < 0) :
    Calls Tryd.prog 24 #[.string s] w fun e w' => e = .returned (verbV (parseP s)) ∧ Below w.heap.size w w' := by
  obtain ⟨i, hi⟩ : ∃ i : Nat, Lib.indexByte (trimS s).data.toList 32 = (i : Int) := ⟨(Lib.indexByte (trimS s).data.toList 32).toNat, by omega⟩
  have hlt : i < (trimS s).size := by
    have h1 := indexByte_lt (trimS s).data.toList 32
    rw [hi, Array.length_toList] at h1
    have h2 : (trimS s).data.size = (trimS s).size := rfl
    omega
  have hP : Hid (parseP s = pairP ((trimS s).extract 0 i) ((trimS s).extract (i + 1) (trimS s).size)) := by
    show _ = _
    unfold parseP sayP
    rw [hk]
    show (if Lib.indexByte (trimS s).data.toList 32 < 0 then _ else _) = _
    rw [if_neg hc, hi]; rfl
  have Hk := hide hk
  have Hi := hide hi
  have Hlt := hide hlt
  have Ht := hide ht
  clear hk hc hi hlt ht
  generalize hv : parseP s = v at hP
  have HP := hide hP.out
  clear hv hP
  go_enter Tryd.func24, Tryd.ntmps24
  go_upto_region 1 with fail
  refine Code.wp_named (fun W => Blk W w.heap.size 26 #[.int .i64 0, .int .i64 0, .string ⟨#[]⟩] ∧ Below w.heap.size w W) ⟨Blk.new w _ _, (Below.refl _ _).alloc (Nat.le_refl _) _⟩ ?_
  rintro W ⟨hx, hB⟩
  have HX := hide hx
  have HB := hide hB
  clear hx hB
  go_wp2_with fail
  refine (trim_any s _ (by omega)).mono ?_
  rintro e w1 ⟨rfl, hb1⟩
  have HX1 := hide (HX.out.below hb1 HX.out.lt)
  have HB1 := hide (below_via HB.out hb1)
  clear hb1
  go_wp2_with fail
  refine (word_any _ _).mono ?_
  rintro e w2 ⟨rfl, rfl⟩
  rw [Hk.out, show wordV none = .tuple #[.int .i64 0, .bool false] from rfl]
  go_wp2_with fail
  refine (scut_some _ i _ (Nat.le_trans Ht.out (by decide)) Hi.out Hlt.out).mono ?_
  rintro e w3 ⟨hb3, rfl⟩
  have HX3 := hide (HX1.out.below hb3 HX1.out.lt)
  have HB3 := hide (below_via HB1.out hb3)
  clear hb3
  go_wp2_with fail
  refine (pair_any _ _ _).mono ?_
  rintro e w4 ⟨rfl, hb4⟩
  have hx := HX3.out.below hb4 HX3.out.lt
  have HB4 := hide (below_via HB3.out hb4)
  rw [← HP.out]
  clear HP
  have e0 := hx.cell 0; have e1 := hx.cell 1; have e2 := hx.cell 2
  have f0 := hx.frozen 0; have f1 := hx.frozen 1; have f2 := hx.frozen 2
  simp at e0 e1 e2
  have HX4 := hide hx
  clear hx hb4
  obtain ⟨a, b, c⟩ := v
  unfold verbV
  go_wp2_with fail
  obtain ⟨g0, g1, g2, hB2⟩ := store3 HX4.out HB4.out (.int .i64 a) (.int .i64 b) (.string c)
  generalize ((w4.setCell ⟨w.heap.size, 0, none⟩ (.int .i64 a)).setCell ⟨w.heap.size, 1, none⟩ (.int .i64 b)).setCell ⟨w.heap.size, 2, none⟩ (.string c) = W2 at g0 g1 g2 hB2 ⊢
  exact bodyPost_ret (v := verbV (a, b, c)) (by simp [results, Tryd.results24, go_sem, g0, g1, g2, verbV]) rfl ⟨rfl, hB2⟩

theorem trimB_length (l : List UInt8) (b : UInt8) : (Lib.trimB l b).length ≤ l.length := by
  unfold Lib.trimB Lib.trimLeftB Lib.trimRightB
  refine Nat.le_trans ((List.dropWhile_sublist _).length_le) ?_
  rw [List.length_reverse]
  refine Nat.le_trans ((List.dropWhile_sublist _).length_le) ?_
  rw [List.length_reverse]
  exact Nat.le_refl _
theorem trimS_size (s : ByteArray) : (trimS s).size ≤ s.size := trimB_length s.data.toList 32
theorem sparse_any (s : ByteArray) (w : World) (hs : s.size ≤ 100000) :
    Calls Tryd.prog 24 #[.string s] w fun e w' => e = .returned (verbV (parseP s)) ∧ Below w.heap.size w w' := by
  cases hk : wordK (trimS s) with
  | some k =>
    have hP : parseP s = (k, 0, ⟨#[]⟩) := by unfold parseP sayP; rw [hk]
    rw [hP]
    exact parse_word s k w (by omega) hk
  | none =>
    by_cases hc : Lib.indexByte (trimS s).data.toList 32 < 0
    · have hP : parseP s = badV := by
        unfold parseP sayP; rw [hk]
        show (if Lib.indexByte (trimS s).data.toList 32 < 0 then _ else _) = _
        rw [if_pos hc]
      rw [hP]
      exact parse_none s w (by omega) hk hc
    · exact parse_two s w hs (Nat.le_trans (trimS_size s) hs) hk hc
end Go.Proofs.YtpaodffckhnieaaDoor
