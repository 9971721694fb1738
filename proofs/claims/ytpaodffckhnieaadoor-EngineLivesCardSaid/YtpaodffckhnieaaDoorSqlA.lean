/-
  What texts say that are one word, or none. No condition.
-/
import Derived.Test.YtpaodffckhnieaaDoorRows
import Derived.Test.YtpaodffckhnieaaDoorKit
import Derived.Test.YtpaodffckhnieaaDoorShelf
import Derived.Handy
import Derived.WalkKit
import Derived.WalkSpells
import Derived.Deep.QuietTactic
import Derived.BigQuiet
import Derived.Deep.DeepCutAuto
import Derived.Deep.CutBlock
namespace Go.Proofs.YtpaodffckhnieaaDoor
open Go.RowKit
set_option linter.unusedVariables false
set_option linter.unusedSimpArgs false

theorem str_ne {s : ByteArray} {l : List UInt8} (h : s ≠ ⟨l.toArray⟩) : (s.toList == l) = false := by
  have : s.toList ≠ l := by
    rw [ByteArray.toList_eq]
    intro e
    exact h (by
      obtain ⟨a⟩ := s
      congr 1
      exact Array.toList_inj.1 e)
  simpa using this
theorem str_ne_empty {s : ByteArray} (h : s ≠ ByteArray.empty) : ¬ s.toList = [] := by
  have h2 : s ≠ ⟨([] : List UInt8).toArray⟩ := h
  have := str_ne h2
  simpa using this

/-- The verbs that are one word. -/
def wordK (s : ByteArray) : Option Int :=
  if s = ByteArray.empty then some 1 else if s = ⟨#[98, 101, 103, 105, 110]⟩ then some 2 else if s = ⟨#[99, 111, 109, 109, 105, 116]⟩ then some 3 else if s = ⟨#[114, 111, 108, 108, 98, 97, 99, 107]⟩ then some 4
  else if s = ⟨#[101, 99, 104, 111]⟩ then some 6 else if s = ⟨#[110, 101, 120, 116]⟩ then some 7 else none
def wordV (o : Option Int) : Value := .tuple #[.int .i64 (o.getD 0), .bool o.isSome]
theorem word_any (s : ByteArray) (w : World) :
    Calls Tryd.prog 38 #[.string s] w fun e w' => w = w' ∧ e = .returned (wordV (wordK s)) := by
  by_cases h0 : s = ByteArray.empty
  · subst h0
    go_enter Tryd.func38, Tryd.ntmps38
    go_wp2
    go_returns
    exact ⟨rfl, rfl⟩
  have e0 := str_ne_empty h0
  have e0b : s.toList.isEmpty = false := by simpa using e0
  by_cases h1 : s = ⟨#[98, 101, 103, 105, 110]⟩
  · subst h1
    clear e0 e0b
    go_enter Tryd.func38, Tryd.ntmps38
    go_wp2
    all_goals go_returns
    all_goals exact ⟨rfl, rfl⟩
  by_cases h2 : s = ⟨#[99, 111, 109, 109, 105, 116]⟩
  · subst h2
    clear e0 e0b
    go_enter Tryd.func38, Tryd.ntmps38
    go_wp2
    all_goals go_returns
    all_goals exact ⟨rfl, rfl⟩
  by_cases h3 : s = ⟨#[114, 111, 108, 108, 98, 97, 99, 107]⟩
  · subst h3
    clear e0 e0b
    go_enter Tryd.func38, Tryd.ntmps38
    go_wp2
    all_goals go_returns
    all_goals exact ⟨rfl, rfl⟩
  by_cases h4 : s = ⟨#[101, 99, 104, 111]⟩
  · subst h4
    clear e0 e0b
    go_enter Tryd.func38, Tryd.ntmps38
    go_wp2
    all_goals go_returns
    all_goals exact ⟨rfl, rfl⟩
  by_cases h5 : s = ⟨#[110, 101, 120, 116]⟩
  · subst h5
    clear e0 e0b
    go_enter Tryd.func38, Tryd.ntmps38
    go_wp2
    all_goals go_returns
    all_goals exact ⟨rfl, rfl⟩
  have e1 := str_ne (l := [98, 101, 103, 105, 110]) h1
  have e2 := str_ne (l := [99, 111, 109, 109, 105, 116]) h2
  have e3 := str_ne (l := [114, 111, 108, 108, 98, 97, 99, 107]) h3
  have e4 := str_ne (l := [101, 99, 104, 111]) h4
  have e5 := str_ne (l := [110, 101, 120, 116]) h5
  have hw : wordK s = none := by unfold wordK; rw [if_neg h0, if_neg h1, if_neg h2, if_neg h3, if_neg h4, if_neg h5]
  have Hw := hide hw
  clear h0 h1 h2 h3 h4 h5 hw
  go_enter Tryd.func38, Tryd.ntmps38
  go_wp2
  all_goals go_returns
  all_goals exact ⟨rfl, by rw [Hw.out]; rfl⟩

/-- What is ahead of a first blank, and behind it; nothing where there is none. -/
theorem cut_none (s : ByteArray) (w : World) (h : Lib.indexByte s.data.toList 32 < 0) :
    Calls Tryd.prog 61 #[.string s, .string ⟨#[32]⟩] w fun e w' => w = w' ∧ e = .returned (.tuple #[.string s, .string ⟨#[]⟩, .bool false]) := by
  obtain ⟨i, hi⟩ : ∃ i, Lib.indexByte s.data.toList 32 = i := ⟨_, rfl⟩
  rw [hi] at h
  have Hi := hide hi
  clear hi
  go_enter Tryd.func61, Tryd.ntmps61
  go_wp2_with fail
  refine (Tryd.stringslite_Index_one s 32 _).mono ?_
  rintro e w1 ⟨rfl, rfl⟩
  rw [Hi.out]
  go_wp2_with fail
  go_returns
  exact ⟨rfl, rfl⟩
theorem scut_none (s : ByteArray) (w : World) (h : Lib.indexByte s.data.toList 32 < 0) :
    Calls Tryd.prog 39 #[.string s, .string ⟨#[32]⟩] w fun e w' => w = w' ∧ e = .returned (.tuple #[.string s, .string ⟨#[]⟩, .bool false]) := by
  have H := hide h
  clear h
  go_enter Tryd.func39, Tryd.ntmps39
  go_wp2_with fail
  refine (cut_none s _ H.out).mono ?_
  rintro e w1 ⟨rfl, rfl⟩
  go_wp2_with fail
  go_returns
  exact ⟨rfl, rfl⟩

def trimS (s : ByteArray) : ByteArray := ⟨(Lib.trimB s.data.toList 32).toArray⟩
theorem trim_any (s : ByteArray) (w : World) (hs : s.size ≤ 9223372036854775807) :
    Calls Tryd.prog 37 #[.string s, .string ⟨#[32]⟩] w fun e w' => e = .returned (.string (trimS s)) ∧ Below w.heap.size w w' :=
  (Tryd.strings_Trim_one s 32 (by decide) w hs).mono fun e w' ⟨he, hw⟩ => ⟨he, by
    rcases hw with rfl | rfl
    · exact Below.refl _ _
    · exact (Below.refl _ _).drew⟩

theorem parse_word (s : ByteArray) (k : Int) (w : World) (hs : s.size ≤ 9223372036854775807) (hk : wordK (trimS s) = some k) :
    Calls Tryd.prog 24 #[.string s] w fun e w' => e = .returned (.agg #[.int .i64 k, .int .i64 0, .string ⟨#[]⟩]) ∧ Below w.heap.size w w' := by
  have Hk := hide hk
  clear hk
  go_enter Tryd.func24, Tryd.ntmps24
  go_upto_region 1 with fail
  refine Code.wp_named (fun W => Blk W w.heap.size 26 #[.int .i64 0, .int .i64 0, .string ⟨#[]⟩] ∧ Below w.heap.size w W) ⟨Blk.new w _ _, (Below.refl _ _).alloc (Nat.le_refl _) _⟩ ?_
  rintro W ⟨hx, hB⟩
  have HX := hide hx
  have HB := hide hB
  clear hx hB
  go_wp2_with fail
  refine (trim_any s _ hs).mono ?_
  rintro e w1 ⟨rfl, hb1⟩
  have hx := HX.out.below hb1 HX.out.lt
  have HB1 := hide (below_via HB.out hb1)
  have e0 := hx.cell 0; have e1 := hx.cell 1; have e2 := hx.cell 2
  have f0 := hx.frozen 0; have f1 := hx.frozen 1; have f2 := hx.frozen 2
  simp at e0 e1 e2
  have HX1 := hide hx
  clear hx hb1
  go_wp2_with fail
  refine (word_any _ _).mono ?_
  rintro e w2 ⟨rfl, rfl⟩
  rw [Hk.out, show wordV (some k) = .tuple #[.int .i64 k, .bool true] from rfl]
  go_wp2_with fail
  have hp := ((HX1.out.put 0 (.int .i64 k)).put 1 (.int .i64 0)).put 2 (.string ⟨#[]⟩)
  have hB2 := ((HB1.out.setCell (p := ⟨w.heap.size, 0, none⟩) (Nat.le_refl _) (.int .i64 k)).setCell (p := ⟨w.heap.size, 1, none⟩) (Nat.le_refl _) (.int .i64 0)).setCell (p := ⟨w.heap.size, 2, none⟩) (Nat.le_refl _) (.string ⟨#[]⟩)
  generalize ((w1.setCell ⟨w.heap.size, 0, none⟩ (.int .i64 k)).setCell ⟨w.heap.size, 1, none⟩ (.int .i64 0)).setCell ⟨w.heap.size, 2, none⟩ (.string ⟨#[]⟩) = W2 at hp hB2 ⊢
  have g0 := hp.cell 0; have g1 := hp.cell 1; have g2 := hp.cell 2
  simp at g0 g1 g2
  exact bodyPost_ret (v := .agg #[.int .i64 k, .int .i64 0, .string ⟨#[]⟩]) (by simp [results, Tryd.results24, go_sem, g0, g1, g2]) rfl ⟨rfl, hB2⟩
theorem parse_none (s : ByteArray) (w : World) (hs : s.size ≤ 9223372036854775807) (hk : wordK (trimS s) = none) (hc : Lib.indexByte (trimS s).data.toList 32 < 0) :
    Calls Tryd.prog 24 #[.string s] w fun e w' => e = .returned (.agg #[.int .i64 0, .int .i64 0, .string ⟨#[]⟩]) ∧ Below w.heap.size w w' := by
  have Hk := hide hk
  have Hc := hide hc
  clear hk hc
  go_enter Tryd.func24, Tryd.ntmps24
  go_upto_region 1 with fail
  refine Code.wp_named (fun W => Blk W w.heap.size 26 #[.int .i64 0, .int .i64 0, .string ⟨#[]⟩] ∧ Below w.heap.size w W) ⟨Blk.new w _ _, (Below.refl _ _).alloc (Nat.le_refl _) _⟩ ?_
  rintro W ⟨hx, hB⟩
  have HX := hide hx
  have HB := hide hB
  clear hx hB
  go_wp2_with fail
  refine (trim_any s _ hs).mono ?_
  rintro e w1 ⟨rfl, hb1⟩
  have hx := HX.out.below hb1 HX.out.lt
  have HB1 := hide (below_via HB.out hb1)
  have e0 := hx.cell 0; have e1 := hx.cell 1; have e2 := hx.cell 2
  have f0 := hx.frozen 0; have f1 := hx.frozen 1; have f2 := hx.frozen 2
  simp at e0 e1 e2
  have HX1 := hide hx
  clear hx hb1
  go_wp2_with fail
  refine (word_any _ _).mono ?_
  rintro e w2 ⟨rfl, rfl⟩
  rw [Hk.out, show wordV none = .tuple #[.int .i64 0, .bool false] from rfl]
  go_wp2_with fail
  refine (scut_none _ _ Hc.out).mono ?_
  rintro e w3 ⟨rfl, rfl⟩
  go_wp2_with fail
  have hp := ((HX1.out.put 0 (.int .i64 0)).put 1 (.int .i64 0)).put 2 (.string ⟨#[]⟩)
  have hB2 := ((HB1.out.setCell (p := ⟨w.heap.size, 0, none⟩) (Nat.le_refl _) (.int .i64 0)).setCell (p := ⟨w.heap.size, 1, none⟩) (Nat.le_refl _) (.int .i64 0)).setCell (p := ⟨w.heap.size, 2, none⟩) (Nat.le_refl _) (.string ⟨#[]⟩)
  generalize ((w1.setCell ⟨w.heap.size, 0, none⟩ (.int .i64 0)).setCell ⟨w.heap.size, 1, none⟩ (.int .i64 0)).setCell ⟨w.heap.size, 2, none⟩ (.string ⟨#[]⟩) = W2 at hp hB2 ⊢
  have g0 := hp.cell 0; have g1 := hp.cell 1; have g2 := hp.cell 2
  simp at g0 g1 g2
  exact bodyPost_ret (v := .agg #[.int .i64 0, .int .i64 0, .string ⟨#[]⟩]) (by simp [results, Tryd.results24, go_sem, g0, g1, g2]) rfl ⟨rfl, hB2⟩
end Go.Proofs.YtpaodffckhnieaaDoor
