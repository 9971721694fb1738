/-
  The reference's engine: which texts it refuses, how often it was asked. No condition but on lengths.
-/
import Derived.Test.YtpaodffckhnieaaDoorEngS
import Derived.Deep.CutBlock
import Derived.Deep.DeepCutAuto
import Derived.Maps.AppendAt
namespace Go.Proofs.YtpaodffckhnieaaDoor
open Go.RowKit Go.Maps
set_option linter.unusedVariables false
set_option linter.unusedSimpArgs false
set_option maxRecDepth 100000

theorem infoStr : (Tryd.prog.info? 9).map (fun i => (i.zero, i.size, i.bytes)) = some (some (.string ⟨#[]⟩), 1, 16) := by kernel_rfl
def texV (l : List ByteArray) : List Value := l.map Value.string
theorem texV_snoc (l : List ByteArray) (x : ByteArray) : texV (l ++ [x]) = texV l ++ [.string x] := by unfold texV; rw [List.map_append]; rfl
theorem texV_len (l : List ByteArray) : (texV l).length = l.length := List.length_map _
def tj (l : List ByteArray) (j : Nat) : ByteArray := l.getD j default
theorem texV_at (l : List ByteArray) (j : Nat) (h : j < l.length) : (texV l)[j]? = some (.string (tj l j)) := by
  unfold texV tj
  rw [List.getElem?_map, List.getElem?_eq_getElem h, List.getD_eq_getElem?_getD, List.getElem?_eq_getElem h]; rfl
theorem own_slice {w : World} {base e size m : Nat} {v : Value} {xs : List Value} (h : w.ownsRow base e size v m xs) : ∃ a cap, v = .slice a m cap := by
  rcases h.2 with ⟨rfl, h0⟩ | ⟨g, cap, cur, rfl, _⟩
  · rw [h0]; exact ⟨none, 0, rfl⟩
  · exact ⟨_, cap, rfl⟩
theorem own_ge {base e size m j : Nat} {v : Value} {xs : List Value} {w : World} (ho : w.ownsRow base e size v m xs) (h : v.ownBlock = some j) : base ≤ j := by
  rcases ho.2 with ⟨rfl, _⟩ | ⟨g, cap, cur, rfl, h1, _⟩
  · cases h
  · have : g = j := by simpa [Value.ownBlock] using h
    omega
/-- Texts in cells. -/
theorem tex_cell {w : World} {base : Nat} {v : Value} {l : List ByteArray} (h : w.ownsRow base 9 1 v l.length (texV l)) (j : Nat) (hj : j < l.length) : ∃ b cap, v = .slice (some ⟨b, 0, none⟩) l.length cap ∧ b < w.heap.size ∧ base ≤ b ∧ w.cell? ⟨b, j, none⟩ = some (.string (tj l j)) := by
  obtain ⟨g, cap, rfl, hb, hg, _, _, _, hc⟩ := own_form h (by omega)
  exact ⟨g, cap, rfl, hg, hb, (hc j (by omega)).trans (texV_at l j hj)⟩
/-- The reference's engine lies in block G, its texts from B on. -/
structure REng (w : World) (G B : Nat) (l : List ByteArray) (n : Int) : Prop where
  lt : G < B
  ex : ∃ v, Blk w G 40 #[v, .int .i64 n] ∧ w.ownsRow B 9 1 v l.length (texV l)
theorem REng.below {w w' : World} {G B : Nat} {l : List ByteArray} {n : Int} (h : REng w G B l n) (hb : Below w.heap.size w w') : REng w' G B l n := by
  obtain ⟨v, h1, h2⟩ := h.ex
  exact ⟨h.lt, v, h1.below hb h1.lt, own_below h2 hb⟩
theorem REng.glt {w : World} {G B : Nat} {l : List ByteArray} {n : Int} (h : REng w G B l n) : G < w.heap.size := by
  obtain ⟨v, h1, h2⟩ := h.ex
  exact h1.lt
/-- What its calls leave as it was. -/
structure RKept (G B : Nat) (w w' : World) : Prop where
  os : w'.os = w.os
  tape : w'.tape = w.tape
  output : w'.output = w.output
  size : w.heap.size ≤ w'.heap.size
  low : ∀ k, k < B → k ≠ G → w'.heap[k]? = w.heap[k]?
  other : Lib.OthersKept 9 (some G) w w'
theorem RKept.refl (G B : Nat) (w : World) : RKept G B w w := ⟨rfl, rfl, rfl, Nat.le_refl _, fun _ _ _ => rfl, Lib.OthersKept.refl _ _ _⟩
theorem RKept.below {G B B0 : Nat} {a w w' : World} (h : RKept G B w w') (k : Below B0 a w) (hB : B0 ≤ B) (hG : B0 ≤ G) : Below B0 a w' :=
  ⟨h.os.trans k.os, h.tape.trans k.tape, h.output.trans k.output, Nat.le_trans k.size h.size, fun i hi => (h.low i (by omega) (by omega)).trans (k.block i hi)⟩
theorem RKept.blk {G B g : Nat} {t : TypeId} {cs : Array Value} {w w' : World} (h : RKept G B w w') (k : Blk w g t cs) (hg : g ≠ G) (ht : t ≠ 9) : Blk w' g t cs :=
  h.other g _ k (fun e => hg (by cases e; rfl)) (fun c fz e => ht (by cases e; rfl))
theorem REng.kept {w w' : World} {G B g m : Nat} {l : List ByteArray} {n : Int} (h : REng w G B l n) (hk : Kept g m w w') (h1 : G ≠ g) (h2 : G ≠ m) (h3 : g < B) (h4 : m < B) : REng w' G B l n := by
  obtain ⟨v, hb, hr⟩ := h.ex
  refine ⟨h.lt, v, hb.kept hk h1 h2, hr.1, ?_⟩
  rcases hr.2 with hn | ⟨x, cap, cur, rfl, hx, hg, rest⟩
  · exact .inl hn
  · exact .inr ⟨x, cap, cur, rfl, hx, (hk.block x (Array.getElem?_eq_some_iff.1 hg).1 (by omega) (by omega)).trans hg, rest⟩

theorem eq_tests (a b : ByteArray) : (a = b ∧ (a.toList == b.toList) = true) ∨ (a ≠ b ∧ (a.toList == b.toList) = false) := by
  by_cases h : a = b
  · subst h; exact Or.inl ⟨rfl, by simp⟩
  · refine Or.inr ⟨h, ?_⟩
    have h2 : a.toList ≠ b.toList := by
      rw [ByteArray.toList_eq, ByteArray.toList_eq]
      intro e
      apply h
      obtain ⟨x⟩ := a
      obtain ⟨y⟩ := b
      congr 1
      exact Array.toList_inj.1 e
    simpa using h2
theorem take_tj (l : List ByteArray) (k : Nat) (h : k < l.length) : l.take (k + 1) = l.take k ++ [tj l k] := by
  rw [List.take_add_one, List.getElem?_eq_getElem h]
  unfold tj
  rw [List.getD_eq_getElem?_getD, List.getElem?_eq_getElem h]; rfl
theorem isIn_at (s : ByteArray) (l : List ByteArray) (k : Nat) (h : k < l.length) (he : tj l k = s) : isIn s l = true := by
  unfold isIn
  rw [List.any_eq_true]
  refine ⟨tj l k, ?_, decide_eq_true he⟩
  unfold tj
  rw [List.getD_eq_getElem?_getD, List.getElem?_eq_getElem h]; exact List.getElem_mem h

theorem refuses_any (G B : Nat) (l : List ByteArray) (n : Int) (s : ByteArray) (w : World) (hl : l.length ≤ 1000) (h : REng w G B l n) :
    Calls Tryd.prog 26 #[.pointer (some ⟨G, 0, none⟩), .string s] w fun e w' => e = .returned (.bool (isIn s l)) ∧ w = w' := by
  obtain ⟨v, hb, hr⟩ := h.ex
  obtain ⟨a, cap, rfl⟩ := own_slice hr
  have c0 : w.cell? ⟨G, 0, none⟩ = some (.slice a l.length cap) := hb.cell 0
  have HR := hide hr
  clear h hb hr
  go_enter Tryd.func26, Tryd.ntmps26
  go_wp2_with fail
  go_loop [5] (fun i => ∃ k : Nat, i = .int .i64 k ∧ k ≤ l.length ∧ Hid (isIn s (l.take k) = false)) (fun i => (l.length - (intOf i).toNat))
  case atStart => exact ⟨0, rfl, Nat.zero_le _, rfl⟩
  case round =>
    obtain ⟨k, rfl, hk, HK⟩ := hrel
    by_cases hkk : k < l.length
    · have hki : (k : Int) < (l.length : Int) := by omega
      have hk0 : (0 : Int) ≤ (k : Int) := by omega
      obtain ⟨b, cp, hv, _, _, c1⟩ := tex_cell HR.out k hkk
      cases hv
      have HT := hide (take_tj l k hkk)
      have HI := hide (isIn_at s l k hkk)
      generalize tj l k = x at c1 HT HI
      rcases eq_tests x s with ⟨h1, h2⟩ | ⟨h1, h2⟩
      · have HE : Hid (isIn s l = true) := HI.out h1
        clear h1 HI
        go_wp2_with fail
        go_returns
        exact ⟨by rw [HE.out]; rfl, rfl⟩
      · have HE : Hid (isIn s (l.take (k + 1)) = false) := by
          show _ = _
          rw [HT.out, isIn_snoc, HK.out, decide_eq_false h1]; rfl
        clear h1 HI
        go_wp2_with fail
        go_round
        case rel => exact ⟨k + 1, by go_num, by omega, HE.out⟩
        case measure => simp [intOf]; omega
    · have hki : ¬ (k : Int) < (l.length : Int) := by omega
      have HE : Hid (isIn s l = false) := by
        show _ = _
        have := HK.out
        rwa [List.take_of_length_le (by omega)] at this
      go_wp2_with fail
      go_returns
      exact ⟨by rw [HE.out]; rfl, rfl⟩

/-- All cells but one stay as they were. -/
structure OneCell (G : Nat) (w w' : World) : Prop where
  size : w.heap.size ≤ w'.heap.size
  keep : ∀ p v, w.cell? p = some v → p ≠ ⟨G, 1, none⟩ → w'.cell? p = some v
theorem OneCell.of_below {G : Nat} {w w' : World} (h : Below w.heap.size w w') : OneCell G w w' := ⟨h.size, fun p v hp _ => (h.cell (World.block_lt_of_cell? w p hp)).trans hp⟩
theorem OneCell.trans {G : Nat} {u v w : World} (h : OneCell G u v) (k : OneCell G v w) : OneCell G u w := ⟨Nat.le_trans h.size k.size, fun p x hp hne => k.keep p x (h.keep p x hp hne) hne⟩
theorem OneCell.put (G : Nat) (w : World) (u : Value) : OneCell G w (w.setCell ⟨G, 1, none⟩ u) := by
  refine ⟨by simp [World.setCell], fun p v hp hne => ?_⟩
  rw [World.cell?_setCell_other _ _ _ _ (fun e => hne e.symm)]
  exact hp
theorem rnext_any (G B : Nat) (l : List ByteArray) (n : Int) (w : World) (h0 : 0 ≤ n) (h1 : n ≤ 100000) (h : REng w G B l n) :
    Calls Tryd.prog 14 #[.pointer (some ⟨G, 0, none⟩)] w fun e w' => e = .returned (.int .i64 (n + 1)) ∧ REng w' G B l (n + 1) ∧ RKept G B w w' ∧ OneCell G w w' := by
  obtain ⟨v, hb, hr⟩ := h.ex
  have hlt := h.lt
  have c1 : w.cell? ⟨G, 1, none⟩ = some (.int .i64 n) := hb.cell 1
  have f1 := hb.frozen 1
  have HB := hide hb
  have HR := hide hr
  clear h hb hr
  go_enter Tryd.func14, Tryd.ntmps14
  go_wp2_with fail
  go_returns
  refine ⟨rfl, ⟨hlt, v, ?_, ownsRow_setCell_below HR.out (a := ⟨G, 1, none⟩) hlt _⟩, ⟨rfl, rfl, rfl, by simp [World.setCell], fun k h1 h2 => Below.heap_setCell w ⟨G, 1, none⟩ _ k h2, (Lib.OthersKept.refl 9 (some G) w).setCell ⟨G, 1, none⟩ rfl _⟩, OneCell.put _ _ _⟩
  exact HB.out.put 1 _
end Go.Proofs.YtpaodffckhnieaaDoor
