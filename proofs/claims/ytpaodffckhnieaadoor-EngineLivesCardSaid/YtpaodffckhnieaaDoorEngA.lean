/-
  What an engine's calls do. No condition.
-/
import Derived.Test.YtpaodffckhnieaaDoorSqlA
import Derived.Maps.OwnSet
import Derived.Maps.OwnOps
import Derived.Laws.LoneSync
namespace Go.Proofs.YtpaodffckhnieaaDoor
open Go.RowKit Go.Maps
set_option linter.unusedVariables false
set_option linter.unusedSimpArgs false

/-- An engine that no call made: nil, or its zero. -/
def Dead (w : World) (p : Value) : Prop := p = .pointer none ∨ ∃ a, p = .pointer (some ⟨a, 0, none⟩) ∧ a < w.heap.size ∧ w.cell? ⟨a, 0, none⟩ = some (.map none)
theorem Dead.below {w w' : World} {p : Value} (h : Dead w p) (hb : Below w.heap.size w w') : Dead w' p := by
  rcases h with rfl | ⟨a, rfl, hal, h0⟩
  · exact Or.inl rfl
  · exact Or.inr ⟨a, rfl, Nat.lt_of_lt_of_le hal hb.size, (hb.cell (p := ⟨a, 0, none⟩) hal).trans h0⟩
theorem map_nil (w : World) (r : Option Nat) : (binOp .neq 45 (.map r) (.map none)).run Tryd.prog w = .ok (.bool (!r.isNone)) w := by
  cases r <;> kernel_rfl
theorem ready_dead (p : Value) (w : World) (h : Dead w p) :
    Calls Tryd.prog 21 #[p] w fun e w' => w = w' ∧ e = .returned (.bool false) := by
  rcases h with rfl | ⟨a, rfl, hal, h0⟩
  · go_enter Tryd.func21, Tryd.ntmps21
    go_wp2
    all_goals go_returns
    all_goals exact ⟨rfl, rfl⟩
  · have qm := map_nil
    go_enter Tryd.func21, Tryd.ntmps21
    go_wp2
    all_goals go_returns
    all_goals exact ⟨rfl, rfl⟩
theorem turn_dead (p : Value) (s : ByteArray) (w : World) (h : Dead w p) :
    Calls Tryd.prog 8 #[p, .string s] w fun e w' => w = w' ∧ e = .returned (.bool false) := by
  go_enter Tryd.func8, Tryd.ntmps8
  go_wp2_with fail
  refine (ready_dead p _ h).mono ?_
  rintro e w1 ⟨rfl, rfl⟩
  go_wp2_with fail
  go_returns
  exact ⟨rfl, rfl⟩
theorem next_dead (p : Value) (w : World) (h : Dead w p) :
    Calls Tryd.prog 9 #[p] w fun e w' => w = w' ∧ e = .returned (.int .i64 0) := by
  go_enter Tryd.func9, Tryd.ntmps9
  go_wp2_with fail
  refine (ready_dead p _ h).mono ?_
  rintro e w1 ⟨rfl, rfl⟩
  go_wp2_with fail
  go_returns
  exact ⟨rfl, rfl⟩
theorem count_dead (p : Value) (w : World) (h : Dead w p) :
    Calls Tryd.prog 10 #[p] w fun e w' => w = w' ∧ e = .returned (.int .i64 0) := by
  go_enter Tryd.func10, Tryd.ntmps10
  go_wp2_with fail
  refine (ready_dead p _ h).mono ?_
  rintro e w1 ⟨rfl, rfl⟩
  go_wp2_with fail
  go_returns
  exact ⟨rfl, rfl⟩
theorem verdict_dead (p : Value) (s : ByteArray) (b : Int) (w : World) (h : Dead w p) :
    Calls Tryd.prog 12 #[p, .string s, .int .u8 b] w fun e w' => w = w' ∧ e = .returned (.tuple #[.string ⟨#[]⟩, .string ⟨#[]⟩, .bool false]) := by
  go_enter Tryd.func12, Tryd.ntmps12
  go_wp2_with fail
  refine (ready_dead p _ h).mono ?_
  rintro e w1 ⟨rfl, rfl⟩
  go_wp2_with fail
  go_returns
  exact ⟨rfl, rfl⟩
theorem rows_dead (p : Value) (k n : Int) (c : ByteArray) (w : World) (h : Dead w p) :
    Calls Tryd.prog 16 #[p, .agg #[.int .i64 k, .int .i64 n, .string c], .slice none 0 0] w fun e w' => Below w.heap.size w w' ∧ e = .returned (.slice none 0 0) := by
  have hb : Below w.heap.size w (w.alloc (.cells #[.int .i64 k, .int .i64 n, .string c] 26)) := (Below.refl _ _).alloc (Nat.le_refl _) _
  have Hd := hide (h.below hb)
  have HB := hide hb
  clear h hb
  go_enter Tryd.func16, Tryd.ntmps16
  go_wp2_with fail
  refine (ready_dead p _ Hd.out).mono ?_
  rintro e w1 ⟨rfl, rfl⟩
  go_wp2_with fail
  go_returns
  exact ⟨HB.out, rfl⟩

/-- An engine that New made: its block g, its map m of at most k entries, how often it was asked. -/
structure Eng (w : World) (g m k : Nat) (D : DataW Unit) (n : Int) : Prop where
  head : Blk w g 52 #[.map (some m), .int .i64 n]
  map : w.ownsMap Tryd.prog 9 (plainElem Tryd.prog 4) m k D
theorem map_ne {w : World} {m k g t : Nat} {cs : Array Value} {D : DataW Unit} (hm : w.ownsMap Tryd.prog 9 (plainElem Tryd.prog 4) m k D) (h : Blk w g t cs) : m ≠ g := by
  rintro rfl
  obtain ⟨es, clock, hb, _⟩ := hm
  unfold Blk at h
  rw [h] at hb
  cases hb
theorem Eng.below {w w' : World} {g m k : Nat} {D : DataW Unit} {n : Int} (h : Eng w g m k D n) (hb : Below w.heap.size w w') : Eng w' g m k D n := by
  refine ⟨h.head.below hb h.head.lt, ?_⟩
  have hlt := h.map.lt
  obtain ⟨es, clock, he, r⟩ := h.map
  exact ⟨es, clock, (hb.block m hlt).trans he, r⟩
theorem Eng.more {w : World} {g m k : Nat} {D : DataW Unit} {n : Int} (h : Eng w g m k D n) : Eng w g m (k + 1) D n := ⟨h.head, h.map.mono (Nat.le_succ _)⟩
theorem Eng.c0 {w : World} {g m k : Nat} {D : DataW Unit} {n : Int} (h : Eng w g m k D n) : w.cell? ⟨g, 0, none⟩ = some (.map (some m)) := h.head.cell 0
theorem Eng.c1 {w : World} {g m k : Nat} {D : DataW Unit} {n : Int} (h : Eng w g m k D n) : w.cell? ⟨g, 1, none⟩ = some (.int .i64 n) := h.head.cell 1

/-- w' is w but for the blocks g and m, and for what was made since. -/
structure Kept (g m : Nat) (w w' : World) : Prop where
  os : w'.os = w.os
  tape : w'.tape = w.tape
  output : w'.output = w.output
  size : w.heap.size ≤ w'.heap.size
  block : ∀ k, k < w.heap.size → k ≠ g → k ≠ m → w'.heap[k]? = w.heap[k]?
theorem Kept.refl (g m : Nat) (w : World) : Kept g m w w := ⟨rfl, rfl, rfl, Nat.le_refl _, fun _ _ _ _ => rfl⟩
theorem Kept.setCell (g m : Nat) (w : World) (o : Nat) (u : Value) : Kept g m w (w.setCell ⟨g, o, none⟩ u) :=
  ⟨rfl, rfl, rfl, by simp [World.setCell], fun k _ h1 _ => Below.heap_setCell w ⟨g, o, none⟩ u k h1⟩
theorem Kept.grown {g m : Nat} {w w' : World} (h : w.grownBy w' (some m)) : Kept g m w w' :=
  ⟨h.os, h.tape, h.output, h.size, fun k hk _ h2 => h.block k hk (by simpa using h2)⟩
theorem Kept.below {g m B : Nat} {w w' : World} (h : Kept g m w w') (hg : B ≤ g) (hm : B ≤ m) (hB : B ≤ w.heap.size) : Below B w w' :=
  ⟨h.os, h.tape, h.output, h.size, fun k hk => h.block k (by omega) (by omega) (by omega)⟩
theorem Kept.of_below {g m : Nat} {w w' : World} (h : Below w.heap.size w w') : Kept g m w w' :=
  ⟨h.os, h.tape, h.output, h.size, fun k hk _ _ => h.block k hk⟩
theorem Blk.kept {g m b : Nat} {w w' : World} {t : TypeId} {cs : Array Value} (h : Blk w b t cs) (hk : Kept g m w w') (h1 : b ≠ g) (h2 : b ≠ m) : Blk w' b t cs := (hk.block b h.lt h1 h2).trans h

theorem ready_live (g m k : Nat) (D : DataW Unit) (n : Int) (w : World) (h : Eng w g m k D n) :
    Calls Tryd.prog 21 #[.pointer (some ⟨g, 0, none⟩)] w fun e w' => w = w' ∧ e = .returned (.bool true) := by
  have h0 := h.c0
  have qm := map_nil
  clear h
  go_enter Tryd.func21, Tryd.ntmps21
  go_wp2
  all_goals go_returns
  all_goals exact ⟨rfl, rfl⟩
theorem new_live (w : World) :
    Calls Tryd.prog 7 #[] w fun e w' => ∃ g m D, Eng w' g m 0 D 0 ∧ w.heap.size ≤ g ∧ w.heap.size ≤ m ∧ Below w.heap.size w w' ∧ e = .returned (.pointer (some ⟨g, 0, none⟩)) := by
  have hmm : ∀ w : World, (Instr.makeMap 45 none).run Tryd.prog w = .ok (.map (some w.heap.size)) (w.alloc (.map #[] 0)) := fun _ => by kernel_rfl
  go_enter Tryd.func7, Tryd.ntmps7
  go_wp2
  go_returns
  have hm := World.ownsMap_made (H := Unit) w Tryd.prog 9 (plainElem Tryd.prog 4)
  have hh := Blk.new (w.alloc (.map #[] 0)) 52 #[.map (some w.heap.size), .int .i64 0]
  have s2 : (w.alloc (.map #[] 0)).heap.size = w.heap.size + 1 := by simp
  rw [s2] at hh
  exact ⟨w.heap.size + 1, w.heap.size, .map [], ⟨hh, hm.alloc _⟩, by omega, Nat.le_refl _, ((Below.refl _ w).alloc (Nat.le_refl _) _).alloc (by simp) _, rfl⟩

theorem aadd (a : Addr) (x n s : Int) (w : World) (hc : w.cell? a = some (.int .i64 x)) (hf : w.frozen? a = false) (hs : wrap64 (x + n) = s) :
    Calls Tryd.prog 22 #[.pointer (some a), .int .i64 n] w fun e w' => e = .returned (.int .i64 s) ∧ w.setCell a (.int .i64 s) = w' := by
  have hadd := run_call_add (P := Tryd.prog) Tryd.func35 (by kernel_rfl) (by kernel_rfl) (by kernel_rfl) .i64 (by kernel_rfl) (y := n) (s := s) hc hf (by rw [← hs]; simp [Op.intArith, wrap64, IntKind.wrap_i64])
  clear hs
  go_enter Tryd.func22, Tryd.ntmps22
  go_wp2
  all_goals go_returns
  all_goals simp
theorem aload (a : Addr) (x : Int) (w : World) (hc : w.cell? a = some (.int .i64 x)) :
    Calls Tryd.prog 23 #[.pointer (some a)] w fun e w' => e = .returned (.int .i64 x) ∧ w = w' := by
  have hl := run_call_load (P := Tryd.prog) Tryd.func36 (by kernel_rfl) (by kernel_rfl) (by kernel_rfl) .i64 (by kernel_rfl) hc
  go_enter Tryd.func23, Tryd.ntmps23
  go_wp2
  all_goals go_returns
  all_goals simp

theorem next_live (g m k : Nat) (D : DataW Unit) (n : Int) (w : World) (h : Eng w g m k D n) (h0 : 0 ≤ n) (h1 : n ≤ 1000) :
    Calls Tryd.prog 9 #[.pointer (some ⟨g, 0, none⟩)] w fun e w' => e = .returned (.int .i64 (n + 1)) ∧ Eng w' g m k D (n + 1) ∧ Kept g m w w' := by
  have c1 := h.c1
  have f1 := h.head.frozen 1
  have Hl := hide h
  have hw : Hid (wrap64 (n + 1) = n + 1) := by show wrap64 (n + 1) = n + 1; unfold wrap64; omega
  clear h
  go_enter Tryd.func9, Tryd.ntmps9
  go_wp2_with fail
  refine (ready_live g m k D n _ Hl.out).mono ?_
  rintro e w1 ⟨rfl, rfl⟩
  go_wp2_with fail
  refine (aadd ⟨g, 1, none⟩ n 1 (n + 1) _ c1 f1 hw.out).mono ?_
  rintro e w1 ⟨rfl, rfl⟩
  go_wp2_with fail
  go_returns
  exact ⟨rfl, ⟨Hl.out.head.put 1 (.int .i64 (n + 1)), Hl.out.map.setCell (a := ⟨g, 1, none⟩) (map_ne Hl.out.map Hl.out.head) _⟩, Kept.setCell g m _ _ _⟩
theorem count_live (g m k : Nat) (D : DataW Unit) (n : Int) (w : World) (h : Eng w g m k D n) :
    Calls Tryd.prog 10 #[.pointer (some ⟨g, 0, none⟩)] w fun e w' => w = w' ∧ e = .returned (.int .i64 n) := by
  have c1 := h.c1
  have Hl := hide h
  clear h
  go_enter Tryd.func10, Tryd.ntmps10
  go_wp2_with fail
  refine (ready_live g m k D n _ Hl.out).mono ?_
  rintro e w1 ⟨rfl, rfl⟩
  go_wp2_with fail
  refine (aload ⟨g, 1, none⟩ n _ c1).mono ?_
  rintro e w1 ⟨rfl, rfl⟩
  go_wp2_with fail
  go_returns
  exact ⟨rfl, rfl⟩
end Go.Proofs.YtpaodffckhnieaaDoor
