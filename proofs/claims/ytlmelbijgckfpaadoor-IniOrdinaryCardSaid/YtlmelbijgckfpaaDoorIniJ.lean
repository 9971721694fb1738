/-
  The program's Parse. No condition but on lengths.
-/
import Derived.Test.YtlmelbijgckfpaaDoorIniI
import Derived.Maps.AppendAt
namespace Go.Proofs.YtlmelbijgckfpaaDoor
open Go.RowKit Go.Shelf Go.Maps
attribute [local go_sem] Oper.semAt_some
set_option linter.unusedVariables false
set_option linter.unusedSimpArgs false
set_option maxRecDepth 100000

theorem seq_any (s : ByteArray) (w : World) :
    Calls Tryd.prog 33 #[.string s, .string ⟨#[10]⟩, .int .i64 0] w fun e w' => e = .returned (.func (.func 51) #[] #[.pointer (some ⟨w.heap.size + 1, 0, none⟩), .pointer (some ⟨w.heap.size, 0, none⟩), .pointer (some ⟨w.heap.size + 2, 0, none⟩)]) ∧
      Blk w' w.heap.size 9 #[.string s] ∧ Blk w' (w.heap.size + 1) 9 #[.string ⟨#[10]⟩] ∧ Blk w' (w.heap.size + 2) 3 #[.int .i64 0] ∧ w'.heap.size = w.heap.size + 3 ∧ Below w.heap.size w w' := by
  go_enter Tryd.func33, Tryd.ntmps33
  go_wp2_with fail
  go_returns
  refine ⟨rfl, ((Blk.new w _ _).alloc _).alloc _, ?_, ?_, by simp, (((Below.refl _ _).alloc (Nat.le_refl _) _).alloc (by simp) _).alloc (by simp; omega) _⟩
  · have := (Blk.new (w.alloc (.cells #[.string s] 9)) 9 #[.string ⟨#[10]⟩]).alloc (.cells #[.int .i64 0] 3)
    rw [show (w.alloc (.cells #[.string s] 9)).heap.size = w.heap.size + 1 by simp] at this
    exact this
  · have := Blk.new ((w.alloc (.cells #[.string s] 9)).alloc (.cells #[.string ⟨#[10]⟩] 9)) 3 #[.int .i64 0]
    rw [show ((w.alloc (.cells #[.string s] 9)).alloc (.cells #[.string ⟨#[10]⟩] 9)).heap.size = w.heap.size + 2 by simp] at this
    exact this
theorem split_any (s : ByteArray) (w : World) :
    Calls Tryd.prog 17 #[.string s, .string ⟨#[10]⟩] w fun e w' => e = .returned (.func (.func 51) #[] #[.pointer (some ⟨w.heap.size + 1, 0, none⟩), .pointer (some ⟨w.heap.size, 0, none⟩), .pointer (some ⟨w.heap.size + 2, 0, none⟩)]) ∧
      Blk w' w.heap.size 9 #[.string s] ∧ Blk w' (w.heap.size + 1) 9 #[.string ⟨#[10]⟩] ∧ Blk w' (w.heap.size + 2) 3 #[.int .i64 0] ∧ w'.heap.size = w.heap.size + 3 ∧ Below w.heap.size w w' := by
  go_enter Tryd.func17, Tryd.ntmps17
  go_wp2_with fail
  refine (seq_any s _).mono ?_
  rintro e w1 ⟨rfl, h1, h2, h3, h4, h5⟩
  have H1 := hide h1
  have H2 := hide h2
  have H3 := hide h3
  have H4 := hide h4
  have H5 := hide h5
  clear h1 h2 h3 h4 h5
  go_wp2_with fail
  go_returns
  exact ⟨rfl, H1.out, H2.out, H3.out, H4.out, H5.out⟩

set_option maxHeartbeats 2000000 in
theorem parse_long (s : ByteArray) (w : World) (hs : 65536 < s.size) (h2 : s.size ≤ 1000000) :
    Calls Tryd.prog 8 #[.string s] w fun e w' => ∃ u, e = .returned (.tuple #[u, .int .i64 (parseC s).2.1, .int .i64 (parseC s).1]) ∧ CfgV w' w.heap.size (parseC s).2.2 u ∧ Below w.heap.size w w' := by
  have HR : Hid (parseC s = (5, 0, Cfg.zero)) := by show _ = _; unfold parseC; rw [if_pos hs]
  rw [HR.out]
  have h5i : (65536 : Int) < (s.size : Int) := by omega
  clear hs
  refine (callsIn_wide (n := 3)).1 ?_
  refine callsIn_of_wp_marks Tryd.func8 rfl trivial ?_ rfl
  simp only [Tryd.ntmps8, List.size_toArray, List.length_cons, List.length_nil, Nat.reduceAdd, Nat.reduceSub, Array.replicate_succ, Array.replicate_zero, List.push_toArray, List.append_toArray, List.nil_append, List.cons_append]
  gi_wp2
  refine ⟨_, (by simp [results, Tryd.results8, go_sem]; try rfl), _, rfl, CfgV.zero _ _, ?_⟩
  exact (((Below.refl _ w).alloc (Nat.le_refl _) _).alloc (by simp) _).alloc (by simp; omega) _
end Go.Proofs.YtlmelbijgckfpaaDoor
