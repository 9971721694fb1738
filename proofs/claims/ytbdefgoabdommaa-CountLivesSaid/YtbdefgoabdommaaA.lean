/-
  What the calls of the program's counter do to memory: of, Add, Get, List, Total and New. No condition.
-/
import Derived.Test.YtbdefgoabdommaaRows
import Derived.Test.YtbdefgoabdommaaKit
import Derived.Handy
namespace Go.Proofs.Ytbdefgoabdommaa
open Go.RowKit

theorem of_yes (g r : Nat) (k : Int) (w : World) (h0 : 0 ≤ k) (h5 : k < 5) (hg : w.cell? ⟨g, 0, none⟩ = some (.pointer (some ⟨r, 0, none⟩))) :
    Calls Try.prog 17 #[.pointer (some ⟨g, 0, none⟩), .int .i64 k] w fun e w' => e = .returned (.tuple #[.pointer (some ⟨r, k.toNat, none⟩), .bool true]) ∧ w = w' := by
  go_enter Try.func17, Try.ntmps17
  go_wp2
  all_goals go_returns
  all_goals simp

theorem of_nil (k : Int) (w : World) :
    Calls Try.prog 17 #[.pointer none, .int .i64 k] w fun e w' => e = .returned (.tuple #[.pointer none, .bool false]) ∧ w = w' := by
  go_enter Try.func17, Try.ntmps17
  go_wp2
  all_goals go_returns
  all_goals simp

theorem of_zero (g : Nat) (k : Int) (w : World) (hg : w.cell? ⟨g, 0, none⟩ = some (.pointer none)) :
    Calls Try.prog 17 #[.pointer (some ⟨g, 0, none⟩), .int .i64 k] w fun e w' => e = .returned (.tuple #[.pointer none, .bool false]) ∧ w = w' := by
  go_enter Try.func17, Try.ntmps17
  go_wp2
  all_goals go_returns
  all_goals simp

theorem of_out (g r : Nat) (k : Int) (w : World) (h : k < 0 ∨ 5 ≤ k) (hg : w.cell? ⟨g, 0, none⟩ = some (.pointer (some ⟨r, 0, none⟩))) :
    Calls Try.prog 17 #[.pointer (some ⟨g, 0, none⟩), .int .i64 k] w fun e w' => e = .returned (.tuple #[.pointer none, .bool false]) ∧ w = w' := by
  rcases h with h | h
  all_goals
    go_enter Try.func17, Try.ntmps17
    go_wp2
    all_goals go_returns
    all_goals simp

theorem aadd (a : Addr) (x n : Int) (w : World) (hc : w.cell? a = some (.int .i64 x)) (hf : w.frozen? a = false) :
    Calls Try.prog 18 #[.pointer (some a), .int .i64 n] w fun e w' => e = .returned (.int .i64 (wrap64 (x + n))) ∧ w.setCell a (.int .i64 (wrap64 (x + n))) = w' := by
  have hadd := run_call_add (P := Try.prog) Try.func20 (by kernel_rfl) (by kernel_rfl) (by kernel_rfl) .i64 (by kernel_rfl) (y := n) (s := wrap64 (x + n)) hc hf (by simp [Op.intArith, wrap64, IntKind.wrap_i64])
  go_enter Try.func18, Try.ntmps18
  go_wp2
  all_goals go_returns
  all_goals simp

theorem aload (a : Addr) (x : Int) (w : World) (hc : w.cell? a = some (.int .i64 x)) :
    Calls Try.prog 19 #[.pointer (some a)] w fun e w' => e = .returned (.int .i64 x) ∧ w = w' := by
  have hl := run_call_load (P := Try.prog) Try.func21 (by kernel_rfl) (by kernel_rfl) (by kernel_rfl) .i64 (by kernel_rfl) hc
  go_enter Try.func19, Try.ntmps19
  go_wp2
  all_goals go_returns
  all_goals simp

/-- What the program's Add refuses. -/
def bad (k n : Int) : Prop := k < 0 ∨ 5 ≤ k ∨ n < 0 ∨ 2147483648 < n

theorem add_no (g r : Nat) (k n : Int) (w : World) (h : bad k n) (hg : w.cell? ⟨g, 0, none⟩ = some (.pointer (some ⟨r, 0, none⟩))) :
    Calls Try.prog 7 #[.pointer (some ⟨g, 0, none⟩), .int .i64 k, .int .i64 n] w fun e w' => e = .returned (.bool false) ∧ w = w' := by
  by_cases hk : k < 0 ∨ 5 ≤ k
  · go_enter Try.func7, Try.ntmps7
    go_wp2_with (go_at_call 17; refine (of_out g r k _ hk hg).mono ?_; rintro e w1 ⟨rfl, rfl⟩)
    all_goals go_returns
    all_goals simp
  · have hk0 : 0 ≤ k := by omega
    have hk5 : k < 5 := by omega
    have hn : n < 0 ∨ 2147483648 < n := by unfold bad at h; omega
    clear h hk
    rcases hn with hn | hn
    all_goals
      go_enter Try.func7, Try.ntmps7
      go_wp2_with (go_at_call 17; refine (of_yes g r k _ hk0 hk5 hg).mono ?_; rintro e w1 ⟨rfl, rfl⟩)
      all_goals go_returns
      all_goals simp

theorem add_yes (g r : Nat) (k n x : Int) (w : World) (h0 : 0 ≤ k) (h5 : k < 5) (n0 : 0 ≤ n) (n1 : n ≤ 2147483648) (hg : w.cell? ⟨g, 0, none⟩ = some (.pointer (some ⟨r, 0, none⟩)))
    (hc : w.cell? ⟨r, k.toNat, none⟩ = some (.int .i64 x)) (hf : w.frozen? ⟨r, k.toNat, none⟩ = false) :
    Calls Try.prog 7 #[.pointer (some ⟨g, 0, none⟩), .int .i64 k, .int .i64 n] w fun e w' => e = .returned (.bool true) ∧ w.setCell ⟨r, k.toNat, none⟩ (.int .i64 (wrap64 (x + n))) = w' := by
  go_enter Try.func7, Try.ntmps7
  go_wp2_with (first
    | (go_at_call 17; refine (of_yes g r k _ h0 h5 hg).mono ?_; rintro e w1 ⟨rfl, rfl⟩)
    | (go_at_call 18; refine (aadd _ x n _ hc hf).mono ?_; rintro e w1 ⟨rfl, rfl⟩))
  all_goals go_returns
  all_goals simp

theorem get_yes (g r : Nat) (k x : Int) (w : World) (h0 : 0 ≤ k) (h5 : k < 5) (hg : w.cell? ⟨g, 0, none⟩ = some (.pointer (some ⟨r, 0, none⟩)))
    (hc : w.cell? ⟨r, k.toNat, none⟩ = some (.int .i64 x)) :
    Calls Try.prog 11 #[.pointer (some ⟨g, 0, none⟩), .int .i64 k] w fun e w' => e = .returned (.int .i64 x) ∧ w = w' := by
  go_enter Try.func11, Try.ntmps11
  go_wp2_with (first
    | (go_at_call 17; refine (of_yes g r k _ h0 h5 hg).mono ?_; rintro e w1 ⟨rfl, rfl⟩)
    | (go_at_call 19; refine (aload _ x _ hc).mono ?_; rintro e w1 ⟨rfl, rfl⟩))
  all_goals go_returns
  all_goals simp

theorem get_out (g r : Nat) (k : Int) (w : World) (h : k < 0 ∨ 5 ≤ k) (hg : w.cell? ⟨g, 0, none⟩ = some (.pointer (some ⟨r, 0, none⟩))) :
    Calls Try.prog 11 #[.pointer (some ⟨g, 0, none⟩), .int .i64 k] w fun e w' => e = .returned (.int .i64 0) ∧ w = w' := by
  go_enter Try.func11, Try.ntmps11
  go_wp2_with (go_at_call 17; refine (of_out g r k _ h hg).mono ?_; rintro e w1 ⟨rfl, rfl⟩)
  all_goals go_returns
  all_goals simp

theorem info3 : (Try.prog.info? 3).map (fun i => (i.zero, i.size, i.bytes)) = some (some (.int .i64 0), 1, 8) := by kernel_rfl

theorem take_map_succ (L : List Int) (k : Nat) (h : k < L.length) : (L.take k).map (Value.int .i64) ++ [Value.int .i64 (L.getD k 0)] = (L.take (k + 1)).map (Value.int .i64) := by
  rw [List.take_succ_eq_append_getElem h, List.map_append]
  simp [List.getD, h]

/-- List: as many numbers as kinds, in a row of their own. -/
theorem list_yes (g r : Nat) (L : List Int) (hL : L.length = 5) (w : World) (hg : w.cell? ⟨g, 0, none⟩ = some (.pointer (some ⟨r, 0, none⟩)))
    (hc : ∀ k, k < 5 → w.cell? ⟨r, k, none⟩ = some (.int .i64 (L.getD k 0))) :
    Calls Try.prog 8 #[.pointer (some ⟨g, 0, none⟩)] w fun e w' => ∃ v, e = .returned v ∧ w'.ownsRow w.heap.size 3 1 v 5 (L.map (Value.int .i64)) ∧ Below w.heap.size w w' := by
  obtain ⟨i0, hi, hz0, hz1, hz2⟩ := info_parts info3
  have hgl := World.block_lt_of_cell? _ _ hg
  have hrl := World.block_lt_of_cell? _ _ (hc 0 (by omega))
  dsimp only at hgl hrl
  go_enter Try.func8, Try.ntmps8
  go_wp2_with fail
  go_loopw [3, 14] (fun v i wr => ∃ k : Nat, k ≤ 5 ∧ i = .int .i64 k ∧ wr.ownsRow w.heap.size 3 1 v k ((L.take k).map (Value.int .i64)) ∧ Below w.heap.size w wr) (fun _ i _ => 5 - (intOf i).toNat)
  case atStart => exact ⟨0, by omega, rfl, by simpa using World.ownsRow_nil _ _ _ _, Below.refl _ _⟩
  case round =>
    obtain ⟨k, hk, rfl, hown, hbel⟩ := hrel
    by_cases hlt : k < 5
    · have hg' : wr.cell? ⟨g, 0, none⟩ = some (.pointer (some ⟨r, 0, none⟩)) := by rw [hbel.cell hgl]; exact hg
      have hc' : wr.cell? ⟨r, (k : Int).toNat, none⟩ = some (.int .i64 (L.getD k 0)) := by rw [hbel.cell hrl]; exact hc k hlt
      have hts := take_map_succ L k (by omega)
      generalize L.getD k 0 = x at hc' hts
      have Hts := hide hts
      clear hts
      have hwb := hbel.size
      go_wp2_with (first
        | (go_at_call 11; refine (get_yes g r k x _ (by omega) (by omega) hg' hc').mono ?_; rintro e w1 ⟨rfl, rfl⟩)
        | (at_builtin; go_loud (refine wpList_append_one wr rfl _ _ 28 rfl w.heap.size 3 i0 (.int .i64 0) 1 8 Try.underlying28 hi hz0 hz1 hz2 rfl (by decide) _ k _ [.int .i64 x] hown rfl rfl (by simp [Value.oneCell']) rfl (by simp [maxLen]; omega) (by omega) hwb ?_); intro v1 w1 hown1 hb1 _))
      clear hg' hc' hwb
      go_roundw
      case rel => exact ⟨k + 1, by omega, by go_num, by rw [← Hts.out]; exact hown1, hbel.trans hb1⟩
      case measure => simp [intOf]; omega
    · obtain rfl : k = 5 := by omega
      go_wp2
      go_returns
      refine ⟨_, rfl, ?_, hbel⟩
      rw [List.take_of_length_le (by omega)] at hown
      exact hown
end Go.Proofs.Ytbdefgoabdommaa
