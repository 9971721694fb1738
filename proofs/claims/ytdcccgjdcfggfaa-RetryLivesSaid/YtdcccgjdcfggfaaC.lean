/-
  What the document's Retry and the rest of the program's calls do to memory. No condition.
-/
import Derived.Test.YtdcccgjdcfggfaaB
import Derived.StillTailTactics
namespace Go.Proofs.Ytdcccgjdcfggfaa
open Go.RowKit
set_option linter.unusedVariables false
set_option linter.unusedSimpArgs false

theorem at_c (g : Nat) (s : RS) (n : Int) (w : World) (h : Rrt w g s) : Calls Try.prog 23 #[.pointer (some ⟨g, 0, none⟩), .int .i64 n] w fun e w' => e = .returned (.int .i64 (passS s n).now) ∧ Rrt w' g (passS s n) ∧ w.grownBy w' (some g) := by
  obtain ⟨-, -, -, -, c4, fz⟩ := cells_of h.1
  have f4 := fz 4
  have fin : ∀ x : Int, x = max s.now (min n 1099511627776) → (passS s n).now = x ∧ Rrt (w.setCell ⟨g, 4, none⟩ (.int .i64 x)) g (passS s n) := fun x hx => by
    subst hx
    exact ⟨rfl, by have := h.1.put 4 (.int .i64 (max s.now (min n 1099511627776))); simpa [RS.cells, passS] using this, passS_ok h.2 n⟩
  have Fin := hide fin
  clear fin h fz
  generalize s.now = t at c4 Fin
  rcases (by omega : 1099511627776 < n ∧ t < 1099511627776 ∨ 1099511627776 < n ∧ 1099511627776 ≤ t ∨ n ≤ 1099511627776 ∧ t < n ∨ n ≤ 1099511627776 ∧ n ≤ t) with ⟨h1, h2⟩ | ⟨h1, h2⟩ | ⟨h1, h2⟩ | ⟨h1, h2⟩
  all_goals
    go_enter Try.func23, Try.ntmps23
    go_wp2
    all_goals go_returns
    all_goals refine ⟨ret_int (Fin.out _ (by omega)).1.symm, (Fin.out _ (by omega)).2, grownBy_set _ _ _ _⟩

theorem fold_min (n : Int) : (if 1048576 < n then 1048576 else n) = min n 1048576 := by split <;> omega

theorem rfail_c (g : Nat) (s : RS) (n : Int) (w : World) (h : Rrt w g s) : Calls Try.prog 13 #[.pointer (some ⟨g, 0, none⟩), .int .i64 n] w fun e w' => e = .returned (.int .i64 (failS s n).next) ∧ Rrt w' g (failS s n) ∧ w.grownBy w' (some g) := by
  have H := hide h
  clear h
  go_enter Try.func13, Try.ntmps13
  go_wp2_with fail
  refine (at_c g s n _ H.out).mono ?_
  rintro e w1 ⟨rfl, h1, hg1⟩
  have hok := failS_ok H.out.2 n
  obtain ⟨a0, a1, a2, a3, a4, fz⟩ := cells_of h1.1
  have f2 := fz 2
  have f3 := fz 3
  have fb := h1.2.f1
  have fc := h1.2.f2
  have t1 := h1.2.t1
  have t2 := h1.2.t2
  have Hb := hide h1.1
  have Hg := hide hg1
  have hfs : failS s n = dueS (upS (passS s n)) := rfl
  have Hfs := hide hfs
  have Hok := hide hok
  clear H hok h1 hg1 hfs fz
  generalize passS s n = p at *
  have hq : (upS p).fails = (if p.fails < 1048576 then p.fails + 1 else p.fails) := rfl
  have Hq := hide hq
  clear hq
  by_cases hf : p.fails < 1048576
  all_goals
    have hq := Hq.out
    first | rw [if_pos hf] at hq | rw [if_neg hf] at hq
    try have h9 : 1048576 < p.fails + 1 := by omega
    go_upto_region 3 with fail
    refine Code.wp_named (fun W => Blk W g 41 (upS p).cells ∧ w1.grownBy W (some g)) ⟨?_, grownBy_set _ _ _ _⟩ ?_
    · rw [RS.cells, hq]
      first
      | (have := Hb.out.put 2 (.int .i64 (p.fails + 1)); simpa [RS.cells, upS] using this)
      | (have hp : p.fails = 1048576 := by omega
         have := Hb.out.put 2 (.int .i64 1048576); rw [hp]; simpa [RS.cells, upS] using this)
    clear hq Hq Hb hf a0 a1 a2 a3 a4 f2 f3
    try clear fb
    try clear h9
    rintro W ⟨hB, hw⟩
    have hn : (dueS (upS p)).next = (upS p).now + delay (upS p).least (upS p).most (upS p).fails := rfl
    have hpn : (upS p).now = p.now := rfl
    rw [← hpn] at t1 t2
    have Hpn := hide hpn
    have hd := delay_in (upS p).least (upS p).most (upS p).fails
    have hfl : (upS p).fails ≤ 9223372036854775807 := by
      have : (upS p).fails = (if p.fails < 1048576 then p.fails + 1 else p.fails) := rfl
      rw [this]; split <;> omega
    have hcs : (dueS (upS p)).cells = (upS p).cells.setIfInBounds 3 (.int .i64 (dueS (upS p)).next) := by simp [RS.cells, dueS]
    rw [Hfs.out] at Hok
    have Hn := hide hn
    have Hcs := hide hcs
    have HB := hide hB
    have Hw := hide hw
    clear hn hcs hw
    rw [← hpn]
    clear hpn
    generalize upS p = q at *
    have hwr : IntKind.i64.wrap (q.now + delay q.least q.most q.fails) = q.now + delay q.least q.most q.fails := IntWalk.i64_in _ ⟨by omega, by omega⟩
    obtain ⟨c0, c1, c2, c3, c4, fz⟩ := cells_of hB
    have f3 := fz 3
    clear hB fz
    go_region_held3 (fun W => W.cell? ⟨g, 0, none⟩ = some (.int .i64 q.least) ∧ W.cell? ⟨g, 1, none⟩ = some (.int .i64 q.most) ∧ W.cell? ⟨g, 2, none⟩ = some (.int .i64 q.fails)) ((refine ⟨?_, ?_, ?_⟩ <;> first | assumption | (simp [*]; done) | (simp [World.cell?_setCell_other, *]; done))) ((first
      | (go_at_call 11; refine (rdelay_any q.least q.most q.fails _ hfl).mono ?_; rintro e W1 ⟨rfl, rfl⟩)))
    go_wp2
    go_returns
    rw [Hfs.out]
    refine ⟨ret_int Hn.out.symm, ⟨?_, Hok.out⟩, ?_⟩
    · rw [Hcs.out, Hn.out]; exact HB.out.drew.put 3 _
    · exact grownBy_trans Hg.out (grownBy_trans Hw.out (grownBy_trans (grownBy_drewN (World.grownBy.refl W _) 1) (grownBy_set _ _ _ _)))

theorem good_c (g : Nat) (s : RS) (n : Int) (w : World) (h : Prt w g s) : Calls Try.prog 14 #[.pointer (some ⟨g, 0, none⟩), .int .i64 n] w fun e w' => e = .returned (.tuple #[]) ∧ Prt w' g (goodS s n) ∧ w.grownBy w' (some g) := by
  have H := hide h
  clear h
  go_enter Try.func14, Try.ntmps14
  go_wp2_with fail
  refine (ready_c g s _ H.out).mono ?_
  rintro e w1 ⟨rfl, rfl⟩
  go_wp2_with fail
  refine (pass_c g s n _ H.out).mono ?_
  rintro e w1 ⟨rfl, h1, hg1⟩
  obtain ⟨a0, a1, a2, a3, a4, fz⟩ := cells_of h1.1
  have f2 := fz 2
  have f3 := fz 3
  have Hb := hide h1.1
  have Hg := hide hg1
  have Hok := hide (goodS_ok H.out.2 n)
  clear H h1 hg1 fz
  go_wp2
  go_returns
  refine ⟨rfl, ⟨?_, Hok.out⟩, grownBy_trans Hg.out (grownBy_trans (grownBy_set _ _ _ _) (grownBy_set _ _ _ _))⟩
  have := (Hb.out.put 2 (.int .i64 0)).put 3 (.int .i64 0)
  simpa [RS.cells, goodS] using this

theorem rgood_c (g : Nat) (s : RS) (n : Int) (w : World) (h : Rrt w g s) : Calls Try.prog 15 #[.pointer (some ⟨g, 0, none⟩), .int .i64 n] w fun e w' => e = .returned (.tuple #[]) ∧ Rrt w' g (goodS s n) ∧ w.grownBy w' (some g) := by
  have H := hide h
  clear h
  go_enter Try.func15, Try.ntmps15
  go_wp2_with fail
  refine (at_c g s n _ H.out).mono ?_
  rintro e w1 ⟨rfl, h1, hg1⟩
  obtain ⟨a0, a1, a2, a3, a4, fz⟩ := cells_of h1.1
  have f2 := fz 2
  have f3 := fz 3
  have Hb := hide h1.1
  have Hg := hide hg1
  have Hok := hide (goodS_ok H.out.2 n)
  clear H h1 hg1 fz
  go_wp2
  go_returns
  refine ⟨rfl, ⟨?_, Hok.out⟩, grownBy_trans Hg.out (grownBy_trans (grownBy_set _ _ _ _) (grownBy_set _ _ _ _))⟩
  have := (Hb.out.put 2 (.int .i64 0)).put 3 (.int .i64 0)
  simpa [RS.cells, goodS] using this

theorem fails_c (g : Nat) (s : RS) (w : World) (h : Prt w g s) : Calls Try.prog 19 #[.pointer (some ⟨g, 0, none⟩)] w fun e w' => e = .returned (.int .i64 s.fails) ∧ w = w' := by
  have H := hide h
  obtain ⟨a0, a1, a2, a3, a4, fz⟩ := cells_of h.1
  clear h fz
  go_enter Try.func19, Try.ntmps19
  go_wp2_with fail
  refine (ready_c g s _ H.out).mono ?_
  rintro e w1 ⟨rfl, rfl⟩
  go_wp2
  go_returns
  exact ⟨rfl, rfl⟩

theorem wait_c (g : Nat) (s : RS) (n : Int) (w : World) (h : Prt w g s) : Calls Try.prog 18 #[.pointer (some ⟨g, 0, none⟩), .int .i64 n] w fun e w' => e = .returned (.int .i64 (waitN s n)) ∧ Prt w' g (passS s n) ∧ w.grownBy w' (some g) := by
  have H := hide h
  clear h
  go_enter Try.func18, Try.ntmps18
  go_wp2_with fail
  refine (ready_c g s _ H.out).mono ?_
  rintro e w1 ⟨rfl, rfl⟩
  go_wp2_with fail
  refine (pass_c g s n _ H.out).mono ?_
  rintro e w1 ⟨rfl, h1, hg1⟩
  obtain ⟨a0, a1, a2, a3, a4, fz⟩ := cells_of h1.1
  have hw : waitN s n = max 0 ((passS s n).next - (passS s n).now) := rfl
  have Hw := hide hw
  have Hp := hide h1
  have Hg := hide hg1
  have n1 := h1.2.n1
  have n2 := h1.2.n2
  have t1 := h1.2.t1
  have t2 := h1.2.t2
  clear H h1 hg1 fz hw
  generalize hpe : passS s n = p at *
  have Hpe := hide hpe
  clear hpe
  have hwr : IntKind.i64.wrap (p.next - p.now) = p.next - p.now := IntWalk.i64_in _ ⟨by omega, by omega⟩
  rcases (by omega : p.next - p.now ≤ 0 ∨ 0 < p.next - p.now) with h | h
  all_goals
    go_wp2_with fail
    go_region_held3 (fun W => W.cell? ⟨g, 3, none⟩ = some (.int .i64 p.next) ∧ W.cell? ⟨g, 4, none⟩ = some (.int .i64 p.now)) (go_keep) ((first | fail))
    go_wp2
    all_goals go_returns
    all_goals exact ⟨ret_int (by rw [Hw.out]; omega), (by rw [Hpe.out]; exact Hp.out), grownBy_drewN Hg.out 1⟩

theorem rwait_c (g : Nat) (s : RS) (n : Int) (w : World) (h : Rrt w g s) : Calls Try.prog 17 #[.pointer (some ⟨g, 0, none⟩), .int .i64 n] w fun e w' => e = .returned (.int .i64 (waitN s n)) ∧ Rrt w' g (passS s n) ∧ w.grownBy w' (some g) := by
  obtain ⟨a0, a1, a2, a3, a4, fz⟩ := cells_of h.1
  have H := hide (show Rrt w.drew g s from h)
  have hw : waitN s n = max 0 (s.next - (passS s n).now) := rfl
  have Hw := hide hw
  have n1 := h.2.n1
  have n2 := h.2.n2
  have t1 := (passS_ok h.2 n).t1
  have t2 := (passS_ok h.2 n).t2
  have hpn : (passS s n).next = s.next := rfl
  have Hpn := hide hpn
  have hwr : IntKind.i64.wrap (s.next - (passS s n).now) = s.next - (passS s n).now := IntWalk.i64_in _ ⟨by omega, by omega⟩
  clear h fz hw hpn
  rcases (by omega : s.next - (passS s n).now ≤ 0 ∨ 0 < s.next - (passS s n).now) with h | h
  all_goals
    go_enter Try.func17, Try.ntmps17
    go_wp2_with fail
    go_region_held3 (fun W => W.cell? ⟨g, 3, none⟩ = some (.int .i64 s.next)) (first | assumption | (simp [*]; done)) ((first
      | (go_at_call 23; refine (at_c g s n _ H.out).mono ?_; rintro e W1 ⟨rfl, h1, hg1⟩; have c3 : W1.cell? ⟨g, 3, none⟩ = some (.int .i64 s.next) := by { have := (cells_of h1.1).2.2.2.1; rw [this, Hpn.out] }; have Hp := hide h1; have Hg := hide hg1; clear h1 hg1)))
    go_wp2
    all_goals go_returns
    all_goals exact ⟨ret_int (by rw [Hw.out]; omega), Hp.out, grownBy_trans (grownBy_drewN (World.grownBy.refl w _) 1) Hg.out⟩

theorem readyN_c (g : Nat) (s : RS) (n : Int) (w : World) (h : Prt w g s) : Calls Try.prog 16 #[.pointer (some ⟨g, 0, none⟩), .int .i64 n] w fun e w' => e = .returned (.bool (waitN s n == 0)) ∧ Prt w' g (passS s n) ∧ w.grownBy w' (some g) := by
  have H := hide h
  clear h
  go_enter Try.func16, Try.ntmps16
  go_wp2_with fail
  refine (ready_c g s _ H.out).mono ?_
  rintro e w1 ⟨rfl, rfl⟩
  go_wp2_with fail
  refine (wait_c g s n _ H.out).mono ?_
  rintro e w1 ⟨rfl, h1, hg1⟩
  have Hp := hide h1
  have Hg := hide hg1
  clear h1 hg1 H
  go_wp2
  go_returns
  exact ⟨rfl, Hp.out, Hg.out⟩

def newS (l m : Int) : RS := ⟨l, m, 0, 0, 0⟩
theorem newS_ok (l m : Int) (h1 : 1 ≤ l) (h2 : l ≤ m) (h3 : m ≤ 1048576) : (newS l m).Ok :=
  ⟨h1, h2, h3, by show (0 : Int) ≤ 0; omega, by show (0 : Int) ≤ _; omega, by show (0 : Int) ≤ 0; omega, by show (0 : Int) ≤ _; omega, by show (0 : Int) ≤ 0; omega, by show (0 : Int) ≤ _; omega⟩

theorem new_yes (l m : Int) (w : World) (h1 : 1 ≤ l) (h2 : l ≤ m) (h3 : m ≤ 1048576) : Calls Try.prog 9 #[.int .i64 l, .int .i64 m] w fun e w' => ∃ g, e = .returned (.tuple #[.pointer (some ⟨g, 0, none⟩), .int .i64 0]) ∧ Prt w' g (newS l m) ∧ w.heap.size ≤ g ∧ Below w.heap.size w w' := by
  go_enter Try.func9, Try.ntmps9
  go_wp2
  go_returns
  exact ⟨_, rfl, ⟨Blk.new w 48 _, newS_ok l m h1 h2 h3⟩, Nat.le_refl _, by go_grown⟩
theorem rnew_yes (l m : Int) (w : World) (h1 : 1 ≤ l) (h2 : l ≤ m) (h3 : m ≤ 1048576) : Calls Try.prog 10 #[.int .i64 l, .int .i64 m] w fun e w' => ∃ g, e = .returned (.tuple #[.pointer (some ⟨g, 0, none⟩), .int .i64 0]) ∧ Rrt w' g (newS l m) ∧ w.heap.size ≤ g ∧ Below w.heap.size w w' := by
  go_enter Try.func10, Try.ntmps10
  go_wp2
  go_returns
  exact ⟨_, rfl, ⟨Blk.new w 41 _, newS_ok l m h1 h2 h3⟩, Nat.le_refl _, by go_grown⟩
theorem new_no (l m : Int) (w : World) (h : l < 1 ∨ m < l ∨ 1048576 < m) : Calls Try.prog 9 #[.int .i64 l, .int .i64 m] w fun e w' => e = .returned (.tuple #[.pointer none, .int .i64 1]) ∧ w = w' := by
  by_cases h1 : l < 1
  · clear h
    go_enter Try.func9, Try.ntmps9
    go_wp2
    go_returns
    exact ⟨rfl, rfl⟩
  · by_cases h2 : m < l
    · clear h
      go_enter Try.func9, Try.ntmps9
      go_wp2
      go_returns
      exact ⟨rfl, rfl⟩
    · have h3 : 1048576 < m := by omega
      clear h
      go_enter Try.func9, Try.ntmps9
      go_wp2
      go_returns
      exact ⟨rfl, rfl⟩
theorem rnew_no (l m : Int) (w : World) (h : l < 1 ∨ m < l ∨ 1048576 < m) : Calls Try.prog 10 #[.int .i64 l, .int .i64 m] w fun e w' => e = .returned (.tuple #[.pointer none, .int .i64 1]) ∧ w = w' := by
  by_cases h1 : l < 1
  · clear h
    go_enter Try.func10, Try.ntmps10
    go_wp2
    go_returns
    exact ⟨rfl, rfl⟩
  · by_cases h2 : m < l
    · clear h
      go_enter Try.func10, Try.ntmps10
      go_wp2
      go_returns
      exact ⟨rfl, rfl⟩
    · have h3 : 1048576 < m := by omega
      clear h
      go_enter Try.func10, Try.ntmps10
      go_wp2
      go_returns
      exact ⟨rfl, rfl⟩

end Go.Proofs.Ytdcccgjdcfggfaa
