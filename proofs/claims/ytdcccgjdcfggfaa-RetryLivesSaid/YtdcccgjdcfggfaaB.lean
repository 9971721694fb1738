/-
  What the calls of the program's Retry and of the document's do to memory. No condition.
-/
import Derived.Test.YtdcccgjdcfggfaaA
import Derived.Deep.RegionHeld3
namespace Go.Proofs.Ytdcccgjdcfggfaa
open Go.RowKit
set_option linter.unusedVariables false
set_option linter.unusedSimpArgs false

structure RS where
  least : Int
  most : Int
  fails : Int
  next : Int
  now : Int
def RS.cells (s : RS) : Array Value := #[.int .i64 s.least, .int .i64 s.most, .int .i64 s.fails, .int .i64 s.next, .int .i64 s.now]
structure RS.Ok (s : RS) : Prop where
  l1 : 1 ≤ s.least
  l2 : s.least ≤ s.most
  l3 : s.most ≤ 1048576
  f1 : 0 ≤ s.fails
  f2 : s.fails ≤ 1048576
  n1 : 0 ≤ s.next
  n2 : s.next ≤ 1099512676352
  t1 : 0 ≤ s.now
  t2 : s.now ≤ 1099511627776

def passS (s : RS) (n : Int) : RS := { s with now := max s.now (min n 1099511627776) }
def upS (s : RS) : RS := { s with fails := if s.fails < 1048576 then s.fails + 1 else s.fails }
def dueS (s : RS) : RS := { s with next := s.now + delay s.least s.most s.fails }
def failS (s : RS) (n : Int) : RS := dueS (upS (passS s n))
def goodS (s : RS) (n : Int) : RS := { passS s n with fails := 0, next := 0 }
def waitN (s : RS) (n : Int) : Int := max 0 (s.next - (passS s n).now)

theorem passS_ok {s : RS} (h : s.Ok) (n : Int) : (passS s n).Ok := by
  obtain ⟨a, b, c, d, e, f, g, i, j⟩ := h
  exact ⟨a, b, c, d, e, f, g, by show 0 ≤ max s.now _; omega, by show max s.now _ ≤ _; omega⟩
theorem failS_ok {s : RS} (h : s.Ok) (n : Int) : (failS s n).Ok := by
  obtain ⟨a, b, c, d, e, f, g, i, j⟩ := passS_ok h n
  have hd := delay_in (passS s n).least (passS s n).most (upS (passS s n)).fails
  refine ⟨a, b, c, ?_, ?_, ?_, ?_, i, j⟩
  · show 0 ≤ (if (passS s n).fails < 1048576 then (passS s n).fails + 1 else (passS s n).fails); split <;> omega
  · show (if (passS s n).fails < 1048576 then (passS s n).fails + 1 else (passS s n).fails) ≤ 1048576; split <;> omega
  · show 0 ≤ (passS s n).now + _; have := hd.1; exact Int.add_nonneg i this
  · show (passS s n).now + _ ≤ _; have := hd.2; exact Int.le_trans (Int.add_le_add j this) (by omega)
theorem goodS_ok {s : RS} (h : s.Ok) (n : Int) : (goodS s n).Ok := by
  obtain ⟨a, b, c, d, e, f, g, i, j⟩ := passS_ok h n
  exact ⟨a, b, c, by show (0 : Int) ≤ 0; omega, by show (0 : Int) ≤ _; omega, by show (0 : Int) ≤ 0; omega, by show (0 : Int) ≤ _; omega, i, j⟩

def Prt (w : World) (g : Nat) (s : RS) : Prop := Blk w g 48 s.cells ∧ s.Ok
def Rrt (w : World) (g : Nat) (s : RS) : Prop := Blk w g 41 s.cells ∧ s.Ok

theorem cells_of {w : World} {g : Nat} {t : TypeId} {s : RS} (h : Blk w g t s.cells) :
    w.cell? ⟨g, 0, none⟩ = some (.int .i64 s.least) ∧ w.cell? ⟨g, 1, none⟩ = some (.int .i64 s.most) ∧ w.cell? ⟨g, 2, none⟩ = some (.int .i64 s.fails) ∧ w.cell? ⟨g, 3, none⟩ = some (.int .i64 s.next) ∧ w.cell? ⟨g, 4, none⟩ = some (.int .i64 s.now) ∧ (∀ i, w.frozen? ⟨g, i, none⟩ = false) :=
  ⟨h.cell 0, h.cell 1, h.cell 2, h.cell 3, h.cell 4, fun i => h.frozen i⟩

theorem grownBy_set (w : World) (r : Nat) (k : Nat) (u : Value) : w.grownBy (w.setCell ⟨r, k, none⟩ u) (some r) :=
  ⟨rfl, rfl, rfl, by simp [World.setCell], fun i _ hne => Below.heap_setCell w _ u i (by rintro rfl; exact hne rfl)⟩
theorem grownBy_trans {a b c : World} {r : Nat} (h : a.grownBy b (some r)) (k : b.grownBy c (some r)) : a.grownBy c (some r) :=
  ⟨k.os.trans h.os, k.tape.trans h.tape, k.output.trans h.output, Nat.le_trans h.size k.size, fun i hi hne => (k.block i (Nat.lt_of_lt_of_le hi h.size) hne).trans (h.block i hi hne)⟩
theorem grownBy_drewN {a b : World} {r : Option Nat} (h : a.grownBy b r) (n : Nat) : a.grownBy (b.drewN n) r := ⟨h.os, h.tape, h.output, h.size, h.block⟩

theorem ready_c (g : Nat) (s : RS) (w : World) (h : Prt w g s) : Calls Try.prog 21 #[.pointer (some ⟨g, 0, none⟩)] w fun e w' => e = .returned (.bool true) ∧ w = w' := by
  obtain ⟨c0, -, -, -, -, -⟩ := cells_of h.1
  have h1 := h.2.l1
  go_enter Try.func21, Try.ntmps21
  go_wp2
  go_returns
  refine ⟨?_, rfl⟩
  have : decide (0 < s.least) = true := by simp; omega
  simp [this]

theorem max_min (a n : Int) : (max a (min n 1099511627776)) = if a < (if 1099511627776 < n then 1099511627776 else n) then (if 1099511627776 < n then 1099511627776 else n) else a := by
  split <;> split at * <;> omega

theorem pass_c (g : Nat) (s : RS) (n : Int) (w : World) (h : Prt w g s) : Calls Try.prog 22 #[.pointer (some ⟨g, 0, none⟩), .int .i64 n] w fun e w' => e = .returned (.tuple #[]) ∧ Prt w' g (passS s n) ∧ w.grownBy w' (some g) := by
  obtain ⟨-, -, -, -, c4, fz⟩ := cells_of h.1
  have f4 := fz 4
  have fin : ∀ x : Int, x = max s.now (min n 1099511627776) → Prt (w.setCell ⟨g, 4, none⟩ (.int .i64 x)) g (passS s n) := fun x hx => by
    subst hx
    exact ⟨by have := h.1.put 4 (.int .i64 (max s.now (min n 1099511627776))); simpa [RS.cells, passS] using this, passS_ok h.2 n⟩
  have Fin := hide fin
  clear fin h fz
  generalize s.now = t at c4 Fin
  rcases (by omega : 1099511627776 < n ∧ t < 1099511627776 ∨ 1099511627776 < n ∧ 1099511627776 ≤ t ∨ n ≤ 1099511627776 ∧ t < n ∨ n ≤ 1099511627776 ∧ n ≤ t) with ⟨h1, h2⟩ | ⟨h1, h2⟩ | ⟨h1, h2⟩ | ⟨h1, h2⟩
  all_goals
    go_enter Try.func22, Try.ntmps22
    go_wp2
    all_goals go_returns
    all_goals refine ⟨rfl, Fin.out _ (by omega), grownBy_set _ _ _ _⟩

theorem fail_c (g : Nat) (s : RS) (n : Int) (w : World) (h : Prt w g s) : Calls Try.prog 12 #[.pointer (some ⟨g, 0, none⟩), .int .i64 n] w fun e w' => e = .returned (.int .i64 (failS s n).next) ∧ Prt w' g (failS s n) ∧ w.grownBy w' (some g) := by
  have H := hide h
  clear h
  go_enter Try.func12, Try.ntmps12
  go_wp2_with fail
  refine (ready_c g s _ H.out).mono ?_
  rintro e w1 ⟨rfl, rfl⟩
  go_wp2_with fail
  refine (pass_c g s n _ H.out).mono ?_
  rintro e w1 ⟨rfl, h1, hg1⟩
  have hok := failS_ok H.out.2 n
  obtain ⟨a0, a1, a2, a3, a4, fz⟩ := cells_of h1.1
  have f2 := fz 2
  have f3 := fz 3
  have fb := h1.2.f1
  have fc := h1.2.f2
  have t1 := h1.2.t1
  have t2 := h1.2.t2
  have Hb := hide h1.1
  have Hg := hide hg1
  have hfs : failS s n = dueS (upS (passS s n)) := rfl
  have Hfs := hide hfs
  have Hok := hide hok
  clear H hok h1 hg1 hfs fz
  generalize passS s n = p at *
  have hq : (upS p).fails = (if p.fails < 1048576 then p.fails + 1 else p.fails) := rfl
  have Hq := hide hq
  clear hq
  by_cases hf : p.fails < 1048576
  all_goals
    have hq := Hq.out
    first | rw [if_pos hf] at hq | rw [if_neg hf] at hq
    go_upto_region 6 with fail
    refine Code.wp_named (fun W => Blk W g 48 (upS p).cells ∧ w1.grownBy W (some g)) ⟨?_, ?_⟩ ?_
    · first
      | (rw [show (upS p).cells = p.cells by simp only [RS.cells, hq]; rfl]; exact Hb.out)
      | (have := Hb.out.put 2 (.int .i64 (p.fails + 1)); rw [RS.cells, hq]; simpa [RS.cells, upS] using this)
    · first | exact World.grownBy.refl _ _ | exact grownBy_set _ _ _ _
    clear hq Hq Hb hf a0 a1 a2 a3 a4 f2 f3
    try clear fb
    rintro W ⟨hB, hw⟩
    have hn : (dueS (upS p)).next = (upS p).now + delay (upS p).least (upS p).most (upS p).fails := rfl
    have hpn : (upS p).now = p.now := rfl
    rw [← hpn] at t1 t2
    have hd := delay_in (upS p).least (upS p).most (upS p).fails
    have hfl : (upS p).fails ≤ 9223372036854775807 := by
      have : (upS p).fails = (if p.fails < 1048576 then p.fails + 1 else p.fails) := rfl
      rw [this]; split <;> omega
    have hcs : (dueS (upS p)).cells = (upS p).cells.setIfInBounds 3 (.int .i64 (dueS (upS p)).next) := by simp [RS.cells, dueS]
    rw [Hfs.out] at Hok
    have Hn := hide hn
    have Hcs := hide hcs
    have HB := hide hB
    have Hw := hide hw
    clear hn hcs hw hpn
    generalize upS p = q at *
    have hwr : IntKind.i64.wrap (q.now + delay q.least q.most q.fails) = q.now + delay q.least q.most q.fails := IntWalk.i64_in _ ⟨by omega, by omega⟩
    obtain ⟨c0, c1, c2, c3, c4, fz⟩ := cells_of hB
    have f3 := fz 3
    clear hB fz
    go_region_held3 (fun W => W.cell? ⟨g, 0, none⟩ = some (.int .i64 q.least) ∧ W.cell? ⟨g, 1, none⟩ = some (.int .i64 q.most) ∧ W.cell? ⟨g, 2, none⟩ = some (.int .i64 q.fails) ∧ W.cell? ⟨g, 4, none⟩ = some (.int .i64 q.now)) ((refine ⟨?_, ?_, ?_, ?_⟩ <;> first | assumption | (simp [*]; done) | (simp [World.cell?_setCell_other, *]; done))) ((first
      | (go_at_call 7; refine (delay_any q.least q.most q.fails _ hfl).mono ?_; rintro e W1 ⟨rfl, rfl⟩)))
    go_wp2
    go_returns
    rw [Hfs.out]
    refine ⟨ret_int Hn.out.symm, ⟨?_, Hok.out⟩, ?_⟩
    · rw [Hcs.out, Hn.out]; exact HB.out.drew.put 3 _
    · exact grownBy_trans Hg.out (grownBy_trans Hw.out (grownBy_trans (grownBy_drewN (World.grownBy.refl W _) 1) (grownBy_set _ _ _ _)))

end Go.Proofs.Ytdcccgjdcfggfaa
