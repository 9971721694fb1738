/-
  A view that came in, opened. No condition.
-/
import Derived.Test.YtlcflajkpkgejaaRepK
import Derived.Test.YtlcflajkpkgejaaOpen
namespace Go.Proofs.Ytlcflajkpkgejaa
open Go.RowKit Go.ChangeShapes Go.WideShapes Go.Deep Go.ChangeAt

section
variable {H : Type} {enc : TypeId × Value → H} {w : World}
theorem range_getD {α : Type} [Inhabited α] (Z : Nat → α) (n i : Nat) (h : i < n) : ((List.range n).map Z).getD i default = Z i := by
  rw [List.getD_eq_getElem?_getD, List.getElem?_map, List.getElem?_range h]; rfl
theorem range_getDI (Z : Nat → Int) (n i : Nat) (h : i < n) : ((List.range n).map Z).getD i 0 = Z i := by
  rw [List.getD_eq_getElem?_getD, List.getElem?_map, List.getElem?_range h]; rfl

theorem read_named {fuel : Nat} {c : Value} {x : DataW H × List MemPlace} (h : DataW.trod enc Try.prog w 0 (fun _ => true) true fuel 36 [c] = some x) :
    ∃ (a : Option Addr) (T : List Int) (cap : Nat), c = .slice a T.length cap ∧ NamedAt w a T ∧ InRange T := by
  rcases open_struct_cells Try.underlying36 Try.underlying45 (by kernel_rfl) (by kernel_rfl : Try.prog.cellsOf 45 = 2) (by kernel_rfl) h with hcs | ⟨a, l, cp, hcs, hl, hm, hx⟩
  · exact ⟨none, [], 0, (List.cons.inj hcs).1, .inl rfl, fun z hz => by cases hz⟩
  · have e0 := (List.cons.inj hcs).1
    have each : ∀ i, i < l → ∃ z : Int, (∃ s : ByteArray, w.cell? (a.add (i * 2)) = some (.string s)) ∧ w.cell? (a.add (i * 2 + 1)) = some (.int .i64 z) ∧ -9223372036854775808 ≤ z ∧ z ≤ 9223372036854775807 := by
      intro i hi
      obtain ⟨v0, y0, n0, h0, t0⟩ := hx i hi 0 _ rfl
      obtain ⟨v1, y1, n1, h1, t1⟩ := hx i hi 1 _ rfl
      obtain ⟨s, hs, _⟩ := DataW.trod_string Try.underlying9 t0
      obtain ⟨z, hz, _, hw⟩ := DataW.trod_int Try.underlying3 t1
      have e2 := (List.cons.inj hs).1
      have e3 := (List.cons.inj hz).1
      subst e2 e3
      exact ⟨z, ⟨s, h0⟩, h1, bounds_i64 hw⟩
    obtain ⟨Z, hZ⟩ := choose_lt (α := Int) each
    have hL : ((List.range l).map Z).length = l := by simp
    refine ⟨some a, (List.range l).map Z, cp, by rw [hL]; exact e0, ?_, ?_⟩
    · by_cases h0 : l = 0
      · left; subst h0; rfl
      · right
        obtain ⟨s0, hs0⟩ := (hZ 0 (by omega)).1
        rw [Nat.zero_mul] at hs0
        obtain ⟨b, off, rfl, hlt⟩ := spotless hs0
        refine ⟨b, off, rfl, hlt, fun j hj => ?_⟩
        rw [hL] at hj
        obtain ⟨⟨s, hs⟩, h1, _⟩ := hZ j hj
        rw [Addr.add_lit] at hs h1
        rw [range_getDI Z l j hj]
        exact ⟨s, hs, h1⟩
    · intro z hz
      obtain ⟨i, hi, rfl⟩ := List.mem_map.1 hz
      exact (hZ i (List.mem_range.1 hi)).2.2

def CvOk (w : World) (a : Addr) (i : Nat) (c : CV) : Prop :=
  (w.cell? (a.add (i * 4)) = some (.int .i64 c.phase) ∧ w.cell? (a.add (i * 4 + 1)) = some (.int .i64 c.server) ∧ w.cell? (a.add (i * 4 + 2)) = some (.int .i64 c.done) ∧ w.cell? (a.add (i * 4 + 3)) = some (.slice c.ta c.table.length c.tc)) ∧ NamedAt w c.ta c.table ∧ InRange ([c.phase, c.server, c.done] ++ c.table)
theorem read_clients {fuel : Nat} {c : Value} {x : DataW H × List MemPlace} (h : DataW.trod enc Try.prog w 0 (fun _ => true) true fuel 22 [c] = some x) :
    ∃ (a : Option Addr) (C : List CV) (cap : Nat), c = .slice a C.length cap ∧ ClientsAt w a C ∧ ∀ i, i < C.length → InRange ([(C.getD i default).phase, (C.getD i default).server, (C.getD i default).done] ++ (C.getD i default).table) := by
  rcases open_struct_cells Try.underlying22 Try.underlying38 (by kernel_rfl) (by kernel_rfl : Try.prog.cellsOf 38 = 4) (by kernel_rfl) h with hcs | ⟨a, l, cp, hcs, hl, hm, hx⟩
  · exact ⟨none, [], 0, (List.cons.inj hcs).1, .inl rfl, fun i hi => absurd hi (Nat.not_lt_zero i)⟩
  · have e0 := (List.cons.inj hcs).1
    have each : ∀ i, i < l → ∃ z : CV, CvOk w a i z := by
      intro i hi
      obtain ⟨v0, y0, n0, h0, t0⟩ := hx i hi 0 _ rfl
      obtain ⟨v1, y1, n1, h1, t1⟩ := hx i hi 1 _ rfl
      obtain ⟨v2, y2, n2, h2, t2⟩ := hx i hi 2 _ rfl
      obtain ⟨v3, y3, n3, h3, t3⟩ := hx i hi 3 _ rfl
      obtain ⟨p, hp, _, wp⟩ := DataW.trod_int Try.underlying3 t0
      obtain ⟨q, hq, _, wq⟩ := DataW.trod_int Try.underlying3 t1
      obtain ⟨r, hr, _, wr⟩ := DataW.trod_int Try.underlying3 t2
      obtain ⟨ta, T, tc, rfl, hT, rT⟩ := read_named t3
      have e2 := (List.cons.inj hp).1
      have e3 := (List.cons.inj hq).1
      have e4 := (List.cons.inj hr).1
      subst e2 e3 e4
      refine ⟨⟨p, q, r, T, ta, tc⟩, ⟨h0, h1, h2, h3⟩, hT, fun z hz => ?_⟩
      simp only [List.cons_append, List.nil_append, List.mem_cons] at hz
      rcases hz with rfl | rfl | rfl | hz
      · exact bounds_i64 wp
      · exact bounds_i64 wq
      · exact bounds_i64 wr
      · exact rT z hz
    obtain ⟨Z, hZ⟩ := choose_lt (α := CV) each
    have hL : ((List.range l).map Z).length = l := by simp
    refine ⟨some a, (List.range l).map Z, cp, by rw [hL]; exact e0, ?_, ?_⟩
    · by_cases h0 : l = 0
      · left; subst h0; rfl
      · right
        have hs0 := (hZ 0 (by omega)).1.1
        rw [Nat.zero_mul] at hs0
        obtain ⟨b, off, rfl, hlt⟩ := spotless hs0
        refine ⟨b, off, rfl, hlt, fun j hj => ?_⟩
        rw [hL] at hj
        obtain ⟨⟨k0, k1, k2, k3⟩, k4, _⟩ := hZ j hj
        rw [Addr.add_lit] at k0 k1 k2 k3
        rw [range_getD Z l j hj]
        exact ⟨⟨k0, k1, k2, k3⟩, k4⟩
    · intro i hi
      rw [hL] at hi
      rw [range_getD Z l i hi]
      exact (hZ i hi).2.2

def SvOk (w : World) (a : Addr) (i : Nat) (c : SV) : Prop :=
  (w.cell? (a.add (i * 6)) = some (.int .i64 c.state) ∧ w.cell? (a.add (i * 6 + 1)) = some (.int .i64 c.holder) ∧ w.cell? (a.add (i * 6 + 2)) = some (.int .i64 c.queue) ∧ w.cell? (a.add (i * 6 + 3)) = some (.int .u8 c.status) ∧ w.cell? (a.add (i * 6 + 4)) = some (.slice c.ca c.cache.length c.cc) ∧ w.cell? (a.add (i * 6 + 5)) = some (.slice c.pa c.pl c.pc)) ∧ Cached w c.ca c.cc c.cache ∧ InRange ([c.state, c.holder, c.queue] ++ c.cache)
theorem read_servers {fuel : Nat} {c : Value} {x : DataW H × List MemPlace} (h : DataW.trod enc Try.prog w 0 (fun _ => true) true fuel 23 [c] = some x) :
    ∃ (a : Option Addr) (S : List SV) (cap : Nat), c = .slice a S.length cap ∧ ServersAt w a S ∧ ∀ i, i < S.length → InRange ([(S.getD i default).state, (S.getD i default).holder, (S.getD i default).queue] ++ (S.getD i default).cache) := by
  rcases open_struct_cells Try.underlying23 Try.underlying40 (by kernel_rfl) (by kernel_rfl : Try.prog.cellsOf 40 = 6) (by kernel_rfl) h with hcs | ⟨a, l, cp, hcs, hl, hm, hx⟩
  · exact ⟨none, [], 0, (List.cons.inj hcs).1, .inl rfl, fun i hi => absurd hi (Nat.not_lt_zero i)⟩
  · have e0 := (List.cons.inj hcs).1
    have each : ∀ i, i < l → ∃ z : SV, SvOk w a i z := by
      intro i hi
      obtain ⟨v0, y0, n0, h0, t0⟩ := hx i hi 0 _ rfl
      obtain ⟨v1, y1, n1, h1, t1⟩ := hx i hi 1 _ rfl
      obtain ⟨v2, y2, n2, h2, t2⟩ := hx i hi 2 _ rfl
      obtain ⟨v3, y3, n3, h3, t3⟩ := hx i hi 3 _ rfl
      obtain ⟨v4, y4, n4, h4, t4⟩ := hx i hi 4 _ rfl
      obtain ⟨v5, y5, n5, h5, t5⟩ := hx i hi 5 _ rfl
      obtain ⟨p, hp, _, wp⟩ := DataW.trod_int Try.underlying3 t0
      obtain ⟨q, hq, _, wq⟩ := DataW.trod_int Try.underlying3 t1
      obtain ⟨r, hr, _, wr⟩ := DataW.trod_int Try.underlying3 t2
      obtain ⟨u, hu, _, wu⟩ := DataW.trod_int Try.underlying5 t3
      obtain ⟨ca, K, cc, rfl, _, _, hn, hK, rK⟩ := read_ints Try.underlying25 Try.underlying3 (by kernel_rfl) t4
      obtain ⟨pa, Q, pc, rfl, _⟩ := read_ints Try.underlying25 Try.underlying3 (by kernel_rfl) t5
      have e2 := (List.cons.inj hp).1
      have e3 := (List.cons.inj hq).1
      have e4 := (List.cons.inj hr).1
      have e5 := (List.cons.inj hu).1
      subst e2 e3 e4 e5
      refine ⟨⟨p, q, r, u, K, ca, cc, pa, Q.length, pc⟩, ⟨h0, h1, h2, h3, h4, h5⟩, ⟨hn, hK⟩, fun z hz => ?_⟩
      simp only [List.cons_append, List.nil_append, List.mem_cons] at hz
      rcases hz with rfl | rfl | rfl | hz
      · exact bounds_i64 wp
      · exact bounds_i64 wq
      · exact bounds_i64 wr
      · exact rK z hz
    obtain ⟨Z, hZ⟩ := choose_lt (α := SV) each
    have hL : ((List.range l).map Z).length = l := by simp
    refine ⟨some a, (List.range l).map Z, cp, by rw [hL]; exact e0, ?_, ?_⟩
    · by_cases h0 : l = 0
      · left; subst h0; rfl
      · right
        have hs0 := (hZ 0 (by omega)).1.1
        rw [Nat.zero_mul] at hs0
        obtain ⟨b, off, rfl, hlt⟩ := spotless hs0
        refine ⟨b, off, rfl, hlt, fun j hj => ?_⟩
        rw [hL] at hj
        obtain ⟨⟨k0, k1, k2, k3, k4, k5⟩, k6, _⟩ := hZ j hj
        rw [Addr.add_lit] at k0 k1 k2 k3 k4 k5
        rw [range_getD Z l j hj]
        exact ⟨⟨k0, k1, k2, k3, k4, k5⟩, k6⟩
    · intro i hi
      rw [hL] at hi
      rw [range_getD Z l i hi]
      exact (hZ i hi).2.2

theorem read_counted {fuel : Nat} {c : Value} {x : DataW H × List MemPlace} (h : DataW.trod enc Try.prog w 0 (fun _ => true) true fuel 24 [c] = some x) :
    ∃ (a : Option Addr) (n cap : Nat), c = .slice a n cap ∧ n ≤ maxLen := by
  rcases open_slice Try.underlying24 h with ⟨hcs, _⟩ | ⟨a, l, cp, mm, n, D, Pl, hcs, _, hl, hm', _, _, _⟩
  · exact ⟨none, 0, 0, (List.cons.inj hcs).1, Nat.zero_le _⟩
  · exact ⟨some a, l, cp, (List.cons.inj hcs).1, Nat.le_trans hl hm'⟩

theorem read_view {v : Value} {d : DataW H} {p : List MemPlace} {r : Reach} {b0 : Nat} (hv : Value.okWide Try.prog w r b0 27 v) (h : DataW.Trod enc Try.prog w 0 (fun _ => true) true 27 v d p) :
    ∃ (a1 : Option Addr) (C : List CV) (c1 : Nat) (a2 : Option Addr) (S : List SV) (c2 : Nat) (a3 : Option Addr) (n3 c3 : Nat) (a4 : Option Addr) (L4 : List Int) (c4 : Nat), v = .agg #[.slice a1 C.length c1, .slice a2 S.length c2, .slice a3 n3 c3, .slice a4 L4.length c4] ∧
      ViewAt w ⟨a1, C, c1, a2, S, c2, a3, n3, c3, a4, L4, c4⟩ ∧ Ranged ⟨a1, C, c1, a2, S, c2, a3, n3, c3, a4, L4, c4⟩ := by
  obtain ⟨v0, v1, v2, v3, y0, y1, y2, y3, n, rfl, _, _, h0, h1, h2, h3⟩ := Go.Joins.open_agg4 Try.underlying27 (by kernel_rfl) (by kernel_rfl : Try.prog.cellsOf 27 = 4) hv h
  obtain ⟨a1, C, c1, rfl, hC, rC⟩ := read_clients h0
  obtain ⟨a2, S, c2, rfl, hS, rS⟩ := read_servers h1
  obtain ⟨a3, n3, c3, rfl, l3⟩ := read_counted h2
  obtain ⟨a4, L4, c4, rfl, _, _, _, h4, r4⟩ := read_ints Try.underlying25 Try.underlying3 (by kernel_rfl) h3
  exact ⟨a1, C, c1, a2, S, c2, a3, n3, c3, a4, L4, c4, rfl, ⟨hC, hS, h4⟩, ⟨l3, rC, rS, r4⟩⟩
end
end Go.Proofs.Ytlcflajkpkgejaa
