/-
  Calls of an engine that came in, opened. No condition.
-/
import Derived.Test.YtpaodffckhnieaaDoorEngD
import Derived.Test.YtpaodffckhnieaaDoorOpen
namespace Go.Proofs.YtpaodffckhnieaaDoor
open Go.RowKit Go.ChangeShapes Go.WideShapes Go.Deep Go.ChangeAt

section
variable {H : Type} {enc : TypeId × Value → H} {w : World}
/-- The one cell of a field. -/
theorem field_cell {P : Program} {fs : Array Field} {cs : List Value} {xs : List (DataW H × List MemPlace)} {n : Nat} (hfld : ∀ (i : Nat) (f : Field), fs[i]? = some f → DataW.trod enc P w 0 (fun _ => true) true n f.type ((cs.drop f.offset).take (P.cellsOf f.type)) = xs[i]?)
    (hxl : xs.length = fs.size) {i off : Nat} {f : Field} (hf : fs[i]? = some f) (ho : f.offset = off) (h1 : P.cellsOf f.type = 1) (hl : off < cs.length) : ∃ v y, cs[off]? = some v ∧ DataW.trod enc P w 0 (fun _ => true) true n f.type [v] = some y := by
  have g := hfld i f hf
  have hi : i < xs.length := by rw [hxl]; exact (Array.getElem?_eq_some_iff.1 hf).1
  rw [ho, h1, List.getElem?_eq_getElem hi] at g
  have h3 : (cs.drop off).take 1 = [cs[off]'hl] := by rw [List.drop_eq_getElem_cons hl]; rfl
  rw [h3] at g
  exact ⟨_, _, List.getElem?_eq_getElem hl, g⟩

set_option maxRecDepth 100000 in
theorem read_dos {v : Value} {d : DataW H} {p : List MemPlace} {r : Reach} {b0 : Nat} (hv : Value.okWide Tryd.prog w r b0 22 v) (h : DataW.Trod enc Tryd.prog w 0 (fun _ => true) true 22 v d p) :
    ∃ (a : Option Addr) (len cap : Nat) (O : Nat → Int) (T : Nat → ByteArray), v = .slice a len cap ∧ len ≤ maxLen ∧ DoAt w a len O T := by
  obtain ⟨a, len, cap, rfl⟩ := okWide_slice Tryd.underlying22 hv
  obtain ⟨fuel, hf⟩ := h
  have c7 : Tryd.prog.cellsOf 29 = 7 := by kernel_rfl
  have c3 : Tryd.prog.cellsOf 26 = 3 := by kernel_rfl
  rcases open_slice Tryd.underlying22 hf with ⟨hcs, _⟩ | ⟨x, l, c, mm, n, D, Pl, hcs, _, hl, hm', hmm, _, hx⟩
  · have e0 := (List.cons.inj hcs).1
    injection e0 with e1 e2 e3
    subst e2
    exact ⟨_, _, _, fun _ => 0, fun _ => ByteArray.empty, rfl, Nat.zero_le _, .inl rfl⟩
  · have e0 := (List.cons.inj hcs).1
    injection e0 with e1 e2 e3
    subst e1 e2 e3
    have each : ∀ i, i < len → ∃ z : Int × ByteArray, ∃ (st kd n : Int) (co : ByteArray) (pa : Option Addr) (pl pc : Nat),
        w.cell? (x.add (i * 7)) = some (.int .i64 z.1) ∧ w.cell? (x.add (i * 7 + 1)) = some (.string z.2) ∧ w.cell? (x.add (i * 7 + 2)) = some (.int .u8 st) ∧
        w.cell? (x.add (i * 7 + 3)) = some (.int .i64 kd) ∧ w.cell? (x.add (i * 7 + 4)) = some (.int .i64 n) ∧ w.cell? (x.add (i * 7 + 5)) = some (.string co) ∧ w.cell? (x.add (i * 7 + 6)) = some (.slice pa pl pc) := by
      intro i hi
      obtain ⟨cs', h1, h2⟩ := hx i (by rw [hmm]; simp; omega)
      rw [c7] at h1
      obtain ⟨_, hlen, hcell⟩ := World.cells?_some h1
      obtain ⟨xs, k, _, _, _, hxl, hfld⟩ := DataW.trod_struct Tryd.underlying29 h2
      obtain ⟨v0, y0, i0, t0⟩ := field_cell hfld hxl (i := 0) (off := 0) rfl (by kernel_rfl) (by kernel_rfl) (by omega)
      obtain ⟨v1, y1, i1, t1⟩ := field_cell hfld hxl (i := 1) (off := 1) rfl (by kernel_rfl) (by kernel_rfl) (by omega)
      obtain ⟨v2, y2, i2, t2⟩ := field_cell hfld hxl (i := 2) (off := 2) rfl (by kernel_rfl) (by kernel_rfl) (by omega)
      obtain ⟨v6, y6, i6, t6⟩ := field_cell hfld hxl (i := 4) (off := 6) rfl (by kernel_rfl) (by kernel_rfl) (by omega)
      have g3 := hfld 3 _ rfl
      have hi3 : 3 < xs.length := by rw [hxl]; exact (by decide : 3 < 5)
      rw [List.getElem?_eq_getElem hi3] at g3
      obtain ⟨zs, k2, _, _, hzl, hzx, hz⟩ := DataW.trod_struct (t := 26) Tryd.underlying26 g3
      obtain ⟨u0, q0, j0, s0⟩ := field_cell hz hzx (i := 0) (off := 0) rfl (by kernel_rfl) (by kernel_rfl) (by rw [hzl, c3]; decide)
      obtain ⟨u1, q1, j1, s1⟩ := field_cell hz hzx (i := 1) (off := 1) rfl (by kernel_rfl) (by kernel_rfl) (by rw [hzl, c3]; decide)
      obtain ⟨u2, q2, j2, s2⟩ := field_cell hz hzx (i := 2) (off := 2) rfl (by kernel_rfl) (by kernel_rfl) (by rw [hzl, c3]; decide)
      obtain ⟨o, ho, _, _⟩ := DataW.trod_int Tryd.underlying3 t0
      obtain ⟨s, hs, _⟩ := DataW.trod_string Tryd.underlying9 t1
      obtain ⟨st, hst, _, _⟩ := DataW.trod_int Tryd.underlying5 t2
      obtain ⟨kd, hkd, _, _⟩ := DataW.trod_int Tryd.underlying3 s0
      obtain ⟨nn, hnn, _, _⟩ := DataW.trod_int Tryd.underlying3 s1
      obtain ⟨co, hco, _⟩ := DataW.trod_string Tryd.underlying9 s2
      have e0 := (List.cons.inj ho).1; have e1 := (List.cons.inj hs).1; have e2 := (List.cons.inj hst).1
      have e3 := (List.cons.inj hkd).1; have e4 := (List.cons.inj hnn).1; have e5 := (List.cons.inj hco).1
      subst e0 e1 e2 e3 e4 e5
      have hp : ∃ pa pl pc, v6 = .slice pa pl pc := by
        rcases open_slice Tryd.underlying27 t6 with ⟨hq, _⟩ | ⟨pa, pl, pc, _, _, _, _, hq, _⟩
        · exact ⟨none, 0, 0, (List.cons.inj hq).1⟩
        · exact ⟨some pa, pl, pc, (List.cons.inj hq).1⟩
      obtain ⟨pa, pl, pc, rfl⟩ := hp
      have at_ : ∀ j u, j < 7 → cs'[j]? = some u → w.cell? (x.add (i * 7 + j)) = some u := fun j u hj hu => by
        have := hcell j hj
        rw [add_add] at this
        rw [this, hu]
      have nth : ∀ j u, ((cs'.drop 3).take 3)[j]? = some u → j < 3 → cs'[3 + j]? = some u := fun j u hu hj => by
        rw [List.getElem?_take_of_lt hj, List.getElem?_drop] at hu; exact hu
      exact ⟨(o, s), st, kd, nn, co, pa, pl, pc, at_ 0 _ (by decide) i0, at_ 1 _ (by decide) i1, at_ 2 _ (by decide) i2, at_ 3 _ (by decide) (nth 0 _ j0 (by decide)), at_ 4 _ (by decide) (nth 1 _ j1 (by decide)), at_ 5 _ (by decide) (nth 2 _ j2 (by decide)), at_ 6 _ (by decide) i6⟩
    obtain ⟨Z, hZ⟩ := choose_lt (α := Int × ByteArray) each
    refine ⟨some x, len, cap, fun i => (Z i).1, fun i => (Z i).2, rfl, Nat.le_trans hl hm', ?_⟩
    by_cases h0 : len = 0
    · exact .inl h0
    · right
      obtain ⟨_, _, _, _, _, _, _, hs0, _⟩ := hZ 0 (by omega)
      rw [Nat.zero_mul] at hs0
      obtain ⟨b, off, rfl, hlt⟩ := spotless hs0
      refine ⟨b, off, rfl, hlt, fun i hi => ?_⟩
      obtain ⟨st, kd, nn, co, pa, pl, pc, h0, h1, h2, h3, h4, h5, h6⟩ := hZ i hi
      rw [Addr.add_lit] at h0 h1 h2 h3 h4 h5 h6
      exact ⟨st, kd, nn, co, pa, pl, pc, h0, h1, h2, h3, h4, h5, h6⟩
end
end Go.Proofs.YtpaodffckhnieaaDoor
