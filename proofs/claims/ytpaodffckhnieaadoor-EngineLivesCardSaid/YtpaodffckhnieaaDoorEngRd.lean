/-
  Calls of an engine that came in, opened whole. No condition.
-/
import Derived.Test.YtpaodffckhnieaaDoorEngRc
import Derived.SizedLaws
namespace Go.Proofs.YtpaodffckhnieaaDoor
open Go.RowKit Go.ChangeShapes Go.WideShapes Go.Deep Go.ChangeAt
set_option linter.unusedVariables false
set_option linter.unusedSimpArgs false
set_option maxRecDepth 100000

section
variable {H : Type} {enc : TypeId × Value → H} {P : Program} {w : World}
theorem weights_all {e : TypeId} {l : List (DataW H)} {d : DataW H} (hd : d ∈ l) : ∀ n ∈ d.weights P e, n ∈ DataW.weightsAll P e l := by
  intro n hn
  induction l with
  | nil => cases hd
  | cons x l ih =>
    rw [DataW.weightsAll, List.mem_append]
    rcases List.mem_cons.1 hd with rfl | hd
    · exact Or.inl hn
    · exact Or.inr (ih hd)
theorem slice_weights {t e : TypeId} {elems spare : List (DataW H)} (hu : P.underlying t = some (.slice e)) :
    (elems.length + spare.length) * P.bytesOf e ∈ (DataW.slice elems spare).weights P t ∧ ∀ d ∈ elems, ∀ n ∈ d.weights P e, n ∈ (DataW.slice elems spare).weights P t := by
  have hx : (DataW.slice elems spare).weights P t = (elems.length + spare.length) * P.bytesOf e :: (DataW.weightsAll P e elems ++ DataW.weightsAll P e spare) := by
    rw [DataW.weights, hu]
  rw [hx]
  exact ⟨List.mem_cons_self .., fun d hd n hn => List.mem_cons_of_mem _ (List.mem_append.2 (Or.inl (weights_all hd n hn)))⟩
theorem agg_weights {t : TypeId} {fs : Array Field} {parts : List (DataW H)} {j : Nat} {f : Field} {d : DataW H} (hu : P.underlying t = some (.struct fs)) (hf : fs[j]? = some f) (hd : parts[j]? = some d) :
    ∀ n ∈ d.weights P f.type, n ∈ (DataW.agg parts).weights P t := by
  intro n hn
  have hx : (DataW.agg parts).weights P t = DataW.weightsEach P (fs.toList.map (·.type)) parts := by
    rw [DataW.weights, hu]
  rw [hx]
  exact DataW.weights_mem_each (by rw [List.getElem?_map, Array.getElem?_toList, hf]; rfl) hd n hn
/-- The one cell of a field, and its datum. -/
theorem field_cell2 {fs : Array Field} {cs : List Value} {xs : List (DataW H × List MemPlace)} {n : Nat} (hfld : ∀ (i : Nat) (f : Field), fs[i]? = some f → DataW.trod enc P w 0 (fun _ => true) true n f.type ((cs.drop f.offset).take (P.cellsOf f.type)) = xs[i]?)
    (hxl : xs.length = fs.size) {i off : Nat} {f : Field} (hf : fs[i]? = some f) (ho : f.offset = off) (h1 : P.cellsOf f.type = 1) (hl : off < cs.length) : ∃ v y, cs[off]? = some v ∧ DataW.trod enc P w 0 (fun _ => true) true n f.type [v] = some y ∧ (xs.map (·.1))[i]? = some y.1 := by
  have g := hfld i f hf
  have hi : i < xs.length := by rw [hxl]; exact (Array.getElem?_eq_some_iff.1 hf).1
  rw [ho, h1, List.getElem?_eq_getElem hi] at g
  have h3 : (cs.drop off).take 1 = [cs[off]'hl] := by rw [List.drop_eq_getElem_cons hl]; rfl
  rw [h3] at g
  exact ⟨_, _, List.getElem?_eq_getElem hl, g, by rw [List.getElem?_map, List.getElem?_eq_getElem hi]; rfl⟩
end

section
variable {H : Type} {enc : TypeId × Value → H} {w : World}
theorem read_bytes {fuel : Nat} {c : Value} {x : DataW H × List MemPlace} (hf : DataW.trod enc Tryd.prog w 0 (fun _ => true) true fuel 61 [c] = some x) (hw : ∀ n ∈ x.1.weights Tryd.prog 61, n ≤ reachBytes) :
    ∃ L : List UInt8, BytesAt w c L ∧ L.length ≤ 140737488355328 := by
  have b1 : Tryd.prog.bytesOf 5 = 1 := by kernel_rfl
  rcases open_slice Tryd.underlying61 hf with ⟨hcs, _⟩ | ⟨a, l, cp, mm, n, D, Pl, hcs, _, hl, hm, hmm, hx, _⟩
  · obtain rfl := (List.cons.inj hcs).1
    exact ⟨[], ⟨none, 0, rfl, .inl rfl⟩, Nat.zero_le _⟩
  · obtain rfl := (List.cons.inj hcs).1
    have hlen : l ≤ 140737488355328 := by
      subst hx
      have := hw _ (slice_weights (H := H) (elems := (List.range l).map D) (spare := (List.range (mm - l)).map fun j => D (l + j)) Tryd.underlying61).1
      rw [b1, Nat.mul_one, List.length_map, List.length_range] at this
      unfold reachBytes at this
      omega
    rcases open_ints Tryd.underlying61 Tryd.underlying5 (by kernel_rfl) hf with ⟨hcs2, _⟩ | ⟨a2, l2, c2, zs, hcs2, _, hl2, hm2, hz, _, hcell, hwz⟩
    · cases (List.cons.inj hcs2).1
    have e0 := (List.cons.inj hcs2).1
    injection e0 with e1 e2 e3
    injection e1 with e1
    subst e1 e2 e3
    have hzl : zs.length = cp := by simpa using hz
    refine ⟨(zs.take l).map fun z => UInt8.ofNat z.toNat, ⟨some a, cp, by rw [List.length_map, List.length_take, hzl]; congr 1; omega, ?_⟩, by rw [List.length_map, List.length_take]; omega⟩
    by_cases h0 : l = 0
    · left; subst h0; rfl
    right
    obtain ⟨b, off, rfl, hlt⟩ := spotless (hcell 0 (by omega))
    refine ⟨b, off, rfl, by simp, hlt, fun j hj => ?_⟩
    rw [List.length_map, List.length_take] at hj
    have h1 := hcell j (by omega)
    rw [Addr.add_lit] at h1
    have hjz : j < zs.length := by omega
    have ha : zs.getD j 0 = zs[j] := by rw [List.getD_eq_getElem?_getD, List.getElem?_eq_getElem hjz]; rfl
    have hb2 : ((zs.take l).map fun z => UInt8.ofNat z.toNat).getD j 0 = UInt8.ofNat zs[j].toNat := by rw [List.getD_eq_getElem?_getD, List.getElem?_map, List.getElem?_take_of_lt (by omega), List.getElem?_eq_getElem hjz]; rfl
    rw [h1, ha, hb2]
    have hb := bounds_u8 (hwz _ (List.getElem_mem hjz))
    rw [UInt8.toNat_ofNat', Nat.mod_eq_of_lt (show zs[j].toNat < 2 ^ 8 by omega)]
    congr 2
    omega
theorem read_cells {fuel : Nat} {c : Value} {x : DataW H × List MemPlace} (hf : DataW.trod enc Tryd.prog w 0 (fun _ => true) true fuel 27 [c] = some x) (hw : ∀ n ∈ x.1.weights Tryd.prog 27, n ≤ reachBytes) :
    ∃ (pa : Option Addr) (pl pc : Nat) (R : List (Bool × List UInt8)), c = .slice pa pl pc ∧ RowAt w (.slice pa pl pc) R ∧ (pa = none → pl = 0 ∧ pc = 0) ∧ ∀ j, j < R.length → (gr R j).2.length ≤ 140737488355328 := by
  have c2 : Tryd.prog.cellsOf 64 = 2 := by kernel_rfl
  rcases open_slice Tryd.underlying27 hf with ⟨hcs, _⟩ | ⟨a, l, cp, mm, n, D, Pl, hcs, _, hl, hm, hmm, hx, hall⟩
  · obtain rfl := (List.cons.inj hcs).1
    exact ⟨none, 0, 0, [], rfl, ⟨none, 0, rfl, .inl rfl⟩, fun _ => ⟨rfl, rfl⟩, fun j hj => absurd hj (Nat.not_lt_zero _)⟩
  · obtain rfl := (List.cons.inj hcs).1
    subst hx
    have hsw := (slice_weights (H := H) (elems := (List.range l).map D) (spare := (List.range (mm - l)).map fun j => D (l + j)) Tryd.underlying27).2
    have each : ∀ i, i < l → ∃ q : Bool × List UInt8, ∃ u, w.cell? (a.add (i * 2)) = some (.bool q.1) ∧ w.cell? (a.add (i * 2 + 1)) = some u ∧ BytesAt w u q.2 ∧ q.2.length ≤ 140737488355328 := by
      intro i hi
      obtain ⟨cs', h1, h2⟩ := hall i (by rw [hmm]; simp; omega)
      rw [c2] at h1
      obtain ⟨_, hlen, hcell⟩ := World.cells?_some h1
      have hdi : D i ∈ (List.range l).map D := List.mem_map.2 ⟨i, List.mem_range.2 hi, rfl⟩
      have hwd : ∀ n ∈ (D i).weights Tryd.prog 64, n ≤ reachBytes := fun n hn => hw n (hsw _ hdi n hn)
      obtain ⟨xs, k, _, heq, _, hxl, hfld⟩ := DataW.trod_struct Tryd.underlying64 h2
      have hD : D i = .agg (xs.map (·.1)) := congrArg Prod.fst heq
      rw [hD] at hwd
      obtain ⟨v0, y0, i0, t0, _⟩ := field_cell2 hfld hxl (i := 0) (off := 0) rfl (by kernel_rfl) (by kernel_rfl) (by omega)
      obtain ⟨v1, y1, i1, t1, p1⟩ := field_cell2 hfld hxl (i := 1) (off := 1) rfl (by kernel_rfl) (by kernel_rfl) (by omega)
      obtain ⟨y, hy, _⟩ := DataW.trod_bool Tryd.underlying4 t0
      obtain rfl := (List.cons.inj hy).1
      obtain ⟨L, hL, hLl⟩ := read_bytes t1 (fun n hn => hwd n (agg_weights Tryd.underlying64 (j := 1) rfl p1 n hn))
      refine ⟨(y, L), v1, ?_, ?_, hL, hLl⟩
      · have := hcell 0 (by decide)
        rw [add_add, Nat.add_zero, i0] at this
        exact this
      · have := hcell 1 (by decide)
        rw [add_add, i1] at this
        exact this
    obtain ⟨Z, hZ⟩ := choose_lt (α := Bool × List UInt8) each
    have hL : ((List.range l).map Z).length = l := by simp
    have hg : ∀ j, j < l → gr ((List.range l).map Z) j = Z j := fun j hj => by
      unfold gr
      rw [List.getD_eq_getElem?_getD, List.getElem?_map, List.getElem?_range hj]; rfl
    refine ⟨some a, l, cp, (List.range l).map Z, rfl, ⟨some a, cp, by rw [hL], ?_⟩, (fun h => by cases h), fun j hj => ?_⟩
    · by_cases h0 : l = 0
      · left; subst h0; rfl
      right
      have h00 := (hZ 0 (by omega))
      obtain ⟨u, q0, _⟩ := h00
      rw [Nat.zero_mul] at q0
      obtain ⟨b, off, rfl, hlt⟩ := spotless q0
      refine ⟨b, off, rfl, hlt, fun j hj => ?_⟩
      rw [hL] at hj
      obtain ⟨u, q0, q1, q2, _⟩ := hZ j hj
      rw [hg j hj]
      rw [Addr.add_lit] at q0 q1
      exact ⟨u, q0, by rw [Nat.add_assoc]; exact q1, q2⟩
    · rw [hL] at hj
      rw [hg j hj]
      obtain ⟨_, _, _, _, h⟩ := hZ j hj
      exact h

instance : Inhabited DoV := ⟨⟨0, default, 0, 0, 0, default, none, 0, 0, []⟩⟩
theorem read_dos2 {v : Value} {d : DataW H} {p : List MemPlace} {r : Reach} {b0 : Nat} (hv : Value.okWide Tryd.prog w r b0 22 v) (h : DataW.Trod enc Tryd.prog w 0 (fun _ => true) true 22 v d p) (hw : ∀ n ∈ d.weights Tryd.prog 22, n ≤ reachBytes) :
    ∃ (a : Option Addr) (len cap : Nat) (Z : Nat → DoV), v = .slice a len cap ∧ len ≤ maxLen ∧ DosAt w a len Z := by
  obtain ⟨a, len, cap, rfl⟩ := okWide_slice Tryd.underlying22 hv
  obtain ⟨fuel, hf⟩ := h
  have c7 : Tryd.prog.cellsOf 29 = 7 := by kernel_rfl
  have c3 : Tryd.prog.cellsOf 26 = 3 := by kernel_rfl
  rcases open_slice Tryd.underlying22 hf with ⟨hcs, _⟩ | ⟨x, l, c, mm, n, D, Pl, hcs, _, hl, hm', hmm, hx, hall⟩
  · have e0 := (List.cons.inj hcs).1
    injection e0 with e1 e2 e3
    subst e2
    exact ⟨_, _, _, fun _ => default, rfl, Nat.zero_le _, .inl rfl⟩
  · have e0 := (List.cons.inj hcs).1
    injection e0 with e1 e2 e3
    subst e1 e2 e3
    have hd : d = .slice ((List.range len).map D) ((List.range (mm - len)).map fun j => D (len + j)) := congrArg Prod.fst hx
    subst hd
    have hsw := (slice_weights (H := H) (elems := (List.range len).map D) (spare := (List.range (mm - len)).map fun j => D (len + j)) Tryd.underlying22).2
    have each : ∀ i, i < len → ∃ z : DoV,
        w.cell? (x.add (i * 7)) = some (.int .i64 z.op) ∧ w.cell? (x.add (i * 7 + 1)) = some (.string z.s) ∧ w.cell? (x.add (i * 7 + 2)) = some (.int .u8 z.st) ∧
        w.cell? (x.add (i * 7 + 3)) = some (.int .i64 z.kd) ∧ w.cell? (x.add (i * 7 + 4)) = some (.int .i64 z.nn) ∧ w.cell? (x.add (i * 7 + 5)) = some (.string z.co) ∧ w.cell? (x.add (i * 7 + 6)) = some (.slice z.pa z.pl z.pc) ∧
        RowAt w (.slice z.pa z.pl z.pc) z.R ∧ (z.pa = none → z.pl = 0 ∧ z.pc = 0) ∧ ∀ j, j < z.R.length → (gr z.R j).2.length ≤ 140737488355328 := by
      intro i hi
      obtain ⟨cs', h1, h2⟩ := hall i (by rw [hmm]; simp; omega)
      rw [c7] at h1
      obtain ⟨_, hlen, hcell⟩ := World.cells?_some h1
      have hdi : D i ∈ (List.range len).map D := List.mem_map.2 ⟨i, List.mem_range.2 hi, rfl⟩
      have hwd : ∀ n ∈ (D i).weights Tryd.prog 29, n ≤ reachBytes := fun n hn => hw n (hsw _ hdi n hn)
      obtain ⟨xs, k, _, heq, _, hxl, hfld⟩ := DataW.trod_struct Tryd.underlying29 h2
      have hD : D i = .agg (xs.map (·.1)) := congrArg Prod.fst heq
      rw [hD] at hwd
      obtain ⟨v0, y0, i0, t0, _⟩ := field_cell2 hfld hxl (i := 0) (off := 0) rfl (by kernel_rfl) (by kernel_rfl) (by omega)
      obtain ⟨v1, y1, i1, t1, _⟩ := field_cell2 hfld hxl (i := 1) (off := 1) rfl (by kernel_rfl) (by kernel_rfl) (by omega)
      obtain ⟨v2, y2, i2, t2, _⟩ := field_cell2 hfld hxl (i := 2) (off := 2) rfl (by kernel_rfl) (by kernel_rfl) (by omega)
      obtain ⟨v6, y6, i6, t6, p6⟩ := field_cell2 hfld hxl (i := 4) (off := 6) rfl (by kernel_rfl) (by kernel_rfl) (by omega)
      have g3 := hfld 3 _ rfl
      have hi3 : 3 < xs.length := by rw [hxl]; exact (by decide : 3 < 5)
      rw [List.getElem?_eq_getElem hi3] at g3
      obtain ⟨zs, k2, _, _, hzl, hzx, hz⟩ := DataW.trod_struct (t := 26) Tryd.underlying26 g3
      obtain ⟨u0, q0, j0, s0⟩ := field_cell hz hzx (i := 0) (off := 0) rfl (by kernel_rfl) (by kernel_rfl) (by rw [hzl, c3]; decide)
      obtain ⟨u1, q1, j1, s1⟩ := field_cell hz hzx (i := 1) (off := 1) rfl (by kernel_rfl) (by kernel_rfl) (by rw [hzl, c3]; decide)
      obtain ⟨u2, q2, j2, s2⟩ := field_cell hz hzx (i := 2) (off := 2) rfl (by kernel_rfl) (by kernel_rfl) (by rw [hzl, c3]; decide)
      obtain ⟨o, ho, _, _⟩ := DataW.trod_int Tryd.underlying3 t0
      obtain ⟨s, hs, _⟩ := DataW.trod_string Tryd.underlying9 t1
      obtain ⟨st, hst, _, _⟩ := DataW.trod_int Tryd.underlying5 t2
      obtain ⟨kd, hkd, _, _⟩ := DataW.trod_int Tryd.underlying3 s0
      obtain ⟨nn, hnn, _, _⟩ := DataW.trod_int Tryd.underlying3 s1
      obtain ⟨co, hco, _⟩ := DataW.trod_string Tryd.underlying9 s2
      have e0 := (List.cons.inj ho).1; have e1 := (List.cons.inj hs).1; have e2 := (List.cons.inj hst).1
      have e3 := (List.cons.inj hkd).1; have e4 := (List.cons.inj hnn).1; have e5 := (List.cons.inj hco).1
      subst e0 e1 e2 e3 e4 e5
      obtain ⟨pa, pl, pc, R, rfl, hrow, hnil, hfit⟩ := read_cells t6 (fun n hn => hwd n (agg_weights Tryd.underlying29 (j := 4) rfl p6 n hn))
      have at_ : ∀ j u, j < 7 → cs'[j]? = some u → w.cell? (x.add (i * 7 + j)) = some u := fun j u hj hu => by
        have := hcell j hj
        rw [add_add] at this
        rw [this, hu]
      have nth : ∀ j u, ((cs'.drop 3).take 3)[j]? = some u → j < 3 → cs'[3 + j]? = some u := fun j u hu hj => by
        rw [List.getElem?_take_of_lt hj, List.getElem?_drop] at hu; exact hu
      exact ⟨⟨o, s, st, kd, nn, co, pa, pl, pc, R⟩, at_ 0 _ (by decide) i0, at_ 1 _ (by decide) i1, at_ 2 _ (by decide) i2, at_ 3 _ (by decide) (nth 0 _ j0 (by decide)), at_ 4 _ (by decide) (nth 1 _ j1 (by decide)), at_ 5 _ (by decide) (nth 2 _ j2 (by decide)), at_ 6 _ (by decide) i6, hrow, hnil, hfit⟩
    obtain ⟨Z, hZ⟩ := choose_lt (α := DoV) each
    refine ⟨some x, len, cap, Z, rfl, Nat.le_trans hl hm', ?_⟩
    by_cases h0 : len = 0
    · exact .inl h0
    · right
      obtain ⟨hs0, _⟩ := hZ 0 (by omega)
      rw [Nat.zero_mul] at hs0
      obtain ⟨b, off, rfl, hlt⟩ := spotless hs0
      refine ⟨b, off, rfl, hlt, fun i hi => ?_⟩
      obtain ⟨h0, h1, h2, h3, h4, h5, h6, h7, h8, h9⟩ := hZ i hi
      rw [Addr.add_lit] at h0 h1 h2 h3 h4 h5 h6
      exact ⟨h0, h1, h2, h3, h4, h5, h6, h7, h8, h9⟩
end
end Go.Proofs.YtpaodffckhnieaaDoor
