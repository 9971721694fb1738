/-
  Plain lemmas that open slices of structs, of integers and of texts that came in. No condition.
-/
import Derived.Test.YtpaodffckhnieaaDoorKit
import Derived.ProofKit
import Derived.OpenShut
import Derived.ShutString
import Derived.ChangeOld
import Derived.Lib.SmallJoins
namespace Go.Proofs.YtpaodffckhnieaaDoor
open Go.RowKit Go.ChangeShapes Go.WideShapes Go.Deep Go.ChangeAt

section
variable {H : Type} {enc : TypeId × Value → H} {P : Program} {w : World}
theorem open_struct_cells {t e : TypeId} {fs : Array Field} {m fuel : Nat} {cs : List Value} {x : DataW H × List MemPlace} (ht : P.underlying t = some (.slice e)) (he : P.underlying e = some (.struct fs))
    (hone : oneCellFields P fs = true) (hc : P.cellsOf e = m) (hm : fs.size = m) (h : DataW.trod enc P w 0 (fun _ => true) true fuel t cs = some x) :
    cs = [.slice none 0 0] ∨ ∃ a len cap, cs = [.slice (some a) len cap] ∧ len ≤ cap ∧ cap ≤ maxLen ∧ ∀ i, i < len → ∀ j f, fs[j]? = some f → ∃ v y n, w.cell? (a.add (i * m + j)) = some v ∧ DataW.trod enc P w 0 (fun _ => true) true n f.type [v] = some y := by
  rcases open_slice ht h with ⟨hcs, _⟩ | ⟨a, l, c, mm, n, D, Pl, hcs, _, hl, hm', hmm, _, hx⟩
  · exact .inl hcs
  · refine .inr ⟨a, l, c, hcs, hl, hm', fun i hi j f hf => ?_⟩
    obtain ⟨cs', h1, h2⟩ := hx i (by rw [hmm]; simp; omega)
    rw [hc] at h1
    obtain ⟨_, hlen, hcell⟩ := World.cells?_some h1
    obtain ⟨xs, k, _, _, _, hxl, hfld⟩ := DataW.trod_struct he h2
    obtain ⟨o, k1⟩ := hone_of hone j f hf
    have hj : j < m := by rw [← hm]; exact (Array.getElem?_eq_some_iff.1 hf).1
    have g := hfld j f hf
    obtain ⟨y, hy⟩ : ∃ y, xs[j]? = some y := ⟨xs[j]'(by omega), List.getElem?_eq_getElem (by omega)⟩
    have hcj : cs'[j]? = some (cs'[j]'(by omega)) := List.getElem?_eq_getElem (by omega)
    rw [hy, o, k1] at g
    have h3 : (cs'.drop j).take 1 = [cs'[j]'(by omega)] := by rw [List.drop_eq_getElem_cons (by omega)]; rfl
    rw [h3] at g
    refine ⟨_, y, k, ?_, g⟩
    have e0 := hcell j hj
    rw [add_add] at e0
    rw [e0, hcj]

/-- Where a cell lies, no spot is meant. -/
theorem spotless {a : Addr} {v : Value} (h : w.cell? (a.add 0) = some v) : ∃ b off, a = ⟨b, off, none⟩ ∧ b < w.heap.size := by
  have h0 : a.add 0 = a := rfl
  rw [h0] at h
  obtain ⟨b, off, spot⟩ := a
  have h1 : spot = none := World.cell?_spot h
  subst h1
  exact ⟨b, off, rfl, World.block_lt_of_cell? w _ h⟩

/-- Integers that came in. -/
theorem read_ints {t e : TypeId} {fuel : Nat} {c : Value} {x : DataW H × List MemPlace} (ht : P.underlying t = some (.slice e)) (he : P.underlying e = some (.int .i64)) (hc : P.cellsOf e = 1) (h : DataW.trod enc P w 0 (fun _ => true) true fuel t [c] = some x) :
    ∃ (a : Option Addr) (L : List Int) (cap : Nat), c = .slice a L.length cap ∧ L.length ≤ cap ∧ cap ≤ maxLen ∧ (a = none → L = [] ∧ cap = 0) ∧ (L = [] ∨ ∃ b off, a = some ⟨b, off, none⟩ ∧ b < w.heap.size ∧ ∀ j, j < L.length → w.cell? ⟨b, off + j, none⟩ = some (.int .i64 (L.getD j 0))) ∧ (∀ z ∈ L, -9223372036854775808 ≤ z ∧ z ≤ 9223372036854775807) := by
  rcases open_ints ht he hc h with ⟨hcs, _⟩ | ⟨a, l, cp, zs, hcs, _, hl, hm, hz, _, hcell, hw⟩
  · have e0 := (List.cons.inj hcs).1
    exact ⟨none, [], 0, e0, Nat.le_refl _, Nat.zero_le _, fun _ => ⟨rfl, rfl⟩, .inl rfl, fun z hz => by cases hz⟩
  · have e0 := (List.cons.inj hcs).1
    have hzl : zs.length = cp := by simpa using hz
    have hL : (zs.take l).length = l := by rw [List.length_take]; omega
    refine ⟨some a, zs.take l, cp, by rw [hL]; exact e0, by omega, hm, (fun h => by cases h), ?_, fun z hz => bounds_i64 (hw z (List.mem_of_mem_take hz))⟩
    by_cases h0 : l = 0
    · left; subst h0; rfl
    · right
      obtain ⟨b, off, rfl, hlt⟩ := spotless (hcell 0 (by omega))
      refine ⟨b, off, rfl, hlt, fun j hj => ?_⟩
      rw [hL] at hj
      have h1 := hcell j (by omega)
      rw [Addr.add_lit] at h1
      rw [h1, List.getD_eq_getElem?_getD, List.getD_eq_getElem?_getD, List.getElem?_take_of_lt hj]

/-- Texts that came in. -/
theorem read_strs {t e : TypeId} {fuel : Nat} {c : Value} {x : DataW H × List MemPlace} (ht : P.underlying t = some (.slice e)) (he : P.underlying e = some .string) (hc : P.cellsOf e = 1) (h : DataW.trod enc P w 0 (fun _ => true) true fuel t [c] = some x) :
    ∃ (a : Option Addr) (L : List ByteArray) (cap : Nat), c = .slice a L.length cap ∧ L.length ≤ cap ∧ cap ≤ maxLen ∧ (L = [] ∨ ∃ b off, a = some ⟨b, off, none⟩ ∧ b < w.heap.size ∧ ∀ j, j < L.length → w.cell? ⟨b, off + j, none⟩ = some (.string (L.getD j default))) ∧ (∀ z ∈ L, z.size ≤ maxLen) := by
  rcases open_slice ht h with ⟨hcs, _⟩ | ⟨a, l, cp, mm, n, D, Pl, hcs, _, hl, hm, hmm, _, hx⟩
  · have e0 := (List.cons.inj hcs).1
    exact ⟨none, [], 0, e0, Nat.le_refl _, Nat.zero_le _, .inl rfl, fun z hz => by cases hz⟩
  · have e0 := (List.cons.inj hcs).1
    have each : ∀ i, i < l → ∃ s : ByteArray, w.cell? (a.add i) = some (.string s) ∧ s.size ≤ maxLen := by
      intro i hi
      obtain ⟨cs', h1, h2⟩ := hx i (by rw [hmm]; simp; omega)
      rw [hc] at h1
      obtain ⟨_, hlen, hcell⟩ := World.cells?_some h1
      obtain ⟨s, hs, _, hsz⟩ := DataW.trod_string he h2
      have e1 := hcell 0 (by omega)
      rw [add_add, Nat.mul_one, Nat.add_zero, hs] at e1
      exact ⟨s, e1, hsz⟩
    obtain ⟨Z, hZ⟩ := choose_lt (α := ByteArray) each
    have hL : ((List.range l).map Z).length = l := by simp
    refine ⟨some a, (List.range l).map Z, cp, by rw [hL]; exact e0, by omega, hm, ?_, ?_⟩
    · by_cases h0 : l = 0
      · left; subst h0; rfl
      · right
        obtain ⟨b, off, rfl, hlt⟩ := spotless (hZ 0 (by omega)).1
        refine ⟨b, off, rfl, hlt, fun j hj => ?_⟩
        rw [hL] at hj
        have h1 := (hZ j hj).1
        rw [Addr.add_lit] at h1
        rw [h1, List.getD_eq_getElem?_getD, List.getElem?_map, List.getElem?_range hj]; rfl
    · intro z hz
      obtain ⟨i, hi, rfl⟩ := List.mem_map.1 hz
      exact (hZ i (List.mem_range.1 hi)).2
theorem read_ints_arg {t e : TypeId} {v : Value} {d : DataW H} {p : List MemPlace} {r : Reach} {b0 : Nat} (ht : P.underlying t = some (.slice e)) (he : P.underlying e = some (.int .i64)) (hc : P.cellsOf e = 1) (hv : Value.okWide P w r b0 t v) (h : DataW.Trod enc P w 0 (fun _ => true) true t v d p) :
    ∃ (a : Option Addr) (L : List Int) (cap : Nat), v = .slice a L.length cap ∧ L.length ≤ cap ∧ cap ≤ maxLen ∧ (a = none → L = [] ∧ cap = 0) ∧ (L = [] ∨ ∃ b off, a = some ⟨b, off, none⟩ ∧ b < w.heap.size ∧ ∀ j, j < L.length → w.cell? ⟨b, off + j, none⟩ = some (.int .i64 (L.getD j 0))) ∧ (∀ z ∈ L, -9223372036854775808 ≤ z ∧ z ≤ 9223372036854775807) := by
  obtain ⟨a, len, cap, rfl⟩ := okWide_slice ht hv
  obtain ⟨fuel, hf⟩ := h
  exact read_ints ht he hc hf
theorem read_strs_arg {t e : TypeId} {v : Value} {d : DataW H} {p : List MemPlace} {r : Reach} {b0 : Nat} (ht : P.underlying t = some (.slice e)) (he : P.underlying e = some .string) (hc : P.cellsOf e = 1) (hv : Value.okWide P w r b0 t v) (h : DataW.Trod enc P w 0 (fun _ => true) true t v d p) :
    ∃ (a : Option Addr) (L : List ByteArray) (cap : Nat), v = .slice a L.length cap ∧ L.length ≤ cap ∧ cap ≤ maxLen ∧ (L = [] ∨ ∃ b off, a = some ⟨b, off, none⟩ ∧ b < w.heap.size ∧ ∀ j, j < L.length → w.cell? ⟨b, off + j, none⟩ = some (.string (L.getD j default))) ∧ (∀ z ∈ L, z.size ≤ maxLen) := by
  obtain ⟨a, len, cap, rfl⟩ := okWide_slice ht hv
  obtain ⟨fuel, hf⟩ := h
  exact read_strs ht he hc hf
end
end Go.Proofs.YtpaodffckhnieaaDoor
