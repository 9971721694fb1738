/-
  Plain lemmas that the walks of this seat share: worlds that are as a given one below its heap's size; a block that is known whole; a slice of structs of ints that came in. No condition.
-/
import Derived.WalkKit
import Derived.BigQuiet
import Derived.Below
import Derived.Deep.Slices
import Derived.Deep.Fields
import Derived.ProofKit
namespace Go.Proofs.YtpaodffckhnieaaDoor
open Go.RowKit

/-- A world that is as w was on all that w had. -/
def Aft (w : World) : Type := { w' : World // Below w.heap.size w w' }
def Aft.out {w : World} (n : Aft w) : World := n.val
theorem Aft.below {w : World} (n : Aft w) : Below w.heap.size w n.out := n.property
instance aftNonempty (w : World) : Nonempty (Aft w) := ⟨⟨w, Below.refl _ _⟩⟩
theorem Aft.cell {w : World} (n : Aft w) {p : Addr} {v : Value} (h : w.cell? p = some v) : n.out.cell? p = some v := by
  rw [n.below.cell (World.block_lt_of_cell? w p h)]; exact h
theorem Aft.size {w : World} (n : Aft w) : w.heap.size ≤ n.out.heap.size := n.below.size

theorem ret_int {k : IntKind} {a b : Int} (h : a = b) : Ending.returned (.int k a) = .returned (.int k b) := by rw [h]

theorem below_drewN {B : Nat} {a w : World} (h : Below B a w) (n : Nat) : Below B a (w.drewN n) := ⟨h.os, h.tape, h.output, h.size, h.block⟩

/-- A callee's contract, met in a world of the class. -/
theorem Calls.aft {P : Program} {f : FuncId} {args : Array Value} {w : World} (n : Aft w) {v : Value}
    (h : Calls P f args n.out fun e w' => e = .returned v ∧ Below n.out.heap.size n.out w') : Calls P f args n.out fun e w'' => e = .returned v ∧ ∃ m : Aft w, w'' = m.out :=
  h.mono fun _ w' ⟨he, hm⟩ => ⟨he, ⟨w', n.below.trans (hm.mono n.size)⟩, rfl⟩
theorem Calls.aft_same {P : Program} {f : FuncId} {args : Array Value} {w : World} (n : Aft w) {v : Value}
    (h : Calls P f args n.out fun e w' => e = .returned v ∧ n.out = w') : Calls P f args n.out fun e w'' => e = .returned v ∧ ∃ m : Aft w, w'' = m.out :=
  h.mono fun _ _ ⟨he, hm⟩ => ⟨he, n, hm.symm⟩

theorem wp_region_aft {P : Program} {id : Nat} {Q : Exit → Act → World → Prop} {a : Act} {w : World} {l : List Oper} (hm : P.follows .mixedOrders = true) (hB : Region.lexB .any l.toArray = true)
    (h : wpQuiet P l.toArray (fun w' => ∃ n : Aft w, w' = n.out) (fun a' => ∀ w', (∃ n : Aft w, w' = n.out) → Q .normal a' w') l a) : (Code.region id l.toArray true).wp P Q a w :=
  wp_region_quiet (C := fun w' => ∃ n : Aft w, w' = n.out) hm hB ⟨⟨w.drew, (Below.refl _ _).drew⟩, rfl⟩ (by simpa using h)

theorem below_via {w W w1 : World} (h : Below w.heap.size w W) (hb : Below W.heap.size W w1) : Below w.heap.size w w1 := h.trans (hb.mono h.size)

/-- All old cells and marks read as before: two rules that the walk uses by itself. -/
theorem bcell {W w1 : World} (hb : Below W.heap.size W w1) : (∀ b o, b < W.heap.size → w1.cell? ⟨b, o, none⟩ = W.cell? ⟨b, o, none⟩) ∧ (∀ b o, b < W.heap.size → w1.frozen? ⟨b, o, none⟩ = W.frozen? ⟨b, o, none⟩) :=
  ⟨fun b o h => hb.cell (p := ⟨b, o, none⟩) h, fun b o h => hb.frozen (p := ⟨b, o, none⟩) h⟩

/-- The world under a name of its own, with what is known of it. -/
theorem Code.wp_named {P : Program} {c : Code} {Q : Exit → Act → World → Prop} {a : Act} {w : World} (S : World → Prop) (hS : S w) (h : ∀ W, S W → c.wp P Q a W) : c.wp P Q a w := h w hS

/-- A fact kept from the walk. -/
theorem hide {p : Prop} (h : p) : Hid p := h

/-- Block g is just the cells cs, of type t, none of them shared with a string. -/
def Blk (w : World) (g : Nat) (t : TypeId) (cs : Array Value) : Prop := w.heap[g]? = some (.cells cs t (0, 0))
section
variable {w w' : World} {g : Nat} {t : TypeId} {cs : Array Value}
theorem Blk.lt (h : Blk w g t cs) : g < w.heap.size := by
  rcases Nat.lt_or_ge g w.heap.size with hlt | hge
  · exact hlt
  · unfold Blk at h; rw [Array.getElem?_eq_none hge] at h; cases h
theorem Blk.cell (h : Blk w g t cs) (i : Nat) : w.cell? ⟨g, i, none⟩ = cs[i]? := cell_of_row w g i cs t (0, 0) h
theorem Blk.frozen (h : Blk w g t cs) (i : Nat) : w.frozen? ⟨g, i, none⟩ = false := by
  unfold Blk at h
  simp [World.frozen?, h]
theorem Blk.new (w : World) (t : TypeId) (cs : Array Value) : Blk (w.alloc (.cells cs t)) w.heap.size t cs := heap_alloc_new w _
theorem Blk.drew (h : Blk w g t cs) : Blk w.drew g t cs := h
theorem Blk.drewN (h : Blk w g t cs) (n : Nat) : Blk (w.drewN n) g t cs := h
theorem Blk.alloc (h : Blk w g t cs) (o : Obj) : Blk (w.alloc o) g t cs := (Below.heap_alloc w o g h.lt).trans h
theorem Blk.put (h : Blk w g t cs) (i : Nat) (u : Value) : Blk (w.setCell ⟨g, i, none⟩ u) g t (cs.setIfInBounds i u) := by
  unfold Blk at h ⊢
  simp [World.setCell, Array.getElem?_modify, h]
theorem Blk.far (h : Blk w g t cs) {p : Addr} (hp : g ≠ p.block) (u : Value) : Blk (w.setCell p u) g t cs := (Below.heap_setCell w p u g hp).trans h
theorem Blk.below {B : Nat} (h : Blk w g t cs) (hb : Below B w w') (hg : g < B) : Blk w' g t cs := (hb.block g hg).trans h
theorem Blk.grown {row : Option Nat} (h : Blk w g t cs) (hb : w.grownBy w' row) (hg : some g ≠ row) : Blk w' g t cs := (hb.block g h.lt hg).trans h
theorem Blk.apart {g' : Nat} {t' : TypeId} {cs' : Array Value} (h : Blk w g t cs) (h' : Blk w g' t' cs') (hne : t ≠ t') : g ≠ g' := by
  rintro rfl
  unfold Blk at h h'
  rw [h] at h'
  injection h' with h'
  injection h' with _ ht
  exact hne ht
end

/-- 'append(out, x)', x laid in a new block of its own first: what is owned grows by x's cells; below 'base' nothing turns. -/
theorem wpList_append_one {P : Program} (w : World) {ops : Array Oper} {rest : List Oper} {o : Oper} {a : Act} {Q : Exit → Act → World → Prop} (hgd : o.guard = none) (s x : Operand) (t : TypeId)
    (ho : o.op = .call { callee := .builtin .append, args := #[s, x], argTypes := #[t, t] })
    (base : Nat) (e : TypeId) (i : TypeInfo) (z : Value) (size bytes : Nat) (ht : P.underlying t = some (.slice e)) (hi : P.info? e = some i) (hz : i.zero = some z)
    (hsize : i.size = size) (hby : i.bytes = bytes) (hzs : z.cells.size = size) (hsz : 0 < size)
    (v : Value) (n : Nat) (xs us : List Value) (hown : w.ownsRow base e size v n xs) (hs : a.eval s = v) (hus : us.length = size) (hone : ∀ u ∈ us, u.oneCell' = true)
    (hx : a.eval x = .slice (some ⟨w.heap.size, 0, none⟩) 1 1)
    (h63 : n + 1 ≤ maxLen) (hbytes : (n + 1) * bytes ≤ 140737488355328) (hbase : base ≤ w.heap.size)
    (h : ∀ v' w', w'.ownsRow base e size v' (n + 1) (xs ++ us) → Below base w w' → v'.ownBlock ≠ none → wpList P ops Q rest (a.put o.dst v') w') :
    wpList P ops Q (o :: rest) a (w.alloc (.cells us.toArray e)) := by
  refine wpList_append_own _ hgd s x t ho base e i z size bytes ht hi hz hsize hby hzs hsz v n xs hs (hown.alloc _) ⟨w.heap.size, 0, none⟩ 1 1 us hx (by omega) ?_ hone h63 hbytes (by simp; omega) ?_
  · intro j u hu
    rw [Addr.add_lit, Nat.zero_add, World.cell?_alloc_new]
    simpa using hu
  · intro v' w' hown' hg hnil
    refine h v' w' hown' (((Below.refl _ _).alloc hbase _).grown hg (by simp; omega) (fun k hk => ((hown.lt) k hk).1)) ?_
    rcases hown'.2 with ⟨rfl, h0⟩ | ⟨g, cap, cur, rfl, _⟩
    · omega
    · simp [Value.ownBlock]

/-- A row that is owned, not empty: where it lies, and its cells. -/
theorem own_form {w : World} {base : Nat} {e : TypeId} {size : Nat} {v : Value} {n : Nat} {xs : List Value} (h : w.ownsRow base e size v n xs) (hn : 0 < n) :
    ∃ g cap, v = .slice (some ⟨g, 0, none⟩) n cap ∧ base ≤ g ∧ g < w.heap.size ∧ n ≤ cap ∧ cap ≤ maxLen ∧ (∀ j, w.frozen? ⟨g, j, none⟩ = false) ∧ ∀ j, j < n * size → w.cell? ⟨g, j, none⟩ = xs[j]? := by
  have h' := h
  rcases h.2 with ⟨rfl, h0⟩ | ⟨g, cap, cur, rfl, hb, hg, h1, h2, _⟩
  · omega
  · refine ⟨g, cap, rfl, hb, ?_, h1, h2, fun j => h'.frozenAt j, fun j hj => h'.cellAt j hj⟩
    rcases Nat.lt_or_ge g w.heap.size with hlt | hge
    · exact hlt
    · rw [Array.getElem?_eq_none hge] at hg; cases hg
theorem own_empty {w : World} {base : Nat} {e : TypeId} {size : Nat} {v : Value} {xs : List Value} (h : w.ownsRow base e size v 0 xs) : ∃ a cap, v = .slice a 0 cap ∧ cap ≤ maxLen := by
  rcases h.2 with ⟨rfl, _⟩ | ⟨g, cap, cur, rfl, hb, hg, h1, h2, _⟩
  · exact ⟨none, 0, rfl, Nat.zero_le _⟩
  · exact ⟨_, cap, rfl, h2⟩

theorem own_below {w w' : World} {base e size n : Nat} {v : Value} {xs : List Value} (h : w.ownsRow base e size v n xs) (hb : Below w.heap.size w w') : w'.ownsRow base e size v n xs := by
  refine ⟨h.1, ?_⟩
  rcases h.2 with hn | ⟨g, cap, cur, rfl, h1, hgg, rest⟩
  · exact .inl hn
  · exact .inr ⟨g, cap, cur, rfl, h1, (hb.block g (Array.getElem?_eq_some_iff.1 hgg).1).trans hgg, rest⟩
theorem own_new (w : World) (e : TypeId) (cs : Array Value) (hm : cs.size ≤ maxLen) : (w.alloc (.cells cs e)).ownsRow w.heap.size e 1 (.slice (some ⟨w.heap.size, 0, none⟩) cs.size cs.size) cs.size cs.toList :=
  ⟨by simp, .inr ⟨w.heap.size, cs.size, cs, rfl, Nat.le_refl _, heap_alloc_new w _, Nat.le_refl _, hm, by simp, by rw [Nat.mul_one]; exact List.take_of_length_le (by simp)⟩⟩
theorem own_base {w : World} {base base' e size n : Nat} {v : Value} {xs : List Value} (h : w.ownsRow base e size v n xs) (hb : base' ≤ base) : w.ownsRow base' e size v n xs := by
  refine ⟨h.1, ?_⟩
  rcases h.2 with hn | ⟨g, cap, cur, rfl, h1, rest⟩
  · exact .inl hn
  · exact .inr ⟨g, cap, cur, rfl, Nat.le_trans hb h1, rest⟩

/-- What the walk is told of a slice of structs of m ints that came in. -/
def IntStructs (w : World) (a : Option Addr) (len m : Nat) (Z : Nat → Nat → Int) : Prop :=
  len = 0 ∨ ∃ b off, a = some ⟨b, off, none⟩ ∧ b < w.heap.size ∧ ∀ i j, i < len → j < m → w.cell? ⟨b, off + i * m + j, none⟩ = some (.int .i64 (Z i j)) ∧ -9223372036854775808 ≤ Z i j ∧ Z i j ≤ 9223372036854775807

theorem bounds_i64 {n : Int} (h : (Lit.int .i64 n).wf = true) : -9223372036854775808 ≤ n ∧ n ≤ 9223372036854775807 := by
  simpa [Lit.wf, IntKind.min, IntKind.max, IntKind.signed, IntKind.bits] using h
theorem bounds_u8 {n : Int} (h : (Lit.int .u8 n).wf = true) : 0 ≤ n ∧ n ≤ 255 := by
  simpa [Lit.wf, IntKind.min, IntKind.max, IntKind.signed, IntKind.bits] using h

open Go.ChangeShapes Go.WideShapes Go.Deep in
theorem open_int_structs {H : Type} {enc : TypeId × Value → H} {P : Program} {w : World} {t e I : TypeId} {fs : Array Field} {m : Nat} (ht : P.underlying t = some (.slice e)) (he : P.underlying e = some (.struct fs))
    (hI : P.underlying I = some (.int .i64)) (hone : oneCellFields P fs = true) (hty : fs.toList.all (fun f => f.type == I) = true) (hc : P.cellsOf e = m) (hm : fs.size = m) (hm0 : 0 < m)
    {a : Option Addr} {len cap : Nat} {d : DataW H} {ps : List MemPlace} (h : DataW.Trod enc P w 0 (fun _ => true) true t (.slice a len cap) d ps) :
    (∃ Z, IntStructs w a len m Z) ∧ len ≤ maxLen := by
  obtain ⟨fuel, hf⟩ := h
  rcases open_slice ht hf with ⟨hcs, _⟩ | ⟨x, l, c, mm, n, D, Pl, hcs, _, hl, hm', hmm, _, hx⟩
  · simp [Value.cells] at hcs
    obtain ⟨rfl, rfl, rfl⟩ := hcs
    exact ⟨⟨fun _ _ => 0, Or.inl rfl⟩, Nat.zero_le _⟩
  · simp [Value.cells] at hcs
    obtain ⟨rfl, rfl, rfl⟩ := hcs
    refine ⟨?_, Nat.le_trans hl hm'⟩
    by_cases h0 : len = 0
    · exact ⟨fun _ _ => 0, Or.inl h0⟩
    have each : ∀ i, i < len → ∃ z : Nat → Int, ∀ j, j < m → w.cell? (x.add (i * m + j)) = some (.int .i64 (z j)) ∧ (Lit.int .i64 (z j)).wf = true := by
      intro i hi
      obtain ⟨cs', h1, h2⟩ := hx i (by rw [hmm]; simp; omega)
      rw [hc] at h1
      obtain ⟨_, hlen, hcell⟩ := World.cells?_some h1
      obtain ⟨xs, k, _, _, _, hxl, hfld⟩ := DataW.trod_struct he h2
      have one : ∀ j, j < m → ∃ z, w.cell? (x.add (i * m + j)) = some (.int .i64 z) ∧ (Lit.int .i64 z).wf = true := by
        intro j hj
        obtain ⟨o, k1⟩ := hone_of hone j fs[j] (by simp [hm, hj])
        have hft : fs[j].type = I := by
          have := List.all_eq_true.1 hty fs[j] (by simp)
          simpa using this
        have g := hfld j fs[j] (by simp [hm, hj])
        obtain ⟨y, hy⟩ : ∃ y, xs[j]? = some y := ⟨xs[j]'(by omega), by simp [hxl, hm, hj]⟩
        rw [hy, hft] at g
        obtain ⟨z, hz, _, hw⟩ := DataW.trod_int hI g
        rw [hft] at k1
        rw [o, k1] at hz
        have e0 := hcell j hj
        rw [add_add] at e0
        refine ⟨z, ?_, hw⟩
        rw [e0]
        have : (cs'.drop j).take 1 = [Value.int .i64 z] := hz
        have h3 : (cs'.drop j)[0]? = some (Value.int .i64 z) := by
          have h4 := congrArg (fun l : List Value => l[0]?) this
          simpa [List.getElem?_take] using h4
        simpa using h3
      obtain ⟨z, hz⟩ := choose_lt (α := Int) one
      exact ⟨z, hz⟩
    obtain ⟨Z, hZ⟩ := choose_lt (α := Nat → Int) each
    obtain ⟨b, off, spot⟩ := x
    have s0 := (hZ 0 (by omega) 0 (by omega)).1
    have hspot : spot = none := by
      have := World.cell?_spot s0
      simpa [Addr.add] using this
    subst hspot
    refine ⟨Z, Or.inr ⟨b, off, rfl, ?_, fun i j hi hj => ?_⟩⟩
    · have := World.block_lt_of_cell? w _ s0
      simpa [Addr.add] using this
    · have := hZ i hi j hj
      refine ⟨?_, bounds_i64 this.2⟩
      rw [← this.1, Addr.add_lit, Nat.add_assoc]

/-- What the walk is told of a slice of bytes that came in. -/
def ByteRow (w : World) (a : Option Addr) (len : Nat) (z : Nat → Int) : Prop :=
  len = 0 ∨ ∃ b off, a = some ⟨b, off, none⟩ ∧ b < w.heap.size ∧ ∀ i, i < len → w.cell? ⟨b, off + i, none⟩ = some (.int .u8 (z i)) ∧ 0 ≤ z i ∧ z i ≤ 255

open Go.ChangeShapes Go.WideShapes Go.ChangeAt in
theorem open_byte_row {H : Type} {enc : TypeId × Value → H} {P : Program} {w : World} {t e : TypeId} (ht : P.underlying t = some (.slice e)) (he : P.underlying e = some (.int .u8)) (hc : P.cellsOf e = 1)
    {a : Option Addr} {len cap : Nat} {d : DataW H} {ps : List MemPlace} (h : DataW.Trod enc P w 0 (fun _ => true) true t (.slice a len cap) d ps) :
    (∃ z, ByteRow w a len z) ∧ len ≤ maxLen := by
  obtain ⟨fuel, hf⟩ := h
  rcases open_ints ht he hc hf with ⟨hcs, _⟩ | ⟨x, l, c, zs, hcs, _, hl, hm, hz, _, hcell, hwz⟩
  · simp [Value.cells] at hcs
    obtain ⟨rfl, rfl, rfl⟩ := hcs
    exact ⟨⟨fun _ => 0, Or.inl rfl⟩, Nat.zero_le _⟩
  · simp [Value.cells] at hcs
    obtain ⟨rfl, rfl, rfl⟩ := hcs
    refine ⟨?_, Nat.le_trans hl hm⟩
    by_cases h0 : len = 0
    · exact ⟨fun _ => 0, Or.inl h0⟩
    have hzl : zs.length = cap := by simpa using hz
    obtain ⟨b, off, spot⟩ := x
    have s0 := hcell 0 (by omega)
    have hspot : spot = none := by simpa [Addr.add] using World.cell?_spot s0
    subst hspot
    refine ⟨fun i => zs.getD i 0, Or.inr ⟨b, off, rfl, ?_, fun i hi => ?_⟩⟩
    · have := World.block_lt_of_cell? w _ s0
      simpa [Addr.add] using this
    · have h1 := hcell i (by omega)
      rw [Addr.add_lit] at h1
      have hmem : zs.getD i 0 ∈ zs := by
        have : i < zs.length := by omega
        simp [List.getD, this]
      exact ⟨h1, bounds_u8 (hwz _ hmem)⟩
end Go.Proofs.YtpaodffckhnieaaDoor
