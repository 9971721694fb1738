/-
  A range over an iterator that keeps its place in a variable of its own: a law for the walk. No condition.
-/
import Derived.Test.YtlmelbijgckfpaaDoorRows
import Derived.Test.YtlmelbijgckfpaaDoorKit
import Derived.RangeFuncNested
import Derived.RangeFuncBound
import Derived.RangeFuncCalls
import Derived.RangeFuncLeaves
import Derived.RangeFuncBox
import Derived.Shelf.Abstract
import Derived.Shelf.RegionOpen
import Derived.WalkKit
import Derived.OwnWalkIn
import Derived.TacticsInMore
import Derived.LoopNIn
import Derived.LoopIn
namespace Go.Proofs.YtlmelbijgckfpaaDoor
open Go.RowKit

/-- As w was but for block b, and new blocks. -/
def But (b : Nat) (w w' : World) : Prop := w.grownBy w' (some b)
theorem But.refl (b : Nat) (w : World) : But b w w := World.grownBy.refl w _
theorem But.trans {b : Nat} {u v w : World} (h : But b u v) (k : But b v w) : But b u w :=
  ⟨k.os.trans h.os, k.tape.trans h.tape, k.output.trans h.output, Nat.le_trans h.size k.size, fun i hi hne => (k.block i (Nat.lt_of_lt_of_le hi h.size) hne).trans (h.block i hi hne)⟩
theorem But.under {b : Nat} {u v w : World} (h : But b u v) (k : Below u.heap.size v w) : But b u w :=
  ⟨k.os.trans h.os, k.tape.trans h.tape, k.output.trans h.output, Nat.le_trans h.size k.size, fun i hi hne => (k.block i hi).trans (h.block i hi hne)⟩
theorem But.below {b : Nat} {u v w : World} (h : But b u v) (k : Below v.heap.size v w) : But b u w := h.under (k.mono h.size)
theorem But.put {b : Nat} {u v : World} (h : But b u v) (i : Nat) (x : Value) : But b u (v.setCell ⟨b, i, none⟩ x) :=
  h.trans ⟨rfl, rfl, rfl, by simp [World.setCell], fun k hk hne => Below.heap_setCell _ _ _ _ (fun e => hne (by rw [e]))⟩
theorem But.toBelow {b B : Nat} {w w' : World} (h : But b w w') (hb : B ≤ b) (hB : B ≤ w.heap.size) : Below B w w' :=
  ⟨h.os, h.tape, h.output, h.size, fun k hk => h.block k (by omega) (fun e => by cases e; omega)⟩
theorem But.at {b k : Nat} {o : Obj} {w w' : World} (h : But b w w') (hk : w.heap[k]? = some o) (hne : k ≠ b) : w'.heap[k]? = some o :=
  (h.block k (Array.getElem?_eq_some_iff.1 hk).1 (fun e => hne (by cases e; rfl))).trans hk

/-- What the blocks from lo to hi hold lies as it lay. -/
def KeepsIn (lo up : Nat) (w w' : World) : Prop := ∀ k o, lo ≤ k → k < up → w.heap[k]? = some o → w'.heap[k]? = some o
theorem KeepsIn.refl (lo up : Nat) (w : World) : KeepsIn lo up w w := fun _ _ _ _ h => h
theorem KeepsIn.trans {lo up : Nat} {u v w : World} (h : KeepsIn lo up u v) (k : KeepsIn lo up v w) : KeepsIn lo up u w := fun i o h1 h2 ho => k i o h1 h2 (h i o h1 h2 ho)
theorem KeepsIn.put {lo up l : Nat} (w : World) (o : Obj) (hne : up ≤ l) : KeepsIn lo up w (w.putObj l o) := fun k _ _ h2 h => (World.putObj_heap_other (by omega)).trans h
theorem KeepsIn.of_below {lo up : Nat} {w w' : World} (h : Below w.heap.size w w') : KeepsIn lo up w w' := fun k _ _ _ ho => (h.block k (Array.getElem?_eq_some_iff.1 ho).1).trans ho

/-- What holds no cells and lies from B on lies as it lay. -/
structure KeepsHigh (B : Nat) (w w' : World) : Prop where
  size : w.heap.size ≤ w'.heap.size
  same : ∀ (k : Nat) (o : Obj), B ≤ k → w.heap[k]? = some o → o.isCells = false → w'.heap[k]? = some o
theorem KeepsHigh.refl (B : Nat) (w : World) : KeepsHigh B w w := ⟨Nat.le_refl _, fun _ _ _ h _ => h⟩
theorem KeepsHigh.trans {B : Nat} {u v w : World} (h : KeepsHigh B u v) (k : KeepsHigh B v w) : KeepsHigh B u w := ⟨Nat.le_trans h.size k.size, fun i o hB hi ho => k.same i o hB (h.same i o hB hi ho) ho⟩

/-- A step that an invariant of the caller's bears: new blocks; a turn of block b, or of one that lies from B on and holds no cells. -/
def Mild (B b : Nat) (w w' : World) : Prop := ∃ row, w.grownBy w' row ∧ ∀ r, row = some r → r = b ∨ (B ≤ r ∧ ∃ o : Obj, w.heap[r]? = some o ∧ o.isCells = false)
theorem Mild.but {B b : Nat} {w w' : World} (h : But b w w') : Mild B b w w' := ⟨some b, h, fun r e => by cases e; exact Or.inl rfl⟩
theorem Mild.alloc (B b : Nat) (w : World) (o : Obj) : Mild B b w (w.alloc o) := ⟨none, World.grownBy_alloc w o none, fun r e => by cases e⟩
theorem Mild.put {B b l : Nat} {w : World} {o : Obj} (o' : Obj) (hB : B ≤ l) (hl : w.heap[l]? = some o) (ho : o.isCells = false) : Mild B b w (w.putObj l o') :=
  ⟨some l, grownBy_putObj' w l o', fun r e => by cases e; exact Or.inr ⟨hB, o, hl, ho⟩⟩
/-- Old memory bears such a step where the iterator's block is a new one. -/
theorem Mild.below {B b B0 : Nat} {a w w' : World} (h : Mild B b w w') (h0 : Below B0 a w) (hw : B0 ≤ w.heap.size) (hb : B0 ≤ b) (hB : B0 ≤ B) : Below B0 a w' := by
  obtain ⟨row, hg, hr⟩ := h
  exact h0.grown hg hw fun k e => by
    rcases hr k e with rfl | ⟨h1, _⟩
    · exact hb
    · exact Nat.le_trans hB h1
/-- Cells bear such a step. -/
theorem Mild.at {B b k : Nat} {o : Obj} {w w' : World} (h : Mild B b w w') (hk : w.heap[k]? = some o) (ho : o.isCells = true) (hne : k ≠ b) : w'.heap[k]? = some o := by
  obtain ⟨row, hg, hr⟩ := h
  refine (hg.block k (Array.getElem?_eq_some_iff.1 hk).1 fun e => ?_).trans hk
  rcases hr k e.symm with h1 | ⟨_, o', h2, h3⟩
  · exact hne h1
  · rw [hk] at h2; cases h2; rw [ho] at h3; cases h3
theorem Mild.blk {B b g : Nat} {t : TypeId} {cs : Array Value} {w w' : World} (h : Mild B b w w') (k : Blk w g t cs) (hne : g ≠ b) : Blk w' g t cs := h.at k rfl hne

variable {P : Program} {n : Nat}

/-- The iterator g hands out the values xs, one a round, and writes nothing that lay but its own block b. -/
def GivesBox (P : Program) (n g : Nat) (lb : Array Value) (b lo up : Nat) (xs : List Value) (w : World) : Prop :=
  ∀ (l : Nat) (J Jx : Nat → World → Prop) (W : World), Below w.heap.size w W → (∀ k A B, J k A → But b A B → J k B) →
    (∀ k x A, xs[k]? = some x → J k A → YieldAt Fence.wide (n - 1) P l #[x] A fun e A' =>
      (e = .returned (.bool true) ∧ J (k + 1) A' ∧ KeepsIn lo up A A') ∨ (e = .returned (.bool false) ∧ Jx (k + 1) A')) →
    J 0 W →
    CallsIn Fence.wide n P g (#[.func (.yield l) #[] #[]] ++ lb) W fun e W' => (∃ v, e = .returned v) ∧ (J xs.length W' ∨ ∃ k, k ≤ xs.length ∧ Jx k W')

/-- How a round's body may be left. -/
def boxPost (B lo up : Nat) (I : Nat → World → Prop) (Ix : Code → Nat → World → Prop) (k : Nat) (W : World) : Exit → Act → World → Prop
  | .normal, _, W' => KeepsHigh B W W' ∧ KeepsIn lo up W W' ∧ I k W'
  | .ret, _, W' => KeepsHigh B W W' ∧ Ix .ret k W'
  | .exit id, _, W' => KeepsHigh B W W' ∧ Ix (.exit id) k W'
  | .goto t, _, W' => KeepsHigh B W W' ∧ Ix (.goto t) k W'
  | .panic _, _, _ => False
  | .outgrown, _, _ => False

/-- The loop's record, and the block for its rounds' deferred calls. -/
structure Book (w : World) (r : Loop) (W : World) : Prop where
  rcd : W.heap[w.heap.size + 1]? = some (.loop r)
  dfr : W.heap[w.heap.size]? = some (.deferred (some []))
theorem Book.but {w A B : World} {r : Loop} {b : Nat} (h : Book w r A) (hb : b < w.heap.size) (k : But b A B) : Book w r B :=
  ⟨k.at h.rcd (by omega), k.at h.dfr (by omega)⟩
theorem Book.keeps {w A B : World} {r : Loop} (h : Book w r A) (k : KeepsHigh w.heap.size A B) : Book w r B := ⟨k.same _ _ (Nat.le_succ _) h.rcd rfl, k.same _ _ (Nat.le_refl _) h.dfr rfl⟩
theorem Book.lt {w A : World} {r : Loop} (h : Book w r A) : w.heap.size + 1 < A.heap.size := (Array.getElem?_eq_some_iff.1 h.rcd).1
theorem Book.put {w A : World} {r : Loop} (h : Book w r A) (r' : Loop) : Book w r' (A.putObj (w.heap.size + 1) (.loop r')) :=
  ⟨World.putObj_heap_same h.lt, (World.putObj_heap_other (by omega)).trans h.dfr⟩

theorem wpIn_range_box {g : Operand} {ps : Array Tmp} {assign body : Code} {Q : Exit → Act → World → Prop} {a : Act} {w W0 : World} {gf b lo up : Nat} {lb : Array Value} {xs : List Value}
    (hg : a.eval g = .func (.func gf) #[] lb) (eg : ∀ args w, (callFunc gf args).run P w = .ok (.enter gf args) w) (hps : ps.size = 1)
    (hb : b < w.heap.size) (hup : up ≤ w.heap.size) (hseq : GivesBox P (n - 1) gf lb b lo up xs W0) (hW0 : Below W0.heap.size W0 w)
    (I : Nat → World → Prop) (Ix : Code → Nat → World → Prop) (hI : ∀ k A B, I k A → Mild w.heap.size b A B → I k B) (hIx : ∀ c k A B, Ix c k A → Mild w.heap.size b A B → Ix c k B) (h0 : I 0 w) (a₁ : Value → Act)
    (hassign : ∀ (l : Nat) (x : Value) (W : World) (K : Act → World → Prop), K (a₁ x) W →
      assign.wpIn (Fence.wide.inRound l) (n - 1 - 1) P (Exit.then K (fun _ _ _ => False)) { tmps := (ps.zip #[x]).foldl (fun t (p, v) => t.setIfInBounds p v) a.tmps, defers := [] } W)
    (hbody : ∀ (l k : Nat) (x : Value) (W : World), xs[k]? = some x → I k W → body.wpIn (Fence.wide.inRound l) (n - 1 - 1) P (boxPost w.heap.size lo up I Ix (k + 1) W) (a₁ x) W)
    (hdone : ∀ (D : Nat) (W : World), w.heap.size ≤ D → I xs.length W → W.heap[D]? = some (.deferred (some [])) → Q .normal { a with defers := { target := .collected D, args := #[] } :: a.defers } W)
    (hstop : ∀ (D : Nat) (c : Code) (k : Nat) (W : World), w.heap.size ≤ D → k ≤ xs.length → Ix c k W → W.heap[D]? = some (.deferred (some [])) → c.wpIn Fence.wide n P Q { a with defers := { target := .collected D, args := #[] } :: a.defers } W) :
    (Code.rangeFunc g ps assign body).wpIn Fence.wide n P Q a w := by
  refine wpIn_rangeFunc fun fn hfn => ?_
  -- the record, in its states
  obtain ⟨rc, hrec⟩ : ∃ rc : LoopState → Option Code → Loop, rc = fun st pe => { state := st, pending := pe, fn, tmps := a.tmps, params := ps, assign, body, defers := w.heap.size } := ⟨_, rfl⟩
  have hst : ∀ st pe, (rc st pe).state = st := fun st pe => by rw [hrec]
  have hpe : ∀ st pe, (rc st pe).pending = pe := fun st pe => by rw [hrec]
  have hset : ∀ st pe st' pe', { rc st pe with state := st', pending := pe' } = rc st' pe' := fun st pe st' pe' => by rw [hrec]
  have hset1 : ∀ st pe st', { rc st pe with state := st' } = rc st' pe := fun st pe st' => by rw [hrec]
  obtain ⟨W1, hW1⟩ : ∃ W1, (w.alloc (.deferred (some []))).alloc (.loop (rc .ready none)) = W1 := ⟨_, rfl⟩
  have start : Book w (rc .ready none) W1 := by
    refine ⟨?_, ?_⟩
    · rw [← hW1]
      have := World.alloc_heap_new (w.alloc (.deferred (some []))) (.loop (rc .ready none))
      rwa [World.size_alloc] at this
    · rw [← hW1]
      exact (Below.heap_alloc _ _ _ (by simp)).trans (World.alloc_heap_new w _)
  have hI1 : I 0 W1 := by rw [← hW1]; exact hI _ _ _ (hI _ _ _ h0 (Mild.alloc _ _ _ _)) (Mild.alloc _ _ _ _)
  have hbW : Below w.heap.size w W1 := by rw [← hW1]; exact ((Below.refl _ w).alloc (Nat.le_refl _) _).alloc (by simp) _
  refine ⟨w.heap.size + 1, [{ target := .collected w.heap.size, args := #[] }], W1, { target := .fn (.func gf) lb, args := #[.func (.yield (w.heap.size + 1)) #[] #[]] }, W1, gf,
    #[.func (.yield (w.heap.size + 1)) #[] #[]] ++ lb, W1, ?_, ?_, fun _ _ => trivial, ?_, fun h => (by cases h), ?_⟩
  · rw [← hW1, hrec]; exact run_enterLoop_outer _ _ _ _ _
  · simp only [resolve, hg]
    simp [go_sem]
  · simp [invoke, go_sem, eg]
  refine (hseq (w.heap.size + 1) (fun k W => I k W ∧ Book w (rc .ready none) W) (fun k W => ∃ c, Ix c k W ∧ Book w (rc .done (some c)) W) W1 (hW0.trans (hbW.mono hW0.size))
    (fun k A B h hbt => ⟨hI _ _ _ h.1 (Mild.but hbt), h.2.but hb hbt⟩) ?_ ⟨hI1, start⟩).mono ?_
  · -- a round
    rintro k x W hx ⟨hi, bk⟩
    have hy := run_yield (P := P) (args := #[x]) bk.rcd (by rw [hrec]; exact hps.symm)
    rw [hrec] at hy
    have bk2 := bk.put (rc .busy none)
    have hbegin : (Instr.beginRound (w.heap.size + 1)).run P W = .ok () (W.putObj (w.heap.size + 1) (.loop (rc .busy none))) := by
      rw [run_beginRound bk.rcd (hst _ _), hset1]
    have ks0 : KeepsIn lo up W (W.putObj (w.heap.size + 1) (.loop (rc .busy none))) := KeepsIn.put _ _ (by omega)
    refine ⟨fn, _, assign, body, hy, roundIn_of_wpIn hfn (hassign _ x W _ ⟨_, hbegin, ?_⟩)⟩
    refine wpIn_mono (hbody _ k x _ hx (hI _ _ _ hi (Mild.put _ (Nat.le_succ _) bk.rcd rfl))) fun e a3 W3 hp => ?_
    -- what the round's end does, whichever way
    have ends : ∀ (jump : Option Code), KeepsHigh w.heap.size (W.putObj (w.heap.size + 1) (.loop (rc .busy none))) W3 →
        (Instr.endRound (w.heap.size + 1) jump).run P W3 = .ok (.bool jump.isNone) (W3.putObj (w.heap.size + 1) (.loop (rc (if jump.isNone then .ready else .done) jump)))
        ∧ Book w (rc (if jump.isNone then .ready else .done) jump) (W3.putObj (w.heap.size + 1) (.loop (rc (if jump.isNone then .ready else .done) jump)))
        ∧ W3.heap[w.heap.size + 1]? = some (.loop (rc .busy none)) := fun jump ko => by
      have bk3 := bk2.keeps ko
      refine ⟨?_, bk3.put _, bk3.rcd⟩
      rw [run_endRound jump bk3.rcd, hset]
    cases e with
    | normal =>
      obtain ⟨ko, k1, hi3⟩ := hp
      obtain ⟨hr, bk4, hl⟩ := ends none ko
      exact ⟨_, _, hr, Or.inl ⟨rfl, ⟨hI _ _ _ hi3 (Mild.put _ (Nat.le_succ _) hl rfl), bk4⟩, (ks0.trans k1).trans (KeepsIn.put _ _ (by omega))⟩⟩
    | ret =>
      obtain ⟨ko, hi3⟩ := hp
      obtain ⟨hr, bk4, hl⟩ := ends (some .ret) ko
      exact ⟨_, _, hr, Or.inr ⟨rfl, .ret, hIx _ _ _ _ hi3 (Mild.put _ (Nat.le_succ _) hl rfl), bk4⟩⟩
    | exit id =>
      obtain ⟨ko, hi3⟩ := hp
      obtain ⟨hr, bk4, hl⟩ := ends (some (.exit id)) ko
      exact ⟨_, _, hr, Or.inr ⟨rfl, .exit id, hIx _ _ _ _ hi3 (Mild.put _ (Nat.le_succ _) hl rfl), bk4⟩⟩
    | goto t =>
      obtain ⟨ko, hi3⟩ := hp
      obtain ⟨hr, bk4, hl⟩ := ends (some (.goto t)) ko
      exact ⟨_, _, hr, Or.inr ⟨rfl, .goto t, hIx _ _ _ _ hi3 (Mild.put _ (Nat.le_succ _) hl rfl), bk4⟩⟩
    | panic ch => exact hp.elim
    | outgrown => exact hp.elim
  · -- behind the iterator
    rintro e W2 ⟨⟨v, rfl⟩, (⟨hi, bk⟩ | ⟨k, hk, c, hi, bk⟩)⟩
    · refine ⟨none, _, ?_, hdone w.heap.size _ (Nat.le_refl _) (hI _ _ _ hi (Mild.put _ (Nat.le_succ _) bk.rcd rfl)) (bk.put (rc .exhausted none)).dfr⟩
      rw [run_endLoop bk.rcd (by rw [hst]; simp), hset1, hpe]
    · refine ⟨some c, _, ?_, hstop w.heap.size c k _ (Nat.le_refl _) hk (hIx _ _ _ _ hi (Mild.put _ (Nat.le_succ _) bk.rcd rfl)) (bk.put (rc .exhausted (some c))).dfr⟩
      rw [run_endLoop bk.rcd (by rw [hst]; simp), hset1, hpe]
end Go.Proofs.YtlmelbijgckfpaaDoor
