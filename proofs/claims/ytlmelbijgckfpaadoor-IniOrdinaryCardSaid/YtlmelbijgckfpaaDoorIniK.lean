/-
  The program's Parse, of what is not too long. No condition but on lengths.
-/
import Derived.Test.YtlmelbijgckfpaaDoorIniJ
namespace Go.Proofs.YtlmelbijgckfpaaDoor
open Go.RowKit Go.Shelf Go.Maps
attribute [local go_sem] Oper.semAt_some
set_option linter.unusedVariables false
set_option linter.unusedSimpArgs false
set_option maxRecDepth 100000

/-- A whole struct into its block, at a fence. -/
theorem wpListIn_store_row {P : Program} {F : Fence} {n : Nat} {ops : Array Oper} {rest : List Oper} {o : Oper} {a : Act} {w : World} {Q : Exit → Act → World → Prop} (hgd : o.guard = none) (ty : TypeId) (x y : Operand) (ho : o.op = .store ty x y)
    (g : Nat) (cells : Array Value) (hx : a.eval x = .pointer (some ⟨g, 0, none⟩)) (hy : a.eval y = .agg cells)
    (t : TypeId) (old : Array Value) (hg : w.heap[g]? = some (.cells old t (0, 0))) (hi : (P.info? ty).map (·.size) = some cells.size)
    (hold : old.size = cells.size) (h1 : cells.all (·.oneCell') = true)
    (h : wpListIn F n P ops Q rest (a.put o.dst undef) (w.setRow g cells)) : wpListIn F n P ops Q (o :: rest) a w := by
  refine wpListIn_plain hgd fun K hK => ⟨fun f hf => by simp [Oper.about, ho] at hf, ?_⟩
  rw [Oper.semAt_eq _ _ _ (fun c => by rw [ho]; intro h; cases h)]
  unfold execOp
  simp only [ho, hx, hy, Instr.storeAt, Instr.sureAddr, Sem.run_bind, Sem.run_pure, Result.andThen_ok, run_storeVar_row w g t ty old cells hg hi hold h1]
  exact hK _ _ h
theorem Mild.old {B b k : Nat} {o : Obj} {w w' : World} (h : Mild B b w w') (hk : w.heap[k]? = some o) (hB : k < B) (hne : k ≠ b) : w'.heap[k]? = some o := by
  obtain ⟨row, hg, hr⟩ := h
  refine (hg.block k (Array.getElem?_eq_some_iff.1 hk).1 fun e => ?_).trans hk
  rcases hr k e.symm with h1 | ⟨h1, _⟩
  · exact hne h1
  · omega
theorem Mild.blk' {B b g : Nat} {t : TypeId} {cs : Array Value} {w w' : World} (h : Mild B b w w') (k : Blk w g t cs) (hne : g ≠ b) : Blk w' g t cs := h.blk k hne
theorem Mild.own {B b base e size m : Nat} {v : Value} {xs : List Value} {w w' : World} (h : Mild B b w w') (ho : w.ownsRow base e size v m xs) (hb : b < base) : w'.ownsRow base e size v m xs := by
  refine ⟨ho.1, ?_⟩
  rcases ho.2 with hn | ⟨g, cap, cur, rfl, h1, hg, rest⟩
  · exact Or.inl hn
  · exact Or.inr ⟨g, cap, cur, rfl, h1, h.at hg rfl (by omega), rest⟩
theorem SetM.mild {w w' : World} {B b M : Nat} {l : List ByteArray} (h : SetM w M l) (hm : Mild B b w w') (hB : M < B) (hne : M ≠ b) : SetM w' M l := by
  obtain ⟨D, ⟨es, clock, h1, h3⟩, h2⟩ := h
  exact ⟨D, ⟨es, clock, hm.old h1 hB hne, h3⟩, h2⟩
theorem RTxt.mild {w w' : World} {B b T M base : Nat} {st : St} (h : RTxt w T M base st) (hm : Mild B b w w') (hM : M < B) (hMb : M ≠ b) (hTb : T ≠ b) (hb : b < base) : RTxt w' T M base st := by
  obtain ⟨h6, hne, hset, v, hblk, hrow⟩ := h
  exact ⟨h6, hne, hset.mild hm hM hMb, v, hm.blk hblk hTb, hm.own hrow hb⟩
theorem linesV_at (s : ByteArray) (k : Nat) (x : Value) (h : (linesV s)[k]? = some x) : x = .string (tj (linesB s) k) ∧ k < (linesB s).length ∧ (tj (linesB s) k).size ≤ s.size := by
  rw [linesV_texts, List.getElem?_map] at h
  cases hf : (linesB s)[k]? with
  | none => rw [hf] at h; cases h
  | some f =>
    rw [hf] at h
    have hk := (List.getElem?_eq_some_iff.1 hf).1
    have e : tj (linesB s) k = f := by unfold tj; rw [List.getD_eq_getElem?_getD, hf]; rfl
    rw [e]
    exact ⟨(Option.some.inj h).symm, hk, (linesB_lens s).2 f (List.mem_of_getElem? hf)⟩
theorem lineP_lens (st : St) (s : ByteArray) : (lineP st s).2.c.ps.length ≤ st.c.ps.length + 1 ∧ (lineP st s).2.seen.length ≤ st.seen.length + 1 := by
  unfold lineP
  split
  · exact ⟨Nat.le_succ _, Nat.le_succ _⟩
  · exact oneP_lens st s
end Go.Proofs.YtlmelbijgckfpaaDoor
