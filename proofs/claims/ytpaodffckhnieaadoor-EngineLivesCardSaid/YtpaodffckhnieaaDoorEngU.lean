/-
  The reference's Turn. No condition but on lengths.
-/
import Derived.Test.YtpaodffckhnieaaDoorEngT
namespace Go.Proofs.YtpaodffckhnieaaDoor
open Go.RowKit Go.Maps
set_option linter.unusedVariables false
set_option linter.unusedSimpArgs false
set_option maxRecDepth 100000

theorem wpList_append_grown {P : Program} (w : World) {ops : Array Oper} {rest : List Oper} {o : Oper} {a : Act} {Q : Exit → Act → World → Prop} (hgd : o.guard = none) (s x : Operand) (t : TypeId)
    (ho : o.op = .call { callee := .builtin .append, args := #[s, x], argTypes := #[t, t] })
    (base : Nat) (e : TypeId) (i : TypeInfo) (z : Value) (size bytes : Nat) (ht : P.underlying t = some (.slice e)) (hi : P.info? e = some i) (hz : i.zero = some z)
    (hsize : i.size = size) (hby : i.bytes = bytes) (hzs : z.cells.size = size) (hsz : 0 < size)
    (v : Value) (n : Nat) (xs us : List Value) (hown : w.ownsRow base e size v n xs) (hs : a.eval s = v) (hus : us.length = size) (hone : ∀ u ∈ us, u.oneCell' = true)
    (hx : a.eval x = .slice (some ⟨w.heap.size, 0, none⟩) 1 1)
    (h63 : n + 1 ≤ maxLen) (hbytes : (n + 1) * bytes ≤ 140737488355328) (hbase : base ≤ w.heap.size)
    (h : ∀ v' w', w'.ownsRow base e size v' (n + 1) (xs ++ us) → (w.alloc (.cells us.toArray e)).grownBy w' v.ownBlock → wpList P ops Q rest (a.put o.dst v') w') :
    wpList P ops Q (o :: rest) a (w.alloc (.cells us.toArray e)) := by
  refine wpList_append_own _ hgd s x t ho base e i z size bytes ht hi hz hsize hby hzs hsz v n xs hs (hown.alloc _) ⟨w.heap.size, 0, none⟩ 1 1 us hx (by omega) ?_ hone h63 hbytes (by simp; omega) ?_
  · intro j u hu
    rw [Addr.add_lit, Nat.zero_add, World.cell?_alloc_new]
    simpa using hu
  · intro v' w' hown' hg hnil
    exact h v' w' hown' hg
theorem own_kind {w : World} {B : Nat} {e : TypeId} {v : Value} {n : Nat} {xs : List Value} (h : w.ownsRow B e 1 v n xs) : ∀ g, v.ownBlock = some g → ∃ c fz, w.heap[g]? = some (.cells c e fz) := by
  intro g hg
  rcases h.2 with ⟨rfl, _⟩ | ⟨g', cap, cur, rfl, _, hgg, _⟩
  · simp [Value.ownBlock] at hg
  · simp [Value.ownBlock] at hg
    subst hg
    exact ⟨cur, _, hgg⟩
theorem wout_snoc (s x : ByteArray) (l : List ByteArray) : wout s (l ++ [x]) = if x = s then wout s l else wout s l ++ [x] := by
  unfold wout
  rw [List.filter_append]
  by_cases h : x = s
  · simp [h]
  · simp [h]
theorem turnL_no {s : ByteArray} {l : List ByteArray} (h : isIn s l = false) : turnL s l = l ++ [s] := by unfold turnL; rw [h]; rfl
theorem turnL_yes {s : ByteArray} {l : List ByteArray} (h : isIn s l = true) : turnL s l = wout s l := by unfold turnL; rw [if_pos h]

set_option maxHeartbeats 1000000 in
theorem rturn_any (G B : Nat) (l : List ByteArray) (n : Int) (s : ByteArray) (w : World) (hl : l.length ≤ 999) (hBw : B ≤ w.heap.size) (h : REng w G B l n) :
    Calls Tryd.prog 13 #[.pointer (some ⟨G, 0, none⟩), .string s] w fun e w' => e = .returned (.bool (!isIn s l)) ∧ REng w' G B (turnL s l) n ∧ RKept G B w w' := by
  obtain ⟨i0, hi, hi0, hi1, hi2⟩ := info_parts infoStr
  have HRe := hide h
  obtain ⟨v, hb, hr⟩ := h.ex
  have hlt := h.lt
  obtain ⟨a, cap, rfl⟩ := own_slice hr
  have c0 : w.cell? ⟨G, 0, none⟩ = some (.slice a l.length cap) := hb.cell 0
  have f0 := hb.frozen 0
  have HB := hide hb
  have HR := hide hr
  have HNG : Hid (some G ≠ (Value.slice a l.length cap).ownBlock) := fun e => by have := own_ge HR.out e.symm; omega
  clear h hb hr
  cases hin : isIn s l with
  | false =>
    have HT := hide (turnL_no hin)
    have HI := hide hin
    clear hin
    go_enter Tryd.func13, Tryd.ntmps13
    go_wp2_with fail
    refine (refuses_any G B l n s _ (by omega) HRe.out).mono ?_
    rintro e w1 ⟨rfl, rfl⟩
    rw [HI.out]
    go_wp2_with (at_builtin; refine wpList_append_grown w rfl _ _ 34 rfl B 9 i0 (.string ⟨#[]⟩) 1 16 Tryd.underlying34 hi hi0 hi1 hi2 rfl (by decide) _ l.length _ [.string s] HR.out rfl rfl (by simp [Value.oneCell']) rfl (by simp [maxLen]; omega) (by omega) hBw ?_; intro v4 w4 hown4 hg4; obtain ⟨da, dc, hd⟩ := own_slice hown4; subst hd; have hbT := (HB.out.alloc (.cells #[.string s] 9)).grown hg4 HNG.out; have c04 := hbT.cell 0; have f04 := hbT.frozen 0; have HbT := hide hbT; have HG4 := hide hg4; have HOwn4 := hide hown4; clear hbT hg4 hown4)
    go_wp2_with fail
    go_returns
    refine ⟨rfl, ⟨hlt, .slice da (l.length + 1) dc, HbT.out.put 0 _, ?_⟩, ?_⟩
    · rw [HT.out, texV_snoc, List.length_append]
      exact ownsRow_setCell_below HOwn4.out (a := ⟨G, 0, none⟩) hlt _
    · refine ⟨HG4.out.os, HG4.out.tape, HG4.out.output, ?_, fun k h1 h2 => ?_, ?_⟩
      · have := HG4.out.size
        simp [World.setCell] at this ⊢
        omega
      · refine (Below.heap_setCell w4 ⟨G, 0, none⟩ _ k h2).trans ?_
        refine (HG4.out.block k (by simp; omega) (fun e => by have := own_ge HR.out e.symm; omega)).trans ?_
        exact Below.heap_alloc w _ k (by omega)
      · exact (((Lib.OthersKept.refl 9 (some G) w).alloc (.cells #[.string s] 9)).grown HG4.out (own_kind (HR.out.alloc (.cells #[.string s] 9)))).setCell ⟨G, 0, none⟩ rfl _
  | true =>
    have HT := hide (turnL_yes hin)
    have HI := hide hin
    clear hin
    go_enter Tryd.func13, Tryd.ntmps13
    go_wp2_with fail
    refine (refuses_any G B l n s _ (by omega) HRe.out).mono ?_
    rintro e w1 ⟨rfl, rfl⟩
    rw [HI.out]
    go_wp2_with fail
    go_loopw [5, 6] (fun u i wr => ∃ (k : Nat) (acc : List ByteArray), i = .int .i64 k ∧ k ≤ l.length ∧ acc.length ≤ k ∧ Hid (wout s (l.take k) = acc) ∧ wr.ownsRow w.heap.size 9 1 u acc.length (texV acc) ∧ Below w.heap.size w wr) (fun _ i _ => (l.length - (intOf i).toNat))
    case atStart => exact ⟨0, [], rfl, Nat.zero_le _, Nat.zero_le _, rfl, World.ownsRow_nil _ _ _ _, Below.refl _ _⟩
    case round =>
      obtain ⟨k, acc, rfl, hk, hac, HK, hown, hB⟩ := hrel
      obtain ⟨ua, uc, rfl⟩ := own_slice hown
      have HO := hide hown
      have HBw := hide hB
      have hBs := hB.size
      have d0 : wr.cell? ⟨G, 0, none⟩ = some (.slice a l.length cap) := (HB.out.below hB HB.out.lt).cell 0
      have g0 := (HB.out.below hB HB.out.lt).frozen 0
      by_cases hkk : k < l.length
      · have hki : (k : Int) < (l.length : Int) := by omega
        have hk0 : (0 : Int) ≤ (k : Int) := by omega
        obtain ⟨b, cp, hv, hbl, _, c1⟩ := tex_cell HR.out k hkk
        cases hv
        rw [← hB.cell hbl] at c1
        have HS := hide (take_tj l k hkk)
        generalize tj l k = x at c1 HS
        clear hown hB c0 f0
        rcases eq_tests x s with ⟨h1, h2⟩ | ⟨h1, h2⟩
        · have HE : Hid (wout s (l.take (k + 1)) = acc) := by show _ = _; rw [HS.out, wout_snoc, if_pos h1]; exact HK.out
          clear h1
          go_wp2_with fail
          go_roundw
          case rel => exact ⟨k + 1, acc, by go_num, by omega, by omega, HE.out, HO.out, HBw.out⟩
          case measure => simp [intOf]; omega
        · have HE : Hid (wout s (l.take (k + 1)) = acc ++ [x]) := by show _ = _; rw [HS.out, wout_snoc, if_neg h1, HK.out]
          clear h1
          go_wp2_with (at_builtin; refine wpList_append_grown wr rfl _ _ 34 rfl w.heap.size 9 i0 (.string ⟨#[]⟩) 1 16 Tryd.underlying34 hi hi0 hi1 hi2 rfl (by decide) _ acc.length _ [.string x] HO.out rfl rfl (by simp [Value.oneCell']) rfl (by simp [maxLen]; omega) (by omega) hBs ?_; intro v4 w4 hown4 hg4; obtain ⟨da, dc, hd⟩ := own_slice hown4; subst hd; have HG4 := hide hg4; have HOwn4 := hide hown4; clear hg4 hown4)
          go_wp2_with fail
          go_roundw
          case rel =>
            refine ⟨k + 1, acc ++ [x], by go_num, by omega, by rw [List.length_append]; simp; omega, HE.out, ?_, ?_⟩
            · rw [texV_snoc, List.length_append]; exact HOwn4.out
            · exact (HBw.out.alloc hBs (.cells #[.string x] 9)).grown HG4.out (by rw [World.size_alloc]; omega) (fun j hj => own_ge HO.out hj)
          case measure => simp [intOf]; omega
      · have hki : ¬ (k : Int) < (l.length : Int) := by omega
        have HE : Hid (turnL s l = acc) := by
          show _ = _
          have := HK.out
          rw [List.take_of_length_le (by omega)] at this
          rw [HT.out, this]
        have HBk := hide (HB.out.below hB HB.out.lt)
        clear hown hB c0 f0
        go_wp2_with fail
        go_returns
        refine ⟨rfl, ⟨hlt, .slice ua acc.length uc, HBk.out.put 0 _, ?_⟩, ?_⟩
        · rw [HE.out]
          exact ownsRow_setCell_below (own_base HO.out hBw) (a := ⟨G, 0, none⟩) hlt _
        · refine ⟨HBw.out.os, HBw.out.tape, HBw.out.output, by simpa [World.setCell] using hBs, fun j h1 h2 => ?_, ?_⟩
          · exact (Below.heap_setCell wr ⟨G, 0, none⟩ _ j h2).trans (HBw.out.block j (by omega))
          · refine Lib.OthersKept.setCell (fun j o hj _ _ => ?_) ⟨G, 0, none⟩ rfl _
            exact (HBw.out.block j (Array.getElem?_eq_some_iff.1 hj).1).trans hj
end Go.Proofs.YtpaodffckhnieaaDoor
