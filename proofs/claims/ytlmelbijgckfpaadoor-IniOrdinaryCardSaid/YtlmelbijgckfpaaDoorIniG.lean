/-
  A text told to a set; the program's set. No condition but on lengths.
-/
import Derived.Test.YtlmelbijgckfpaaDoorIniF
namespace Go.Proofs.YtlmelbijgckfpaaDoor
open Go.RowKit Go.Maps
set_option linter.unusedVariables false
set_option linter.unusedSimpArgs false
set_option maxRecDepth 100000

theorem setBlock_twice (w : World) (b : Nat) (o o' : Obj) : ChangeMaps.setBlock (ChangeMaps.setBlock w b o) b o' = ChangeMaps.setBlock w b o' := by
  unfold ChangeMaps.setBlock
  simp only [Array.setIfInBounds_setIfInBounds]
theorem SetM.entry {w : World} {M : Nat} {l : List ByteArray} (h : SetM w M l) (x : ByteArray) (hx : x.size ≤ maxLen) (hl : l.length < maxLen) :
    ∃ (v0 : Value) (st : Nat) (w1 w2 : World), (Instr.mapEntry 41 (.map (some M)) (.string x)).run Tryd.prog w = .ok (.tuple #[v0, .int .i64 st]) w1 ∧
      (Instr.entryStore 41 (.map (some M)) (.int .i64 st) (.bool true)).run Tryd.prog w1 = .ok () w2 ∧ SetM w2 M (l ++ [x]) ∧ w.grownBy w2 (some M) := by
  obtain ⟨D, hown, hD⟩ := h
  obtain ⟨w', hrun', hown', hg'⟩ := hown.update (string_keyed Tryd.underlying9) Tryd.underlying41 hl (val := .bool true) (key_str x hx) (plainElem_bool Tryd.underlying4 true)
  obtain ⟨es, clock, hb, F, hs, rfl⟩ := hown
  have hz : ∀ u : World, (zeroValue 4).run Tryd.prog u = .ok (.bool false) u := by intro u; kernel_rfl
  obtain ⟨v0, st, es1, clock1, hrun1, _, hstore⟩ := WideElems.entry_then_store (WideMaps.string_law Tryd.underlying9) Tryd.underlying41 hz hb F (key_str x hx)
  obtain ⟨es', clock', hrun2, hup⟩ := hstore _ (.bool true) (ChangeMaps.heap_setBlock_same hb _)
  rw [setBlock_twice] at hrun2
  have hw : w' = ChangeMaps.setBlock w M (.map es' clock') := by
    rw [hup] at hrun'
    injection hrun' with _ e
    exact e.symm
  refine ⟨v0, st, _, _, hrun1, hrun2, ⟨_, by rw [List.length_append]; rw [hw] at hown'; exact hown', fun y => ?_⟩, by rw [hw] at hg'; exact hg'⟩
  rw [atKey_put_str, hD y, isIn_snoc]
  by_cases e : x = y
  · subst e; simp
  · have : ¬ x.data.toList = y.data.toList := fun e2 => e ((bs_of x).symm.trans ((congrArg bs e2).trans (bs_of y)))
    rw [if_neg this]
    simp [e]

/-- The cells of a text under way: settings, and the map of what was told. -/
def txtL (c : Cfg) (v m : Value) : List Value := c.n.map (Value.int .i64) ++ [v, m]
theorem txtL_num (c : Cfg) (v m : Value) (h : c.n.length = 6) (i : Nat) (hi : i < 6) : (txtL c v m).toArray[i]? = some (.int .i64 (c.n.getD i 0)) := by
  unfold txtL
  rw [List.getElem?_toArray, List.getElem?_append_left (by simp [h]; exact hi), List.getElem?_map, List.getD_eq_getElem?_getD, List.getElem?_eq_getElem (by omega)]; rfl
theorem txtL_ps (c : Cfg) (v m : Value) (h : c.n.length = 6) : (txtL c v m).toArray[6]? = some v := by
  unfold txtL
  rw [List.getElem?_toArray, List.getElem?_append_right (by simp [h])]
  simp [h]
theorem txtL_map (c : Cfg) (v m : Value) (h : c.n.length = 6) : (txtL c v m).toArray[7]? = some m := by
  unfold txtL
  rw [List.getElem?_toArray, List.getElem?_append_right (by simp [h])]
  simp [h]
theorem txtL_put (c : Cfg) (v m : Value) (h : c.n.length = 6) (i : Nat) (hi : i < 6) (x : Int) : (txtL c v m).toArray.setIfInBounds i (.int .i64 x) = (txtL (c.put i x) v m).toArray := by
  unfold txtL Cfg.put
  rw [List.setIfInBounds_toArray, List.set_append_left _ _ (by simp [h]; exact hi), List.map_set]
theorem txtL_row (c : Cfg) (v u m : Value) (h : c.n.length = 6) : (txtL c v m).toArray.setIfInBounds 6 u = (txtL c u m).toArray := by
  unfold txtL
  rw [List.setIfInBounds_toArray, List.set_append_right _ _ (by simp [h])]
  simp [h]
/-- Block T is a text under way, block M its map. -/
def RTxt (w : World) (T M base : Nat) (st : St) : Prop :=
  st.c.n.length = 6 ∧ M ≠ T ∧ SetM w M st.seen ∧ ∃ v, Blk w T 43 (txtL st.c v (.map (some M))).toArray ∧ w.ownsRow base 40 2 v st.c.ps.length (pairCells st.c.ps)
theorem Low.map {T M B : Nat} {w w' : World} (hg : w.grownBy w' (some M)) (hM : M < B) (hB : B ≤ w.heap.size) : Low T M B w w' :=
  ⟨hg.os, hg.tape, hg.output, hg.size, fun k hk _ h2 => hg.block k (by omega) (fun e => h2 (by cases e; rfl)),
    fun k o hk ho _ => (hg.block k (Array.getElem?_eq_some_iff.1 ho).1 (fun e => by cases e; omega)).trans ho⟩
theorem SetM.lt {w : World} {M : Nat} {l : List ByteArray} (h : SetM w M l) : M < w.heap.size := by
  obtain ⟨D, h1, _⟩ := h
  exact h1.lt

set_option maxHeartbeats 2000000 in
theorem set_any (T M base : Nat) (st : St) (name value : ByteArray) (w : World) (hT : T < base) (hM : M < base) (hb : base ≤ w.heap.size) (hn : name.size ≤ 1000000) (hs : st.seen.length ≤ 1000000) (hr : RTxt w T M base st) :
    Calls Tryd.prog 35 #[.pointer (some ⟨T, 0, none⟩), .string name, .string value] w fun e w' => e = .returned (.int .i64 (setP st name value).1) ∧ RTxt w' T M base (setP st name value).2 ∧ Low T M base w w' := by
  have HR := hide hr
  obtain ⟨h6, hne, hset, v, hblk, hrow⟩ := hr
  have hm : maxLen = 9223372036854775807 ∨ 1000001 ≤ maxLen := by unfold maxLen; omega
  have hnm : name.size ≤ maxLen := by unfold maxLen; omega
  have hlook := hset.look name hnm
  have c7 := hblk.cell 7
  rw [txtL_map _ _ _ h6] at c7
  have f7 := hblk.frozen 7
  have HLook := hide hlook
  have HBlk := hide hblk
  have HRow := hide hrow
  have HSet := hide hset
  clear hblk hrow hset hlook hm
  cases hx : nameIx name with
  | none =>
    have HV : Hid (atV T name = .pointer none) := by show _ = _; unfold atV; rw [hx]
    have HE : Hid (setP st name value = (9, st)) := by show _ = _; unfold setP; rw [hx]
    rw [HE.out]
    clear hx
    go_enter Tryd.func35, Tryd.ntmps35
    go_wp2_with fail
    refine (number_any T name _).mono ?_
    rintro e w2 ⟨rfl, rfl⟩
    rw [HV.out]
    go_wp2_with fail
    go_returns
    exact ⟨rfl, HR.out, Low.refl _ _ _ _⟩
  | some i =>
    have hi6 := nameIx_lt name i hx
    have HV : Hid (atV T name = .pointer (some ⟨T, i, none⟩)) := by show _ = _; unfold atV; rw [hx]
    cases hpn : parseN value 2147483648 with
    | none =>
      have HE : Hid (setP st name value = (4, st)) := by show _ = _; unfold setP; rw [hx]; simp only []; rw [hpn]
      have HPV : Hid (parseV (parseN value 2147483648) = .tuple #[.int .i64 0, .bool false]) := by show _ = _; rw [hpn]; rfl
      rw [HE.out]
      clear hx hpn
      go_enter Tryd.func35, Tryd.ntmps35
      go_wp2_with fail
      refine (number_any T name _).mono ?_
      rintro e w2 ⟨rfl, rfl⟩
      rw [HV.out]
      go_wp2_with fail
      refine (parse_any value _ _).mono ?_
      rintro e w2 ⟨rfl, rfl⟩
      rw [HPV.out]
      go_wp2_with fail
      go_returns
      exact ⟨rfl, HR.out, Low.refl _ _ _ _⟩
    | some x =>
      have HPV : Hid (parseV (parseN value 2147483648) = .tuple #[.int .i64 x, .bool true]) := by show _ = _; rw [hpn]; rfl
      cases hin : isIn name st.seen with
      | true =>
        have HE : Hid (setP st name value = (8, st)) := by show _ = _; unfold setP; rw [hx]; simp only []; rw [hpn]; simp [hin]
        have hlook := HLook.out
        rw [hin] at hlook
        rw [HE.out]
        clear hx hpn hin
        go_enter Tryd.func35, Tryd.ntmps35
        go_wp2_with fail
        refine (number_any T name _).mono ?_
        rintro e w2 ⟨rfl, rfl⟩
        rw [HV.out]
        go_wp2_with fail
        refine (parse_any value _ _).mono ?_
        rintro e w2 ⟨rfl, rfl⟩
        rw [HPV.out]
        go_wp2_with fail
        go_returns
        exact ⟨rfl, HR.out, Low.refl _ _ _ _⟩
      | false =>
        have HE : Hid (setP st name value = (0, ⟨st.c.put i x, st.seen ++ [name]⟩)) := by show _ = _; unfold setP; rw [hx]; simp only []; rw [hpn]; simp [hin]
        have hlook := HLook.out
        rw [hin] at hlook
        rw [HE.out]
        have g0 := HBlk.out.cell i
        rw [txtL_num _ _ _ h6 i hi6] at g0
        have f0 := HBlk.out.frozen i
        have hput := HBlk.out.put i (.int .i64 x)
        rw [txtL_put _ _ _ h6 i hi6] at hput
        have hset2 : SetM (w.setCell ⟨T, i, none⟩ (.int .i64 x)) M st.seen := HSet.out.same (Below.heap_setCell w ⟨T, i, none⟩ _ M hne)
        have hsz : (w.setCell ⟨T, i, none⟩ (.int .i64 x)).heap.size = w.heap.size := by simp [World.setCell]
        have hb2 : base ≤ (w.setCell ⟨T, i, none⟩ (.int .i64 x)).heap.size := by rw [hsz]; exact hb
        obtain ⟨v0, nt, W1, W2, e1, e2, hset3, hg3⟩ := hset2.entry name hnm (by unfold maxLen; omega)
        have hblk3 := hput.grown hg3 (fun e => hne (by cases e; rfl))
        have hrow3 := (own_cells2 HRow.out hT i (.int .i64 x)).kept hg3 (by
          cases hv : v.ownBlock with
          | none => exact .inl rfl
          | some j =>
            refine .inr fun e => ?_
            have h1 := own_ge HRow.out hv
            have h2 : j = M := by simpa using e
            omega)
        have HFin : Hid (RTxt W2 T M base ⟨st.c.put i x, st.seen ++ [name]⟩ ∧ Low T M base w W2) :=
          ⟨⟨by rw [put_length]; exact h6, hne, hset3, v, hblk3, hrow3⟩, (Low.put w hT i _).trans (Low.map hg3 hM hb2)⟩
        clear hx hpn hin hput hset2 hsz hb2 hset3 hg3 hblk3 hrow3
        go_enter Tryd.func35, Tryd.ntmps35
        go_wp2_with fail
        refine (number_any T name _).mono ?_
        rintro e w2 ⟨rfl, rfl⟩
        rw [HV.out]
        go_wp2_with fail
        refine (parse_any value _ _).mono ?_
        rintro e w2 ⟨rfl, rfl⟩
        rw [HPV.out]
        go_wp2_with fail
        go_returns
        exact ⟨rfl, HFin.out⟩
end Go.Proofs.YtlmelbijgckfpaaDoor
