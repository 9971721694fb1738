/-
  The reference's line, all its ways. No condition but on lengths.
-/
import Derived.Test.YtlmelbijgckfpaaDoorIniC
import Derived.Test.YtlmelbijgckfpaaDoorRParse
namespace Go.Proofs.YtlmelbijgckfpaaDoor
open Go.RowKit
set_option linter.unusedVariables false
set_option linter.unusedSimpArgs false
set_option maxRecDepth 100000

theorem RCfg.below {w w' : World} {C base : Nat} {c : Cfg} (h : RCfg w C base c) (hb : Below w.heap.size w w') : RCfg w' C base c := by
  obtain ⟨h6, v, hblk, hrow⟩ := h
  exact ⟨h6, v, hblk.below hb hblk.lt, own_below hrow hb⟩
/-- As wpList_append_one; told: nothing turns but the row's own block. -/
theorem wpList_append_grown {P : Program} (w : World) {ops : Array Oper} {rest : List Oper} {o : Oper} {a : Act} {Q : Exit → Act → World → Prop} (hgd : o.guard = none) (s x : Operand) (t : TypeId)
    (ho : o.op = .call { callee := .builtin .append, args := #[s, x], argTypes := #[t, t] })
    (base : Nat) (e : TypeId) (i : TypeInfo) (z : Value) (size bytes : Nat) (ht : P.underlying t = some (.slice e)) (hi : P.info? e = some i) (hz : i.zero = some z)
    (hsize : i.size = size) (hby : i.bytes = bytes) (hzs : z.cells.size = size) (hsz : 0 < size)
    (v : Value) (n : Nat) (xs us : List Value) (hown : w.ownsRow base e size v n xs) (hs : a.eval s = v) (hus : us.length = size) (hone : ∀ u ∈ us, u.oneCell' = true)
    (hx : a.eval x = .slice (some ⟨w.heap.size, 0, none⟩) 1 1)
    (h63 : n + 1 ≤ maxLen) (hbytes : (n + 1) * bytes ≤ 140737488355328) (hbase : base ≤ w.heap.size)
    (h : ∀ v' w', w'.ownsRow base e size v' (n + 1) (xs ++ us) → (w.alloc (.cells us.toArray e)).grownBy w' v.ownBlock → wpList P ops Q rest (a.put o.dst v') w') :
    wpList P ops Q (o :: rest) a (w.alloc (.cells us.toArray e)) := by
  refine wpList_append_own _ hgd s x t ho base e i z size bytes ht hi hz hsize hby hzs hsz v n xs hs (hown.alloc _) ⟨w.heap.size, 0, none⟩ 1 1 us hx (by omega) ?_ hone h63 hbytes (by simp; omega) ?_
  · intro j u hu
    rw [Addr.add_lit, Nat.zero_add, World.cell?_alloc_new]
    simpa using hu
  · intro v' w' hown' hg hnil
    exact h v' w' hown' hg
/-- As w was below B, but for block C. -/
structure Lw (C B : Nat) (w w' : World) : Prop where
  os : w'.os = w.os
  tape : w'.tape = w.tape
  output : w'.output = w.output
  size : w.heap.size ≤ w'.heap.size
  low : ∀ k, k < B → k ≠ C → w'.heap[k]? = w.heap[k]?
theorem Lw.of_low {C B : Nat} {w w' : World} (h : Low C C B w w') : Lw C B w w' := ⟨h.os, h.tape, h.output, h.size, fun k h1 h2 => h.low k h1 h2 h2⟩
theorem Lw.refl (C B : Nat) (w : World) : Lw C B w w := ⟨rfl, rfl, rfl, Nat.le_refl _, fun _ _ _ => rfl⟩
theorem Lw.trans {C B : Nat} {u v w : World} (h : Lw C B u v) (k : Lw C B v w) : Lw C B u w :=
  ⟨k.os.trans h.os, k.tape.trans h.tape, k.output.trans h.output, Nat.le_trans h.size k.size, fun i h1 h2 => (k.low i h1 h2).trans (h.low i h1 h2)⟩
theorem Lw.of_below {w w' : World} (C B : Nat) (h : Below B w w') : Lw C B w w' := ⟨h.os, h.tape, h.output, h.size, fun k hk _ => h.block k hk⟩
theorem Lw.of_all {w w' : World} (C B : Nat) (hB : B ≤ w.heap.size) (h : Below w.heap.size w w') : Lw C B w w' := ⟨h.os, h.tape, h.output, h.size, fun k hk _ => h.block k (Nat.lt_of_lt_of_le hk hB)⟩
theorem Lw.put {C B : Nat} (w : World) (i : Nat) (u : Value) : Lw C B w (w.setCell ⟨C, i, none⟩ u) := ⟨rfl, rfl, rfl, by simp [World.setCell], fun k _ h1 => Below.heap_setCell w ⟨C, i, none⟩ u k h1⟩
theorem Lw.below {C B B0 : Nat} {a w w' : World} (h : Lw C B w w') (k : Below B0 a w) (hB : B0 ≤ B) (hC : B0 ≤ C) : Below B0 a w' :=
  ⟨h.os.trans k.os, h.tape.trans k.tape, h.output.trans k.output, Nat.le_trans k.size h.size, fun i hi => (h.low i (by omega) (by omega)).trans (k.block i hi)⟩
/-- What a line's walk leaves: the same settings, an error. -/
def Left (C base : Nat) (w : World) (r : Int × St) (e : Ending) (w' : World) : Prop :=
  ∃ v, e = .returned (.tuple #[v, .int .i64 r.1]) ∧ RCfg w' C base r.2.c ∧ w'.ownsRow base 9 1 v r.2.seen.length (texV r.2.seen) ∧ Lw C base w w'
theorem oneP_none (st : St) (s : ByteArray) (h : keyP s = none) : oneP st s = (4, st) := by unfold oneP; rw [h]
theorem oneP_empty (st : St) (s name value : ByteArray) (h : keyP s = some (name, value)) (h0 : name.size = 0) : oneP st s = (4, st) := by unfold oneP; rw [h]; simp [h0]
theorem oneP_param (st : St) (s name value : ByteArray) (h : keyP s = some (name, value)) (h0 : name.size ≠ 0) (hp : isParam name = true) : oneP st s = (0, ⟨⟨st.c.n, st.c.ps ++ [(name.extract 6 name.size, value)]⟩, st.seen⟩) := by unfold oneP; rw [h]; simp [h0, hp]
theorem oneP_set (st : St) (s name value : ByteArray) (h : keyP s = some (name, value)) (h0 : name.size ≠ 0) (hp : isParam name = false) : oneP st s = setP st name value := by unfold oneP; rw [h]; simp [h0, hp]

set_option maxHeartbeats 2000000 in
theorem rone_bad (C base : Nat) (st : St) (s : ByteArray) (sv : Value) (w : World) (hC : C < base) (hb : base ≤ w.heap.size) (hs : s.size ≤ 100000)
    (hk : keyP s = none ∨ ∃ name value, keyP s = some (name, value) ∧ name.size = 0) (hc : RCfg w C base st.c) (hsv : w.ownsRow base 9 1 sv st.seen.length (texV st.seen)) :
    Calls Tryd.prog 21 #[.pointer (some ⟨C, 0, none⟩), sv, .string s] w (Left C base w (oneP st s)) := by
  have HC := hide hc
  have HSv := hide hsv
  have HE : Hid (oneP st s = (4, st)) := by
    show _ = _
    rcases hk with h | ⟨n, v, h, h0⟩
    · exact oneP_none _ _ h
    · exact oneP_empty _ _ _ _ h h0
  clear hc hsv
  rw [HE.out]
  rcases hk with h | ⟨name, value, h, h0⟩
  · have hkv : keyV s = .tuple #[.string ⟨#[]⟩, .string ⟨#[]⟩, .bool false] := by unfold keyV; rw [h]
    have HKV := hide hkv
    clear hkv h
    go_enter Tryd.func21, Tryd.ntmps21
    go_wp2_with fail
    refine (rkey_any s _ hs).mono ?_
    rintro e w1 ⟨rfl, hb1⟩
    rw [HKV.out]
    have HB := hide hb1
    clear hb1
    go_wp2_with fail
    go_returns
    exact ⟨_, rfl, HC.out.below HB.out, own_below HSv.out HB.out, Lw.of_all C base hb HB.out⟩
  · have hkv : keyV s = .tuple #[.string name, .string value, .bool true] := by unfold keyV; rw [h]
    obtain rfl := size_zero h0
    have HKV := hide hkv
    clear hkv h h0
    go_enter Tryd.func21, Tryd.ntmps21
    go_wp2_with fail
    refine (rkey_any s _ hs).mono ?_
    rintro e w1 ⟨rfl, hb1⟩
    rw [HKV.out]
    have HB := hide hb1
    clear hb1
    go_wp2_with fail
    go_returns
    exact ⟨_, rfl, HC.out.below HB.out, own_below HSv.out HB.out, Lw.of_all C base hb HB.out⟩

set_option maxHeartbeats 4000000 in
theorem rone_set (C base : Nat) (st : St) (s name value : ByteArray) (sv : Value) (w : World) (hC : C < base) (hb : base ≤ w.heap.size) (hs : s.size ≤ 100000) (hps : st.seen.length ≤ 100000)
    (hk : keyP s = some (name, value)) (hn : name.size ≠ 0) (hp : isParam name = false) (hc : RCfg w C base st.c) (hsv : w.ownsRow base 9 1 sv st.seen.length (texV st.seen)) :
    Calls Tryd.prog 21 #[.pointer (some ⟨C, 0, none⟩), sv, .string s] w (Left C base w (setP st name value)) := by
  obtain ⟨i0, hi, hz0, hz1, hz2⟩ := info_parts infoStr
  have HC := hide hc
  have HSv := hide hsv
  have hkv : keyV s = .tuple #[.string name, .string value, .bool true] := by unfold keyV; rw [hk]
  have HKV := hide hkv
  obtain ⟨sa, sc, rfl⟩ := own_slice hsv
  rcases empty_tests name with ⟨h0, _⟩ | ⟨hpos, hn1, hn2⟩
  · exact absurd h0 hn
  have HPos := hide hpos
  have HNP := hide (not_param name hp)
  clear hkv hc hsv hk hn hp hpos
  have fin : ∀ (k : Int) (w' : World), Below w.heap.size w w' → Left C base w (k, st) (.returned (.tuple #[.slice sa st.seen.length sc, .int .i64 k])) w' :=
    fun k w' hB => ⟨_, rfl, HC.out.below hB, own_below HSv.out hB, Lw.of_all C base hb hB⟩
  have Fin := hide fin
  clear fin
  cases hx : nameIx name with
  | none =>
    have HV : Hid (atV C name = .pointer none) := by show _ = _; unfold atV; rw [hx]
    have HR : Hid (setP st name value = (9, st)) := by show _ = _; unfold setP; rw [hx]
    rw [HR.out]
    clear hx
    rcases HNP.out with h6 | ⟨h6, hne⟩
    · have h6i : ¬ (6 : Int) < (name.size : Int) := by omega
      clear h6
      go_enter Tryd.func21, Tryd.ntmps21
      go_wp2_with fail
      refine (rkey_any s _ hs).mono ?_
      rintro e w1 ⟨rfl, hb1⟩
      rw [HKV.out]
      have HB := hide hb1
      clear hb1
      go_wp2_with fail
      refine (rat_any C name _).mono ?_
      rintro e w2 ⟨rfl, rfl⟩
      rw [HV.out]
      go_wp2_with fail
      go_returns
      exact Fin.out 9 _ HB.out
    · have h6i : (6 : Int) < (name.size : Int) := by omega
      have h6j : (6 : Int) ≤ (name.size : Int) := by omega
      have d6 := str_ne (l := [112, 97, 114, 97, 109, 46]) hne
      clear h6 hne
      go_enter Tryd.func21, Tryd.ntmps21
      go_wp2_with fail
      refine (rkey_any s _ hs).mono ?_
      rintro e w1 ⟨rfl, hb1⟩
      rw [HKV.out]
      have HB := hide hb1
      clear hb1
      go_wp2_with fail
      refine (rat_any C name _).mono ?_
      rintro e w2 ⟨rfl, rfl⟩
      rw [HV.out]
      go_wp2_with fail
      go_returns
      exact Fin.out 9 _ HB.out
  | some i =>
    have hi6 := nameIx_lt name i hx
    have HV : Hid (atV C name = .pointer (some ⟨C, i, none⟩)) := by show _ = _; unfold atV; rw [hx]
    cases hpn : parseN value 2147483648 with
    | none =>
      have HR : Hid (setP st name value = (4, st)) := by show _ = _; unfold setP; rw [hx]; simp only []; rw [hpn]
      have HPV : Hid (parseV (parseN value 2147483648) = .tuple #[.int .i64 0, .bool false]) := by show _ = _; rw [hpn]; rfl
      rw [HR.out]
      clear hx hpn
      rcases HNP.out with h6 | ⟨h6, hne⟩
      · have h6i : ¬ (6 : Int) < (name.size : Int) := by omega
        clear h6
        go_enter Tryd.func21, Tryd.ntmps21
        go_wp2_with fail
        refine (rkey_any s _ hs).mono ?_
        rintro e w1 ⟨rfl, hb1⟩
        rw [HKV.out]
        have HB := hide hb1
        have hbs : base ≤ w1.heap.size := Nat.le_trans hb hb1.size
        clear hb1
        go_wp2_with fail
        refine (rat_any C name _).mono ?_
        rintro e w2 ⟨rfl, rfl⟩
        rw [HV.out]
        go_wp2_with fail
        refine (rparse_any value _ _).mono ?_
        rintro e w2 ⟨rfl, rfl⟩
        rw [HPV.out]
        go_wp2_with fail
        go_returns
        exact Fin.out 4 _ HB.out
      · have h6i : (6 : Int) < (name.size : Int) := by omega
        have h6j : (6 : Int) ≤ (name.size : Int) := by omega
        have d6 := str_ne (l := [112, 97, 114, 97, 109, 46]) hne
        clear h6 hne
        go_enter Tryd.func21, Tryd.ntmps21
        go_wp2_with fail
        refine (rkey_any s _ hs).mono ?_
        rintro e w1 ⟨rfl, hb1⟩
        rw [HKV.out]
        have HB := hide hb1
        have hbs : base ≤ w1.heap.size := Nat.le_trans hb hb1.size
        clear hb1
        go_wp2_with fail
        refine (rat_any C name _).mono ?_
        rintro e w2 ⟨rfl, rfl⟩
        rw [HV.out]
        go_wp2_with fail
        refine (rparse_any value _ _).mono ?_
        rintro e w2 ⟨rfl, rfl⟩
        rw [HPV.out]
        go_wp2_with fail
        go_returns
        exact Fin.out 4 _ HB.out
    | some v =>
      have HPV : Hid (parseV (parseN value 2147483648) = .tuple #[.int .i64 v, .bool true]) := by show _ = _; rw [hpn]; rfl
      cases hin : isIn name st.seen with
      | true =>
        have HR : Hid (setP st name value = (8, st)) := by show _ = _; unfold setP; rw [hx]; simp only []; rw [hpn]; simp [hin]
        have HIn : Hid (isIn name st.seen = true) := hin
        rw [HR.out]
        clear hx hpn hin
        rcases HNP.out with h6 | ⟨h6, hne⟩
        · have h6i : ¬ (6 : Int) < (name.size : Int) := by omega
          clear h6
          go_enter Tryd.func21, Tryd.ntmps21
          go_wp2_with fail
          refine (rkey_any s _ hs).mono ?_
          rintro e w1 ⟨rfl, hb1⟩
          rw [HKV.out]
          have HB := hide hb1
          have hbs : base ≤ w1.heap.size := Nat.le_trans hb hb1.size
          clear hb1
          go_wp2_with fail
          refine (rat_any C name _).mono ?_
          rintro e w2 ⟨rfl, rfl⟩
          rw [HV.out]
          go_wp2_with fail
          refine (rparse_any value _ _).mono ?_
          rintro e w2 ⟨rfl, rfl⟩
          rw [HPV.out]
          go_wp2_with fail
          refine (has_any _ _ name _ (by omega) (texAt (own_below HSv.out HB.out))).mono ?_
          rintro e w2 ⟨rfl, rfl⟩
          rw [HIn.out]
          go_wp2_with fail
          go_returns
          exact Fin.out 8 _ HB.out
        · have h6i : (6 : Int) < (name.size : Int) := by omega
          have h6j : (6 : Int) ≤ (name.size : Int) := by omega
          have d6 := str_ne (l := [112, 97, 114, 97, 109, 46]) hne
          clear h6 hne
          go_enter Tryd.func21, Tryd.ntmps21
          go_wp2_with fail
          refine (rkey_any s _ hs).mono ?_
          rintro e w1 ⟨rfl, hb1⟩
          rw [HKV.out]
          have HB := hide hb1
          have hbs : base ≤ w1.heap.size := Nat.le_trans hb hb1.size
          clear hb1
          go_wp2_with fail
          refine (rat_any C name _).mono ?_
          rintro e w2 ⟨rfl, rfl⟩
          rw [HV.out]
          go_wp2_with fail
          refine (rparse_any value _ _).mono ?_
          rintro e w2 ⟨rfl, rfl⟩
          rw [HPV.out]
          go_wp2_with fail
          refine (has_any _ _ name _ (by omega) (texAt (own_below HSv.out HB.out))).mono ?_
          rintro e w2 ⟨rfl, rfl⟩
          rw [HIn.out]
          go_wp2_with fail
          go_returns
          exact Fin.out 8 _ HB.out
      | false =>
        have HR : Hid (setP st name value = (0, ⟨st.c.put i v, st.seen ++ [name]⟩)) := by show _ = _; unfold setP; rw [hx]; simp only []; rw [hpn]; simp [hin]
        have HIn : Hid (isIn name st.seen = false) := hin
        rw [HR.out]
        clear hx hpn hin
        rcases HNP.out with h6 | ⟨h6, hne⟩
        · have h6i : ¬ (6 : Int) < (name.size : Int) := by omega
          clear h6
          go_enter Tryd.func21, Tryd.ntmps21
          go_wp2_with fail
          refine (rkey_any s _ hs).mono ?_
          rintro e w1 ⟨rfl, hb1⟩
          rw [HKV.out]
          have HB := hide hb1
          have hbs : base ≤ w1.heap.size := Nat.le_trans hb hb1.size
          clear hb1
          go_wp2_with fail
          refine (rat_any C name _).mono ?_
          rintro e w2 ⟨rfl, rfl⟩
          rw [HV.out]
          go_wp2_with fail
          refine (rparse_any value _ _).mono ?_
          rintro e w2 ⟨rfl, rfl⟩
          rw [HPV.out]
          go_wp2_with fail
          refine (has_any _ _ name _ (by omega) (texAt (own_below HSv.out HB.out))).mono ?_
          rintro e w2 ⟨rfl, rfl⟩
          rw [HIn.out]
          obtain ⟨hc6, pv, hblk, hrow⟩ := HC.out.below HB.out
          have g0 := hblk.cell i
          rw [cfgL_num _ _ hc6 i hi6] at g0
          have f0 := hblk.frozen i
          have HBlk := hide hblk
          have HRow := hide hrow
          have HSv1 := hide (own_below HSv.out HB.out)
          clear hblk hrow
          have hsz : (w1.setCell ⟨C, i, none⟩ (.int .i64 v)).heap.size = w1.heap.size := by simp [World.setCell]
          go_wp2_with (at_builtin; refine wpList_append_grown (w1.setCell ⟨C, i, none⟩ (.int .i64 v)) rfl _ _ 48 rfl base 9 i0 (.string ⟨#[]⟩) 1 16 Tryd.underlying48 hi hz0 hz1 hz2 rfl (by decide) _ st.seen.length _ [.string name] (own_cells2 HSv1.out hC i _) rfl rfl (by simp [Value.oneCell']) (by rw [hsz]; rfl) (by simp [maxLen]; omega) (by omega) (by rw [hsz]; exact hbs) ?_; intro v1 w3 hown3 hg3)
          have HG3 := hide hg3
          have HOwn3 := hide hown3
          have HRow2 := hide (own_cells2 HRow.out hC i (.int .i64 v))
          have HSv2 := hide (own_cells2 HSv1.out hC i (.int .i64 v))
          have HNE : Hid (some C ≠ (Value.slice sa st.seen.length sc).ownBlock) := fun e => by have := own_ge HSv1.out e.symm; omega
          clear hg3 hown3
          go_returns
          refine ⟨_, rfl, ⟨by rw [put_length]; exact hc6, pv, ?_, (HRow2.out.alloc (.cells #[.string name] 9)).kept HG3.out (own_types (HRow2.out.alloc (.cells #[.string name] 9)) (HSv2.out.alloc (.cells #[.string name] 9)) (by decide))⟩, by rw [List.length_append, texV_snoc]; exact HOwn3.out, ?_⟩
          · rw [← cfgL_put _ _ hc6 i hi6]
            exact ((HBlk.out.put i _).alloc (.cells #[.string name] 9)).grown HG3.out HNE.out
          · exact (((Lw.of_all C base hb HB.out).trans (Lw.put w1 i (.int .i64 v))).trans (Lw.of_all C base (by rw [hsz]; exact hbs) ((Below.refl _ _).alloc (Nat.le_refl _) (.cells #[.string name] 9)))).trans (Lw.of_below C base ((Below.refl _ _).grown HG3.out (by simp [World.setCell]; omega) (fun k hk => own_ge HSv1.out hk)))
        · have h6i : (6 : Int) < (name.size : Int) := by omega
          have h6j : (6 : Int) ≤ (name.size : Int) := by omega
          have d6 := str_ne (l := [112, 97, 114, 97, 109, 46]) hne
          clear h6 hne
          go_enter Tryd.func21, Tryd.ntmps21
          go_wp2_with fail
          refine (rkey_any s _ hs).mono ?_
          rintro e w1 ⟨rfl, hb1⟩
          rw [HKV.out]
          have HB := hide hb1
          have hbs : base ≤ w1.heap.size := Nat.le_trans hb hb1.size
          clear hb1
          go_wp2_with fail
          refine (rat_any C name _).mono ?_
          rintro e w2 ⟨rfl, rfl⟩
          rw [HV.out]
          go_wp2_with fail
          refine (rparse_any value _ _).mono ?_
          rintro e w2 ⟨rfl, rfl⟩
          rw [HPV.out]
          go_wp2_with fail
          refine (has_any _ _ name _ (by omega) (texAt (own_below HSv.out HB.out))).mono ?_
          rintro e w2 ⟨rfl, rfl⟩
          rw [HIn.out]
          obtain ⟨hc6, pv, hblk, hrow⟩ := HC.out.below HB.out
          have g0 := hblk.cell i
          rw [cfgL_num _ _ hc6 i hi6] at g0
          have f0 := hblk.frozen i
          have HBlk := hide hblk
          have HRow := hide hrow
          have HSv1 := hide (own_below HSv.out HB.out)
          clear hblk hrow
          have hsz : (w1.setCell ⟨C, i, none⟩ (.int .i64 v)).heap.size = w1.heap.size := by simp [World.setCell]
          go_wp2_with (at_builtin; refine wpList_append_grown (w1.setCell ⟨C, i, none⟩ (.int .i64 v)) rfl _ _ 48 rfl base 9 i0 (.string ⟨#[]⟩) 1 16 Tryd.underlying48 hi hz0 hz1 hz2 rfl (by decide) _ st.seen.length _ [.string name] (own_cells2 HSv1.out hC i _) rfl rfl (by simp [Value.oneCell']) (by rw [hsz]; rfl) (by simp [maxLen]; omega) (by omega) (by rw [hsz]; exact hbs) ?_; intro v1 w3 hown3 hg3)
          have HG3 := hide hg3
          have HOwn3 := hide hown3
          have HRow2 := hide (own_cells2 HRow.out hC i (.int .i64 v))
          have HSv2 := hide (own_cells2 HSv1.out hC i (.int .i64 v))
          have HNE : Hid (some C ≠ (Value.slice sa st.seen.length sc).ownBlock) := fun e => by have := own_ge HSv1.out e.symm; omega
          clear hg3 hown3
          go_returns
          refine ⟨_, rfl, ⟨by rw [put_length]; exact hc6, pv, ?_, (HRow2.out.alloc (.cells #[.string name] 9)).kept HG3.out (own_types (HRow2.out.alloc (.cells #[.string name] 9)) (HSv2.out.alloc (.cells #[.string name] 9)) (by decide))⟩, by rw [List.length_append, texV_snoc]; exact HOwn3.out, ?_⟩
          · rw [← cfgL_put _ _ hc6 i hi6]
            exact ((HBlk.out.put i _).alloc (.cells #[.string name] 9)).grown HG3.out HNE.out
          · exact (((Lw.of_all C base hb HB.out).trans (Lw.put w1 i (.int .i64 v))).trans (Lw.of_all C base (by rw [hsz]; exact hbs) ((Below.refl _ _).alloc (Nat.le_refl _) (.cells #[.string name] 9)))).trans (Lw.of_below C base ((Below.refl _ _).grown HG3.out (by simp [World.setCell]; omega) (fun k hk => own_ge HSv1.out hk)))

theorem rone_any (C base : Nat) (st : St) (s : ByteArray) (sv : Value) (w : World) (hC : C < base) (hb : base ≤ w.heap.size) (hs : s.size ≤ 100000) (hps : st.c.ps.length ≤ 100000) (hse : st.seen.length ≤ 100000)
    (hc : RCfg w C base st.c) (hsv : w.ownsRow base 9 1 sv st.seen.length (texV st.seen)) :
    Calls Tryd.prog 21 #[.pointer (some ⟨C, 0, none⟩), sv, .string s] w (Left C base w (oneP st s)) := by
  rcases hk : keyP s with _ | ⟨name, value⟩
  · exact rone_bad C base st s sv w hC hb hs (.inl hk) hc hsv
  by_cases h0 : name.size = 0
  · exact rone_bad C base st s sv w hC hb hs (.inr ⟨name, value, hk, h0⟩) hc hsv
  cases hp : isParam name with
  | true =>
    rw [oneP_param st s name value hk h0 hp]
    refine (rone_param C base st s name value sv w hC hb hs hps hk h0 hp hc hsv).mono ?_
    rintro e w' ⟨rfl, h1, h2, h3⟩
    exact ⟨_, rfl, h1, h2, Lw.of_low h3⟩
  | false =>
    rw [oneP_set st s name value hk h0 hp]
    exact rone_set C base st s name value sv w hC hb hs hse hk h0 hp hc hsv
end Go.Proofs.YtlmelbijgckfpaaDoor
