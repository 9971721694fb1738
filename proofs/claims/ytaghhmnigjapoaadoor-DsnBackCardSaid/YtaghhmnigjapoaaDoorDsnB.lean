/-
  The reader's walks: skip, quoted, bare, value. No condition but on lengths.
-/
import Derived.Test.YtaghhmnigjapoaaDoorDsnP
import Derived.Test.YtaghhmnigjapoaaDoorBuilder
namespace Go.Proofs.YtaghhmnigjapoaaDoor
open Go.RowKit
set_option linter.unusedVariables false
set_option linter.unusedSimpArgs false

/-- As w was but for block b, and new blocks. -/
def But (b : Nat) (w w' : World) : Prop := w.grownBy w' (some b)
theorem But.refl (b : Nat) (w : World) : But b w w := World.grownBy.refl w _
theorem But.trans {b : Nat} {u v w : World} (h : But b u v) (k : But b v w) : But b u w :=
  ⟨k.os.trans h.os, k.tape.trans h.tape, k.output.trans h.output, Nat.le_trans h.size k.size, fun i hi hne => (k.block i (Nat.lt_of_lt_of_le hi h.size) hne).trans (h.block i hi hne)⟩
theorem But.under {b : Nat} {u v w : World} (h : But b u v) (k : Below u.heap.size v w) : But b u w :=
  ⟨k.os.trans h.os, k.tape.trans h.tape, k.output.trans h.output, Nat.le_trans h.size k.size, fun i hi hne => (k.block i hi).trans (h.block i hi hne)⟩
theorem But.below {b : Nat} {u v w : World} (h : But b u v) (k : Below v.heap.size v w) : But b u w := h.under (k.mono h.size)
theorem builder_put {T e B c : Nat} {bs : List Value} {w : World} (h : Lib.IsBuilder T e B c bs w) (p : Addr) (hp : p.block < B) (v : Value) : Lib.IsBuilder T e B c bs (w.setCell p v) := by
  have one : ∀ q, Lib.BuilderAt T e B c q bs w → Lib.BuilderAt T e B c q bs (w.setCell p v) := by
    rintro q ⟨hB, x, h1, h2, h3⟩
    exact ⟨hB, x, (Below.heap_setCell _ _ _ _ (by omega)).trans h1, ownsRow_setCell_below h2 hp v, h3⟩
  exact h.imp (one _) (one _)
theorem But.put {b : Nat} {u v : World} (h : But b u v) (i : Nat) (x : Value) : But b u (v.setCell ⟨b, i, none⟩ x) :=
  h.trans ⟨rfl, rfl, rfl, by simp [World.setCell], fun k hk hne => Below.heap_setCell _ _ _ _ (fun e => hne (by rw [e]))⟩
theorem But.toBelow {b B : Nat} {w w' : World} (h : But b w w') (hb : B ≤ b) (hB : B ≤ w.heap.size) : Below B w w' :=
  ⟨h.os, h.tape, h.output, h.size, fun k hk => h.block k (by omega) (fun e => by cases e; omega)⟩
theorem But.blk {b g : Nat} {t : TypeId} {cs : Array Value} {w w' : World} (h : But b w w') (k : Blk w g t cs) (hne : g ≠ b) : Blk w' g t cs := k.grown h (fun e => hne (by cases e; rfl))

theorem skip_any (b : Nat) (s : ByteArray) (w : World) (hx : Blk w b 38 #[.string s]) :
    Calls Tryd.prog 15 #[.pointer (some ⟨b, 0, none⟩)] w fun e w' => e = .returned (.tuple #[]) ∧ Blk w' b 38 #[.string (bs (s.data.toList.dropWhile (· == 32)))] ∧ But b w w' := by
  have e0 := hx.cell 0
  have f0 := hx.frozen 0
  simp at e0
  have HX := hide hx
  clear hx
  go_enter Tryd.func15, Tryd.ntmps15
  go_wp2_with fail
  refine (Tryd.strings_TrimLeft_one s 32 (by decide) _).mono ?_
  rintro e w1 ⟨rfl, rfl⟩
  go_wp2_with fail
  go_end0
  exact ⟨rfl, HX.out.put 0 _, (But.refl _ _).put 0 _⟩

/-- What reading a value answers. -/
def ValEnd (o : Option (List UInt8 × List UInt8)) (b : Nat) (w : World) (e : Ending) (w' : World) : Prop :=
  match o with
  | none => ∃ v, e = .returned (.tuple #[.string v, .bool false]) ∧ But b w w'
  | some (v, r) => e = .returned (.tuple #[.string (bs v), .bool true]) ∧ Blk w' b 38 #[.string (bs r)] ∧ But b w w'
theorem take_list (s : ByteArray) (i : Nat) : s.data.toList.take i = (s.extract 0 i).data.toList := by rw [ext_take, bs_list]
theorem bare_end (s : ByteArray) (i : Nat) (hi : cutAt s.data.toList 32 = i) : bL s.data.toList = if Lib.indexByte (s.extract 0 i).data.toList 39 < 0 ∧ Lib.indexByte (s.extract 0 i).data.toList 92 < 0 then some ((s.extract 0 i).data.toList, (s.extract i s.size).data.toList) else none := by
  rw [bL_eq, hi, ext_take, ext_drop, bs_list, bs_list]
theorem bare_any (b : Nat) (s : ByteArray) (w : World) (hs : s.size ≤ 100000) (hx : Blk w b 38 #[.string s]) :
    Calls Tryd.prog 39 #[.pointer (some ⟨b, 0, none⟩)] w (ValEnd (bL s.data.toList) b w) := by
  have e0 := hx.cell 0
  have f0 := hx.frozen 0
  simp at e0
  have HX := hide hx
  clear hx
  obtain ⟨i, hi⟩ : ∃ i, cutAt s.data.toList 32 = i := ⟨_, rfl⟩
  have hle := cutAt_le s.data.toList 32
  rw [hi, list_size] at hle
  have hlei : (i : Int) ≤ (s.size : Int) := by omega
  have h0i : (0 : Int) ≤ (i : Int) := by omega
  have hR := bare_end s i hi
  obtain ⟨z1, hz1⟩ : ∃ z, Lib.indexByte (s.extract 0 i).data.toList 39 = z := ⟨_, rfl⟩
  obtain ⟨z2, hz2⟩ : ∃ z, Lib.indexByte (s.extract 0 i).data.toList 92 = z := ⟨_, rfl⟩
  rw [hz1, hz2] at hR
  have HR := hide hR
  have Hz1 := hide hz1
  have Hz2 := hide hz2
  clear hR hz1 hz2
  have Hi := hide hi
  clear hi
  go_enter Tryd.func39, Tryd.ntmps39
  go_wp2_with fail
  refine (Tryd.strings_IndexByte s 32 _).mono ?_
  rintro e w1 ⟨rfl, rfl⟩
  rw [show (32 : Int).toNat.toUInt8 = 32 from rfl]
  obtain ⟨z, hz⟩ : ∃ z, Lib.indexByte s.data.toList 32 = z := ⟨_, rfl⟩
  rw [hz]
  go_upto_if 13 with fail
  go_cut [4] (fun v W => v = .int .i64 i ∧ w1 = W)
  case first =>
    have Hz := hide hz
    clear hz
    by_cases h0 : z < 0
    · have Hq : Hid ((s.size : Int) = i) := by
        show _ = _
        rw [← Hi.out]; unfold cutAt; rw [Hz.out, if_pos h0, list_size]
      go_wp2_with fail
      go_meet
      exact ⟨by rw [Hq.out], rfl⟩
    · have Hq : Hid (z = i) := by
        show _ = _
        rw [← Hi.out]; unfold cutAt; rw [Hz.out, if_neg h0]; omega
      go_wp2_with fail
      go_meet
      exact ⟨by rw [Hq.out], rfl⟩
  case rest =>
    obtain ⟨rfl, rfl⟩ := hcut
    clear hz
    have HY := hide (HX.out.put 0 (.string (s.extract i s.size)))
    have HB := hide ((But.refl b w1).put 0 (.string (s.extract i s.size)))
    go_wp2_with fail
    generalize w1.setCell ⟨b, 0, none⟩ (.string (s.extract i s.size)) = W at HY HB ⊢
    refine (Tryd.strings_IndexByte _ 39 _).mono ?_
    rintro e w2 ⟨rfl, rfl⟩
    rw [show (39 : Int).toNat.toUInt8 = 39 from rfl, Hz1.out]
    by_cases h1 : z1 < 0
    · go_wp2_with fail
      refine (Tryd.strings_IndexByte _ 92 _).mono ?_
      rintro e w3 ⟨rfl, rfl⟩
      rw [show (92 : Int).toNat.toUInt8 = 92 from rfl, Hz2.out]
      by_cases h2 : z2 < 0
      · have HE : Hid (bL s.data.toList = some ((s.extract 0 i).data.toList, (s.extract i s.size).data.toList)) := by show _ = _; rw [HR.out, if_pos ⟨h1, h2⟩]
        go_wp2_with fail
        go_returns
        rw [HE.out]
        exact ⟨by rw [bs_of]; rfl, by rw [bs_of]; exact HY.out, HB.out⟩
      · have HE : Hid (bL s.data.toList = none) := by show _ = _; rw [HR.out, if_neg (fun e => h2 e.2)]
        have d2 : decide (z2 < 0) = false := by simpa using h2
        go_wp2_with fail
        go_returns
        rw [HE.out]
        exact ⟨_, rfl, HB.out⟩
    · have HE : Hid (bL s.data.toList = none) := by show _ = _; rw [HR.out, if_neg (fun e => h1 e.1)]
      have d1 : decide (z1 < 0) = false := by simpa using h1
      go_wp2_with fail
      go_returns
      rw [HE.out]
      exact ⟨_, rfl, HB.out⟩

set_option maxHeartbeats 1000000 in
theorem quoted_any (b : Nat) (s : ByteArray) (w : World) (hs : s.size ≤ 100000) (hx : Blk w b 38 #[.string s]) :
    Calls Tryd.prog 38 #[.pointer (some ⟨b, 0, none⟩)] w (ValEnd (qL s.data.toList) b w) := by
  have hlt := hx.lt
  have HX := hide hx
  clear hx
  obtain ⟨o0, ho0⟩ : ∃ o, qL s.data.toList = o := ⟨_, rfl⟩
  rw [ho0]
  have H0 := hide ho0
  clear ho0
  go_enter Tryd.func38, Tryd.ntmps38
  go_wp2_with fail
  go_loopw [5] (fun i wr => ∃ (k : Nat) (o : List UInt8), i = .int .i64 k ∧ k ≤ s.size + 1 ∧ o.length ≤ k ∧ Hid (ahead o (qL (s.data.toList.drop k)) = o0) ∧ Lib.IsBuilder 57 5 w.heap.size w.heap.size (Lib.byteCells o) wr ∧ Below w.heap.size w wr) (fun i _ => (s.size + 2 - (intOf i).toNat))
  case atStart => exact ⟨0, [], rfl, by omega, by simp, by show _ = _; rw [ahead_nil]; exact H0.out, Lib.fresh_isBuilder _ _ _, (Below.refl _ _).alloc (Nat.le_refl _) _⟩
  case round =>
    obtain ⟨k, o, rfl, hk, hol, Ho, hbd, hB⟩ := hrel
    have hxr := HX.out.below hB hlt
    have e0 := hxr.cell 0
    have f0 := hxr.frozen 0
    simp at e0
    have HXR := hide hxr
    have Hbd := hide hbd
    have HB := hide hB
    have hBs := hB.size
    clear hxr hbd hB
    by_cases hkk : k < s.size
    · have hki : (k : Int) < (s.size : Int) := by omega
      have hg := sb_get s k hkk
      obtain ⟨h0, h255⟩ := sb_in s k
      by_cases h39 : sb s k = 39
      · have HE : Hid (o0 = some (o, s.data.toList.drop (k + 1))) := by
          show _ = _
          rw [← Ho.out, q_quote s k hkk h39]
          simp [ahead]
        rw [h39] at hg
        have hk1 : (k : Int) + 1 ≤ (s.size : Int) := by omega
        have HY := hide (HXR.out.put 0 (.string (s.extract (k + 1) s.size)))
        have HBB := hide (((But.refl b w).under HB.out).put 0 (.string (s.extract (k + 1) s.size)))
        have HBd2 := hide (builder_put Hbd.out ⟨b, 0, none⟩ hlt (.string (s.extract (k + 1) s.size)))
        go_wp2_with fail
        generalize wr.setCell ⟨b, 0, none⟩ (.string (s.extract (k + 1) s.size)) = W at HY HBB HBd2 ⊢
        refine (Tryd.Builder_String_any w.heap.size w.heap.size o _ HBd2.out HBB.out.size).mono ?_
        rintro e w3 ⟨rfl, hb3⟩
        have HB3 := hide hb3
        clear hb3
        go_wp2_with fail
        go_returns
        rw [HE.out]
        exact ⟨rfl, by rw [← ext_drop]; exact HY.out.below HB3.out hlt, HBB.out.under HB3.out⟩
      · by_cases h92 : sb s k = 92
        · rw [h92] at hg
          by_cases hk1 : k + 1 < s.size
          · have HE : Hid (ahead (o ++ [s.data.toList.getD (k + 1) 0]) (qL (s.data.toList.drop (k + 2))) = o0) := by
              show _ = _
              rw [← Ho.out, q_esc s k hk1 h92, ahead_cons]
            have hk1i : (k : Int) + 1 < (s.size : Int) := by omega
            have hg1 := sb_get s (k + 1) hk1
            have HC : Hid (Lib.byteCells o ++ [.int .u8 (sb s (k + 1))] = Lib.byteCells (o ++ [s.data.toList.getD (k + 1) 0])) := by
              show _ = _
              unfold Lib.byteCells sb
              rw [List.map_append]; rfl
            go_wp2_with fail
            refine (writeByte_any w.heap.size w.heap.size _ _ _ Hbd.out (by simp [Lib.byteCells]; omega) hBs).mono ?_
            rintro e w3 ⟨rfl, hb3, hB3⟩
            rw [HC.out] at hb3
            have HB3 := hide hB3
            have Hb3 := hide hb3
            clear hb3 hB3
            go_wp2_with fail
            go_roundw
            case rel => exact ⟨k + 2, _, by go_num, by omega, by simp; omega, HE.out, Or.inr Hb3.out, HB.out.trans HB3.out⟩
            case measure => simp [intOf]; omega
          · have HE : Hid (ahead o (qL (s.data.toList.drop (k + 2))) = o0) := by
              show _ = _
              rw [← Ho.out, q_esc_end s k (by omega) h92, q_end s (k + 2) (by omega)]
            have hk1i : ¬ (k : Int) + 1 < (s.size : Int) := by omega
            go_wp2_with fail
            go_roundw
            case rel => exact ⟨k + 2, _, by go_num, by omega, by omega, HE.out, Hbd.out, HB.out⟩
            case measure => simp [intOf]; omega
        · have HE : Hid (ahead (o ++ [s.data.toList.getD k 0]) (qL (s.data.toList.drop (k + 1))) = o0) := by
            show _ = _
            rw [← Ho.out, q_other s k hkk h39 h92, ahead_cons]
          have HC : Hid (Lib.byteCells o ++ [.int .u8 (sb s k)] = Lib.byteCells (o ++ [s.data.toList.getD k 0])) := by
            show _ = _
            unfold Lib.byteCells sb
            rw [List.map_append]; rfl
          have d39 : (sb s k == 39) = false := by simpa using h39
          have d92 : (sb s k == 92) = false := by simpa using h92
          clear h39 h92
          go_wp2_with fail
          refine (writeByte_any w.heap.size w.heap.size _ _ _ Hbd.out (by simp [Lib.byteCells]; omega) hBs).mono ?_
          rintro e w3 ⟨rfl, hb3, hB3⟩
          rw [HC.out] at hb3
          have HB3 := hide hB3
          have Hb3 := hide hb3
          clear hb3 hB3
          go_wp2_with fail
          go_roundw
          case rel => exact ⟨k + 1, _, by go_num, by omega, by simp; omega, HE.out, Or.inr Hb3.out, HB.out.trans HB3.out⟩
          case measure => simp [intOf]; omega
    · have HE : Hid (o0 = none) := by
        show _ = _
        rw [← Ho.out, q_end s k (by omega)]; rfl
      have hki : ¬ (k : Int) < (s.size : Int) := by omega
      go_wp2_with fail
      go_returns
      rw [HE.out]
      exact ⟨_, rfl, (But.refl b w).under HB.out⟩
end Go.Proofs.YtaghhmnigjapoaaDoor
