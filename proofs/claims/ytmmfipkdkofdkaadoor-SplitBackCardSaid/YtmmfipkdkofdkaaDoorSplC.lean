/-
  The iterator over a text's parts. No condition but on lengths.
-/
import Derived.Test.YtmmfipkdkofdkaaDoorSplB
import Derived.Test.YtmmfipkdkofdkaaDoorRange
namespace Go.Proofs.YtmmfipkdkofdkaaDoor
open Go.RowKit Go.Shelf
attribute [local go_sem] Oper.semAt_some
set_option linter.unusedVariables false
set_option linter.unusedSimpArgs false

/-- The values that are handed out. -/
def partsV (s : ByteArray) : List Value := (fields s.data.toList).map fun p => .string (bs p)
theorem partsV_none (s : ByteArray) (h : cutM 0 s.data.toList = none) : partsV s = [.string s] := by
  unfold partsV; rw [fields_none _ h]; show [Value.string (bs s.data.toList)] = _; rw [bs_of]
theorem partsV_some (s : ByteArray) (p : Nat) (h : cutM 0 s.data.toList = some p) : partsV s = .string (s.extract 0 p) :: partsV (s.extract (p + 1) s.size) := by
  unfold partsV; rw [fields_some _ p h, drop_list, ext_take]; rfl
/-- How long the text is that is left. -/
def leftOf (W : World) (b : Nat) : Nat := match W.cell? ⟨b, 0, none⟩ with | some (.string u) => u.size | _ => 0
theorem leftOf_blk {W : World} {b : Nat} {t : TypeId} {u : ByteArray} (h : Blk W b t #[.string u]) : leftOf W b = u.size := by
  unfold leftOf
  have := h.cell 0
  simp at this
  rw [this]
def boolOf : Value → Bool | .bool x => x | _ => false

set_option maxHeartbeats 1000000 in
theorem parts_gives (n b : Nat) (s : ByteArray) (w : World) (hs : s.size ≤ 1000000) (hx0 : Blk w b 9 #[.string s]) :
    GivesBox Tryd.prog n 23 #[.pointer (some ⟨b, 0, none⟩)] b (partsV s) w := by
  intro l J Jx W hW hJ hY h0
  have hx := hx0.below hW hx0.lt
  clear hx0 hW
  refine callsIn_of_wp Tryd.func23 rfl trivial ?_ rfl
  simp only [Tryd.ntmps23, List.size_toArray, List.length_cons, List.length_nil, Nat.reduceAdd, Nat.reduceSub, Array.replicate_succ, Array.replicate_zero, List.push_toArray, List.append_toArray, List.nil_append, List.cons_append]
  gi_wp2
  gi_loopw [3] (fun m wr => ∃ k : Nat, (m = .bool false ∧ J (partsV s).length wr) ∨ ∃ u : ByteArray, m = .bool true ∧ u.size ≤ s.size ∧ Blk wr b 9 #[.string u] ∧ Hid (partsV u = (partsV s).drop k) ∧ J k wr) (fun m wr => if boolOf m = true then leftOf wr b + 1 else 0)
  case atStart => exact ⟨0, Or.inr ⟨s, rfl, Nat.le_refl _, hx, rfl, h0⟩⟩
  case round =>
    obtain ⟨k, h⟩ := hrel
    rcases h with ⟨rfl, hj⟩ | ⟨u, rfl, hu, hx, Hk, hj⟩
    · gi_wp2
      go_end0
      exact ⟨⟨_, rfl⟩, Or.inl hj⟩
    · have e0 := hx.cell 0
      have f0 := hx.frozen 0
      simp at e0
      have HX := hide hx
      have HJ := hide hj
      clear hx hj
      cases hc : cutM 0 u.data.toList with
      | none =>
        have HV := hide (cutV_none u hc)
        have hp := partsV_none u hc
        have hd : (partsV s).drop k = [.string u] := by rw [← Hk.out]; exact hp
        have hk : (partsV s)[k]? = some (.string u) := by
          have := congrArg (fun l : List Value => l[0]?) hd
          simpa using this
        have hkl : (partsV s).length = k + 1 := by
          have := congrArg List.length hd
          rw [List.length_drop] at this
          simp at this
          omega
        have Hkl := hide hkl
        have HKX := hide hk
        clear hc hp hd hk hkl
        gi_wp2
        refine ⟨trivial, fun h => (by cases h), (callsIn_wide.2 (cut_any u _ (by omega))).mono ?_⟩
        rintro e w1 ⟨rfl, hb1⟩
        rw [HV.out]
        have hx1 := HX.out.below hb1 HX.out.lt
        have f1 := hx1.frozen 0
        have hbut : But b wr w1 := (But.refl b wr).below hb1
        have e1 := hx1.cell 0
        simp at e1
        have HJ2 := hide (hJ _ _ _ HJ.out (hbut.put 0 (.string ⟨#[]⟩)))
        obtain ⟨fn, tmps, assign, body, hy, hR⟩ := hY k _ _ HKX.out HJ2.out
        clear hb1 hx1 hbut
        gi_wp2
        refine ⟨fun h => (by cases h), hR.mono ?_⟩
        rintro e W' (⟨rfl, hJ', hk'⟩ | ⟨rfl, hJx'⟩)
        · have HJ3 := hide hJ'
          clear hJ' hk'
          gi_wp2
          go_roundw
          case rel => exact ⟨0, Or.inl ⟨rfl, by rw [Hkl.out]; exact HJ3.out⟩⟩
          case measure => simp [boolOf]
        · have HJ3 := hide hJx'
          clear hJx'
          gi_wp2
          go_returns
          exact ⟨⟨_, rfl⟩, Or.inr ⟨k + 1, by rw [Hkl.out]; exact Nat.le_refl _, HJ3.out⟩⟩
      | some p =>
        have HV := hide (cutV_some u p hc)
        have hp := partsV_some u p hc
        have hplt := cut_lt _ _ _ hc
        rw [list_size] at hplt
        have hd : (partsV s).drop k = .string (u.extract 0 p) :: partsV (u.extract (p + 1) u.size) := by rw [← Hk.out]; exact hp
        have hk : (partsV s)[k]? = some (.string (u.extract 0 p)) := by
          have := congrArg (fun l : List Value => l[0]?) hd
          simpa using this
        have hd2 : partsV (u.extract (p + 1) u.size) = (partsV s).drop (k + 1) := by
          have := congrArg (List.drop 1) hd
          rw [List.drop_drop] at this
          exact this.symm
        have hkl : k + 1 ≤ (partsV s).length := (List.getElem?_eq_some_iff.1 hk).1
        have Hkl := hide hkl
        have Hd2 := hide hd2
        have HKX := hide hk
        have hz : (u.extract (p + 1) u.size).size = u.size - (p + 1) := by rw [ByteArray.size_extract]; omega
        have HZ := hide hz
        clear hc hp hd hk hkl hd2 hz
        gi_wp2
        refine ⟨trivial, fun h => (by cases h), (callsIn_wide.2 (cut_any u _ (by omega))).mono ?_⟩
        rintro e w1 ⟨rfl, hb1⟩
        rw [HV.out]
        have hx1 := HX.out.below hb1 HX.out.lt
        have f1 := hx1.frozen 0
        have hbut : But b wr w1 := (But.refl b wr).below hb1
        have e1 := hx1.cell 0
        simp at e1
        have HJ2 := hide (hJ _ _ _ HJ.out (hbut.put 0 (.string (u.extract (p + 1) u.size))))
        have HX2 := hide (hx1.put 0 (.string (u.extract (p + 1) u.size)))
        obtain ⟨fn, tmps, assign, body, hy, hR⟩ := hY k _ _ HKX.out HJ2.out
        clear hb1 hx1 hbut
        gi_wp2
        refine ⟨fun h => (by cases h), hR.mono ?_⟩
        rintro e W' (⟨rfl, hJ', hk'⟩ | ⟨rfl, hJx'⟩)
        · have HJ3 := hide hJ'
          have HX3 : Hid (Blk W' b 9 #[.string (u.extract (p + 1) u.size)]) := hk' _ HX2.out
          have HL1 := hide (leftOf_blk HX3.out)
          have HL2 := hide (leftOf_blk HX.out)
          clear hJ' hk'
          gi_wp2
          go_roundw
          case rel => exact ⟨k + 1, Or.inr ⟨_, rfl, by rw [HZ.out]; omega, HX3.out, Hd2.out, HJ3.out⟩⟩
          case measure =>
            show leftOf W' b + 1 < leftOf wr b + 1
            rw [HL1.out, HL2.out, HZ.out]; omega
        · have HJ3 := hide hJx'
          clear hJx'
          gi_wp2
          go_returns
          exact ⟨⟨_, rfl⟩, Or.inr ⟨k + 1, Hkl.out, HJ3.out⟩⟩
end Go.Proofs.YtmmfipkdkofdkaaDoor
