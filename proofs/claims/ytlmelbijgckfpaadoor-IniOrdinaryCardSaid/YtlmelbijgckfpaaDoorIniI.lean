/-
  The iterator over a text's lines. No condition but on lengths.
-/
import Derived.Test.YtlmelbijgckfpaaDoorIniH
import Derived.Test.YtlmelbijgckfpaaDoorRange2
namespace Go.Proofs.YtlmelbijgckfpaaDoor
open Go.RowKit Go.Shelf
attribute [local go_sem] Oper.semAt_some
set_option linter.unusedVariables false
set_option linter.unusedSimpArgs false
set_option maxRecDepth 100000

/-- The values that are handed out. -/
def linesV (s : ByteArray) : List Value := (lines s.data.toList).map fun p => .string (bs p)
theorem linesV_none (s : ByteArray) (h : Lib.indexByte s.data.toList 10 < 0) : linesV s = [.string s] := by
  unfold linesV; rw [lines_none _ h]; show [Value.string (bs s.data.toList)] = _; rw [bs_of]
theorem linesV_some (s : ByteArray) (p : Nat) (h : Lib.indexByte s.data.toList 10 = (p : Int)) : linesV s = .string (s.extract 0 p) :: linesV (s.extract (p + 1) s.size) := by
  unfold linesV; rw [lines_some _ p h, ext_drop, bs_list, ext_take]; rfl
theorem linesV_texts (s : ByteArray) : linesV s = (linesB s).map Value.string := by unfold linesV linesB; rw [List.map_map]; rfl
/-- How long the text is that is left. -/
def leftOf (W : World) (b : Nat) : Nat := match W.cell? ⟨b, 0, none⟩ with | some (.string u) => u.size | _ => 0
theorem leftOf_blk {W : World} {b : Nat} {t : TypeId} {u : ByteArray} (h : Blk W b t #[.string u]) : leftOf W b = u.size := by
  unfold leftOf
  have := h.cell 0
  simp at this
  rw [this]
theorem KeepsIn.blk {lo up g : Nat} {t : TypeId} {cs : Array Value} {w w' : World} (h : KeepsIn lo up w w') (k : Blk w g t cs) (h1 : lo ≤ g) (h2 : g < up) : Blk w' g t cs := h g _ h1 h2 k

set_option maxHeartbeats 2000000 in
theorem lines_gives (n b : Nat) (s : ByteArray) (w : World) (hs : s.size ≤ 1000000) (hx0 : Blk w b 9 #[.string s]) (hx1 : Blk w (b + 1) 9 #[.string ⟨#[10]⟩]) (hx2 : Blk w (b + 2) 3 #[.int .i64 0]) :
    GivesBox Tryd.prog n 51 #[.pointer (some ⟨b + 1, 0, none⟩), .pointer (some ⟨b, 0, none⟩), .pointer (some ⟨b + 2, 0, none⟩)] b b (b + 3) (linesV s) w := by
  intro l J Jx W hW hJ hY h0
  have hx := hx0.below hW hx0.lt
  have hy1 := hx1.below hW hx1.lt
  have hy2 := hx2.below hW hx2.lt
  clear hx0 hx1 hx2 hW
  have HY1 := hide hy1
  have c1 := hy1.cell 0
  have c2 := hy2.cell 0
  simp at c1 c2
  have HY2 := hide hy2
  clear hy1 hy2
  refine callsIn_of_wp Tryd.func51 rfl trivial ?_ rfl
  simp only [Tryd.ntmps51, List.size_toArray, List.length_cons, List.length_nil, Nat.reduceAdd, Nat.reduceSub, Array.replicate_succ, Array.replicate_zero, List.push_toArray, List.append_toArray, List.nil_append, List.cons_append]
  gi_wp2
  gi_loopw [7, 8] (fun _ _ wr => ∃ (k : Nat) (u : ByteArray), u.size ≤ s.size ∧ Blk wr b 9 #[.string u] ∧ Blk wr (b + 1) 9 #[.string ⟨#[10]⟩] ∧ Blk wr (b + 2) 3 #[.int .i64 0] ∧ Hid (linesV u = (linesV s).drop k) ∧ J k wr) (fun _ _ wr => leftOf wr b)
  case atStart => exact ⟨0, s, Nat.le_refl _, hx, HY1.out, HY2.out, rfl, h0⟩
  case round =>
    obtain ⟨k, u, hu, hx, hz1, hz2, Hk, hj⟩ := hrel
    have e0 := hx.cell 0
    have e1 := hz1.cell 0
    have e2 := hz2.cell 0
    have f0 := hx.frozen 0
    simp at e0 e1 e2
    have HX := hide hx
    have HZ1 := hide hz1
    have HZ2 := hide hz2
    have HJ := hide hj
    clear hx hz1 hz2 hj
    obtain ⟨x, hxx⟩ : ∃ x, Lib.indexByte u.data.toList 10 = x := ⟨_, rfl⟩
    have HXX := hide hxx
    by_cases hneg : x < 0
    · have hd : (linesV s).drop k = [.string u] := by rw [← Hk.out]; exact linesV_none u (by rw [hxx]; exact hneg)
      have hk : (linesV s)[k]? = some (.string u) := by
        have := congrArg (fun l : List Value => l[0]?) hd
        simpa using this
      have hkl : (linesV s).length = k + 1 := by
        have := congrArg List.length hd
        rw [List.length_drop] at this
        simp at this
        omega
      have Hkl := hide hkl
      obtain ⟨fn, tmps, assign, body, hy, hR⟩ := hY k _ _ hk HJ.out
      clear hxx hd hk hkl
      gi_wp2
      refine ⟨trivial, fun h => (by cases h), (callsIn_wide.2 (Tryd.strings_Index_one u 10 _)).mono ?_⟩
      rintro e w1 ⟨rfl, rfl⟩
      rw [HXX.out]
      gi_wp2
      refine ⟨fun h => (by cases h), hR.mono ?_⟩
      rintro e W' (⟨rfl, hJ', _⟩ | ⟨rfl, hJx'⟩)
      · have HJ3 := hide hJ'
        clear hJ'
        gi_wp2
        go_returns
        exact ⟨⟨_, rfl⟩, Or.inl (by rw [Hkl.out]; exact HJ3.out)⟩
      · have HJ3 := hide hJx'
        clear hJx'
        gi_wp2
        go_returns
        exact ⟨⟨_, rfl⟩, Or.inr ⟨k + 1, by rw [Hkl.out]; exact Nat.le_refl _, HJ3.out⟩⟩
    · obtain ⟨p, rfl⟩ : ∃ p : Nat, x = (p : Int) := ⟨x.toNat, by omega⟩
      have hplt := indexByte_lt u.data.toList 10
      rw [hxx, list_size] at hplt
      have hp := linesV_some u p hxx
      have hd : (linesV s).drop k = .string (u.extract 0 p) :: linesV (u.extract (p + 1) u.size) := by rw [← Hk.out]; exact hp
      have hk : (linesV s)[k]? = some (.string (u.extract 0 p)) := by
        have := congrArg (fun l : List Value => l[0]?) hd
        simpa using this
      have hd2 : linesV (u.extract (p + 1) u.size) = (linesV s).drop (k + 1) := by
        have := congrArg (List.drop 1) hd
        rw [List.drop_drop] at this
        exact this.symm
      have hkl : k + 1 ≤ (linesV s).length := (List.getElem?_eq_some_iff.1 hk).1
      have Hkl := hide hkl
      have Hd2 := hide hd2
      have hz : (u.extract (p + 1) u.size).size = u.size - (p + 1) := by rw [ByteArray.size_extract]; omega
      have HZ := hide hz
      obtain ⟨fn, tmps, assign, body, hy, hR⟩ := hY k _ _ hk HJ.out
      have hpi : (p : Int) ≤ (u.size : Int) := by omega
      have hpi1 : (p : Int) + 1 ≤ (u.size : Int) := by omega
      have hp0 : (0 : Int) ≤ (p : Int) := by omega
      clear hxx hd hk hd2 hkl hp hz
      gi_wp2
      refine ⟨trivial, fun h => (by cases h), (callsIn_wide.2 (Tryd.strings_Index_one u 10 _)).mono ?_⟩
      rintro e w1 ⟨rfl, rfl⟩
      rw [HXX.out]
      gi_wp2
      refine ⟨fun h => (by cases h), hR.mono ?_⟩
      rintro e W' (⟨rfl, hJ', hk'⟩ | ⟨rfl, hJx'⟩)
      · have hx3 := hk'.blk HX.out (by omega) (by omega)
        have hz13 := hk'.blk HZ1.out (by omega) (by omega)
        have hz23 := hk'.blk HZ2.out (by omega) (by omega)
        have g0 := hx3.cell 0
        have g1 := hz13.cell 0
        have k0 := hx3.frozen 0
        simp at g0 g1
        have HJ3 := hide (hJ _ _ _ hJ' ((But.refl b W').put 0 (.string (u.extract (p + 1) u.size))))
        have HX4 := hide (hx3.put 0 (.string (u.extract (p + 1) u.size)))
        have HZ14 := hide (hz13.far (p := ⟨b, 0, none⟩) (show b + 1 ≠ b by omega) (.string (u.extract (p + 1) u.size)))
        have HZ24 := hide (hz23.far (p := ⟨b, 0, none⟩) (show b + 2 ≠ b by omega) (.string (u.extract (p + 1) u.size)))
        have HL2 := hide (leftOf_blk HX.out)
        have HL1 := hide (leftOf_blk (show Blk (W'.setCell ⟨b, 0, none⟩ (.string (u.extract (p + 1) u.size))) b 9 #[.string (u.extract (p + 1) u.size)] from HX4.out))
        clear hx3 hz13 hz23 hJ' hk'
        gi_wp2
        go_roundw
        case rel => exact ⟨k + 1, _, by rw [HZ.out]; omega, HX4.out, HZ14.out, HZ24.out, Hd2.out, HJ3.out⟩
        case measure =>
          show leftOf _ b < leftOf _ b
          rw [HL1.out, HL2.out, HZ.out]; omega
      · have HJ3 := hide hJx'
        clear hJx'
        gi_wp2
        go_returns
        exact ⟨⟨_, rfl⟩, Or.inr ⟨k + 1, Hkl.out, HJ3.out⟩⟩
end Go.Proofs.YtlmelbijgckfpaaDoor
