/-
  What the calls of digits compute. No condition.
-/
import Derived.Test.YtpaodffckhnieaaDoorBuilder
import Derived.Test.YtpaodffckhnieaaDoorShelf
import Derived.Test.YtpaodffckhnieaaDoorDigitsPlain
import Derived.Deep.DeepCutAuto
import Derived.Deep.CutBlock
namespace Go.Proofs.YtpaodffckhnieaaDoor
open Go.RowKit
set_option linter.unusedVariables false
set_option linter.unusedSimpArgs false
set_option maxRecDepth 100000

theorem least_any (x : Int) (w : World) (h0 : x ≤ 0) (h1 : -9223372036854775808 ≤ x) :
    Calls Tryd.prog 46 #[.int .i64 x] w fun e w' => ∃ v, e = .returned v ∧ w'.ownsRow w.heap.size 5 1 v (dig x.natAbs).length (Lib.byteCells (dig x.natAbs).reverse) ∧ Below w.heap.size w w' := by
  obtain ⟨i0, hi, hz0, hz1, hz2⟩ := info_parts infoByte
  go_enter Tryd.func46, Tryd.ntmps46
  go_wp2_with fail
  go_loopw [0, 3] (fun n v wr => ∃ (f M : Nat) (acc : List UInt8), n = .int .i64 (-(M : Int)) ∧ M ≤ 9223372036854775808 ∧ M < 10 ^ f ∧ acc.length + f = 20 ∧ 1 ≤ f ∧ Hid (acc ++ revF f M = revF 20 x.natAbs) ∧ wr.ownsRow w.heap.size 5 1 v acc.length (Lib.byteCells acc) ∧ Below w.heap.size w wr) (fun n _ _ => (intOf n).natAbs)
  case atStart =>
    refine ⟨20, x.natAbs, [], by congr 1; omega, by omega, ?_, rfl, by omega, rfl, by simpa [Lib.byteCells] using World.ownsRow_nil w w.heap.size 5 1, Below.refl _ _⟩
    have : (9223372036854775808 : Nat) < 10 ^ 20 := by decide
    omega
  case round =>
    obtain ⟨f, M, acc, rfl, hM, hMf, hl, hf, hr, hown, hB⟩ := hrel
    obtain ⟨f', rfl⟩ : ∃ f', f = f' + 1 := ⟨f - 1, by omega⟩
    have hwb := hB.size
    have HMf := hide hMf
    have HB := hide hB
    clear hMf hB
    have hcells : Lib.byteCells acc ++ [.int .u8 (48 + (M : Int) % 10)] = Lib.byteCells (acc ++ [dg M]) := by
      simp only [Lib.byteCells, List.map_append, List.map_cons, List.map_nil, dg_toNat]
      congr 3
    have Hcells := hide hcells
    clear hcells
    have hlen : (acc ++ [dg M]).length = acc.length + 1 := by simp
    have Hlen := hide hlen
    clear hlen
    by_cases hm : M < 10
    · have hend : (acc ++ [dg M]) = (dig x.natAbs).reverse := by
        have h2 := hr.out
        rw [revF_eq 20, show revF (f' + 1) M = [dg M] from by unfold revF; rw [if_pos hm]] at h2
        exact h2
      have Hend := hide hend
      clear hend
      go_wp2_with (at_builtin; refine wpList_append_one wr rfl _ _ 61 rfl w.heap.size 5 i0 (.int .u8 0) 1 1 Tryd.underlying61 hi hz0 hz1 hz2 rfl (by decide) _ acc.length _ [.int .u8 (48 + (M : Int) % 10)] hown rfl rfl (by simp [Value.oneCell']) rfl (by simp [maxLen]; omega) (by omega) hwb ?_; intro v1 w1 hown1 hb1 _)
      go_returns
      refine ⟨_, rfl, ?_, HB.out.trans hb1⟩
      rw [Hcells.out, ← Hlen.out, Hend.out, List.length_reverse] at hown1
      exact hown1
    · have hend : (acc ++ [dg M]) ++ revF f' (M / 10) = revF 20 x.natAbs := by
        have h2 := hr.out
        rw [show revF (f' + 1) M = dg M :: revF f' (M / 10) from by rw [revF]; rw [if_neg hm]] at h2
        rw [← h2]; simp
      have hM2 : M / 10 < 10 ^ f' := by have := HMf.out; rw [Nat.pow_succ] at this; omega
      have hf2 : 1 ≤ f' := by
        rcases Nat.eq_zero_or_pos f' with h0 | h0
        · subst h0; simp at hM2; omega
        · exact h0
      have Hend := hide hend
      have HM2 := hide hM2
      have hq : ((M : Int) / 10) = ((M / 10 : Nat) : Int) := by omega
      have Hq := hide hq
      clear hend hM2 hq
      go_wp2_with (at_builtin; refine wpList_append_one wr rfl _ _ 61 rfl w.heap.size 5 i0 (.int .u8 0) 1 1 Tryd.underlying61 hi hz0 hz1 hz2 rfl (by decide) _ acc.length _ [.int .u8 (48 + (M : Int) % 10)] hown rfl rfl (by simp [Value.oneCell']) rfl (by simp [maxLen]; omega) (by omega) hwb ?_; intro v1 w1 hown1 hb1 _)
      go_roundw
      exact ⟨f', M / 10, acc ++ [dg M], by rw [← Hq.out], by omega, HM2.out, by rw [Hlen.out]; omega, hf2, Hend.out, by rw [Hlen.out, ← Hcells.out]; exact hown1, HB.out.trans hb1⟩
      case measure => simp [intOf]; omega

/-- The way of Text behind the digits: a row of bytes, from its end to its head into a builder. -/
def byteAt (l : List UInt8) (i : Nat) : Int := ((l.getD i 0).toNat : Int)
theorem byteCells_getElem (l : List UInt8) (i : Nat) (h : i < l.length) : (Lib.byteCells l)[i]? = some (.int .u8 (byteAt l i)) := by
  simp [Lib.byteCells, byteAt, List.getD, h]
theorem byteCells_take (l : List UInt8) (k : Nat) (h : k < l.length) : Lib.byteCells (l.take k) ++ [.int .u8 (byteAt l k)] = Lib.byteCells (l.take (k + 1)) := by
  rw [List.take_succ_eq_append_getElem h]
  unfold Lib.byteCells
  rw [List.map_append]
  simp [byteAt, List.getD, h]
theorem byteAt_reverse (l : List UInt8) (i k : Nat) (h : i + k + 1 = l.length) : byteAt l.reverse i = byteAt l k := by
  unfold byteAt
  rw [List.getD_eq_getElem?_getD, List.getD_eq_getElem?_getD, List.getElem?_reverse (by omega)]
  have e : l.length - 1 - i = k := by omega
  rw [e]

/-- Block g holds the bytes of L. -/
def ByteBlk (W : World) (g : Nat) (L : List UInt8) : Prop := g < W.heap.size ∧ ∀ j, j < L.length → W.cell? ⟨g, j, none⟩ = some (.int .u8 (byteAt L j))
theorem ByteBlk.of_own {W : World} {base : Nat} {e : TypeId} {v : Value} {n : Nat} {L : List UInt8} (h : W.ownsRow base e 1 v n (Lib.byteCells L)) (hn : n = L.length) (h0 : 0 < n) :
    ∃ g cap, v = .slice (some ⟨g, 0, none⟩) n cap ∧ base ≤ g ∧ ByteBlk W g L := by
  obtain ⟨g, cap, rfl, hb, hg, _, _, _, hc⟩ := own_form h h0
  exact ⟨g, cap, rfl, hb, hg, fun j hj => by rw [hc j (by omega), byteCells_getElem L j hj]⟩
theorem ByteBlk.cell {W : World} {g : Nat} {L : List UInt8} (h : ByteBlk W g L) (j : Nat) (hj : j < L.length) : W.cell? ⟨g, j, none⟩ = some (.int .u8 (byteAt L j)) := h.2 j hj

set_option maxHeartbeats 1000000 in
theorem text_any (x : Int) (w : World) (h0 : -9223372036854775808 ≤ x) (h1 : x ≤ 9223372036854775807) :
    Calls Tryd.prog 30 #[.int .i64 x] w fun e w' => e = .returned (.string (text x)) ∧ Below w.heap.size w w' := by
  obtain ⟨i0, hi, hz0, hz1, hz2⟩ := info_parts infoByte
  have hL : (textL x).length ≤ 21 := textL_length x
  have hL0 : 0 < (textL x).length := textL_pos x
  have hD : (dig x.natAbs).length ≤ 20 := digF_length 20 _
  go_enter Tryd.func30, Tryd.ntmps30
  go_upto_if 10 with fail
  go_cut [0, 3] (fun v s W => w = W ∧ s = .bool (decide (x < 0)) ∧ ∃ y : Int, v = .int .i64 y ∧ y ≤ 0 ∧ -9223372036854775808 ≤ y ∧ Hid (y.natAbs = x.natAbs))
  case first =>
    go_wp2
    all_goals rename_i hx
    all_goals simp at hx
    all_goals go_meet
    · exact ⟨rfl, rfl, -x, congrArg (Value.int .i64) (by unfold wrap64; omega), by omega, by omega, by simp [Hid]⟩
    · exact ⟨rfl, rfl, x, rfl, by omega, h0, rfl⟩
  case rest =>
  obtain ⟨rfl, rfl, y, rfl, hy0, hy1, Hy⟩ := hcut
  go_upto_if 15 with fail
  refine (least_any y _ hy0 hy1).mono ?_
  rintro e w1 ⟨v, rfl, hown, hB⟩
  rw [Hy.out] at hown
  have HB := hide hB
  have hwb := hB.size
  clear hB
  go_upto_if 15 with fail
  go_cut [3, 4] (fun s v W => s = .bool (decide (x < 0)) ∧ ∃ g cap, v = .slice (some ⟨g, 0, none⟩) (textL x).length cap ∧ w.heap.size ≤ g ∧ ByteBlk W g (textL x).reverse ∧ Hid (Below w.heap.size w W))
  case first =>
    by_cases hx : x < 0
    · have hLe : textL x = 45 :: dig x.natAbs := by unfold textL; rw [if_pos hx]
      have HLe := hide hLe
      clear hLe
      have hd : decide (x < 0) = true := by simp [hx]
      go_wp2_with (at_builtin; refine wpList_append_one w1 rfl _ _ 61 rfl w.heap.size 5 i0 (.int .u8 0) 1 1 Tryd.underlying61 hi hz0 hz1 hz2 rfl (by decide) _ _ _ [.int .u8 45] hown rfl rfl (by simp [Value.oneCell']) rfl (by simp [maxLen]; omega) (by omega) hwb ?_; intro v2 w2 hown2 hb2 _)
      go_meet
      have e1 : Lib.byteCells (dig x.natAbs).reverse ++ [.int .u8 45] = Lib.byteCells (textL x).reverse := by
        rw [HLe.out, List.reverse_cons]; simp [Lib.byteCells]
      have e2 : (dig x.natAbs).length + 1 = (textL x).length := by rw [HLe.out]; rfl
      rw [e1, e2] at hown2
      obtain ⟨g, cap, rfl, hg, hblk⟩ := ByteBlk.of_own hown2 (by simp) hL0
      exact ⟨by rw [hd], g, cap, rfl, hg, hblk, HB.out.trans hb2⟩
    · have hLe : textL x = dig x.natAbs := by unfold textL; rw [if_neg hx]
      have HLe := hide hLe
      clear hLe
      have hd : decide (x < 0) = false := by simp [hx]
      go_wp2
      go_meet
      rw [← HLe.out] at hown
      obtain ⟨g, cap, rfl, hg, hblk⟩ := ByteBlk.of_own hown (by simp) hL0
      exact ⟨by rw [hd], g, cap, rfl, hg, hblk, HB.out⟩
  case rest =>
  obtain ⟨rfl, g, cap, rfl, hg, hblk, HBW⟩ := hcut
  obtain ⟨L, hLd⟩ : ∃ L, textL x = L := ⟨_, rfl⟩
  rw [hLd] at hL hL0 hblk
  rw [hLd]
  have HLd := hide hLd
  clear hLd
  go_wp2_with fail
  go_loopw [6] (fun n wr => ∃ m k : Nat, Hid (m + k = L.length) ∧ n = .int .i64 ((m : Int) - 1) ∧ m ≤ 21 ∧ Lib.IsBuilder 81 5 wc.heap.size wc.heap.size (Lib.byteCells (L.take k)) wr ∧ Below wc.heap.size wc wr) (fun n _ => (intOf n + 1).toNat)
  case atStart => exact ⟨L.length, 0, rfl, rfl, hL, Lib.fresh_isBuilder _ _ _, (Below.refl _ _).alloc (Nat.le_refl _) _⟩
  case round =>
    obtain ⟨m, k, Hmk, rfl, hm, hbd, hbl⟩ := hrel
    have Hbl := hide hbl
    rcases m with _ | j
    · have Hk : Hid (L.take k = L) := List.take_of_length_le (by have := Hmk.out; omega)
      have Hbd := hide hbd
      clear hbd
      go_wp2_with fail
      refine (Tryd.Builder_String_any wc.heap.size wc.heap.size (L.take k) _ Hbd.out Hbl.out.size).mono ?_
      rintro e w3 ⟨rfl, hB3⟩
      have HB3 := hide hB3
      clear hB3
      go_wp2_with fail
      go_returns
      exact ⟨by rw [Hk.out]; exact congrArg (fun s => Ending.returned (Value.string s)) (by unfold text; rw [HLd.out]), below_via HBW.out (Hbl.out.trans HB3.out)⟩
    · have hcell : wr.cell? ⟨g, j, none⟩ = some (.int .u8 (byteAt L k)) := by
        rw [hbl.cell (p := ⟨g, j, none⟩) hblk.1, hblk.cell j (by have := Hmk.out; simp; omega), byteAt_reverse L j k (by have := Hmk.out; omega)]
      have hj : ((j + 1 : Nat) : Int) - 1 = j := by omega
      rw [hj]
      have hjl : j < L.length := by have := Hmk.out; omega
      have Hbd := hide hbd
      clear hbd hj
      go_wp2_with fail
      refine (writeByte_any wc.heap.size wc.heap.size _ _ _ Hbd.out (by simp [Lib.byteCells]; omega) hbl.size).mono ?_
      rintro e w3 ⟨rfl, hb3, hB3⟩
      have HB3 := hide hB3
      have Hb3 := hide hb3
      clear hb3 hB3
      go_wp2_with fail
      go_roundw
      case rel => exact ⟨j, k + 1, by have := Hmk.out; show j + (k + 1) = _; omega, rfl, by omega, by rw [← byteCells_take L k (by have := Hmk.out; omega)]; exact Or.inr Hb3.out, Hbl.out.trans HB3.out⟩
      case measure => simp [intOf]

end Go.Proofs.YtpaodffckhnieaaDoor
