/-
  The walks of the laws EngineNobody, EngineCounts. No condition.
-/
import Derived.Test.YtpaodffckhnieaaDoorEngC
namespace Go.Proofs.YtpaodffckhnieaaDoor
open Go.RowKit Go.Maps
set_option linter.unusedVariables false
set_option linter.unusedSimpArgs false

set_option maxHeartbeats 1000000 in
theorem nobody_any (s : ByteArray) (b : Int) (k n : Int) (c : ByteArray) (w : World) :
    Calls Tryd.prog 6 #[.string s, .int .u8 b, .agg #[.int .i64 k, .int .i64 n, .string c]] w fun e w' => e = .returned (.bool true) ∧ Below w.heap.size w w' := by
  go_enter Tryd.func6, Tryd.ntmps6
  go_upto_region 3 with fail
  have hB : Below w.heap.size w ((w.alloc (.cells #[.int .i64 k, .int .i64 n, .string c] 26)).alloc (.cells #[.map none, .int .i64 0] 52)) := ((Below.refl _ w).alloc (Nat.le_refl _) _).alloc (by simp) _
  have hb : Blk ((w.alloc (.cells #[.int .i64 k, .int .i64 n, .string c] 26)).alloc (.cells #[.map none, .int .i64 0] 52)) w.heap.size 26 #[.int .i64 k, .int .i64 n, .string c] := (Blk.new w _ _).alloc _
  have hz := Blk.new (w.alloc (.cells #[.int .i64 k, .int .i64 n, .string c] 26)) 52 #[.map none, .int .i64 0]
  have s1 : (w.alloc (.cells #[.int .i64 k, .int .i64 n, .string c] 26)).heap.size = w.heap.size + 1 := by simp
  rw [s1] at hz
  generalize (w.alloc (.cells #[.int .i64 k, .int .i64 n, .string c] 26)).alloc (.cells #[.map none, .int .i64 0] 52) = W at hB hb hz ⊢
  have hd2 : Dead W (.pointer (some ⟨w.heap.size + 1, 0, none⟩)) := Or.inr ⟨_, rfl, hz.lt, hz.cell 0⟩
  have c0 : W.cell? ⟨w.heap.size, 0, none⟩ = some (.int .i64 k) := hb.cell 0
  have c1 : W.cell? ⟨w.heap.size, 1, none⟩ = some (.int .i64 n) := hb.cell 1
  have c2 : W.cell? ⟨w.heap.size, 2, none⟩ = some (.string c) := hb.cell 2
  have HB := hide hB
  have Hb := hide hb
  have Hd2 := hide hd2
  have Hd1 : Hid (∀ W, Dead W (.pointer none)) := fun _ => Or.inl rfl
  clear hB hb hd2 hz s1
  go_wp2_with fail
  refine (verdict_dead _ s b _ (Hd1.out _)).mono ?_
  rintro e w1 ⟨rfl, rfl⟩
  go_wp2_with fail
  refine (verdict_dead _ s b _ Hd2.out).mono ?_
  rintro e w1 ⟨rfl, rfl⟩
  go_wp2_with fail
  refine (turn_dead _ s _ (Hd1.out _)).mono ?_
  rintro e w1 ⟨rfl, rfl⟩
  go_wp2_with fail
  refine (turn_dead _ s _ Hd2.out).mono ?_
  rintro e w1 ⟨rfl, rfl⟩
  go_wp2_with fail
  refine (next_dead _ _ (Hd1.out _)).mono ?_
  rintro e w1 ⟨rfl, rfl⟩
  go_wp2_with fail
  refine (count_dead _ _ Hd2.out).mono ?_
  rintro e w1 ⟨rfl, rfl⟩
  go_wp2_with fail
  refine (rows_dead _ k n c _ (Hd1.out _)).mono ?_
  rintro e w1 ⟨hb1, rfl⟩
  have hx1 := Hb.out.below hb1 Hb.out.lt
  have d0 : w1.cell? ⟨w.heap.size, 0, none⟩ = some (.int .i64 k) := hx1.cell 0
  have d1 : w1.cell? ⟨w.heap.size, 1, none⟩ = some (.int .i64 n) := hx1.cell 1
  have d2 : w1.cell? ⟨w.heap.size, 2, none⟩ = some (.string c) := hx1.cell 2
  have Hd3 := hide (Hd2.out.below hb1)
  have HB1 := hide (below_via HB.out hb1)
  clear hb1 hx1
  go_wp2_with fail
  refine (rows_dead _ k n c _ Hd3.out).mono ?_
  rintro e w2 ⟨hb2, rfl⟩
  have HB2 := hide (below_via HB1.out hb2)
  clear hb2 d0 d1 d2
  go_wp2_with fail
  refine (awake_any _).mono ?_
  rintro e w3 ⟨rfl, hb3⟩
  have HB3 := hide (below_via HB2.out hb3)
  clear hb3
  go_wp2_with fail
  go_returns
  exact ⟨rfl, HB3.out⟩

/-- What the walk is told of a call: its number, its text; and that its cells are there. -/
def DoAt (w : World) (a : Option Addr) (len : Nat) (O : Nat → Int) (T : Nat → ByteArray) : Prop :=
  len = 0 ∨ ∃ b off, a = some ⟨b, off, none⟩ ∧ b < w.heap.size ∧ ∀ i, i < len → ∃ (st kd n : Int) (co : ByteArray) (pa : Option Addr) (pl pc : Nat),
    w.cell? ⟨b, off + i * 7, none⟩ = some (.int .i64 (O i)) ∧ w.cell? ⟨b, off + i * 7 + 1, none⟩ = some (.string (T i)) ∧ w.cell? ⟨b, off + i * 7 + 2, none⟩ = some (.int .u8 st) ∧
    w.cell? ⟨b, off + i * 7 + 3, none⟩ = some (.int .i64 kd) ∧ w.cell? ⟨b, off + i * 7 + 4, none⟩ = some (.int .i64 n) ∧ w.cell? ⟨b, off + i * 7 + 5, none⟩ = some (.string co) ∧ w.cell? ⟨b, off + i * 7 + 6, none⟩ = some (.slice pa pl pc)

set_option maxRecDepth 100000 in
set_option maxHeartbeats 2000000 in
theorem counts_any (a : Option Addr) (len cap : Nat) (O : Nat → Int) (T : Nat → ByteArray) (w : World) (hlen : len ≤ maxLen) (hD : DoAt w a len O T) :
    Calls Tryd.prog 3 #[.slice a len cap] w fun e w' => e = .returned (.bool true) ∧ Below w.heap.size w w' := by
  unfold maxLen at hlen
  have HD := hide hD
  clear hD
  go_enter Tryd.func3, Tryd.ntmps3
  go_wp2_with fail
  refine (new_live _).mono ?_
  rintro e w1 ⟨g, m, D, hE, hg, hm, hb1, rfl⟩
  have HE := hide hE
  have HB := hide hb1
  have Hgm := hide (And.intro hg hm)
  clear hE hb1 hg hm
  go_upto_block 0 with fail
  go_cut [4] (fun t W => ∃ (q : Nat) (D : DataW Unit) (k : Nat), t = .int .i64 q ∧ Eng W g m k D q ∧ Below w.heap.size w W)
  case first =>
    go_wp2_with fail
    go_loopw [4, 11] (fun t i wr => ∃ (j q : Nat) (D : DataW Unit), j ≤ len ∧ j ≤ 60 ∧ q ≤ j ∧ i = .int .i64 j ∧ t = .int .i64 q ∧ Eng wr g m j D q ∧ Below w.heap.size w wr) (fun _ i _ => 64 - (intOf i).toNat)
    case atStart => exact ⟨0, 0, D, by omega, by omega, by omega, rfl, rfl, HE.out, HB.out⟩
    case round =>
      clear HE HB
      obtain ⟨j, q, D1, hj, hj60, hq, rfl, rfl, hE, hB⟩ := hrel
      by_cases hlt : j < len
      · rcases HD.out with h0 | ⟨b, off, rfl, hbw, hcell⟩
        · omega
        obtain ⟨st, kd, n, co, pa, pl, pc, z0, z1, z2, z3, z4, z5, z6⟩ := hcell j hlt
        rw [← hB.cell hbw] at z0 z1 z2 z3 z4 z5 z6
        have k0 : (0 : Int) ≤ (j : Int) := by omega
        have k1 : (j : Int) < (len : Int) := by omega
        clear hcell
        generalize O j = o at z0
        generalize T j = s at z1
        have hbx : Below wr.heap.size wr (wr.alloc (.cells #[.int .i64 o, .string s, .int .u8 st, .int .i64 kd, .int .i64 n, .string co, .slice pa pl pc] 29)) := (Below.refl _ _).alloc (Nat.le_refl _) _
        have HE := hide (hE.below hbx)
        have HB := hide (below_via hB hbx)
        have HX := hide (Blk.new wr 29 #[.int .i64 o, .string s, .int .u8 st, .int .i64 kd, .int .i64 n, .string co, .slice pa pl pc])
        have Hd := hide (show wr.heap.size ≠ g ∧ wr.heap.size ≠ m from by
          have q1 := hE.head.lt
          have q2 := hE.map.lt
          omega)
        clear hE hB hbx
        by_cases h60 : j < 60
        · have h60' : ¬ (60 : Int) ≤ (j : Int) := by omega
          by_cases h300 : s.size ≤ 300
          · have h300' : ¬ (300 : Int) < (s.size : Int) := by omega
            have hsz : s.size ≤ maxLen := by unfold maxLen; omega
            by_cases ho0 : o = 0
            · subst ho0
              go_wp2_with fail
              refine (turn_live g m j D1 q s _ HE.out hsz (by omega)).mono ?_
              rintro e w2 ⟨b2, D2, rfl, hE2, hk2⟩
              have hx2 := Blk.kept HX.out hk2 Hd.out.1 Hd.out.2
              have e0 := hx2.cell 0
              simp at e0
              have HE2 := hide hE2
              have HB2 := hide (HB.out.trans (hk2.below Hgm.out.1 Hgm.out.2 HB.out.size))
              clear hE2 hk2 hx2
              go_wp2_with fail
              go_roundw
              case rel => exact ⟨j + 1, q, D2, by omega, by omega, by omega, by go_num, rfl, HE2.out, HB2.out⟩
              case measure => simp [intOf]; omega
            · have ho0b : (o == 0) = false := by simpa using ho0
              by_cases ho1 : o = 1
              · subst ho1
                have hff : ∀ n : Int, (n != n) = false := by simp
                go_wp2_with fail
                refine (next_live g m j D1 q _ HE.out (by omega) (by omega)).mono ?_
                rintro e w2 ⟨rfl, hE2, hk2⟩
                have HE2 : Hid (Eng w2 g m (j + 1) D1 ((q + 1 : Nat) : Int)) := hE2.more
                have HB2 := hide (HB.out.trans (hk2.below Hgm.out.1 Hgm.out.2 HB.out.size))
                clear hE2 hk2
                go_wp2_with fail
                go_roundw
                case rel => exact ⟨j + 1, q + 1, D1, by omega, by omega, by omega, by go_num, by go_num, HE2.out, HB2.out⟩
                case measure => simp [intOf]; omega
              · have ho1b : (o == 1) = false := by simpa using ho1
                go_wp2_with fail
                go_roundw
                case rel => exact ⟨j + 1, q, D1, by omega, by omega, by omega, by go_num, rfl, HE.out.more, HB.out⟩
                case measure => simp [intOf]; omega
          · have h300' : (300 : Int) < (s.size : Int) := by omega
            go_wp2_with fail
            go_meet
            case rel => exact ⟨q, D1, j, rfl, HE.out, HB.out⟩
        · have h60' : (60 : Int) ≤ (j : Int) := by omega
          go_wp2_with fail
          go_meet
          case rel => exact ⟨q, D1, j, rfl, HE.out, HB.out⟩
      · have HE := hide hE
        have HB := hide hB
        clear hE hB
        have hge : ¬ (j : Int) < (len : Int) := by omega
        go_wp2_with fail
        go_meet
        case rel => exact ⟨q, D1, j, rfl, HE.out, HB.out⟩
  case rest =>
    obtain ⟨q, D1, k, rfl, hE, hB⟩ := hcut
    have HE := hide hE
    have HB2 := hide hB
    clear hE hB
    go_wp2_with fail
    refine (count_live g m k D1 q _ HE.out).mono ?_
    rintro e w2 ⟨rfl, rfl⟩
    go_wp2_with fail
    refine (awake_any _).mono ?_
    rintro e w3 ⟨rfl, hb3⟩
    have HB3 := hide (below_via HB2.out hb3)
    clear hb3
    go_wp2_with fail
    go_returns
    exact ⟨rfl, HB3.out⟩
end Go.Proofs.YtpaodffckhnieaaDoor
