/-
  The walk of the law EngineLives. No condition but on lengths.
-/
import Derived.Test.YtpaodffckhnieaaDoorEngRb
import Derived.Deep.RegionHeld3
namespace Go.Proofs.YtpaodffckhnieaaDoor
open Go.RowKit Go.Maps
set_option linter.unusedVariables false
set_option linter.unusedSimpArgs false
set_option maxRecDepth 100000

theorem OneCell.cell {G : Nat} {w w' : World} {n : Int} (h : OneCell G w w') (hG : w.cell? ⟨G, 1, none⟩ = some (.int .i64 n)) {p : Addr} {v : Value} (hp : w.cell? p = some v) (hne : v ≠ .int .i64 n) : w'.cell? p = some v :=
  h.keep p v hp fun e => hne (by rw [e, hG] at hp; exact (Option.some.inj hp).symm)
theorem bytes_one {G : Nat} {w w' : World} {n : Int} {v : Value} {L : List UInt8} (hb : BytesAt w v L) (h : OneCell G w w') (hG : w.cell? ⟨G, 1, none⟩ = some (.int .i64 n)) : BytesAt w' v L := by
  obtain ⟨a, cap, rfl, hh⟩ := hb
  refine ⟨a, cap, rfl, hh.imp id ?_⟩
  rintro ⟨b, off, rfl, h0, h1, h2⟩
  exact ⟨b, off, rfl, h0, Nat.lt_of_lt_of_le h1 h.size, fun j hj => h.cell hG (h2 j hj) (fun e => by cases e)⟩
theorem RowAt.one {G : Nat} {w w' : World} {n : Int} {v : Value} {R : List (Bool × List UInt8)} (hb : RowAt w v R) (h : OneCell G w w') (hG : w.cell? ⟨G, 1, none⟩ = some (.int .i64 n)) : RowAt w' v R := by
  obtain ⟨a, cap, rfl, hh⟩ := hb
  refine ⟨a, cap, rfl, hh.imp id ?_⟩
  rintro ⟨b, off, rfl, h1, h2⟩
  refine ⟨b, off, rfl, Nat.lt_of_lt_of_le h1 h.size, fun j hj => ?_⟩
  obtain ⟨u, k1, k2, k3⟩ := h2 j hj
  refine ⟨u, h.cell hG k1 (fun e => by cases e), h.cell hG k2 (fun e => ?_), bytes_one k3 h hG⟩
  obtain ⟨_, _, e2, _⟩ := k3
  rw [e2] at e; cases e
theorem RowsAt.one {G : Nat} {w w' : World} {n : Int} {v : Value} {N : Nat} {T : Nat → List (Bool × List UInt8)} (hb : RowsAt w v N T) (h : OneCell G w w') (hG : w.cell? ⟨G, 1, none⟩ = some (.int .i64 n)) : RowsAt w' v N T := by
  obtain ⟨a, cap, rfl, hh⟩ := hb
  refine ⟨a, cap, rfl, hh.imp id ?_⟩
  rintro ⟨b, off, rfl, h1, h2⟩
  refine ⟨b, off, rfl, Nat.lt_of_lt_of_le h1 h.size, fun j hj => ?_⟩
  obtain ⟨u, k1, k2⟩ := h2 j hj
  refine ⟨u, h.cell hG k1 (fun e => ?_), k2.one h hG⟩
  obtain ⟨_, _, e2, _⟩ := k2
  rw [e2] at e; cases e

/-- A call of an engine, as it came in. -/
structure DoV where
  op : Int
  s : ByteArray
  st : Int
  kd : Int
  nn : Int
  co : ByteArray
  pa : Option Addr
  pl : Nat
  pc : Nat
  R : List (Bool × List UInt8)
/-- .. and where it lies. -/
structure DoC (W : World) (b off i : Nat) (z : DoV) : Prop where
  c0 : W.cell? ⟨b, off + i * 7, none⟩ = some (.int .i64 z.op)
  c1 : W.cell? ⟨b, off + i * 7 + 1, none⟩ = some (.string z.s)
  c2 : W.cell? ⟨b, off + i * 7 + 2, none⟩ = some (.int .u8 z.st)
  c3 : W.cell? ⟨b, off + i * 7 + 3, none⟩ = some (.int .i64 z.kd)
  c4 : W.cell? ⟨b, off + i * 7 + 4, none⟩ = some (.int .i64 z.nn)
  c5 : W.cell? ⟨b, off + i * 7 + 5, none⟩ = some (.string z.co)
  c6 : W.cell? ⟨b, off + i * 7 + 6, none⟩ = some (.slice z.pa z.pl z.pc)
  row : RowAt W (.slice z.pa z.pl z.pc) z.R
  nil : z.pa = none → z.pl = 0 ∧ z.pc = 0
  fits : ∀ j, j < z.R.length → (gr z.R j).2.length ≤ 140737488355328
def DosAt (W : World) (a : Option Addr) (len : Nat) (Z : Nat → DoV) : Prop := len = 0 ∨ ∃ b off, a = some ⟨b, off, none⟩ ∧ b < W.heap.size ∧ ∀ i, i < len → DoC W b off i (Z i)
theorem tab_le (kd n : Int) (R : List (Bool × List UInt8)) (h : R.length ≤ 1000) (i : Nat) : (tabN kd n R i).length ≤ 1000000 := by
  unfold tabN
  split
  · exact (show 1 ≤ 1000000 by decide)
  · split
    · exact Nat.le_trans h (by decide)
    · exact (show 1 ≤ 1000000 by decide)
theorem cnt_le (kd nn : Int) : cntN kd nn ≤ 1000000 := by
  unfold cntN
  have := heldN_le nn
  split
  · omega
  · split <;> omega
theorem verdict_form (kd b : Int) (no : Bool) : ∃ (x y : ByteArray) (z : Bool), verdictV kd b no = .tuple #[.string x, .string y, .bool z] := by
  unfold verdictV
  split
  · exact ⟨_, _, _, rfl⟩
  · split
    · exact ⟨_, _, _, rfl⟩
    · split
      · exact ⟨_, _, _, rfl⟩
      · exact ⟨_, _, _, rfl⟩
/-- Between two calls. -/
structure Pair (w W : World) (g m G B j : Nat) (l : List ByteArray) (n : Nat) : Prop where
  e : EngS W g m j l n
  r : REng W G B l n
  old : Below w.heap.size w W
  size : B ≤ W.heap.size
theorem Pair.below {w W W' : World} {g m G B j : Nat} {l : List ByteArray} {n : Nat} (h : Pair w W g m G B j l n) (hb : Below W.heap.size W W') : Pair w W' g m G B j l n :=
  ⟨h.e.below hb, h.r.below hb, below_via h.old hb, Nat.le_trans h.size hb.size⟩
structure Where (w : World) (g m G B : Nat) : Prop where
  g0 : w.heap.size ≤ g
  m0 : w.heap.size ≤ m
  gG : g < G
  mG : m < G
  GB : G < B

set_option maxHeartbeats 4000000 in
theorem lives_any (a : Option Addr) (len cap : Nat) (Z : Nat → DoV) (w : World) (hlen : len ≤ maxLen) (hZ : DosAt w a len Z) :
    Calls Tryd.prog 5 #[.slice a len cap] w fun e w' => e = .returned (.bool true) ∧ Below w.heap.size w w' := by
  unfold maxLen at hlen
  have HZ := hide hZ
  clear hZ
  go_enter Tryd.func5, Tryd.ntmps5
  go_wp2_with fail
  refine (new_set _).mono ?_
  rintro e w1 ⟨g, m, hE, hg, hm, hb1, rfl⟩
  have hlts := hE.lts
  have hA := (Below.refl w1.heap.size w1).alloc (Nat.le_refl _) (.cells #[.slice none 0 0, .int .i64 0] 40)
  have hP : Pair w (w1.alloc (.cells #[.slice none 0 0, .int .i64 0] 40)) g m w1.heap.size (w1.heap.size + 1) 0 [] 0 :=
    ⟨hE.below hA, ⟨Nat.lt_succ_self _, _, Blk.new w1 40 _, World.ownsRow_nil _ _ _ _⟩, below_via hb1 hA, by simp⟩
  have hW : Where w g m w1.heap.size (w1.heap.size + 1) := ⟨hg, hm, hlts.1, hlts.2.1, Nat.lt_succ_self _⟩
  have HP := hide hP
  have HW := hide hW
  clear hE hg hm hb1 hlts hA hP hW
  go_upto_block 0 with fail
  generalize w1.alloc (.cells #[.slice none 0 0, .int .i64 0] 40) = W1 at HP ⊢
  generalize w1.heap.size = G at HP HW ⊢
  go_cut [] (fun W => Below w.heap.size w W)
  case first =>
    go_wp2_with fail
    go_loopw [19] (fun i wr => ∃ (j n : Nat) (l : List ByteArray), j ≤ len ∧ j ≤ 60 ∧ l.length ≤ j ∧ n ≤ j ∧ i = .int .i64 j ∧ Pair w wr g m G (G + 1) j l n) (fun i _ => 64 - (intOf i).toNat)
    case atStart => exact ⟨0, 0, [], Nat.zero_le _, Nat.zero_le _, Nat.le_refl _, Nat.le_refl _, rfl, HP.out⟩
    case round =>
      clear HP
      obtain ⟨j, n, l, hj, hj60, hll, hn, rfl, hP⟩ := hrel
      have hB := hP.old
      by_cases hlt : j < len
      · rcases HZ.out with h0 | ⟨b, off, rfl, hbw, hcell⟩
        · omega
        have hz := hcell j hlt
        have z0 := hz.c0
        have z1 := hz.c1
        have z2 := hz.c2
        have z3 := hz.c3
        have z4 := hz.c4
        have z5 := hz.c5
        have z6 := hz.c6
        have hrow := hz.row
        have hnil := hz.nil
        have hfits := hz.fits
        rw [← hB.cell hbw] at z0 z1 z2 z3 z4 z5 z6
        clear hcell hz
        generalize Z j = z at z0 z1 z2 z3 z4 z5 z6 hrow hnil hfits
        obtain ⟨op, s, st, kd, nn, co, pa, pl, pc, R⟩ := z
        have k0 : (0 : Int) ≤ (j : Int) := by omega
        have k1 : (j : Int) < (len : Int) := by omega
        have hrow' : RowAt w (.slice pa pl pc) R := hrow
        have hplR : pl = R.length := by
          obtain ⟨_, _, e, _⟩ := hrow'
          injection e
        subst hplR
        have HRow : Hid (RowAt w (.slice pa R.length pc) R) := hrow'
        have HNil : Hid (pa = none → R.length = 0 ∧ pc = 0) := hnil
        have HFits : Hid (∀ j, j < R.length → (gr R j).2.length ≤ 140737488355328) := hfits
        clear hrow'
        have HPr := hide hP
        have hbx : Below wr.heap.size wr (wr.alloc (.cells #[.int .i64 op, .string s, .int .u8 st, .int .i64 kd, .int .i64 nn, .string co, .slice pa R.length pc] 29)) := (Below.refl _ _).alloc (Nat.le_refl _) _
        have HPx := hide (hP.below hbx)
        have HD := hide (Blk.new wr 29 #[.int .i64 op, .string s, .int .u8 st, .int .i64 kd, .int .i64 nn, .string co, .slice pa R.length pc])
        have Hdne : Hid (wr.heap.size ≠ g ∧ wr.heap.size ≠ m ∧ wr.heap.size ≠ G) := by
          have q1 := hP.e.lts
          have q2 := hP.r.glt
          refine ⟨?_, ?_, ?_⟩ <;> omega
        clear hrow hnil hfits hP hB hbx
        by_cases h60 : j < 60
        case neg =>
          have h60' : (60 : Int) ≤ (j : Int) := by omega
          go_wp2_with fail
          go_meet
          exact HPx.out.old
        have h60' : ¬ (60 : Int) ≤ (j : Int) := by omega
        by_cases h300 : s.size ≤ 300
        case neg =>
          have h300' : (300 : Int) < (s.size : Int) := by omega
          go_wp2_with fail
          go_meet
          exact HPx.out.old
        have h300' : ¬ (300 : Int) < (s.size : Int) := by omega
        have hsz : s.size ≤ maxLen := by unfold maxLen; omega
        by_cases h20 : R.length ≤ 20
        case neg =>
          have h20' : (20 : Int) < (R.length : Int) := by omega
          go_wp2_with fail
          go_meet
          exact HPx.out.old
        have h20' : ¬ (20 : Int) < (R.length : Int) := by omega
        have hbb : ∀ y : Bool, (y == y) = true := by simp
        have hii : ∀ y : Int, (y == y) = true := by simp
        have htl : (turnL s l).length ≤ l.length + 1 := by
          unfold turnL
          split
          · exact Nat.le_trans (wout_length s l) (Nat.le_succ _)
          · rw [List.length_append]; simp
        by_cases o0 : op = 0
        · subst o0
          go_upto_region 12 with fail
          refine Code.wp_named (fun W => Blk W wr.heap.size 29 #[.int .i64 0, .string s, .int .u8 st, .int .i64 kd, .int .i64 nn, .string co, .slice pa R.length pc] ∧ Pair w W g m G (G + 1) j l n) ⟨HD.out, HPx.out⟩ ?_
          rintro W ⟨hD, hP⟩
          generalize wr.heap.size = d at hD Hdne ⊢
          clear HD HPx HPr z0 z1 z2 z3 z4 z5 z6
          have HDd := hide hD.drew
          have HPd := hide (hP.below ((Below.refl _ W).drew))
          have e1 : W.cell? ⟨d, 1, none⟩ = some (.string s) := hD.cell 1
          clear hD hP
          go_region_held3 (fun W => W.cell? ⟨d, 1, none⟩ = some (.string s)) ((first | assumption | (simp [*]; done))) ((first
            | (go_at_call 8; (with_reducible refine (turn_set g m j l n s _ HPd.out.e hsz (by omega)).mono ?_); rintro e W1 ⟨rfl, hE1, hK1⟩; have HE1 := hide hE1; have HX1 := hide (HPd.out.r.kept hK1 (by have := HW.out.gG; omega) (by have := HW.out.mG; omega) (by have := HW.out.gG; omega) (by have := HW.out.mG; omega)); have HB1 := hide (HPd.out.old.trans (hK1.below HW.out.g0 HW.out.m0 HPd.out.old.size)); have hs1 := Nat.le_trans HPd.out.size hK1.size; have hD1 := Blk.kept HDd.out hK1 Hdne.out.1 Hdne.out.2.1; have HD1 := hide hD1; have f1 : W1.cell? ⟨d, 1, none⟩ = some (.string s) := hD1.cell 1; clear hE1 hK1 hD1)
            | (go_at_call 13; (with_reducible refine (rturn_any G (G + 1) l n s _ (by omega) hs1 HX1.out).mono ?_); rintro e W2 ⟨rfl, hX2, hK2⟩; have HX2 := hide hX2; have HE2 := hide (HE1.out.same (hK2.low g (by have := HW.out.gG; omega) (by have := HW.out.gG; omega)) (hK2.low m (by have := HW.out.mG; omega) (by have := HW.out.mG; omega))); have HB2 := hide (hK2.below HB1.out (by have := HW.out.g0; have := HW.out.gG; omega) (by have := HW.out.g0; have := HW.out.gG; omega)); have hs2 := Nat.le_trans hs1 hK2.size; have hD2 := hK2.blk HD1.out Hdne.out.2.2 (by decide); have HD2 := hide hD2; have h1 : W2.cell? ⟨d, 1, none⟩ = some (.string s) := hD2.cell 1; clear hX2 hK2 hD2)))
          have HPn : Hid (Pair w W2 g m G (G + 1) (j + 1) (turnL s l) n) := ⟨HE2.out, HX2.out, HB2.out, hs2⟩
          clear e1 f1 h1 HE1 HX1 HB1 HD1 HE2 HX2 HB2 HD2 HDd HPd
          go_upto_region 17 with fail
          refine Code.wp_named (fun W => Pair w W g m G (G + 1) (j + 1) (turnL s l) (n)) HPn.out ?_
          rintro W9 hP9
          have hC : ∀ Q : Aft W9, Calls Tryd.prog 10 #[.pointer (some ⟨g, 0, none⟩)] Q.out fun e w' => e = .returned (.int .i64 ((n : Nat) : Int)) ∧ Q.out = w' := fun Q => (count_set g m (j + 1) _ _ _ (hP9.e.below Q.below)).mono fun e w' ⟨q1, q2⟩ => ⟨q2, q1⟩
          have g1 : ∀ Q : Aft W9, Q.out.cell? ⟨G, 1, none⟩ = some (.int .i64 ((n : Nat) : Int)) := fun Q => by
            obtain ⟨v, hb, _⟩ := (hP9.r.below Q.below).ex
            exact hb.cell 1
          have hff : ∀ q : Int, (q != q) = false := by simp
          have HP9 := hide hP9
          clear hP9
          refine wp_region_aft (by kernel_rfl) (by kernel_rfl) ?_
          repeat (first
            | go_big_quiet_skip
            | (go_big_quiet_want; go_big_quiet_op; first
               | go_big_quiet_on
               | (apply Exists.intro
                  refine ⟨fun Q => ?_, ?_⟩
                  · (go_at_call 10; exact Calls.aft_same Q (hC _))
                  go_big_quiet_on)))
          refine wpQuiet_nil ?_
          rintro w' ⟨Q, rfl⟩
          have HPt := hide (HP9.out.below Q.below)
          generalize Q.out = W10 at HPt ⊢
          clear g1 hC
          go_wp2_with fail
          go_roundw
          case rel => exact ⟨j + 1, n, turnL s l, by omega, by omega, by omega, by omega, by go_num, HPt.out⟩
          case measure => simp [intOf]; omega
        have o0b : (op == 0) = false := by simpa using o0
        by_cases o1 : op = 1
        · subst o1
          go_upto_region 14 with fail
          refine Code.wp_named (fun W => Blk W wr.heap.size 29 #[.int .i64 1, .string s, .int .u8 st, .int .i64 kd, .int .i64 nn, .string co, .slice pa R.length pc] ∧ Pair w W g m G (G + 1) j l n) ⟨HD.out, HPx.out⟩ ?_
          rintro W ⟨hD, hP⟩
          generalize wr.heap.size = d at hD Hdne ⊢
          clear HD HPx HPr z0 z1 z2 z3 z4 z5 z6
          have HPd := hide hP
          clear hD hP
          go_wp2_with fail
          refine (next_set g m j l n _ HPd.out.e (by omega) (by omega)).mono ?_
          rintro e W1 ⟨rfl, hE1, hK1⟩
          have HE1 := hide hE1
          have HX1 := hide (HPd.out.r.kept hK1 (by have := HW.out.gG; omega) (by have := HW.out.mG; omega) (by have := HW.out.gG; omega) (by have := HW.out.mG; omega))
          have HB1 := hide (HPd.out.old.trans (hK1.below HW.out.g0 HW.out.m0 HPd.out.old.size))
          have hs1 := Nat.le_trans HPd.out.size hK1.size
          clear hE1 hK1
          go_wp2_with fail
          refine (rnext_any G (G + 1) l n _ (by omega) (by omega) HX1.out).mono ?_
          rintro e W2 ⟨rfl, hX2, hK2, _⟩
          obtain ⟨n1, hn1⟩ : ∃ n1 : Nat, ((n1 : Nat) : Int) = (n : Int) + 1 ∧ n1 ≤ j + 1 := ⟨n + 1, by omega, by omega⟩
          have HPn : Hid (Pair w W2 g m G (G + 1) (j + 1) l n1) := by
            refine ⟨?_, ?_, hK2.below HB1.out (by have := HW.out.g0; have := HW.out.gG; omega) (by have := HW.out.g0; have := HW.out.gG; omega), Nat.le_trans hs1 hK2.size⟩
            · rw [hn1.1]; exact (HE1.out.same (hK2.low g (by have := HW.out.gG; omega) (by have := HW.out.gG; omega)) (hK2.low m (by have := HW.out.mG; omega) (by have := HW.out.mG; omega))).more
            · rw [hn1.1]; exact hX2
          have hle := hn1.2
          clear hX2 hK2 hn1
          go_upto_region 17 with fail
          refine Code.wp_named (fun W => Pair w W g m G (G + 1) (j + 1) (l) (n1)) HPn.out ?_
          rintro W9 hP9
          have hC : ∀ Q : Aft W9, Calls Tryd.prog 10 #[.pointer (some ⟨g, 0, none⟩)] Q.out fun e w' => e = .returned (.int .i64 ((n1 : Nat) : Int)) ∧ Q.out = w' := fun Q => (count_set g m (j + 1) _ _ _ (hP9.e.below Q.below)).mono fun e w' ⟨q1, q2⟩ => ⟨q2, q1⟩
          have g1 : ∀ Q : Aft W9, Q.out.cell? ⟨G, 1, none⟩ = some (.int .i64 ((n1 : Nat) : Int)) := fun Q => by
            obtain ⟨v, hb, _⟩ := (hP9.r.below Q.below).ex
            exact hb.cell 1
          have hff : ∀ q : Int, (q != q) = false := by simp
          have HP9 := hide hP9
          clear hP9
          refine wp_region_aft (by kernel_rfl) (by kernel_rfl) ?_
          repeat (first
            | go_big_quiet_skip
            | (go_big_quiet_want; go_big_quiet_op; first
               | go_big_quiet_on
               | (apply Exists.intro
                  refine ⟨fun Q => ?_, ?_⟩
                  · (go_at_call 10; exact Calls.aft_same Q (hC _))
                  go_big_quiet_on)))
          refine wpQuiet_nil ?_
          rintro w' ⟨Q, rfl⟩
          have HPt := hide (HP9.out.below Q.below)
          generalize Q.out = W10 at HPt ⊢
          clear g1 hC
          go_wp2_with fail
          go_roundw
          case rel => exact ⟨j + 1, n1, l, by omega, by omega, by omega, by omega, by go_num, HPt.out⟩
          case measure => simp [intOf]; omega
        have o1b : (op == 1) = false := by simpa using o1
        by_cases o2 : op = 2
        · subst o2
          have HFt : Hid (Fits R) := ⟨by omega, HFits.out⟩
          have HP0 : Hid (∀ mm q, Value.slice pa R.length pc = .slice none mm q → Value.slice pa R.length pc = .slice none 0 0) := by
            intro mm q e
            injection e with e1 e2 e3
            obtain ⟨h1, h2⟩ := HNil.out e1
            rw [e1, h1, h2]
          have hR2 : R.length ≤ 1000 := by omega
          go_upto_region 16 with fail
          refine Code.wp_named (fun W => Blk W wr.heap.size 29 #[.int .i64 2, .string s, .int .u8 st, .int .i64 kd, .int .i64 nn, .string co, .slice pa R.length pc] ∧ Pair w W g m G (G + 1) j l n) ⟨HD.out, HPx.out⟩ ?_
          rintro W ⟨hD, hP⟩
          generalize wr.heap.size = d at hD Hdne ⊢
          clear HD HPx HPr z0 z1 z2 z3 z4 z5 z6
          have HDd := hide hD.drew
          have HPd := hide (hP.below ((Below.refl _ W).drew))
          have e3 : W.cell? ⟨d, 3, none⟩ = some (.int .i64 kd) := hD.cell 3
          have e4 : W.cell? ⟨d, 4, none⟩ = some (.int .i64 nn) := hD.cell 4
          have e5 : W.cell? ⟨d, 5, none⟩ = some (.string co) := hD.cell 5
          have e6 : W.cell? ⟨d, 6, none⟩ = some (.slice pa R.length pc) := hD.cell 6
          clear hD hP
          go_region_held3 (fun W => W.cell? ⟨d, 3, none⟩ = some (.int .i64 kd) ∧ W.cell? ⟨d, 4, none⟩ = some (.int .i64 nn) ∧ W.cell? ⟨d, 5, none⟩ = some (.string co) ∧ W.cell? ⟨d, 6, none⟩ = some (.slice pa R.length pc)) ((refine ⟨?_, ?_, ?_, ?_⟩ <;> first | assumption | (simp [*]; done))) ((first
            | (go_at_call 16; (with_reducible refine (prows_any g m j l n kd nn co _ R _ (by omega) (by omega) HFt.out (HRow.out.below HPd.out.old) HPd.out.e).mono ?_); rintro e W1 ⟨v1, rfl, hr1, hE1, hK1⟩; have HV1 := hide hr1; have HE1 := hide hE1; have HX1 := hide (HPd.out.r.kept hK1 (by have := HW.out.gG; omega) (by have := HW.out.mG; omega) (by have := HW.out.gG; omega) (by have := HW.out.mG; omega)); have HB1 := hide (HPd.out.old.trans (hK1.below HW.out.g0 HW.out.m0 HPd.out.old.size)); have hs1 := Nat.le_trans HPd.out.size hK1.size; have hD1 := Blk.kept HDd.out hK1 Hdne.out.1 Hdne.out.2.1; have HD1 := hide hD1; have f3 : W1.cell? ⟨d, 3, none⟩ = some (.int .i64 kd) := hD1.cell 3; have f4 : W1.cell? ⟨d, 4, none⟩ = some (.int .i64 nn) := hD1.cell 4; have f5 : W1.cell? ⟨d, 5, none⟩ = some (.string co) := hD1.cell 5; have f6 : W1.cell? ⟨d, 6, none⟩ = some (.slice pa R.length pc) := hD1.cell 6; clear hr1 hE1 hK1 hD1)
            | (go_at_call 17; (with_reducible refine (rprows_any G (G + 1) l n kd nn co _ R _ (by omega) (by omega) HFt.out (HRow.out.below HB1.out) HP0.out hs1 HX1.out).mono ?_); rintro e W2 ⟨v2, rfl, hr2, hX2, hK2, hO2⟩; have hG1 : W1.cell? ⟨G, 1, none⟩ = some (.int .i64 n) := by { obtain ⟨v, hb, _⟩ := HX1.out.ex; exact hb.cell 1 }; have HV1b := hide (HV1.out.one hO2 hG1); have HV2 := hide hr2; have HX2 := hide hX2; have HE2 := hide (HE1.out.same (hK2.low g (by have := HW.out.gG; omega) (by have := HW.out.gG; omega)) (hK2.low m (by have := HW.out.mG; omega) (by have := HW.out.mG; omega))); have HB2 := hide (hK2.below HB1.out (by have := HW.out.g0; have := HW.out.gG; omega) (by have := HW.out.g0; have := HW.out.gG; omega)); have hs2 := Nat.le_trans hs1 hK2.size; have hD2 := hK2.blk HD1.out Hdne.out.2.2 (by decide); have HD2 := hide hD2; have h3 : W2.cell? ⟨d, 3, none⟩ = some (.int .i64 kd) := hD2.cell 3; have h4 : W2.cell? ⟨d, 4, none⟩ = some (.int .i64 nn) := hD2.cell 4; have h5 : W2.cell? ⟨d, 5, none⟩ = some (.string co) := hD2.cell 5; have h6 : W2.cell? ⟨d, 6, none⟩ = some (.slice pa R.length pc) := hD2.cell 6; clear hr2 hX2 hK2 hO2 hG1 hD2)
            | (go_at_call 15; (with_reducible refine (rows_same _ _ (cntN kd nn) (tabN kd n R) _ (cnt_le kd nn) (fun i _ => tab_le kd n R hR2 i) HV1b.out HV2.out).mono ?_); rintro e W3 ⟨rfl, hb3⟩; have HE3 := hide (HE2.out.below hb3); have HX3 := hide (HX2.out.below hb3); have HB3 := hide (below_via HB2.out hb3); have hs3 := Nat.le_trans hs2 hb3.size; have hD3 := HD2.out.below hb3 HD2.out.lt; have i3 : W3.cell? ⟨d, 3, none⟩ = some (.int .i64 kd) := hD3.cell 3; have i4 : W3.cell? ⟨d, 4, none⟩ = some (.int .i64 nn) := hD3.cell 4; have i5 : W3.cell? ⟨d, 5, none⟩ = some (.string co) := hD3.cell 5; have i6 : W3.cell? ⟨d, 6, none⟩ = some (.slice pa R.length pc) := hD3.cell 6; clear hb3 hD3)))
          obtain ⟨n1, hn1⟩ : ∃ n1 : Nat, ((n1 : Nat) : Int) = nextN kd n ∧ n1 ≤ j + 1 := by
            unfold nextN
            by_cases k7 : kd = 7
            · exact ⟨n + 1, by rw [if_pos k7]; omega, by omega⟩
            · exact ⟨n, by rw [if_neg k7], by omega⟩
          have HPn : Hid (Pair w W3 g m G (G + 1) (j + 1) l n1) := by
            refine ⟨?_, ?_, HB3.out, hs3⟩
            · rw [hn1.1]; exact HE3.out.more
            · rw [hn1.1]; exact HX3.out
          have hle := hn1.2
          clear hn1 HV1 HV1b HV2 HE1 HX1 HB1 HD1 HE2 HX2 HB2 HD2 HE3 HX3 HB3 HDd HPd e3 e4 e5 e6 f3 f4 f5 f6 h3 h4 h5 h6 i3 i4 i5 i6
          go_upto_region 17 with fail
          refine Code.wp_named (fun W => Pair w W g m G (G + 1) (j + 1) (l) (n1)) HPn.out ?_
          rintro W9 hP9
          have hC : ∀ Q : Aft W9, Calls Tryd.prog 10 #[.pointer (some ⟨g, 0, none⟩)] Q.out fun e w' => e = .returned (.int .i64 ((n1 : Nat) : Int)) ∧ Q.out = w' := fun Q => (count_set g m (j + 1) _ _ _ (hP9.e.below Q.below)).mono fun e w' ⟨q1, q2⟩ => ⟨q2, q1⟩
          have g1 : ∀ Q : Aft W9, Q.out.cell? ⟨G, 1, none⟩ = some (.int .i64 ((n1 : Nat) : Int)) := fun Q => by
            obtain ⟨v, hb, _⟩ := (hP9.r.below Q.below).ex
            exact hb.cell 1
          have hff : ∀ q : Int, (q != q) = false := by simp
          have HP9 := hide hP9
          clear hP9
          refine wp_region_aft (by kernel_rfl) (by kernel_rfl) ?_
          repeat (first
            | go_big_quiet_skip
            | (go_big_quiet_want; go_big_quiet_op; first
               | go_big_quiet_on
               | (apply Exists.intro
                  refine ⟨fun Q => ?_, ?_⟩
                  · (go_at_call 10; exact Calls.aft_same Q (hC _))
                  go_big_quiet_on)))
          refine wpQuiet_nil ?_
          rintro w' ⟨Q, rfl⟩
          have HPt := hide (HP9.out.below Q.below)
          generalize Q.out = W10 at HPt ⊢
          clear g1 hC
          go_wp2_with fail
          go_roundw
          case rel => exact ⟨j + 1, n1, l, by omega, by omega, by omega, by omega, by go_num, HPt.out⟩
          case measure => simp [intOf]; omega
        have o2b : (op == 2) = false := by simpa using o2
        obtain ⟨va, vb, vc, hvd⟩ := verdict_form (parseP s).1 st (isIn s l)
        have HVd := hide hvd
        have hs1 := strs_same va
        have hs2 := strs_same vb
        clear hvd
        go_upto_region 8 with fail
        refine Code.wp_named (fun W => Blk W wr.heap.size 29 #[.int .i64 op, .string s, .int .u8 st, .int .i64 kd, .int .i64 nn, .string co, .slice pa R.length pc] ∧ Pair w W g m G (G + 1) j l n) ⟨HD.out, HPx.out⟩ ?_
        rintro W ⟨hD, hP⟩
        generalize wr.heap.size = d at hD Hdne ⊢
        clear HD HPx HPr z0 z1 z2 z3 z4 z5 z6
        have HDd := hide hD
        have HPd := hide hP
        have e1 : W.cell? ⟨d, 1, none⟩ = some (.string s) := hD.cell 1
        have e2 : W.cell? ⟨d, 2, none⟩ = some (.int .u8 st) := hD.cell 2
        clear hD hP
        go_wp2_with fail
        refine (verdict_any g m j l n s st _ h300 HPd.out.e).mono ?_
        rintro e W1 ⟨rfl, hb1⟩
        rw [HVd.out]
        have HP1 := hide (HPd.out.below hb1)
        have hD1 := HDd.out.below hb1 HDd.out.lt
        have f1 : W1.cell? ⟨d, 1, none⟩ = some (.string s) := hD1.cell 1
        have f2 : W1.cell? ⟨d, 2, none⟩ = some (.int .u8 st) := hD1.cell 2
        clear hb1 hD1 e1 e2
        go_wp2_with fail
        refine (rverdict_any G (G + 1) l n s st _ h300 (by omega) HP1.out.r).mono ?_
        rintro e W2 ⟨rfl, hb2⟩
        rw [HVd.out]
        have hP2 := HP1.out.below hb2
        have HPn : Hid (Pair w W2 g m G (G + 1) (j + 1) l n) := ⟨hP2.e.more, hP2.r, hP2.old, hP2.size⟩
        clear hb2 hP2 f1 f2
        go_upto_region 17 with fail
        refine Code.wp_named (fun W => Pair w W g m G (G + 1) (j + 1) (l) (n)) HPn.out ?_
        rintro W9 hP9
        have hC : ∀ Q : Aft W9, Calls Tryd.prog 10 #[.pointer (some ⟨g, 0, none⟩)] Q.out fun e w' => e = .returned (.int .i64 ((n : Nat) : Int)) ∧ Q.out = w' := fun Q => (count_set g m (j + 1) _ _ _ (hP9.e.below Q.below)).mono fun e w' ⟨q1, q2⟩ => ⟨q2, q1⟩
        have g1 : ∀ Q : Aft W9, Q.out.cell? ⟨G, 1, none⟩ = some (.int .i64 ((n : Nat) : Int)) := fun Q => by
          obtain ⟨v, hb, _⟩ := (hP9.r.below Q.below).ex
          exact hb.cell 1
        have hff : ∀ q : Int, (q != q) = false := by simp
        have HP9 := hide hP9
        clear hP9
        refine wp_region_aft (by kernel_rfl) (by kernel_rfl) ?_
        repeat (first
          | go_big_quiet_skip
          | (go_big_quiet_want; go_big_quiet_op; first
             | go_big_quiet_on
             | (apply Exists.intro
                refine ⟨fun Q => ?_, ?_⟩
                · (go_at_call 10; exact Calls.aft_same Q (hC _))
                go_big_quiet_on)))
        refine wpQuiet_nil ?_
        rintro w' ⟨Q, rfl⟩
        have HPt := hide (HP9.out.below Q.below)
        generalize Q.out = W10 at HPt ⊢
        clear g1 hC
        go_wp2_with fail
        go_roundw
        case rel => exact ⟨j + 1, n, l, by omega, by omega, by omega, by omega, by go_num, HPt.out⟩
        case measure => simp [intOf]; omega
      · have hge : ¬ (j : Int) < (len : Int) := by omega
        have HB := hide hB
        clear hP hB
        go_wp2_with fail
        go_meet
        exact HB.out
  case rest =>
    have HB2 := hide hcut
    clear hcut HP
    have hs := strs_same abortedT
    go_wp2_with fail
    refine (aborted_any _).mono ?_
    rintro e w2 ⟨rfl, rfl⟩
    go_wp2_with fail
    refine (raborted_any _).mono ?_
    rintro e w2 ⟨rfl, rfl⟩
    go_wp2_with fail
    refine (awake_any _).mono ?_
    rintro e w3 ⟨rfl, hb3⟩
    have HB3 := hide (below_via HB2.out hb3)
    clear hb3
    go_wp2_with fail
    go_returns
    exact ⟨rfl, HB3.out⟩
end Go.Proofs.YtpaodffckhnieaaDoor
