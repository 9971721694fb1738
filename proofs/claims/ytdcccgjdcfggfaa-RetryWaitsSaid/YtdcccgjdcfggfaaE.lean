/-
  The walk of the law RetryWaits. No condition.
-/
import Derived.Test.YtdcccgjdcfggfaaD
namespace Go.Proofs.Ytdcccgjdcfggfaa
open Go.RowKit
set_option linter.unusedVariables false
set_option linter.unusedSimpArgs false

theorem delay_pos (l m f : Int) (h : 1 ≤ f) : 1 ≤ delay l m f := by
  unfold delay
  rw [if_neg (by omega)]
  exact (cap_bounds _ _ _ (held_in l).1 (held_in m).1).1

theorem passS_now (s : RS) (n : Int) : (passS s n).now = max s.now (min n 1099511627776) := rfl
theorem passS_next (s : RS) (n : Int) : (passS s n).next = s.next := rfl
theorem failS_now (s : RS) (n : Int) : (failS s n).now = max s.now (min n 1099511627776) := rfl
theorem failS_next (s : RS) (n : Int) (h : s.Ok) : ∃ D, 1 ≤ D ∧ D ≤ 1048576 ∧ (failS s n).next = max s.now (min n 1099511627776) + D := by
  refine ⟨delay (failS s n).least (failS s n).most (failS s n).fails, delay_pos _ _ _ ?_, (delay_in _ _ _).2, rfl⟩
  show 1 ≤ (if s.fails < 1048576 then s.fails + 1 else s.fails)
  have := h.f1
  split <;> omega

/-- What a round of the law meets. -/
structure Round (S : RS) (T N : Int) : Prop where
  e1 : (failS S T).next = N
  e2 : (waitN (failS S T) T) = N - T
  e3 : (waitN (passS (failS S T) T) (N - 1) == 0) = false
  e4 : (waitN (passS (passS (failS S T) T) (N - 1)) N == 0) = true
  e5 : (passS (passS (passS (failS S T) T) (N - 1)) N).now ≤ N
  e6 : (waitN (goodS (passS (passS (passS (failS S T) T) (N - 1)) N) N) N == 0) = true
  e7 : (passS (goodS (passS (passS (passS (failS S T) T) (N - 1)) N) N) N).now ≤ N

theorem round_facts (S : RS) (T : Int) (h : S.Ok) (h1 : S.now ≤ T) (h2 : T ≤ 1000000000) : ∃ N, T < N ∧ N ≤ T + 1048576 ∧ Round S T N := by
  obtain ⟨D, d1, d2, hD⟩ := failS_next S T h
  have t1 := h.t1
  have hm : max S.now (min T 1099511627776) = T := by omega
  rw [hm] at hD
  refine ⟨T + D, by omega, by omega, hD, ?_, ?_, ?_, ?_, ?_, ?_⟩
  · unfold waitN; rw [passS_now, failS_now, hD, hm]; omega
  · have : waitN (passS (failS S T) T) (T + D - 1) = 1 := by
      unfold waitN; rw [passS_next, passS_now, passS_now, failS_now, hD, hm]; omega
    rw [this]; rfl
  · have : waitN (passS (passS (failS S T) T) (T + D - 1)) (T + D) = 0 := by
      unfold waitN; simp only [passS_next, passS_now, failS_now, hD, hm]; omega
    rw [this]; rfl
  · simp only [passS_now, failS_now, hm]; omega
  · have : waitN (goodS (passS (passS (passS (failS S T) T) (T + D - 1)) (T + D)) (T + D)) (T + D) = 0 := by
      unfold waitN
      have e : (goodS (passS (passS (passS (failS S T) T) (T + D - 1)) (T + D)) (T + D)).next = 0 := rfl
      have e2 : (goodS (passS (passS (passS (failS S T) T) (T + D - 1)) (T + D)) (T + D)).now = max (passS (passS (passS (failS S T) T) (T + D - 1)) (T + D)).now (min (T + D) 1099511627776) := rfl
      rw [passS_now, e, e2]
      simp only [passS_now, failS_now, hm]; omega
    rw [this]; rfl
  · have e2 : (goodS (passS (passS (passS (failS S T) T) (T + D - 1)) (T + D)) (T + D)).now = max (passS (passS (passS (failS S T) T) (T + D - 1)) (T + D)).now (min (T + D) 1099511627776) := rfl
    rw [passS_now, e2]
    simp only [passS_now, failS_now, hm]; omega

/-- What the walk is told of a slice of bytes that came in. -/
def ByteRow (w : World) (a : Option Addr) (len : Nat) (z : Nat → Int) : Prop :=
  len = 0 ∨ ∃ b off, a = some ⟨b, off, none⟩ ∧ b < w.heap.size ∧ ∀ i, i < len → w.cell? ⟨b, off + i, none⟩ = some (.int .u8 (z i)) ∧ 0 ≤ z i ∧ z i ≤ 255

def WRel (w : World) (g : Nat) (t : Int) (wr : World) : Prop := ∃ S, Prt wr g S ∧ S.now ≤ t ∧ Below w.heap.size w wr

set_option maxHeartbeats 1000000 in
theorem waits_any (l m : Int) (a : Option Addr) (len c : Nat) (z : Nat → Int) (w : World) (hl : 0 ≤ l ∧ l ≤ 255) (hm : 0 ≤ m ∧ m ≤ 255) (hlen : len ≤ maxLen) (hz : ByteRow w a len z) :
    Calls Try.prog 5 #[.int .u8 l, .int .u8 m, .slice a len c] w fun e w' => e = .returned (.bool true) ∧ Below w.heap.size w w' := by
  unfold maxLen at hlen
  go_enter Try.func5, Try.ntmps5
  go_wp2_with fail
  refine (new_yes _ _ _ (by omega) (by omega) (by omega)).mono ?_
  rintro e w1 ⟨g, rfl, h1, hg, hb⟩
  have hR : WRel w g 0 w1 := ⟨_, h1, by show (0 : Int) ≤ 0; omega, hb⟩
  have HR := hide hR
  have Hb := hide hb
  clear h1 hR hb
  by_cases h60 : 60 < len
  · go_wp2_with fail
    refine (awake_any _).mono ?_
    rintro e w2 ⟨rfl, hb2⟩
    have Hb2 := hide (below_via Hb.out hb2)
    clear hb2
    go_wp2
    go_returns
    exact ⟨rfl, Hb2.out⟩
  · go_wp2_with fail
    clear Hb
    go_loopw [10, 45] (fun t i wr => ∃ (k : Nat) (x : Int), k ≤ len ∧ i = .int .i64 k ∧ t = .int .i64 x ∧ 0 ≤ x ∧ x ≤ k * 1048831 ∧ WRel w g x wr) (fun _ i _ => 60 - (intOf i).toNat)
    case atStart => exact ⟨0, 0, by omega, rfl, rfl, by omega, by omega, HR.out⟩
    case round =>
      clear HR
      obtain ⟨k, x, hk, rfl, rfl, hx0, hx1, hR⟩ := hrel
      by_cases hlt : k < len
      · rcases hz with h0 | ⟨b, off, rfl, hbw, hcell⟩
        · omega
        obtain ⟨S, hP, hS, hB⟩ := hR
        obtain ⟨c0, z0, z1⟩ := hcell k hlt
        rw [← hB.cell hbw] at c0
        generalize z k = y at c0 z0 z1
        obtain ⟨M, hM1, hM2, hRd⟩ := round_facts S (x + y) hP.2 (by omega) (by omega)
        have HP := hide hP; have HB := hide hB; have HRd := hide hRd
        clear hcell hP hB hS hRd
        go_wp2_with fail
        refine (fail_c g S _ _ HP.out).mono ?_
        rintro e w2 ⟨rfl, hP2, hw2⟩
        rw [HRd.out.e1]
        have HP2 := hide hP2; have HB2 := hide (grown_below HB.out hw2 HB.out.size hg); clear hP2 hw2 HP HB
        go_wp2_with fail
        refine (wait_c g _ _ _ HP2.out).mono ?_
        rintro e w3 ⟨rfl, hP3, hw3⟩
        rw [HRd.out.e2]
        have HP3 := hide hP3; have HB3 := hide (grown_below HB2.out hw3 HB2.out.size hg); clear hP3 hw3 HP2 HB2
        go_wp2_with fail
        refine (readyN_c g _ _ _ HP3.out).mono ?_
        rintro e w4 ⟨rfl, hP4, hw4⟩
        rw [HRd.out.e3]
        have HP4 := hide hP4; have HB4 := hide (grown_below HB3.out hw4 HB3.out.size hg); clear hP4 hw4 HP3 HB3
        go_wp2_with fail
        refine (readyN_c g _ _ _ HP4.out).mono ?_
        rintro e w5 ⟨rfl, hP5, hw5⟩
        rw [HRd.out.e4]
        have HP5 := hide hP5; have HB5 := hide (grown_below HB4.out hw5 HB4.out.size hg); clear hP5 hw5 HP4 HB4
        by_cases h4 : y % 4 = 0
        · go_wp2_with fail
          refine (good_c g _ _ _ HP5.out).mono ?_
          rintro e w6 ⟨rfl, hP6, hw6⟩
          have HP6 := hide hP6; have HB6 := hide (grown_below HB5.out hw6 HB5.out.size hg); clear hP6 hw6 HP5 HB5
          go_wp2_with fail
          refine (fails_c g _ _ HP6.out).mono ?_
          rintro e w7 ⟨rfl, rfl⟩
          have hf0 : ∀ s n, (goodS s n).fails = 0 := fun _ _ => rfl
          rw [hf0]
          go_wp2_with fail
          refine (readyN_c g _ _ _ HP6.out).mono ?_
          rintro e w7 ⟨rfl, hP7, hw7⟩
          rw [HRd.out.e6]
          have hR7 : WRel w g M w7 := ⟨_, hP7, HRd.out.e7, grown_below HB6.out hw7 HB6.out.size hg⟩
          have HR7 := hide hR7
          clear hP7 hw7 HP6 HB6 hf0 hR7
          go_wp2
          go_roundw
          case rel => exact ⟨k + 1, M, by omega, by go_num, rfl, by omega, by omega, HR7.out⟩
          case measure => simp [intOf]; omega
        · have hR7 : WRel w g M w5 := ⟨_, HP5.out, HRd.out.e5, HB5.out⟩
          have HR7 := hide hR7
          clear HP5 HB5 hR7
          go_wp2
          go_roundw
          case rel => exact ⟨k + 1, M, by omega, by go_num, rfl, by omega, by omega, HR7.out⟩
          case measure => simp [intOf]; omega
      · obtain ⟨S, hP, hS, hB⟩ := hR
        have HB := hide hB
        clear hB hP
        go_wp2_with fail
        refine (awake_any _).mono ?_
        rintro e w2 ⟨rfl, hb2⟩
        have Hb2 := hide (below_via HB.out hb2)
        clear hb2 HB
        go_wp2
        go_returns
        exact ⟨rfl, Hb2.out⟩

open Go.ChangeShapes Go.WideShapes Go.ChangeAt in
theorem open_byte_row {H : Type} {enc : TypeId × Value → H} {P : Program} {w : World} {t e : TypeId} (ht : P.underlying t = some (.slice e)) (he : P.underlying e = some (.int .u8)) (hc : P.cellsOf e = 1)
    {a : Option Addr} {len cap : Nat} {d : DataW H} {ps : List MemPlace} (h : DataW.Trod enc P w 0 (fun _ => true) true t (.slice a len cap) d ps) :
    (∃ z, ByteRow w a len z) ∧ len ≤ maxLen := by
  obtain ⟨fuel, hf⟩ := h
  rcases open_ints ht he hc hf with ⟨hcs, _⟩ | ⟨x, l, c, zs, hcs, _, hl, hm, hz, _, hcell, hwz⟩
  · simp [Value.cells] at hcs
    obtain ⟨rfl, rfl, rfl⟩ := hcs
    exact ⟨⟨fun _ => 0, Or.inl rfl⟩, Nat.zero_le _⟩
  · simp [Value.cells] at hcs
    obtain ⟨rfl, rfl, rfl⟩ := hcs
    refine ⟨?_, Nat.le_trans hl hm⟩
    by_cases h0 : len = 0
    · exact ⟨fun _ => 0, Or.inl h0⟩
    have hzl : zs.length = cap := by simpa using hz
    obtain ⟨b, off, spot⟩ := x
    have s0 := hcell 0 (by omega)
    have hspot : spot = none := by simpa [Addr.add] using World.cell?_spot s0
    subst hspot
    refine ⟨fun i => zs.getD i 0, Or.inr ⟨b, off, rfl, ?_, fun i hi => ?_⟩⟩
    · have := World.block_lt_of_cell? w _ s0
      simpa [Addr.add] using this
    · have h1 := hcell i (by omega)
      rw [Addr.add_lit] at h1
      have hmem : zs.getD i 0 ∈ zs := by
        have : i < zs.length := by omega
        simp [List.getD, this]
      exact ⟨h1, bounds_u8 (hwz _ hmem)⟩

end Go.Proofs.Ytdcccgjdcfggfaa
