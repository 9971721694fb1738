/-
  What the reference's Print answers; what is far. No condition but on lengths.
-/
import Derived.Test.YtaghhmnigjapoaaDoorDsnM
namespace Go.Proofs.YtaghhmnigjapoaaDoor
open Go.RowKit
set_option linter.unusedVariables false
set_option linter.unusedSimpArgs false

def sepB (k : Nat) (t : ByteArray) : ByteArray := if k = 0 then t else t ++ ⟨#[32]⟩
theorem sepB_size (k : Nat) (t : ByteArray) : (sepB k t).size ≤ t.size + 1 := by
  unfold sepB
  split
  · omega
  · rw [ByteArray.size_append]; exact Nat.le_refl _
theorem sep_item (ps : List (ByteArray × ByteArray)) (k : Nat) (h : k < ps.length) (t : ByteArray) (ht : t = bs (joinL (ps.take k))) (n x : ByteArray) (hp : pj ps k = (n, x)) :
    sepB k t ++ n ++ ⟨#[61, 39]⟩ ++ escB x ++ ⟨#[39]⟩ = bs (joinL (ps.take (k + 1))) := by
  have h1 := item_bs (n, x)
  have h2 : sepB k t ++ n ++ ⟨#[61, 39]⟩ ++ escB x ++ ⟨#[39]⟩ = sepB k t ++ (n ++ ⟨#[61, 39]⟩ ++ escB x ++ ⟨#[39]⟩) := by
    simp only [ByteArray.append_assoc]
  rw [h2]
  simp only at h1
  rw [h1, joinL_snoc ps k h, hp]
  unfold sepB
  split
  · rename_i h0
    subst h0
    rw [ht]
    show bs [] ++ _ = _
    rw [app_bs]; rfl
  · rw [ht, show (⟨#[32]⟩ : ByteArray) = bs [32] from rfl, app_bs, app_bs, List.append_assoc]; rfl

set_option maxHeartbeats 2000000 in
theorem rprint_any (v : Value) (ps : List (ByteArray × ByteArray)) (w : World) (hn : Near ps) (hv : PairsAt w v ps) :
    Calls Tryd.prog 14 #[v] w fun e w' => e = .returned (.tuple #[.string (printP ps).1, .int .i64 (printP ps).2]) ∧ Below w.heap.size w w' := by
  obtain ⟨a, cap, rfl, hv⟩ := hv
  obtain ⟨⟨q, z⟩, hq⟩ : ∃ x, printP ps = x := ⟨_, rfl⟩
  rw [hq]
  have HQ := hide hq
  clear hq
  have HV := hide hv
  have hl := hn.1
  have HN := hide hn
  clear hv hn
  go_enter Tryd.func14, Tryd.ntmps14
  go_wp2_with fail
  go_loopw [4, 5] (fun x i wr => ∃ (k : Nat) (t : ByteArray), x = .string t ∧ i = .int .i64 k ∧ k ≤ ps.length ∧ t.size ≤ 4096 ∧ Hid (t = bs (joinL (ps.take k))) ∧ Hid (∀ j, j < k → wordB (pj ps j).1 = true) ∧ Below w.heap.size w wr) (fun _ i _ => (ps.length - (intOf i).toNat))
  case atStart => exact ⟨0, ⟨#[]⟩, rfl, rfl, Nat.zero_le _, Nat.zero_le _, rfl, (by intro j hj; omega), Below.refl _ _⟩
  case round =>
    obtain ⟨k, t, rfl, rfl, hk, ht, Ht, Hw, hB⟩ := hrel
    have HB := hide hB
    have hBs := hB.size
    by_cases hkk : k < ps.length
    · have hki : (k : Int) < (ps.length : Int) := by omega
      have hk0 : (0 : Int) ≤ (k : Int) := by omega
      rcases HV.out with h0 | ⟨b, off, rfl, hb, hc⟩
      · subst h0; simp at hkk
      obtain ⟨c0, c1⟩ := hc k hkk
      rw [← hB.cell hb] at c0 c1
      obtain ⟨n1, n2⟩ := HN.out.2 k hkk
      obtain ⟨p, hp⟩ : ∃ p, pj ps k = p := ⟨_, rfl⟩
      rw [hp] at c0 c1 n1 n2
      obtain ⟨n, x⟩ := p
      simp only at c0 c1 n1 n2
      have Hp := hide hp
      clear hc hB hp
      go_wp2_with fail
      refine (rword_any n _ (by omega)).mono ?_
      rintro e w1 ⟨rfl, rfl⟩
      cases hw : wordB n with
      | false =>
        have HE : Hid ((q, z) = (⟨#[]⟩, 1)) := by
          show _ = _
          rw [← HQ.out]; exact print_word ps k hkk (by rw [Hp.out]; exact hw)
        clear hw
        go_wp2_with fail
        go_returns
        have h1 := HE.out
        cases h1
        exact ⟨rfl, HB.out⟩
      | true =>
        have Hw2 : Hid (∀ j, j < k + 1 → wordB (pj ps j).1 = true) := by
          intro j hj
          rcases Nat.lt_or_eq_of_le (Nat.lt_succ_iff.1 hj) with h | rfl
          · exact Hw.out j h
          · rw [Hp.out]; exact hw
        clear hw
        go_upto_if 20 with fail
        go_cut [4] (fun v W => v = .string (sepB k t) ∧ wr = W)
        case first =>
          have z32 : ((⟨#[32]⟩ : ByteArray)).size = 1 := rfl
          by_cases hz : k = 0
          · have HS : Hid (sepB k t = t) := by show _ = _; unfold sepB; rw [if_pos hz]
            have hzi : ¬ (0 : Int) < (k : Int) := by omega
            have hzn : ¬ 0 < k := by omega
            clear hz
            go_wp2_with fail
            go_meet
            exact ⟨by rw [HS.out], rfl⟩
          · have HS : Hid (sepB k t = t ++ ⟨#[32]⟩) := by show _ = _; unfold sepB; rw [if_neg hz]
            have hzi : (0 : Int) < (k : Int) := by omega
            have hzn : 0 < k := by omega
            clear hz
            go_wp2_with fail
            go_meet
            exact ⟨by rw [HS.out], rfl⟩
        case rest =>
          obtain ⟨rfl, rfl⟩ := hcut
          have HI := hide (sep_item ps k hkk t Ht.out n x Hp.out)
          have hz0 := sepB_size k t
          generalize sepB k t = u at HI hz0 ⊢
          go_upto_region 9 with fail
          have g0 : ∀ N : Aft wr, N.out.cell? ⟨b, off + k * 2, none⟩ = some (.string n) := fun N => N.cell c0
          have g1 : ∀ N : Aft wr, N.out.cell? ⟨b, off + k * 2 + 1, none⟩ = some (.string x) := fun N => N.cell c1
          have hx2 := escB_size x
          have hP : ∀ N : Aft wr, Calls Tryd.prog 22 #[.string x] N.out fun e w' => e = .returned (.string (escB x)) ∧ Below N.out.heap.size N.out w' := fun N => rescaped_any x _ (by omega)
          have z0 : (u ++ n).size = u.size + n.size := ByteArray.size_append
          have z1 : (u ++ n ++ ⟨#[61, 39]⟩).size = u.size + n.size + 2 := by rw [ByteArray.size_append, z0]; rfl
          have z2 : (u ++ n ++ ⟨#[61, 39]⟩ ++ escB x).size = u.size + n.size + 2 + (escB x).size := by rw [ByteArray.size_append, z1]
          have z5 : (u ++ n ++ ⟨#[61, 39]⟩ ++ escB x ++ ⟨#[39]⟩).size = u.size + n.size + 2 + (escB x).size + 1 := by rw [ByteArray.size_append, z2]; rfl
          have z3 : ((⟨#[61, 39]⟩ : ByteArray)).size = 2 := rfl
          have z4 : ((⟨#[39]⟩ : ByteArray)).size = 1 := rfl
          have HZ5 := hide z5
          clear z5
          refine wp_region_aft (by kernel_rfl) (by kernel_rfl) ?_
          repeat (first
            | go_big_quiet_skip
            | (go_big_quiet_want; go_big_quiet_op; first
               | go_big_quiet_on
               | (apply Exists.intro
                  refine ⟨fun N => ?_, ?_⟩
                  · (go_at_call 22; exact Calls.aft N (hP _))
                  go_big_quiet_on)))
          refine wpQuiet_nil ?_
          rintro w' ⟨N, rfl⟩
          rw [HI.out]
          have hz5 := HZ5.out
          rw [HI.out] at hz5
          have HB3 := hide (HB.out.trans (N.below.mono HB.out.size))
          generalize N.out = W3 at HB3 ⊢
          clear g0 g1 hP z0 z1 z2 z3 z4 HI HZ5 c0 c1
          obtain ⟨it, hit⟩ : ∃ it, bs (joinL (ps.take (k + 1))) = it := ⟨_, rfl⟩
          rw [hit] at hz5
          rw [hit]
          have hiz : it.size ≤ 6000 := by omega
          have Hit := hide hit
          clear hit hz5
          by_cases hlong : it.size ≤ 4096
          · have hli : (it.size : Int) ≤ 4096 := by omega
            go_wp2_with fail
            go_roundw
            case rel => exact ⟨k + 1, it, rfl, by go_num, by omega, hlong, Hit.out.symm, Hw2.out, HB3.out⟩
            case measure => simp [intOf]; omega
          · have hli : ¬ (it.size : Int) ≤ 4096 := by omega
            have HE : Hid ((q, z) = (⟨#[]⟩, 1)) := by
              show _ = _
              rw [← HQ.out]
              refine print_long ps ?_
              have h2 := joinL_all ps (k + 1) (by omega)
              have h3 := Hit.out
              have h4 := bs_size (joinL (ps.take (k + 1)))
              rw [h3] at h4
              omega
            go_wp2_with fail
            go_returns
            have h1 := HE.out
            cases h1
            exact ⟨rfl, HB3.out⟩
    · have hki : ¬ (k : Int) < (ps.length : Int) := by omega
      obtain rfl : k = ps.length := by omega
      have HE : Hid ((q, z) = (t, 0)) := by
        show _ = _
        have h1 := Ht.out
        rw [List.take_length] at h1
        rw [← HQ.out, h1]
        refine print_ok ps Hw.out ?_
        rw [h1, bs_size] at ht
        exact ht
      clear hB
      go_wp2_with fail
      go_returns
      have h1 := HE.out
      cases h1
      exact ⟨rfl, HB.out⟩

theorem far_any (v : Value) (ps : List (ByteArray × ByteArray)) (w : World) (hl : ps.length ≤ 9223372036854775807) (hv : PairsAt w v ps) :
    Calls Tryd.prog 12 #[v] w fun e w' => (e = .returned (.bool true) ∨ (e = .returned (.bool false) ∧ Near ps)) ∧ Below w.heap.size w w' := by
  obtain ⟨a, cap, rfl, hv⟩ := hv
  have HV := hide hv
  clear hv
  go_enter Tryd.func12, Tryd.ntmps12
  go_wp2_with fail
  go_loopw [7] (fun i wr => ∃ k : Nat, i = .int .i64 k ∧ k ≤ ps.length ∧ k ≤ 20 ∧ Hid (∀ j, j < k → (pj ps j).1.size ≤ 100 ∧ (pj ps j).2.size ≤ 400) ∧ Below w.heap.size w wr) (fun i _ => (ps.length - (intOf i).toNat))
  case atStart => exact ⟨0, rfl, Nat.zero_le _, Nat.zero_le _, (by intro j hj; omega), Below.refl _ _⟩
  case round =>
    obtain ⟨k, rfl, hk, hk20, Hf, hB⟩ := hrel
    have HB := hide hB
    have hBs := hB.size
    by_cases hkk : k < ps.length
    · have hki : (k : Int) < (ps.length : Int) := by omega
      have hk0 : (0 : Int) ≤ (k : Int) := by omega
      rcases HV.out with h0 | ⟨b, off, rfl, hb, hc⟩
      · subst h0; simp at hkk
      obtain ⟨c0, c1⟩ := hc k hkk
      rw [← hB.cell hb] at c0 c1
      obtain ⟨p, hp⟩ : ∃ p, pj ps k = p := ⟨_, rfl⟩
      rw [hp] at c0 c1
      obtain ⟨n, x⟩ := p
      simp only at c0 c1
      have Hp := hide hp
      clear hc hB hp
      have HB1 := hide (HB.out.alloc hBs (.cells #[.string n, .string x] 31))
      by_cases h20 : k < 20
      · have h20i : ¬ (20 : Int) ≤ (k : Int) := by omega
        by_cases hn : n.size ≤ 100
        · have hni : (n.size : Int) ≤ 100 := by omega
          by_cases hx : x.size ≤ 400
          · have hxi : (x.size : Int) ≤ 400 := by omega
            have Hf2 : Hid (∀ j, j < k + 1 → (pj ps j).1.size ≤ 100 ∧ (pj ps j).2.size ≤ 400) := by
              intro j hj
              rcases Nat.lt_or_eq_of_le (Nat.lt_succ_iff.1 hj) with h | rfl
              · exact Hf.out j h
              · rw [Hp.out]; exact ⟨hn, hx⟩
            go_wp2_with fail
            go_roundw
            case rel => exact ⟨k + 1, by go_num, by omega, by omega, Hf2.out, HB1.out⟩
            case measure => simp [intOf]; omega
          · have hxi : ¬ (x.size : Int) ≤ 400 := by omega
            go_wp2_with fail
            go_returns
            exact ⟨Or.inl rfl, HB1.out⟩
        · have hni : ¬ (n.size : Int) ≤ 100 := by omega
          go_wp2_with fail
          go_returns
          exact ⟨Or.inl rfl, HB1.out⟩
      · have h20i : (20 : Int) ≤ (k : Int) := by omega
        go_wp2_with fail
        go_returns
        exact ⟨Or.inl rfl, HB1.out⟩
    · have hki : ¬ (k : Int) < (ps.length : Int) := by omega
      have HE : Hid (Near ps) := ⟨by omega, fun j hj => Hf.out j (by omega)⟩
      clear hB
      go_wp2_with fail
      go_returns
      exact ⟨Or.inr ⟨rfl, HE.out⟩, HB.out⟩
end Go.Proofs.YtaghhmnigjapoaaDoor
