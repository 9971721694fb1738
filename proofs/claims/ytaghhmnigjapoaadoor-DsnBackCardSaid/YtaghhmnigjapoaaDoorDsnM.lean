/-
  What dsn.Print answers. No condition but on lengths.
-/
import Derived.Test.YtaghhmnigjapoaaDoorDsnL
namespace Go.Proofs.YtaghhmnigjapoaaDoor
open Go.RowKit
set_option linter.unusedVariables false
set_option linter.unusedSimpArgs false

theorem infoStr : (Tryd.prog.info? 9).map (fun i => (i.zero, i.size, i.bytes)) = some (some (.string ⟨#[]⟩), 1, 16) := by kernel_rfl
/-- Neither too many pairs nor too long ones. -/
def Near (ps : List (ByteArray × ByteArray)) : Prop := ps.length ≤ 20 ∧ ∀ k, k < ps.length → (pj ps k).1.size ≤ 100 ∧ (pj ps k).2.size ≤ 400
theorem itemL_length (p : ByteArray × ByteArray) (h1 : p.1.size ≤ 100) (h2 : p.2.size ≤ 400) : (itemL p).length ≤ 903 := by
  have h := escL_length p.2.data.toList
  rw [list_size] at h
  unfold itemL
  simp
  omega
theorem joinL_length (ps : List (ByteArray × ByteArray)) (h : Near ps) (k : Nat) (hk : k ≤ ps.length) : (joinL (ps.take k)).length ≤ 904 * k := by
  induction k with
  | zero => exact Nat.zero_le _
  | succ k ih =>
    have h1 := ih (by omega)
    have h2 := h.2 k (by omega)
    have h3 := itemL_length (pj ps k) h2.1 h2.2
    rw [joinL_snoc ps k (by omega)]
    split
    · omega
    · simp; omega
theorem item_bs (p : ByteArray × ByteArray) : p.1 ++ ⟨#[61, 39]⟩ ++ escB p.2 ++ ⟨#[39]⟩ = bs (itemL p) := by
  rw [show (⟨#[61, 39]⟩ : ByteArray) = bs [61, 39] from rfl, show (⟨#[39]⟩ : ByteArray) = bs [39] from rfl]
  unfold escB
  rw [ext_iff, bs_list, app_list, app_list, app_list, bs_list, bs_list, bs_list]
  unfold itemL
  simp
def itemCells (ps : List (ByteArray × ByteArray)) (k : Nat) : List Value := (ps.take k).map fun p => .string (bs (itemL p))
theorem itemCells_snoc (ps : List (ByteArray × ByteArray)) (k : Nat) (h : k < ps.length) : itemCells ps (k + 1) = itemCells ps k ++ [.string (bs (itemL (pj ps k)))] := by
  unfold itemCells pj
  rw [List.take_add_one, List.getElem?_eq_getElem h, List.getD_eq_getElem?_getD, List.getElem?_eq_getElem h, List.map_append]; rfl

theorem join_any (ps : List (ByteArray × ByteArray)) (v : Value) (base : Nat) (w : World) (h : Near ps) (hown : w.ownsRow base 9 1 v ps.length (itemCells ps ps.length)) :
    Calls Tryd.prog 20 #[v, .string ⟨#[32]⟩] w fun e w' => e = .returned (.string (bs (joinL ps))) ∧ Below w.heap.size w w' := by
  have e1 : itemCells ps ps.length = (ps.map fun p => bs (itemL p)).map Value.string := by
    unfold itemCells; rw [List.take_length, List.map_map]; rfl
  have e2 : ((ps.map fun p => bs (itemL p)).map (·.data.toList)) = ps.map itemL := by
    rw [List.map_map]
    exact List.map_congr_left fun p _ => bs_list _
  have hj := joinL_length ps h ps.length (Nat.le_refl _)
  rw [List.take_length] at hj
  cases hp : ps with
  | nil =>
    subst hp
    obtain ⟨a, c, rfl⟩ := own_slice hown
    exact (Tryd.strings_Join_none a c ⟨#[32]⟩ w).mono fun e w' ⟨he, hw⟩ => ⟨he, by rw [hw]; exact Below.refl _ _⟩
  | cons p qs =>
    rw [← hp]
    have hpos : 0 < ps.length := by rw [hp]; simp
    obtain ⟨g, cap, rfl, _, hg, hc1, hc2, _, hc⟩ := own_form hown hpos
    have := Tryd.strings_Join g 0 cap (ps.map fun p => bs (itemL p)) ⟨#[32]⟩ w (fun j x hx => by
      have hlt : j < ps.length := by
        have := (List.getElem?_eq_some_iff.1 hx).1
        simpa using this
      rw [Nat.zero_add, hc j (by omega), e1, List.getElem?_map, hx]; rfl) hg (by rw [List.length_map]; have := h.1; omega) (by rw [List.length_map]; exact hc1) (by
      rw [e2]
      show (joinL ps).length ≤ _
      have := h.1
      omega)
    rw [List.length_map, e2] at this
    exact this

set_option maxHeartbeats 2000000 in
theorem print_any (v : Value) (ps : List (ByteArray × ByteArray)) (w : World) (hn : Near ps) (hv : PairsAt w v ps) (hM : MaxAt w) :
    Calls Tryd.prog 13 #[v] w fun e w' => e = .returned (.tuple #[.string (printP ps).1, .int .i64 (printP ps).2]) ∧ Below w.heap.size w w' := by
  obtain ⟨i0, hi, hz0, hz1, hz2⟩ := info_parts infoStr
  obtain ⟨a, cap, rfl, hv⟩ := hv
  obtain ⟨⟨q, z⟩, hq⟩ : ∃ x, printP ps = x := ⟨_, rfl⟩
  rw [hq]
  have HQ := hide hq
  clear hq
  have HV := hide hv
  have HM := hide hM
  have hl := hn.1
  have HN := hide hn
  clear hv hM hn
  go_enter Tryd.func13, Tryd.ntmps13
  go_wp2_with fail
  go_loopw [4, 5, 12] (fun x y i wr => ∃ k : Nat, i = .int .i64 k ∧ k ≤ ps.length ∧ y = .int .i64 (sumL ps k) ∧ sumL ps k ≤ 4096 ∧ wr.ownsRow w.heap.size 9 1 x k (itemCells ps k) ∧ Hid (∀ j, j < k → wordB (pj ps j).1 = true) ∧ Below w.heap.size w wr) (fun _ _ i _ => (ps.length - (intOf i).toNat))
  case atStart => exact ⟨0, rfl, Nat.zero_le _, rfl, Nat.zero_le _, World.ownsRow_nil _ _ _ _, (by intro j hj; omega), Below.refl _ _⟩
  case round =>
    obtain ⟨k, rfl, hk, rfl, hsum, hown, Hw, hB⟩ := hrel
    obtain ⟨va, vc, rfl⟩ := own_slice hown
    have HB := hide hB
    have hBs := hB.size
    have HOwn := hide hown
    clear hown
    have HS := hide hsum
    obtain ⟨su, hsu⟩ : ∃ x, sumL ps k = x := ⟨_, rfl⟩
    rw [hsu] at hsum HS
    have Hsu := hide hsu
    rw [hsu]
    clear hsu
    by_cases hkk : k < ps.length
    · have hki : (k : Int) < (ps.length : Int) := by omega
      rcases HV.out with h0 | ⟨b, off, rfl, hb, hc⟩
      · subst h0; simp at hkk
      obtain ⟨c0, c1⟩ := hc k hkk
      rw [← hB.cell hb] at c0 c1
      obtain ⟨n1, n2⟩ := HN.out.2 k hkk
      obtain ⟨p, hp⟩ : ∃ p, pj ps k = p := ⟨_, rfl⟩
      rw [hp] at c0 c1 n1 n2
      obtain ⟨n, x⟩ := p
      simp only at c0 c1 n1 n2
      have Hp := hide hp
      clear hc hB hp
      go_upto_region 6 with fail
      refine Code.wp_named (fun W => Blk W wr.heap.size 31 #[.string n, .string x] ∧ Below w.heap.size w W ∧ W.ownsRow w.heap.size 9 1 (.slice va k vc) k (itemCells ps k)) ⟨Blk.new wr _ _, HB.out.alloc hBs _, HOwn.out.alloc _⟩ ?_
      rintro W ⟨hy, hB, hown⟩
      have g0 := hy.cell 0
      simp at g0
      have HY := hide hy
      have HB1 := hide hB
      have HOwn1 := hide hown
      clear hy hB hown HB HOwn c0 c1
      go_wp2_with fail
      refine (word_any n _ (by omega)).mono ?_
      rintro e w1 ⟨rfl, hb1⟩
      have HY1 := hide (HY.out.below hb1 HY.out.lt)
      have HB2 := hide (below_via HB1.out hb1)
      have HOwn2 := hide (own_below HOwn1.out hb1)
      clear hb1 g0 HY HB1 HOwn1
      cases hw : wordB n with
      | false =>
        have HE : Hid ((q, z) = (⟨#[]⟩, 1)) := by
          show _ = _
          rw [← HQ.out]; exact print_word ps k hkk (by rw [Hp.out]; exact hw)
        clear hw
        go_wp2_with fail
        go_returns
        have h1 := HE.out
        cases h1
        exact ⟨rfl, HB2.out⟩
      | true =>
        have Hw2 : Hid (∀ j, j < k + 1 → wordB (pj ps j).1 = true) := by
          intro j hj
          rcases Nat.lt_or_eq_of_le (Nat.lt_succ_iff.1 hj) with h | rfl
          · exact Hw.out j h
          · rw [Hp.out]; exact hw
        clear hw
        go_upto_region 8 with fail
        have hM1 : ∀ N : Aft w1, MaxAt N.out := fun N => HM.out.below (HB2.out.trans (N.below.mono HB2.out.size))
        have g0 : ∀ N : Aft w1, N.out.cell? ⟨wr.heap.size, 0, none⟩ = some (.string n) := fun N => N.cell (HY1.out.cell 0)
        have g1 : ∀ N : Aft w1, N.out.cell? ⟨wr.heap.size, 1, none⟩ = some (.string x) := fun N => N.cell (HY1.out.cell 1)
        have hx2 := escB_size x
        have hP : ∀ N : Aft w1, Calls Tryd.prog 19 #[.string x] N.out fun e w' => e = .returned (.string (escB x)) ∧ Below N.out.heap.size N.out w' := fun N => escaped_any x _ (by omega) (hM1 N)
        have z1 : (n ++ ⟨#[61, 39]⟩).size = n.size + 2 := by rw [ByteArray.size_append]; rfl
        have z2 : (n ++ ⟨#[61, 39]⟩ ++ escB x).size = n.size + 2 + (escB x).size := by rw [ByteArray.size_append, z1]
        have z3 : ((⟨#[61, 39]⟩ : ByteArray)).size = 2 := rfl
        have z4 : ((⟨#[39]⟩ : ByteArray)).size = 1 := rfl
        have HI : Hid (n ++ ⟨#[61, 39]⟩ ++ escB x ++ ⟨#[39]⟩ = bs (itemL (n, x))) := item_bs (n, x)
        refine wp_region_aft (by kernel_rfl) (by kernel_rfl) ?_
        repeat (first
          | go_big_quiet_skip
          | (go_big_quiet_want; go_big_quiet_op; first
             | go_big_quiet_on
             | (apply Exists.intro
                refine ⟨fun N => ?_, ?_⟩
                · (go_at_call 19; exact Calls.aft N (hP _))
                go_big_quiet_on)))
        refine wpQuiet_nil ?_
        rintro w' ⟨N, rfl⟩
        rw [HI.out]
        have HB3 := hide (HB2.out.trans (N.below.mono HB2.out.size))
        have HOwn3 := hide (own_below HOwn2.out N.below)
        generalize N.out = W3 at HB3 HOwn3 ⊢
        have hs3 := HB3.out.size
        clear hM1 g0 g1 hP z1 z2 z3 z4 HI HY1 HB2 HOwn2 hx2
        have hil := itemL_length (n, x) n1 n2
        have HS2 : Hid (sumL ps (k + 1) = su + (itemL (n, x)).length) := by show _ = _; rw [sumL_snoc ps k hkk, Hsu.out, Hp.out]
        obtain ⟨it, hit⟩ : ∃ it, bs (itemL (n, x)) = it := ⟨_, rfl⟩
        have hiz : it.size = (itemL (n, x)).length := by rw [← hit, bs_size]
        rw [← hiz] at hil HS2
        rw [hit]
        have HIt : Hid (bs (itemL (pj ps k)) = it) := by show _ = _; rw [Hp.out]; exact hit
        clear hit hiz
        by_cases hlong : su + it.size ≤ 4096
        · have hli : (su : Int) + (it.size : Int) ≤ 4096 := by omega
          go_wp2_with (at_builtin; refine wpList_append_one W3 rfl _ _ 43 rfl w.heap.size 9 i0 (.string ⟨#[]⟩) 1 16 Tryd.underlying43 hi hz0 hz1 hz2 rfl (by decide) _ k _ [.string it] HOwn3.out rfl rfl (by simp [Value.oneCell']) rfl (by simp [maxLen]; omega) (by omega) hs3 ?_; intro v1 w3 hown4 hb4 _)
          have HOwn4 := hide hown4
          have HB4 := hide (HB3.out.trans hb4)
          clear hown4 hb4
          go_roundw
          case rel => exact ⟨k + 1, by go_num, by omega, by rw [HS2.out]; go_num, by rw [HS2.out]; omega, by rw [itemCells_snoc ps k hkk, HIt.out]; exact HOwn4.out, Hw2.out, HB4.out⟩
          case measure => simp [intOf]; omega
        · have hli : ¬ (su : Int) + (it.size : Int) ≤ 4096 := by omega
          have HE : Hid ((q, z) = (⟨#[]⟩, 1)) := by
            show _ = _
            rw [← HQ.out]
            refine print_long ps ?_
            have h1 := sumL_le ps (k + 1) (by omega)
            have h2 := joinL_all ps (k + 1) (by omega)
            rw [HS2.out] at h1
            omega
          go_wp2_with fail
          go_returns
          have h1 := HE.out
          cases h1
          exact ⟨rfl, HB3.out⟩
    · have hki : ¬ (k : Int) < (ps.length : Int) := by omega
      obtain rfl : k = ps.length := by omega
      clear hB
      go_wp2_with fail
      refine (join_any ps _ w.heap.size _ HN.out HOwn.out).mono ?_
      rintro e w1 ⟨rfl, hb1⟩
      have HB1 := hide (below_via HB.out hb1)
      clear hb1
      have hjz : (bs (joinL ps)).size = (joinL ps).length := bs_size _
      have HJ : Hid ((joinL ps).length ≤ 4096 → printP ps = (bs (joinL ps), 0)) := print_ok ps Hw.out
      have HJ2 : Hid (4096 < (joinL ps).length → printP ps = (⟨#[]⟩, 1)) := print_long ps
      rw [← hjz] at HJ HJ2
      clear hjz
      obtain ⟨j, hj⟩ : ∃ j, bs (joinL ps) = j := ⟨_, rfl⟩
      rw [hj] at HJ HJ2
      rw [hj]
      clear hj
      by_cases hlong : j.size ≤ 4096
      · have hli : (j.size : Int) ≤ 4096 := by omega
        have HE : Hid ((q, z) = (j, 0)) := by show _ = _; rw [← HQ.out]; exact HJ.out hlong
        go_wp2_with fail
        go_returns
        have h1 := HE.out
        cases h1
        exact ⟨rfl, HB1.out⟩
      · have hli : ¬ (j.size : Int) ≤ 4096 := by omega
        have HE : Hid ((q, z) = (⟨#[]⟩, 1)) := by show _ = _; rw [← HQ.out]; exact HJ2.out (by omega)
        go_wp2_with fail
        go_returns
        have h1 := HE.out
        cases h1
        exact ⟨rfl, HB1.out⟩
end Go.Proofs.YtaghhmnigjapoaaDoor
