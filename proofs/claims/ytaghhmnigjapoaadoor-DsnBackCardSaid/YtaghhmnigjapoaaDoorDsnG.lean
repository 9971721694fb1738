/-
  The reference's one. No condition but on lengths.
-/
import Derived.Test.YtaghhmnigjapoaaDoorDsnF
namespace Go.Proofs.YtaghhmnigjapoaaDoor
open Go.RowKit
set_option linter.unusedVariables false
set_option linter.unusedSimpArgs false

def roneV (n : Nat) (o : Option ((ByteArray × ByteArray) × List UInt8)) (e : Ending) : Prop :=
  match o with
  | none => ∃ x y, e = .returned (.tuple #[.agg #[.string x, .string y], .int .i64 (-1)])
  | some (p, r) => e = .returned (.tuple #[.agg #[.string p.1, .string p.2], .int .i64 ((n - r.length : Nat) : Int)])

theorem index_step (s : ByteArray) (k : Nat) (h : k < s.size) (hc : sb s k ≠ 61) : (Lib.indexByte (s.data.toList.drop k) 61 < 0 ↔ Lib.indexByte (s.data.toList.drop (k + 1)) 61 < 0) ∧ cutAt (s.data.toList.drop k) 61 = cutAt (s.data.toList.drop (k + 1)) 61 + 1 := by
  have hne : s.data.toList.getD k 0 ≠ 61 := fun e => hc ((sb_is s k 61).2 e)
  rw [drop_cons s k h]
  refine ⟨?_, cutAt_cons _ _ _ hne⟩
  have hge := Lib.indexByte_ge (s.data.toList.drop (k + 1)) 61
  rw [indexByte_cons _ _ _ hne]
  split <;> omega
theorem pairL_at (s : ByteArray) (k0 k : Nat) (h0 : k0 ≤ k) (h : k < s.size) (hc : sb s k = 61) (hp : Lib.indexByte (s.data.toList.drop k0) 61 < 0 ↔ Lib.indexByte (s.data.toList.drop k) 61 < 0) (hq : cutAt (s.data.toList.drop k0) 61 = (k - k0) + cutAt (s.data.toList.drop k) 61) :
    pairL (s.data.toList.drop k0) = if wordB (s.extract k0 k) = false then none else pairOf (s.extract k0 k) (valL (s.data.toList.drop (k + 1))) := by
  have h1 : Lib.indexByte (s.data.toList.drop k) 61 = 0 := by rw [drop_cons s k h, (sb_is s k 61).1 hc, indexByte_self]
  have h2 : cutAt (s.data.toList.drop k) 61 = 0 := by unfold cutAt; rw [h1]; rfl
  have h3 : ¬ Lib.indexByte (s.data.toList.drop k0) 61 < 0 := by rw [hp, h1]; decide
  rw [h2, Nat.add_zero] at hq
  rw [pairL, if_neg h3, hq, ext_mid, List.drop_drop, show k0 + (k - k0 + 1) = k + 1 by omega]
  rfl
theorem pairL_at_none (s : ByteArray) (k0 k : Nat) (h : s.size ≤ k) (hp : Lib.indexByte (s.data.toList.drop k0) 61 < 0 ↔ Lib.indexByte (s.data.toList.drop k) 61 < 0) : pairL (s.data.toList.drop k0) = none := by
  refine pairL_miss _ (hp.2 ?_)
  rw [drop_none s k h]
  unfold Lib.indexByte; decide
theorem okEnd_at (s : ByteArray) (r : List UInt8) (z : Nat) (h : r <:+ s.data.toList) (hz : s.size - r.length = z) : okEnd r = true ↔ z = s.size ∨ (z < s.size ∧ sb s z = 32) := by
  have h1 := h.length_le
  have h2 := List.suffix_iff_eq_drop.1 h
  rw [list_size] at h1 h2
  rw [hz] at h2
  by_cases h3 : z < s.size
  · rw [h2, drop_cons s z h3]
    have := sb_is s z 32
    have h4 : sb s z = 32 ↔ s.data.toList.getD z 0 = 32 := this
    rw [h4]
    unfold okEnd
    simp [h3]
    intro e; omega
  · rw [h2, drop_none s z (by omega)]
    unfold okEnd
    simp
    omega

theorem store2b {W w : World} {c : Nat} {T : TypeId} {x y : Value} (hx : Blk W c T #[x, y]) (hc : w.heap.size ≤ c) (hB : Below w.heap.size w W) (p q : Value) :
    ((W.setCell ⟨c, 0, none⟩ p).setCell ⟨c, 1, none⟩ q).cell? ⟨c, 0, none⟩ = some p
    ∧ ((W.setCell ⟨c, 0, none⟩ p).setCell ⟨c, 1, none⟩ q).cell? ⟨c, 1, none⟩ = some q
    ∧ Below w.heap.size w ((W.setCell ⟨c, 0, none⟩ p).setCell ⟨c, 1, none⟩ q) := by
  have hp := (hx.put 0 p).put 1 q
  have g0 := hp.cell 0; have g1 := hp.cell 1
  simp at g0 g1
  exact ⟨g0, g1, (hB.setCell (p := ⟨c, 0, none⟩) hc p).setCell (p := ⟨c, 1, none⟩) hc q⟩
theorem pairOf_none (n : ByteArray) : pairOf n none = none := rfl
theorem pairOf_some (n : ByteArray) (v r : List UInt8) : pairOf n (some (v, r)) = if okEnd r = true then some ((n, bs v), r) else none := rfl
set_option maxHeartbeats 1000000 in
theorem rone_any (s : ByteArray) (k0 : Nat) (w : World) (hs : s.size ≤ 100000) (hk0 : k0 ≤ s.size) :
    Calls Tryd.prog 17 #[.string s, .int .i64 k0] w fun e w' => roneV s.size (pairL (s.data.toList.drop k0)) e ∧ Below w.heap.size w w' := by
  obtain ⟨o0, ho0⟩ : ∃ o, pairL (s.data.toList.drop k0) = o := ⟨_, rfl⟩
  rw [ho0]
  have H0 := hide ho0
  clear ho0
  go_enter Tryd.func17, Tryd.ntmps17
  go_upto_region 1 with fail
  refine Code.wp_named (fun W => Blk W w.heap.size 31 #[.string ⟨#[]⟩, .string ⟨#[]⟩] ∧ Below w.heap.size w W) ⟨Blk.new w _ _, (Below.refl _ _).alloc (Nat.le_refl _) _⟩ ?_
  rintro W ⟨hy, hB⟩
  have HY := hide hy
  have HB := hide hB
  clear hy hB
  go_wp2_with fail
  go_loop [1] (fun i => ∃ (k : Nat), i = .int .i64 k ∧ k0 ≤ k ∧ k ≤ s.size ∧ Hid (Lib.indexByte (s.data.toList.drop k0) 61 < 0 ↔ Lib.indexByte (s.data.toList.drop k) 61 < 0) ∧ Hid (cutAt (s.data.toList.drop k0) 61 = (k - k0) + cutAt (s.data.toList.drop k) 61)) (fun i => (s.size - (intOf i).toNat))
  case atStart => exact ⟨k0, rfl, Nat.le_refl _, hk0, Iff.rfl, by show _ = _; omega⟩
  case round =>
    obtain ⟨k, rfl, hk0k, hk, Hp, Hq⟩ := hrel
    have hk0i : (k0 : Int) ≤ (k : Int) := by omega
    have hki2 : (k : Int) ≤ (s.size : Int) := by omega
    have g0 := HY.out.cell 0
    have g1 := HY.out.cell 1
    have f0 := HY.out.frozen 0
    have f1 := HY.out.frozen 1
    simp at g0 g1
    by_cases hkk : k < s.size
    · have hki : (k : Int) < (s.size : Int) := by omega
      have hg := sb_get s k hkk
      by_cases h61 : sb s k = 61
      · have HE := hide (pairL_at s k0 k hk0k hkk h61 Hp.out Hq.out)
        rw [h61] at hg
        clear h61
        have hk1i : (k : Int) + 1 ≤ (s.size : Int) := by omega
        have hnz : (s.extract k0 k).size ≤ 100000 := by rw [ByteArray.size_extract]; omega
        go_wp2_with fail
        refine (rword_any _ _ hnz).mono ?_
        rintro e w1 ⟨rfl, rfl⟩
        obtain ⟨n, hn⟩ : ∃ n, s.extract k0 k = n := ⟨_, rfl⟩
        rw [hn] at HE
        rw [hn]
        have Hn := hide hn
        clear hn hnz
        cases hw : wordB n with
        | false =>
          have HE2 : Hid (o0 = none) := by show _ = _; rw [← H0.out, HE.out, if_pos hw]
          clear hw HE
          have HE := HE2
          go_wp2_with fail
          obtain ⟨q0, q1, hB2⟩ := store2b HY.out (Nat.le_refl _) HB.out (.string ⟨#[]⟩) (.string ⟨#[]⟩)
          generalize (W.setCell ⟨w.heap.size, 0, none⟩ (.string ⟨#[]⟩)).setCell ⟨w.heap.size, 1, none⟩ (.string ⟨#[]⟩) = W2 at q0 q1 hB2 ⊢
          refine bodyPost_ret (v := .tuple #[.agg #[.string ⟨#[]⟩, .string ⟨#[]⟩], .int .i64 (-1)]) (by simp [results, Tryd.results17, go_sem, q0, q1]) rfl ?_
          rw [HE.out]
          exact ⟨⟨_, _, rfl⟩, hB2⟩
        | true =>
          have HE1 : Hid (o0 = pairOf n (valL (s.data.toList.drop (k + 1)))) := by show _ = _; rw [← H0.out, HE.out, if_neg (by rw [hw]; decide)]
          clear hw HE H0 Hp Hq hg
          obtain ⟨o1, ho1⟩ : ∃ o, valL (s.data.toList.drop (k + 1)) = o := ⟨_, rfl⟩
          rw [ho1] at HE1
          have HO1 := hide ho1
          clear ho1
          by_cases hk1 : k + 1 < s.size
          · have hk1j : (k : Int) + 1 < (s.size : Int) := by omega
            have hg := sb_get s (k + 1) hk1
            by_cases h39 : sb s (k + 1) = 39
            · have HV : Hid (o1 = qL (s.data.toList.drop (k + 2))) := by
                show _ = _
                rw [← HO1.out, drop_cons s (k + 1) hk1, (sb_is s (k + 1) 39).1 h39]; rfl
              have hk2 : (k : Int) + 1 + 1 = ((k + 2 : Nat) : Int) := by omega
              rw [h39] at hg
              clear h39
              go_wp2_with fail
              rw [Hn.out]
              refine (rquoted_any s (k + 2) _ hs (by omega)).mono ?_
              rintro e w1 ⟨rfl, hb1⟩
              rw [← HV.out]
              obtain ⟨t, z, ht⟩ : ∃ t z, rvalV s.size o1 = .tuple #[.string t, .int .i64 z] := by
                cases o1 with
                | none => exact ⟨_, _, rfl⟩
                | some q => exact ⟨_, _, rfl⟩
              rw [ht]
              have Hz := hide ht
              clear ht
              clear g0 g1 f0 f1
              have hy := HY.out.below hb1 HY.out.lt
              have g0 := hy.cell 0
              have g1 := hy.cell 1
              have f0 := hy.frozen 0
              have f1 := hy.frozen 1
              simp at g0 g1
              have HY1 := hide hy
              have HB1 := hide (below_via HB.out hb1)
              clear hy hb1
              cases o1 with
              | none =>
                have HE : Hid (o0 = none) := HE1.out
                have hz : Value.tuple #[.string ⟨#[]⟩, .int .i64 (-1)] = .tuple #[.string t, .int .i64 z] := Hz.out
                cases hz
                clear HE1 Hz HO1
                go_wp2_with fail
                obtain ⟨q0, q1, hB2⟩ := store2b HY1.out (Nat.le_refl _) HB1.out (.string n) (.string ⟨#[]⟩)
                generalize (w1.setCell ⟨w.heap.size, 0, none⟩ (.string n)).setCell ⟨w.heap.size, 1, none⟩ (.string ⟨#[]⟩) = W2 at q0 q1 hB2 ⊢
                refine bodyPost_ret (v := .tuple #[.agg #[.string n, .string ⟨#[]⟩], .int .i64 (-1)]) (by simp [results, Tryd.results17, go_sem, q0, q1]) rfl ?_
                rw [HE.out]
                exact ⟨⟨_, _, rfl⟩, hB2⟩
              | some q =>
                obtain ⟨v, r⟩ := q
                have hsuf : r <:+ s.data.toList := (valL_short _ _ _ HO1.out).1.trans (List.drop_suffix _ _)
                obtain ⟨m, hm⟩ : ∃ m, s.size - r.length = m := ⟨_, rfl⟩
                have hok := okEnd_at s r m hsuf hm
                have HOK := hide hok
                have hms : m ≤ s.size := by omega
                have hz : Value.tuple #[.string (bs v), .int .i64 ((s.size - r.length : Nat) : Int)] = .tuple #[.string t, .int .i64 z] := Hz.out
                rw [hm] at hz
                cases hz
                have Hm := hide hm
                have HE2 : Hid (o0 = if okEnd r = true then some ((n, bs v), r) else none) := by show _ = _; rw [HE1.out, pairOf_some]
                clear HE1 Hz HO1 hm hok hsuf
                have hm0 : (0 : Int) ≤ (m : Int) := by omega
                by_cases hml : m < s.size
                · have hmi : (m : Int) < (s.size : Int) := by omega
                  have hgm := sb_get s m hml
                  by_cases h32 : sb s m = 32
                  · have HE : Hid (o0 = some ((n, bs v), r)) := by show _ = _; rw [HE2.out, if_pos (HOK.out.2 (Or.inr ⟨hml, h32⟩))]
                    rw [h32] at hgm
                    clear HOK h32
                    go_wp2_with fail
                    obtain ⟨q0, q1, hB2⟩ := store2b HY1.out (Nat.le_refl _) HB1.out (.string n) (.string (bs v))
                    generalize (w1.setCell ⟨w.heap.size, 0, none⟩ (.string n)).setCell ⟨w.heap.size, 1, none⟩ (.string (bs v)) = W2 at q0 q1 hB2 ⊢
                    refine bodyPost_ret (v := .tuple #[.agg #[.string n, .string (bs v)], .int .i64 (m : Int)]) (by simp [results, Tryd.results17, go_sem, q0, q1]) rfl ?_
                    rw [HE.out]
                    refine ⟨?_, hB2⟩
                    show _ = Ending.returned (.tuple #[.agg #[.string n, .string (bs v)], .int .i64 ((s.size - r.length : Nat) : Int)])
                    rw [Hm.out]
                  · have HE : Hid (o0 = none) := by
                      show _ = _; rw [HE2.out, if_neg]
                      intro h
                      rcases HOK.out.1 h with h | h
                      · omega
                      · exact h32 h.2
                    have d32 : (sb s m == 32) = false := by simpa using h32
                    clear HOK h32
                    go_wp2_with fail
                    obtain ⟨q0, q1, hB2⟩ := store2b HY1.out (Nat.le_refl _) HB1.out (.string ⟨#[]⟩) (.string ⟨#[]⟩)
                    generalize (w1.setCell ⟨w.heap.size, 0, none⟩ (.string ⟨#[]⟩)).setCell ⟨w.heap.size, 1, none⟩ (.string ⟨#[]⟩) = W2 at q0 q1 hB2 ⊢
                    refine bodyPost_ret (v := .tuple #[.agg #[.string ⟨#[]⟩, .string ⟨#[]⟩], .int .i64 (-1)]) (by simp [results, Tryd.results17, go_sem, q0, q1]) rfl ?_
                    rw [HE.out]
                    exact ⟨⟨_, _, rfl⟩, hB2⟩
                · have HE : Hid (o0 = some ((n, bs v), r)) := by show _ = _; rw [HE2.out, if_pos (HOK.out.2 (Or.inl (by omega)))]
                  have hmi : ¬ (m : Int) < (s.size : Int) := by omega
                  clear HOK
                  go_wp2_with fail
                  obtain ⟨q0, q1, hB2⟩ := store2b HY1.out (Nat.le_refl _) HB1.out (.string n) (.string (bs v))
                  generalize (w1.setCell ⟨w.heap.size, 0, none⟩ (.string n)).setCell ⟨w.heap.size, 1, none⟩ (.string (bs v)) = W2 at q0 q1 hB2 ⊢
                  refine bodyPost_ret (v := .tuple #[.agg #[.string n, .string (bs v)], .int .i64 (m : Int)]) (by simp [results, Tryd.results17, go_sem, q0, q1]) rfl ?_
                  rw [HE.out]
                  refine ⟨?_, hB2⟩
                  show _ = Ending.returned (.tuple #[.agg #[.string n, .string (bs v)], .int .i64 ((s.size - r.length : Nat) : Int)])
                  rw [Hm.out]
            · have HV : Hid (o1 = bL (s.data.toList.drop (k + 1))) := by
                show _ = _
                rw [← HO1.out]; unfold valL; rw [if_neg]
                rw [drop_cons s (k + 1) hk1]
                intro h
                exact h39 ((sb_is s (k + 1) 39).2 (Option.some.inj h))
              have d39 : (sb s (k + 1) == 39) = false := by simpa using h39
              have HC : Hid (∀ W', Calls Tryd.prog 27 #[.string s, .int .i64 ((k : Int) + 1)] W' fun e w' => e = .returned (rvalV s.size (bL (s.data.toList.drop (k + 1)))) ∧ Below W'.heap.size W' w') := fun W' => by
                have h := rbare_any s (k + 1) W' hs (by omega)
                exact h
              clear h39
              go_wp2_with fail
              rw [Hn.out]
              refine (HC.out _).mono ?_
              rintro e w1 ⟨rfl, hb1⟩
              rw [← HV.out]
              obtain ⟨t, z, ht⟩ : ∃ t z, rvalV s.size o1 = .tuple #[.string t, .int .i64 z] := by
                cases o1 with
                | none => exact ⟨_, _, rfl⟩
                | some q => exact ⟨_, _, rfl⟩
              rw [ht]
              have Hz := hide ht
              clear ht
              clear g0 g1 f0 f1
              have hy := HY.out.below hb1 HY.out.lt
              have g0 := hy.cell 0
              have g1 := hy.cell 1
              have f0 := hy.frozen 0
              have f1 := hy.frozen 1
              simp at g0 g1
              have HY1 := hide hy
              have HB1 := hide (below_via HB.out hb1)
              clear hy hb1
              cases o1 with
              | none =>
                have HE : Hid (o0 = none) := HE1.out
                have hz : Value.tuple #[.string ⟨#[]⟩, .int .i64 (-1)] = .tuple #[.string t, .int .i64 z] := Hz.out
                cases hz
                clear HE1 Hz HO1
                go_wp2_with fail
                obtain ⟨q0, q1, hB2⟩ := store2b HY1.out (Nat.le_refl _) HB1.out (.string n) (.string ⟨#[]⟩)
                generalize (w1.setCell ⟨w.heap.size, 0, none⟩ (.string n)).setCell ⟨w.heap.size, 1, none⟩ (.string ⟨#[]⟩) = W2 at q0 q1 hB2 ⊢
                refine bodyPost_ret (v := .tuple #[.agg #[.string n, .string ⟨#[]⟩], .int .i64 (-1)]) (by simp [results, Tryd.results17, go_sem, q0, q1]) rfl ?_
                rw [HE.out]
                exact ⟨⟨_, _, rfl⟩, hB2⟩
              | some q =>
                obtain ⟨v, r⟩ := q
                have hsuf : r <:+ s.data.toList := (valL_short _ _ _ HO1.out).1.trans (List.drop_suffix _ _)
                obtain ⟨m, hm⟩ : ∃ m, s.size - r.length = m := ⟨_, rfl⟩
                have hok := okEnd_at s r m hsuf hm
                have HOK := hide hok
                have hms : m ≤ s.size := by omega
                have hz : Value.tuple #[.string (bs v), .int .i64 ((s.size - r.length : Nat) : Int)] = .tuple #[.string t, .int .i64 z] := Hz.out
                rw [hm] at hz
                cases hz
                have Hm := hide hm
                have HE2 : Hid (o0 = if okEnd r = true then some ((n, bs v), r) else none) := by show _ = _; rw [HE1.out, pairOf_some]
                clear HE1 Hz HO1 hm hok hsuf
                have hm0 : (0 : Int) ≤ (m : Int) := by omega
                by_cases hml : m < s.size
                · have hmi : (m : Int) < (s.size : Int) := by omega
                  have hgm := sb_get s m hml
                  by_cases h32 : sb s m = 32
                  · have HE : Hid (o0 = some ((n, bs v), r)) := by show _ = _; rw [HE2.out, if_pos (HOK.out.2 (Or.inr ⟨hml, h32⟩))]
                    rw [h32] at hgm
                    clear HOK h32
                    go_wp2_with fail
                    obtain ⟨q0, q1, hB2⟩ := store2b HY1.out (Nat.le_refl _) HB1.out (.string n) (.string (bs v))
                    generalize (w1.setCell ⟨w.heap.size, 0, none⟩ (.string n)).setCell ⟨w.heap.size, 1, none⟩ (.string (bs v)) = W2 at q0 q1 hB2 ⊢
                    refine bodyPost_ret (v := .tuple #[.agg #[.string n, .string (bs v)], .int .i64 (m : Int)]) (by simp [results, Tryd.results17, go_sem, q0, q1]) rfl ?_
                    rw [HE.out]
                    refine ⟨?_, hB2⟩
                    show _ = Ending.returned (.tuple #[.agg #[.string n, .string (bs v)], .int .i64 ((s.size - r.length : Nat) : Int)])
                    rw [Hm.out]
                  · have HE : Hid (o0 = none) := by
                      show _ = _; rw [HE2.out, if_neg]
                      intro h
                      rcases HOK.out.1 h with h | h
                      · omega
                      · exact h32 h.2
                    have d32 : (sb s m == 32) = false := by simpa using h32
                    clear HOK h32
                    go_wp2_with fail
                    obtain ⟨q0, q1, hB2⟩ := store2b HY1.out (Nat.le_refl _) HB1.out (.string ⟨#[]⟩) (.string ⟨#[]⟩)
                    generalize (w1.setCell ⟨w.heap.size, 0, none⟩ (.string ⟨#[]⟩)).setCell ⟨w.heap.size, 1, none⟩ (.string ⟨#[]⟩) = W2 at q0 q1 hB2 ⊢
                    refine bodyPost_ret (v := .tuple #[.agg #[.string ⟨#[]⟩, .string ⟨#[]⟩], .int .i64 (-1)]) (by simp [results, Tryd.results17, go_sem, q0, q1]) rfl ?_
                    rw [HE.out]
                    exact ⟨⟨_, _, rfl⟩, hB2⟩
                · have HE : Hid (o0 = some ((n, bs v), r)) := by show _ = _; rw [HE2.out, if_pos (HOK.out.2 (Or.inl (by omega)))]
                  have hmi : ¬ (m : Int) < (s.size : Int) := by omega
                  clear HOK
                  go_wp2_with fail
                  obtain ⟨q0, q1, hB2⟩ := store2b HY1.out (Nat.le_refl _) HB1.out (.string n) (.string (bs v))
                  generalize (w1.setCell ⟨w.heap.size, 0, none⟩ (.string n)).setCell ⟨w.heap.size, 1, none⟩ (.string (bs v)) = W2 at q0 q1 hB2 ⊢
                  refine bodyPost_ret (v := .tuple #[.agg #[.string n, .string (bs v)], .int .i64 (m : Int)]) (by simp [results, Tryd.results17, go_sem, q0, q1]) rfl ?_
                  rw [HE.out]
                  refine ⟨?_, hB2⟩
                  show _ = Ending.returned (.tuple #[.agg #[.string n, .string (bs v)], .int .i64 ((s.size - r.length : Nat) : Int)])
                  rw [Hm.out]
          · have HV : Hid (o1 = bL (s.data.toList.drop (k + 1))) := by
              show _ = _
              rw [← HO1.out]; unfold valL; rw [if_neg]
              rw [drop_none s (k + 1) (by omega)]
              intro h; cases h
            have hk1j : ¬ (k : Int) + 1 < (s.size : Int) := by omega
            have HC : Hid (∀ W', Calls Tryd.prog 27 #[.string s, .int .i64 ((k : Int) + 1)] W' fun e w' => e = .returned (rvalV s.size (bL (s.data.toList.drop (k + 1)))) ∧ Below W'.heap.size W' w') := fun W' => by
              have h := rbare_any s (k + 1) W' hs (by omega)
              exact h
            go_wp2_with fail
            rw [Hn.out]
            refine (HC.out _).mono ?_
            rintro e w1 ⟨rfl, hb1⟩
            rw [← HV.out]
            obtain ⟨t, z, ht⟩ : ∃ t z, rvalV s.size o1 = .tuple #[.string t, .int .i64 z] := by
              cases o1 with
              | none => exact ⟨_, _, rfl⟩
              | some q => exact ⟨_, _, rfl⟩
            rw [ht]
            have Hz := hide ht
            clear ht
            clear g0 g1 f0 f1
            have hy := HY.out.below hb1 HY.out.lt
            have g0 := hy.cell 0
            have g1 := hy.cell 1
            have f0 := hy.frozen 0
            have f1 := hy.frozen 1
            simp at g0 g1
            have HY1 := hide hy
            have HB1 := hide (below_via HB.out hb1)
            clear hy hb1
            cases o1 with
            | none =>
              have HE : Hid (o0 = none) := HE1.out
              have hz : Value.tuple #[.string ⟨#[]⟩, .int .i64 (-1)] = .tuple #[.string t, .int .i64 z] := Hz.out
              cases hz
              clear HE1 Hz HO1
              go_wp2_with fail
              obtain ⟨q0, q1, hB2⟩ := store2b HY1.out (Nat.le_refl _) HB1.out (.string n) (.string ⟨#[]⟩)
              generalize (w1.setCell ⟨w.heap.size, 0, none⟩ (.string n)).setCell ⟨w.heap.size, 1, none⟩ (.string ⟨#[]⟩) = W2 at q0 q1 hB2 ⊢
              refine bodyPost_ret (v := .tuple #[.agg #[.string n, .string ⟨#[]⟩], .int .i64 (-1)]) (by simp [results, Tryd.results17, go_sem, q0, q1]) rfl ?_
              rw [HE.out]
              exact ⟨⟨_, _, rfl⟩, hB2⟩
            | some q =>
              obtain ⟨v, r⟩ := q
              have hsuf : r <:+ s.data.toList := (valL_short _ _ _ HO1.out).1.trans (List.drop_suffix _ _)
              obtain ⟨m, hm⟩ : ∃ m, s.size - r.length = m := ⟨_, rfl⟩
              have hok := okEnd_at s r m hsuf hm
              have HOK := hide hok
              have hms : m ≤ s.size := by omega
              have hz : Value.tuple #[.string (bs v), .int .i64 ((s.size - r.length : Nat) : Int)] = .tuple #[.string t, .int .i64 z] := Hz.out
              rw [hm] at hz
              cases hz
              have Hm := hide hm
              have HE2 : Hid (o0 = if okEnd r = true then some ((n, bs v), r) else none) := by show _ = _; rw [HE1.out, pairOf_some]
              clear HE1 Hz HO1 hm hok hsuf
              have hm0 : (0 : Int) ≤ (m : Int) := by omega
              by_cases hml : m < s.size
              · have hmi : (m : Int) < (s.size : Int) := by omega
                have hgm := sb_get s m hml
                by_cases h32 : sb s m = 32
                · have HE : Hid (o0 = some ((n, bs v), r)) := by show _ = _; rw [HE2.out, if_pos (HOK.out.2 (Or.inr ⟨hml, h32⟩))]
                  rw [h32] at hgm
                  clear HOK h32
                  go_wp2_with fail
                  obtain ⟨q0, q1, hB2⟩ := store2b HY1.out (Nat.le_refl _) HB1.out (.string n) (.string (bs v))
                  generalize (w1.setCell ⟨w.heap.size, 0, none⟩ (.string n)).setCell ⟨w.heap.size, 1, none⟩ (.string (bs v)) = W2 at q0 q1 hB2 ⊢
                  refine bodyPost_ret (v := .tuple #[.agg #[.string n, .string (bs v)], .int .i64 (m : Int)]) (by simp [results, Tryd.results17, go_sem, q0, q1]) rfl ?_
                  rw [HE.out]
                  refine ⟨?_, hB2⟩
                  show _ = Ending.returned (.tuple #[.agg #[.string n, .string (bs v)], .int .i64 ((s.size - r.length : Nat) : Int)])
                  rw [Hm.out]
                · have HE : Hid (o0 = none) := by
                    show _ = _; rw [HE2.out, if_neg]
                    intro h
                    rcases HOK.out.1 h with h | h
                    · omega
                    · exact h32 h.2
                  have d32 : (sb s m == 32) = false := by simpa using h32
                  clear HOK h32
                  go_wp2_with fail
                  obtain ⟨q0, q1, hB2⟩ := store2b HY1.out (Nat.le_refl _) HB1.out (.string ⟨#[]⟩) (.string ⟨#[]⟩)
                  generalize (w1.setCell ⟨w.heap.size, 0, none⟩ (.string ⟨#[]⟩)).setCell ⟨w.heap.size, 1, none⟩ (.string ⟨#[]⟩) = W2 at q0 q1 hB2 ⊢
                  refine bodyPost_ret (v := .tuple #[.agg #[.string ⟨#[]⟩, .string ⟨#[]⟩], .int .i64 (-1)]) (by simp [results, Tryd.results17, go_sem, q0, q1]) rfl ?_
                  rw [HE.out]
                  exact ⟨⟨_, _, rfl⟩, hB2⟩
              · have HE : Hid (o0 = some ((n, bs v), r)) := by show _ = _; rw [HE2.out, if_pos (HOK.out.2 (Or.inl (by omega)))]
                have hmi : ¬ (m : Int) < (s.size : Int) := by omega
                clear HOK
                go_wp2_with fail
                obtain ⟨q0, q1, hB2⟩ := store2b HY1.out (Nat.le_refl _) HB1.out (.string n) (.string (bs v))
                generalize (w1.setCell ⟨w.heap.size, 0, none⟩ (.string n)).setCell ⟨w.heap.size, 1, none⟩ (.string (bs v)) = W2 at q0 q1 hB2 ⊢
                refine bodyPost_ret (v := .tuple #[.agg #[.string n, .string (bs v)], .int .i64 (m : Int)]) (by simp [results, Tryd.results17, go_sem, q0, q1]) rfl ?_
                rw [HE.out]
                refine ⟨?_, hB2⟩
                show _ = Ending.returned (.tuple #[.agg #[.string n, .string (bs v)], .int .i64 ((s.size - r.length : Nat) : Int)])
                rw [Hm.out]
      · have HS := hide (index_step s k hkk h61)
        have d61 : (sb s k == 61) = false := by simpa using h61
        clear h61
        go_wp2_with fail
        go_round
        case rel => exact ⟨k + 1, by go_num, by omega, by omega, Hp.out.trans HS.out.1, by show _ = _; rw [Hq.out, HS.out.2]; omega⟩
        case measure => simp [intOf]; omega
    · have HE : Hid (o0 = none) := by
        show _ = _
        rw [← H0.out]; exact pairL_at_none s k0 k (by omega) Hp.out
      have hki : ¬ (k : Int) < (s.size : Int) := by omega
      have hki3 : (s.size : Int) ≤ (k : Int) := by omega
      go_wp2_with fail
      obtain ⟨q0, q1, hB2⟩ := store2b HY.out (Nat.le_refl _) HB.out (.string ⟨#[]⟩) (.string ⟨#[]⟩)
      generalize (W.setCell ⟨w.heap.size, 0, none⟩ (.string ⟨#[]⟩)).setCell ⟨w.heap.size, 1, none⟩ (.string ⟨#[]⟩) = W2 at q0 q1 hB2 ⊢
      refine bodyPost_ret (v := .tuple #[.agg #[.string ⟨#[]⟩, .string ⟨#[]⟩], .int .i64 (-1)]) (by simp [results, Tryd.results17, go_sem, q0, q1]) rfl ?_
      rw [HE.out]
      exact ⟨⟨_, _, rfl⟩, hB2⟩
end Go.Proofs.YtaghhmnigjapoaaDoor
