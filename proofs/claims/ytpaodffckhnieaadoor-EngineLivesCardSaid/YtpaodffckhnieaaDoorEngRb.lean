/-
  What verbs tell, by the reference. No condition but on lengths.
-/
import Derived.Test.YtpaodffckhnieaaDoorEngRa
import Derived.Laws.AppendOwnNone
namespace Go.Proofs.YtpaodffckhnieaaDoor
open Go.RowKit Go.Maps
set_option linter.unusedVariables false
set_option linter.unusedSimpArgs false
set_option maxRecDepth 100000

theorem row_news {w : World} {ad : Addr} {cap : Nat} {R : List (Bool × List UInt8)} (h : RowAt w (.slice (some ad) R.length cap) R) :
    ∃ news : List Value, news.length = R.length * 2 ∧ (∀ j u, news[j]? = some u → w.cell? (ad.add j) = some u) ∧ (∀ u ∈ news, u.oneCell' = true) ∧
      (∀ (W1 : World) (v' : Value) (base : Nat), Below w.heap.size w W1 → W1.ownsRow base 64 2 v' R.length news → RowAt W1 v' R) := by
  obtain ⟨a, cp, he, h⟩ := h
  cases he
  refine ⟨(List.range (R.length * 2)).map fun i => (w.cell? (ad.add i)).getD undef, by simp, ?_, ?_, ?_⟩
  all_goals
    have hall : ∀ i, i < R.length * 2 → ∃ u, w.cell? (ad.add i) = some u ∧ u.oneCell' = true := by
      intro i hi
      rcases h with h | ⟨b, off, hab, _, hcc⟩
      · subst h; exact absurd hi (by simp)
      · cases hab
        obtain ⟨x, k1, k2, k3⟩ := hcc (i / 2) (by omega)
        rw [Addr.add_lit]
        rcases Nat.mod_two_eq_zero_or_one i with hm | hm
        · have : off + i = off + i / 2 * 2 := by omega
          rw [this]
          exact ⟨_, k1, rfl⟩
        · have : off + i = off + i / 2 * 2 + 1 := by omega
          rw [this]
          obtain ⟨a', c', rfl, _⟩ := k3
          exact ⟨_, k2, rfl⟩
    have hat : ∀ j u, ((List.range (R.length * 2)).map fun i => (w.cell? (ad.add i)).getD undef)[j]? = some u → j < R.length * 2 ∧ w.cell? (ad.add j) = some u := by
      intro j u hu
      have hj : j < R.length * 2 := by
        have := (List.getElem?_eq_some_iff.1 hu).1
        simpa using this
      refine ⟨hj, ?_⟩
      rw [List.getElem?_map, List.getElem?_range hj] at hu
      obtain ⟨x, hx, _⟩ := hall j hj
      have hu' : (w.cell? (ad.add j)).getD undef = u := Option.some.inj hu
      rw [hx] at hu' ⊢
      exact congrArg some hu'
  · exact fun j u hu => (hat j u hu).2
  · intro u hu
    obtain ⟨j, hj⟩ := List.mem_iff_getElem?.1 hu
    obtain ⟨h1, h2⟩ := hat j u hj
    obtain ⟨x, hx, hx1⟩ := hall j h1
    rw [hx] at h2
    cases h2
    exact hx1
  · intro W1 v' base hB ho
    by_cases h0 : R.length = 0
    · obtain ⟨a, c, rfl⟩ := own_slice ho
      exact ⟨a, c, rfl, .inl (List.eq_nil_of_length_eq_zero h0)⟩
    obtain ⟨g, c, rfl, _, hg, _, _, _, hc⟩ := own_form ho (by omega)
    refine ⟨_, c, rfl, .inr ⟨g, 0, rfl, hg, fun j hj => ?_⟩⟩
    rcases h with h | ⟨b, off, hab, hbl, hcc⟩
    · subst h; exact absurd rfl h0
    cases hab
    obtain ⟨x, k1, k2, k3⟩ := hcc j hj
    have cell : ∀ i, i < R.length * 2 → W1.cell? ⟨g, i, none⟩ = w.cell? ⟨b, off + i, none⟩ := by
      intro i hi
      obtain ⟨y, hy, _⟩ := hall i hi
      rw [hc i hi, List.getElem?_map, List.getElem?_range hi]
      show some ((w.cell? ((⟨b, off, none⟩ : Addr).add i)).getD undef) = _
      rw [hy]
      rw [Addr.add_lit] at hy
      rw [hy]; rfl
    refine ⟨x, ?_, ?_, k3.below hB⟩
    · rw [Nat.zero_add, cell (j * 2) (by omega)]; exact k1
    · rw [Nat.zero_add, cell (j * 2 + 1) (by omega), ← Nat.add_assoc]; exact k2

set_option maxHeartbeats 2000000 in
theorem rprows_any (G B : Nat) (l : List ByteArray) (n : Int) (kd nn : Int) (c : ByteArray) (p : Value) (R : List (Bool × List UInt8)) (w : World) (h0 : 0 ≤ n) (h1 : n ≤ 1000) (hf : Fits R) (hp : RowAt w p R) (hp0 : ∀ m q, p = .slice none m q → p = .slice none 0 0) (hBw : B ≤ w.heap.size) (h : REng w G B l n) :
    Calls Tryd.prog 17 #[.pointer (some ⟨G, 0, none⟩), .agg #[.int .i64 kd, .int .i64 nn, .string c], p] w fun e w' =>
      ∃ v, e = .returned v ∧ RowsAt w' v (cntN kd nn) (tabN kd n R) ∧ REng w' G B l (nextN kd n) ∧ RKept G B w w' ∧ OneCell G w w' := by
  obtain ⟨i0, hi, hi0, hi1, hi2⟩ := info_parts infoCell
  have hfl := hf.1
  have hA : Below w.heap.size w (w.alloc (.cells #[.int .i64 kd, .int .i64 nn, .string c] 26)) := (Below.refl _ w).alloc (Nat.le_refl _) _
  have HE := hide (h.below hA)
  have HP := hide (hp.below hA)
  have HP0 := hide hp0
  have HA := hide hA
  have HK0 := hide ((RKept.refl G B w).under hA hBw)
  have hBs : B ≤ (w.alloc (.cells #[.int .i64 kd, .int .i64 nn, .string c] 26)).heap.size := Nat.le_trans hBw hA.size
  clear hf hp h hA hp0
  by_cases k5 : kd = 5
  · subst k5
    have HR : Hid (cntN 5 nn = heldN nn ∧ tabN 5 n R = numT ∧ nextN 5 n = n) := ⟨rfl, rfl, rfl⟩
    rw [HR.out.1, HR.out.2.1, HR.out.2.2]
    go_enter Tryd.func17, Tryd.ntmps17
    go_wp2_with fail
    refine (rcrows_any nn _).mono ?_
    rintro e w2 ⟨v, rfl, hr, hb⟩
    have H1 := hide hr
    have H2 := hide (HE.out.below hb)
    have H3 := hide (HK0.out.under hb hBs)
    have H4 := hide ((OneCell.of_below (G := G) HA.out).trans (OneCell.of_below hb))
    clear hr hb
    go_wp2_with fail
    go_returns
    exact ⟨v, rfl, H1.out, H2.out, H3.out, H4.out⟩
  have k5b : (kd == 5) = false := by simpa using k5
  by_cases k6 : kd = 6
  · subst k6
    have HR : Hid (cntN 6 nn = 1 ∧ tabN 6 n R = (fun _ => R) ∧ nextN 6 n = n) := ⟨rfl, rfl, rfl⟩
    rw [HR.out.1, HR.out.2.1, HR.out.2.2]
    obtain ⟨pa, pc, hpe, hor⟩ := HP.out
    cases pa with
    | none =>
      have hpn := HP0.out _ _ hpe
      have hR0 : R = [] := by
        rcases hor with h | ⟨b, off, h, _⟩
        · exact h
        · cases h
      subst hpn
      subst hR0
      clear hpe hor
      have hb2 := (Below.refl (w.alloc (.cells #[.int .i64 6, .int .i64 nn, .string c] 26)).heap.size (w.alloc (.cells #[.int .i64 6, .int .i64 nn, .string c] 26))).alloc (Nat.le_refl _) (.cells #[.slice none 0 0] 27)
      have H1 := hide (one_row HP.out)
      have H2 := hide (HE.out.below hb2)
      have H3 := hide (HK0.out.under hb2 hBs)
      have H4 := hide ((OneCell.of_below (G := G) HA.out).trans (OneCell.of_below hb2))
      clear hb2
      go_enter Tryd.func17, Tryd.ntmps17
      go_wp2_with (at_builtin; refine wpList_append_own_none rfl _ _ 27 rfl 0 64 i0 2 Tryd.underlying27 hi _ 0 [] rfl (World.ownsRow_nil _ _ _ _) rfl ?_)
      go_returns
      have hh := H1.out
      rw [World.size_alloc] at hh
      exact ⟨_, rfl, hh, H2.out, H3.out, H4.out⟩
    | some ad =>
      subst hpe
      obtain ⟨news, hn1, hn2, hn3, hn4⟩ := row_news HP.out
      have HN1 := hide hn1
      have HN2 := hide hn2
      have HN3 := hide hn3
      have HN4 := hide hn4
      clear hor hn1 hn2 hn3 hn4
      go_enter Tryd.func17, Tryd.ntmps17
      go_wp2_with (at_builtin; refine wpList_append_own _ rfl _ _ 27 rfl (w.alloc (.cells #[.int .i64 6, .int .i64 nn, .string c] 26)).heap.size 64 i0 (.agg #[.bool false, .slice none 0 0]) 2 32 Tryd.underlying27 hi hi0 hi1 hi2 rfl (by decide) (.slice none 0 0) 0 [] rfl (World.ownsRow_nil _ _ _ _) ad R.length pc news rfl HN1.out HN2.out HN3.out (by unfold maxLen; omega) (by omega) (Nat.le_refl _) ?_; intro v' w1 hown hgrow hnil; obtain ⟨va, vc, hvv⟩ := own_slice hown; subst hvv; have HOwn := hide hown; have HGr := hide hgrow; clear hown hgrow hnil)
      go_wp2_with fail
      go_returns
      have hown := HOwn.out
      rw [Nat.zero_add, List.nil_append] at hown
      have hb1 : Below (w.alloc (.cells #[.int .i64 6, .int .i64 nn, .string c] 26)).heap.size (w.alloc (.cells #[.int .i64 6, .int .i64 nn, .string c] 26)) w1 := (Below.refl _ _).grown HGr.out (Nat.le_refl _) (by intro k hk; have hk' : (none : Option Nat) = some k := hk; cases hk')
      have hb2 := (Below.refl w1.heap.size w1).alloc (Nat.le_refl _) (.cells #[.slice va R.length vc] 27)
      have hrow := HN4.out w1 _ _ hb1 hown
      exact ⟨_, rfl, one_row hrow, (HE.out.below hb1).below hb2, (HK0.out.under hb1 hBs).under hb2 (Nat.le_trans hBs hb1.size), ((OneCell.of_below (G := G) HA.out).trans (OneCell.of_below hb1)).trans (OneCell.of_below hb2)⟩
  have k6b : (kd == 6) = false := by simpa using k6
  by_cases k7 : kd = 7
  · subst k7
    have HR : Hid (cntN 7 nn = 1 ∧ tabN 7 n R = (fun _ => numR (n + 1)) ∧ nextN 7 n = n + 1) := ⟨rfl, rfl, rfl⟩
    rw [HR.out.1, HR.out.2.1, HR.out.2.2]
    have Hz := hide (text_sz (n + 1))
    go_enter Tryd.func17, Tryd.ntmps17
    go_wp2_with fail
    refine (rnext_any G B l n _ h0 (by omega) HE.out).mono ?_
    rintro e w2 ⟨rfl, hE2, hK2, hO2⟩
    have HE2 := hide hE2
    have HK2 : Hid (RKept G B w w2) := ⟨hK2.os.trans HK0.out.os, hK2.tape.trans HK0.out.tape, hK2.output.trans HK0.out.output, Nat.le_trans HK0.out.size hK2.size, fun k q1 q2 => (hK2.low k q1 q2).trans (HK0.out.low k q1 q2), HK0.out.other.trans hK2.other⟩
    have hB2 : B ≤ w2.heap.size := Nat.le_trans hBs hK2.size
    have HO2 := hide ((OneCell.of_below (G := G) HA.out).trans hO2)
    clear hE2 hK2 hO2
    go_wp2_with fail
    refine (rtext_any (n + 1) _ (by omega) (by omega)).mono ?_
    rintro e w3 ⟨rfl, rfl⟩
    go_wp2_with fail
    rw [Lib.run_convert_string_bytes _ _ _ 5 _ Tryd.underlying9 Tryd.underlying61 Tryd.underlying5]
    simp only [Result.andThen]
    rw [Oper.upon_value, Hz.out]
    obtain ⟨cs, fz, q1, q2⟩ := bytes_row (w := w2) (text (n + 1)) (textL (n + 1)) rfl
    have hBW : Below w2.heap.size w2 (Lib.bytesWorld w2 5 (text (n + 1))) := bytesWorld_below _ _ _
    generalize Lib.bytesWorld w2 5 (text (n + 1)) = W at q1 hBW ⊢
    generalize grownCap w2 (textL (n + 1)).length 0 5 = cp
    have hA2 : Below W.heap.size W (W.alloc (.cells #[.bool false, .slice (some ⟨w2.heap.size, 0, none⟩) (textL (n + 1)).length cp] 64)) := (Below.refl _ _).alloc (Nat.le_refl _) _
    have hu : RowK (W.alloc (.cells #[.bool false, .slice (some ⟨w2.heap.size, 0, none⟩) (textL (n + 1)).length cp] 64)) (.slice (some ⟨W.heap.size, 0, none⟩) 1 1) (numR (n + 1)) :=
      rowK_made (Blk.new W 64 _) ((hA2.block _ (Array.getElem?_eq_some_iff.1 q1).1).trans q1) q2
    obtain ⟨z, hz⟩ : ∃ z, (textL (n + 1)).length = z := ⟨_, rfl⟩
    rw [hz] at hu hA2 ⊢
    have hb4 := (Below.refl (W.alloc (.cells #[.bool false, .slice (some ⟨w2.heap.size, 0, none⟩) z cp] 64)).heap.size (W.alloc (.cells #[.bool false, .slice (some ⟨w2.heap.size, 0, none⟩) z cp] 64))).alloc (Nat.le_refl _) (.cells #[.slice (some ⟨W.heap.size, 0, none⟩) 1 1] 27)
    have H1 := one_row hu.row
    rw [World.size_alloc] at H1
    have H1' := hide H1
    have H2 := hide (((HE2.out.below hBW).below hA2).below hb4)
    have hs1 := hBW.size
    have hs2 := hA2.size
    have H3 := hide (((HK2.out.under hBW hB2).under hA2 (by omega)).under hb4 (by omega))
    have H4 := hide (((HO2.out.trans (OneCell.of_below hBW)).trans (OneCell.of_below hA2)).trans (OneCell.of_below hb4))
    clear q1 q2 hBW hA2 hu hb4 H1 hz Hz hs1 hs2
    go_wp2_with fail
    go_returns
    exact ⟨_, rfl, H1'.out, H2.out, H3.out, H4.out⟩
  have k7b : (kd == 7) = false := by simpa using k7
  have HR : Hid (cntN kd nn = 0 ∧ nextN kd n = n) := ⟨by unfold cntN; rw [if_neg k5, if_neg (by omega)], by unfold nextN; rw [if_neg k7]⟩
  rw [HR.out.1, HR.out.2]
  go_enter Tryd.func17, Tryd.ntmps17
  go_wp2_with fail
  go_returns
  exact ⟨_, rfl, ⟨none, 0, rfl, .inl rfl⟩, HE.out, HK0.out, OneCell.of_below HA.out⟩
end Go.Proofs.YtpaodffckhnieaaDoor
