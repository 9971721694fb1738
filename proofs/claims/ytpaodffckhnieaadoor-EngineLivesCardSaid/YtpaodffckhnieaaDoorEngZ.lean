/-
  Rows with bytes of their own. No condition but on lengths.
-/
import Derived.Test.YtpaodffckhnieaaDoorEngY
namespace Go.Proofs.YtpaodffckhnieaaDoor
open Go.RowKit Go.Maps
set_option linter.unusedVariables false
set_option linter.unusedSimpArgs false
set_option maxRecDepth 100000

theorem infoByt : (Tryd.prog.info? 5).map (fun i => (i.zero, i.size, i.bytes)) = some (some (.int .u8 0), 1, 1) := by kernel_rfl
theorem infoCell : (Tryd.prog.info? 64).map (fun i => (i.zero, i.size, i.bytes)) = some (some (.agg #[.bool false, .slice none 0 0]), 2, 32) := by kernel_rfl
theorem byt_at (L : List UInt8) (j : Nat) (u : Value) (h : (Lib.byteCells L)[j]? = some u) : j < L.length ∧ u = .int .u8 (L.getD j 0).toNat := by
  unfold Lib.byteCells at h
  rw [List.getElem?_map] at h
  rcases Nat.lt_or_ge j L.length with hj | hj
  · rw [List.getElem?_eq_getElem hj] at h
    refine ⟨hj, ?_⟩
    rw [List.getD_eq_getElem?_getD, List.getElem?_eq_getElem hj]
    exact (Option.some.inj h).symm
  · rw [List.getElem?_eq_none hj] at h; cases h
theorem byt_of (L : List UInt8) (j : Nat) (h : j < L.length) : (Lib.byteCells L)[j]? = some (.int .u8 (L.getD j 0).toNat) := by
  unfold Lib.byteCells
  rw [List.getElem?_map, List.getElem?_eq_getElem h, List.getD_eq_getElem?_getD, List.getElem?_eq_getElem h]; rfl
theorem BytesX.of_own {w : World} {base : Nat} {v : Value} {L : List UInt8} (h : w.ownsRow base 5 1 v L.length (Lib.byteCells L)) (g : Nat) (hg : g < base) : BytesX (some g) w v L := by
  by_cases h0 : L.length = 0
  · obtain ⟨a, cap, rfl⟩ := own_slice h
    exact ⟨a, cap, rfl, .inl (List.eq_nil_of_length_eq_zero h0)⟩
  · obtain ⟨b, cap, rfl, hb, hlt, _, _, _, hc⟩ := own_form h (by omega)
    refine ⟨_, cap, rfl, .inr ⟨b, 0, rfl, by simp; omega, hlt, fun j hj => ?_⟩⟩
    rw [Nat.zero_add, hc j (by omega)]
    exact byt_of L j hj
theorem BytesX.fresh {w : World} {v : Value} {L : List UInt8} (h : BytesAt w v L) {g : Nat} (hg : w.heap.size ≤ g) : BytesX (some g) w v L := by
  obtain ⟨a, cap, rfl, h⟩ := h
  refine ⟨a, cap, rfl, h.imp id ?_⟩
  rintro ⟨b, off, rfl, _, h1, h2⟩
  exact ⟨b, off, rfl, by simp; omega, h1, h2⟩

set_option maxHeartbeats 1000000 in
theorem bclone_any (v : Value) (L : List UInt8) (w : World) (hl : L.length ≤ 140737488355328) (h : BytesAt w v L) :
    Calls Tryd.prog 45 #[v] w fun e w' => ∃ u, e = .returned u ∧ (∀ g, g < w.heap.size → BytesX (some g) w' u L) ∧ Below w.heap.size w w' ∧ ∃ a n c, u = .slice a n c := by
  obtain ⟨i0, hi, hi0, hi1, hi2⟩ := info_parts infoByt
  have q61 : ∀ (w : World) (a : Option Addr) (n c n' c' : Nat), (binOp .eql 61 (.slice a n c) (.slice none n' c')).run Tryd.prog w = .ok (.bool a.isNone) w := fun w a n c n' c' => Lib.run_eql_slice_nil w _ _ a n c n' c' Tryd.underlying61
  obtain ⟨a, cap, rfl, h⟩ := h
  cases a with
  | none =>
    have hL : L = [] := by
      rcases h with h | ⟨b, off, h, _⟩
      · exact h
      · cases h
    subst hL
    clear h hl
    go_enter Tryd.func45, Tryd.ntmps45
    go_wp2_with fail
    go_returns
    exact ⟨_, rfl, fun g _ => ⟨none, 0, rfl, .inl rfl⟩, Below.refl _ _, _, _, _, rfl⟩
  | some ad =>
    have hc : ∀ j u, (Lib.byteCells L)[j]? = some u → w.cell? (ad.add j) = some u := by
      intro j u hu
      obtain ⟨hj, rfl⟩ := byt_at L j u hu
      rcases h with h | ⟨b, off, hab, _, _, hcc⟩
      · subst h; exact absurd hj (Nat.not_lt_zero _)
      · cases hab
        rw [Addr.add_lit]
        exact hcc j hj
    have HC := hide hc
    have hone : ∀ u ∈ Lib.byteCells L, u.oneCell' = true := by
      intro u hu
      unfold Lib.byteCells at hu
      obtain ⟨x, _, rfl⟩ := List.mem_map.1 hu
      rfl
    have HO := hide hone
    have HLn := hide (Lib.byteCells_length L)
    clear h hc hone
    go_enter Tryd.func45, Tryd.ntmps45
    go_wp2_with (at_builtin; refine wpList_append_own _ rfl _ _ 61 rfl w.heap.size 5 i0 (.int .u8 0) 1 1 Tryd.underlying61 hi hi0 hi1 hi2 rfl (by decide) _ _ _ rfl (World.ownsRow_made w #[] 0 (Nat.le_refl _) (Nat.zero_le _) rfl) ad L.length cap (Lib.byteCells L) rfl (by rw [HLn.out, Nat.mul_one]) (fun j u hu => Lib.cell?_alloc_some _ (HC.out j u hu)) HO.out (by unfold maxLen; omega) (by omega) (by simp) ?_; intro v' w1 hown hgrow hnil; have HOwn := hide hown; have HG := hide hgrow; clear hown hgrow hnil)
    go_wp2_with fail
    go_returns
    have hown := HOwn.out
    rw [Nat.zero_add, List.nil_append] at hown
    refine ⟨v', rfl, fun g hg => BytesX.of_own hown g hg, ?_, ?_⟩
    · exact ((Below.refl _ w).alloc (Nat.le_refl _) _).grown HG.out (by simp) (by intro k hk; have hk' : (some w.heap.size : Option Nat) = some k := hk; cases hk'; exact Nat.le_refl _)
    · obtain ⟨x, y, z⟩ := own_slice hown
      exact ⟨_, _, _, z⟩

/-- Block g is a row of cells, none of its bytes in g. -/
def RowIn (W : World) (g : Nat) (R : List (Bool × List UInt8)) : Prop :=
  ∃ cur, Blk W g 64 cur ∧ ∀ j, j < R.length → cur[j * 2]? = some (.bool (gr R j).1) ∧ ∃ x, cur[j * 2 + 1]? = some x ∧ BytesX (some g) W x (gr R j).2
theorem RowIn.below {W W' : World} {g : Nat} {R : List (Bool × List UInt8)} (h : RowIn W g R) (hb : Below W.heap.size W W') : RowIn W' g R := by
  obtain ⟨cur, h1, h2⟩ := h
  refine ⟨cur, h1.below hb h1.lt, fun j hj => ?_⟩
  obtain ⟨k1, x, k2, k3⟩ := h2 j hj
  exact ⟨k1, x, k2, k3.below hb⟩
theorem BytesX.put {W : World} {g : Nat} {x : Value} {L : List UInt8} (h : BytesX (some g) W x L) (i : Nat) (u : Value) : BytesX (some g) (W.setCell ⟨g, i, none⟩ u) x L := by
  obtain ⟨a, cap, rfl, h⟩ := h
  refine ⟨a, cap, rfl, h.imp id ?_⟩
  rintro ⟨b, off, rfl, h0, h1, h2⟩
  have hne : b ≠ g := fun e => h0 (by rw [e])
  refine ⟨b, off, rfl, h0, by simpa [World.setCell] using h1, fun j hj => ?_⟩
  have he := Below.heap_setCell W ⟨g, i, none⟩ u b hne
  have := h2 j hj
  unfold World.cell? at this ⊢
  simp only at this ⊢
  rw [he]
  exact this
theorem RowIn.put {W : World} {g : Nat} {R : List (Bool × List UInt8)} (h : RowIn W g R) (k : Nat) (hk : k < R.length) (u : Value) (hu : BytesX (some g) W u (gr R k).2) : RowIn (W.setCell ⟨g, k * 2 + 1, none⟩ u) g R := by
  obtain ⟨cur, h1, h2⟩ := h
  refine ⟨_, h1.put (k * 2 + 1) u, fun j hj => ?_⟩
  obtain ⟨k1, x, k2, k3⟩ := h2 j hj
  rw [Array.getElem?_setIfInBounds_ne (by omega)]
  refine ⟨k1, ?_⟩
  by_cases hjk : j = k
  · subst hjk
    have hsz : j * 2 + 1 < cur.size := (Array.getElem?_eq_some_iff.1 k2).1
    exact ⟨u, by rw [Array.getElem?_setIfInBounds_self_of_lt hsz], hu.put _ _⟩
  · rw [Array.getElem?_setIfInBounds_ne (by omega)]
    exact ⟨x, k2, k3.put _ _⟩
theorem RowIn.row {W : World} {g cap : Nat} {R : List (Bool × List UInt8)} (h : RowIn W g R) : RowAt W (.slice (some ⟨g, 0, none⟩) R.length cap) R := by
  obtain ⟨cur, h1, h2⟩ := h
  refine ⟨_, cap, rfl, .inr ⟨g, 0, rfl, h1.lt, fun j hj => ?_⟩⟩
  obtain ⟨k1, x, k2, k3⟩ := h2 j hj
  exact ⟨x, by rw [Nat.zero_add, h1.cell]; exact k1, by rw [Nat.zero_add, h1.cell]; exact k2, k3.any⟩

set_option maxHeartbeats 1000000 in
theorem rclone_any (v : Value) (R : List (Bool × List UInt8)) (w : World) (hl : R.length ≤ 1000) (h : RowAt w v R) :
    Calls Tryd.prog 44 #[v] w fun e w' => ∃ a c, e = .returned (.slice a R.length c) ∧ (R = [] ∨ ∃ g, a = some ⟨g, 0, none⟩ ∧ w.heap.size ≤ g ∧ RowIn w' g R) ∧ Below w.heap.size w w' := by
  obtain ⟨i0, hi, hi0, hi1, hi2⟩ := info_parts infoCell
  have q27 : ∀ (w : World) (a : Option Addr) (n c n' c' : Nat), (binOp .eql 27 (.slice a n c) (.slice none n' c')).run Tryd.prog w = .ok (.bool a.isNone) w := fun w a n c n' c' => Lib.run_eql_slice_nil w _ _ a n c n' c' Tryd.underlying27
  obtain ⟨a, cap, rfl, h⟩ := h
  cases a with
  | none =>
    have hL : R = [] := by
      rcases h with h | ⟨b, off, h, _⟩
      · exact h
      · cases h
    subst hL
    clear h hl
    go_enter Tryd.func44, Tryd.ntmps44
    go_wp2_with fail
    go_returns
    exact ⟨none, 0, rfl, .inl (by first | rfl | trivial), Below.refl _ _⟩
  | some ad =>
    obtain ⟨news, hnews⟩ : ∃ news : List Value, news = (List.range (R.length * 2)).map fun i => (w.cell? (ad.add i)).getD undef := ⟨_, rfl⟩
    have hlen : news.length = R.length * 2 := by rw [hnews]; simp
    have hall : ∀ i, i < R.length * 2 → ∃ u, w.cell? (ad.add i) = some u ∧ u.oneCell' = true := by
      intro i hi
      rcases h with h | ⟨b, off, hab, _, hcc⟩
      · subst h; exact absurd hi (by simp)
      · cases hab
        obtain ⟨x, k1, k2, k3⟩ := hcc (i / 2) (by omega)
        rw [Addr.add_lit]
        rcases Nat.mod_two_eq_zero_or_one i with hm | hm
        · have : off + i = off + i / 2 * 2 := by omega
          rw [this]
          exact ⟨_, k1, rfl⟩
        · have : off + i = off + i / 2 * 2 + 1 := by omega
          rw [this]
          obtain ⟨a', c', rfl, _⟩ := k3
          exact ⟨_, k2, rfl⟩
    have hat : ∀ j u, news[j]? = some u → j < R.length * 2 ∧ w.cell? (ad.add j) = some u := by
      intro j u hu
      have hj : j < R.length * 2 := by
        have := (List.getElem?_eq_some_iff.1 hu).1
        rw [hlen] at this; exact this
      refine ⟨hj, ?_⟩
      rw [hnews, List.getElem?_map, List.getElem?_range hj] at hu
      obtain ⟨x, hx, _⟩ := hall j hj
      have hu' : (w.cell? (ad.add j)).getD undef = u := Option.some.inj hu
      rw [hx] at hu' ⊢
      exact congrArg some hu'
    have hone : ∀ u ∈ news, u.oneCell' = true := by
      intro u hu
      obtain ⟨j, hj⟩ := List.mem_iff_getElem?.1 hu
      obtain ⟨h1, h2⟩ := hat j u hj
      obtain ⟨x, hx, hx1⟩ := hall j h1
      rw [hx] at h2
      cases h2
      exact hx1
    have hget : ∀ j, j < R.length * 2 → news[j]? = w.cell? (ad.add j) := by
      intro j hj
      obtain ⟨x, hx, _⟩ := hall j hj
      rw [hnews, List.getElem?_map, List.getElem?_range hj, hx]
      show some ((w.cell? (ad.add j)).getD undef) = _
      rw [hx]; rfl
    have HH := hide h
    have HA := hide hat
    have HO := hide hone
    have HG := hide hget
    have HLn := hide hlen
    clear h hall hat hone hget hnews hlen
    go_enter Tryd.func44, Tryd.ntmps44
    go_wp2_with (at_builtin; refine wpList_append_own _ rfl _ _ 27 rfl w.heap.size 64 i0 (.agg #[.bool false, .slice none 0 0]) 2 32 Tryd.underlying27 hi hi0 hi1 hi2 rfl (by decide) _ _ _ rfl (World.ownsRow_made w #[] 0 (Nat.le_refl _) (Nat.zero_le _) rfl) ad R.length cap news rfl HLn.out (fun j u hu => Lib.cell?_alloc_some _ (HA.out j u hu).2) HO.out (by unfold maxLen; omega) (by omega) (by simp) ?_; intro v' w1 hown hgrow hnil; obtain ⟨va, vc, hvv⟩ := own_slice hown; subst hvv; have HOwn := hide hown; have HGr := hide hgrow; clear hown hgrow hnil)
    go_wp2_with fail
    go_returns
    have hown := HOwn.out
    rw [List.nil_append] at hown
    have hB : Below w.heap.size w w1 := ((Below.refl _ w).alloc (Nat.le_refl _) _).grown HGr.out (by simp) (by intro k hk; have hk' : (some w.heap.size : Option Nat) = some k := hk; cases hk'; exact Nat.le_refl _)
    refine ⟨va, vc, rfl, ?_, hB⟩
    by_cases h0 : R.length = 0
    · exact .inl (List.eq_nil_of_length_eq_zero h0)
    right
    rw [Nat.zero_add] at hown
    rcases hown.2 with ⟨hv, hz⟩ | ⟨g, cap', cur, hv, hb, hg, h1, h2, h3, h4⟩
    · omega
    cases hv
    refine ⟨g, rfl, hb, cur, hg, fun j hj => ?_⟩
    rcases HH.out with h | ⟨b, off, hab, hbl, hcc⟩
    · subst h; exact absurd rfl h0
    cases hab
    obtain ⟨x, k1, k2, k3⟩ := hcc j hj
    have cell : ∀ i, i < R.length * 2 → cur[i]? = w.cell? ⟨b, off + i, none⟩ := by
      intro i hi
      have e1 := HG.out i hi
      rw [← h4, List.getElem?_take_of_lt hi, Array.getElem?_toList, Addr.add_lit] at e1
      exact e1
    refine ⟨?_, x, ?_, ?_⟩
    · rw [cell (j * 2) (by omega)]; exact k1
    · rw [cell (j * 2 + 1) (by omega), ← Nat.add_assoc]; exact k2
    · exact (BytesX.fresh k3 hb).below hB
end Go.Proofs.YtpaodffckhnieaaDoor
