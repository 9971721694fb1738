/-
  So many rows, the program's and the reference's. No condition but on lengths.
-/
import Derived.Test.YtpaodffckhnieaaDoorEngX
namespace Go.Proofs.YtpaodffckhnieaaDoor
open Go.RowKit Go.Maps
set_option linter.unusedVariables false
set_option linter.unusedSimpArgs false
set_option maxRecDepth 100000

theorem infoRow : (Tryd.prog.info? 27).map (fun i => (i.zero, i.size, i.bytes)) = some (some (.slice none 0 0), 1, 24) := by kernel_rfl
def numT (i : Nat) : List (Bool × List UInt8) := numR ((i : Int) + 1)
/-- Row v holds the first k rows of numbers. -/
structure Many (W : World) (base : Nat) (v : Value) (k : Nat) (us : List Value) : Prop where
  own : W.ownsRow base 27 1 v k us
  rows : ∀ j x, us[j]? = some x → RowK W x (numT j)
  len : us.length = k
theorem Many.below {W W' : World} {base : Nat} {v : Value} {k : Nat} {us : List Value} (h : Many W base v k us) (hb : Below W.heap.size W W') : Many W' base v k us :=
  ⟨own_below h.own hb, fun j x hx => (h.rows j x hx).below hb, h.len⟩
theorem Many.snoc {W W' : World} {base : Nat} {v v' : Value} {k : Nat} {us : List Value} {u : Value} (h : Many W base v k us) (hu : RowK W u (numT k)) (ho : W'.ownsRow base 27 1 v' (k + 1) (us ++ [u])) (hk : Lib.OthersKept 27 none W W') : Many W' base v' (k + 1) (us ++ [u]) := by
  refine ⟨ho, fun j x hx => ?_, by rw [List.length_append, h.len]; rfl⟩
  rcases Nat.lt_or_ge j us.length with hj | hj
  · rw [List.getElem?_append_left hj] at hx
    exact (h.rows j x hx).kept hk
  · rw [List.getElem?_append_right hj] at hx
    have h0 : j - us.length = 0 := by
      rcases Nat.eq_zero_or_pos (j - us.length) with h | h
      · exact h
      · rw [List.getElem?_eq_none (by simp; omega)] at hx; cases hx
    rw [h0] at hx
    cases hx
    have hjk : j = k := by rw [← h.len]; omega
    rw [hjk]
    exact hu.kept hk
theorem Many.rowsAt {W : World} {base : Nat} {v : Value} {k : Nat} {us : List Value} (h : Many W base v k us) : RowsAt W v k numT := by
  by_cases h0 : k = 0
  · subst h0
    obtain ⟨a, cap, rfl⟩ := own_slice h.own
    exact ⟨a, cap, rfl, .inl rfl⟩
  · obtain ⟨g, cap, rfl, _, hg, _, _, _, hc⟩ := own_form h.own (by omega)
    refine ⟨_, cap, rfl, .inr ⟨g, 0, rfl, hg, fun i hi => ?_⟩⟩
    have hi' : i < us.length := by rw [h.len]; exact hi
    refine ⟨us[i], ?_, (h.rows i _ (List.getElem?_eq_getElem hi')).row⟩
    rw [Nat.zero_add, hc i (by omega), List.getElem?_eq_getElem hi']
theorem kept_grown {W w4 : World} {base : Nat} {v : Value} {n : Nat} {xs : List Value} {o : Obj} (ho : W.ownsRow base 27 1 v n xs) (hg : (W.alloc o).grownBy w4 v.ownBlock) : Lib.OthersKept 27 none W w4 :=
  ((Lib.OthersKept.refl 27 none W).alloc o).grown hg (own_kind (ho.alloc o))

set_option maxHeartbeats 1000000 in
theorem each_any (n : Int) (w : World) :
    Calls Tryd.prog 42 #[.int .i64 n, .func (.func 43) #[] #[]] w fun e w' => ∃ v, e = .returned v ∧ RowsAt w' v (heldN n) numT ∧ Below w.heap.size w w' := by
  obtain ⟨i0, hi, hi0, hi1, hi2⟩ := info_parts infoRow
  have hN := heldN_le n
  obtain ⟨N, hNN⟩ : ∃ N, heldN n = N := ⟨_, rfl⟩
  rw [hNN] at hN ⊢
  have HN := hide hNN
  clear hNN
  go_enter Tryd.func42, Tryd.ntmps42
  go_wp2_with fail
  refine (held_any n _).mono ?_
  rintro e w1 ⟨rfl, rfl⟩
  rw [HN.out]
  go_wp2_with fail
  go_loopw [5, 9] (fun v i wr => ∃ (k : Nat) (us : List Value), i = .int .i64 k ∧ k ≤ N ∧ Many wr w.heap.size v k us ∧ Below w.heap.size w wr) (fun _ i _ => (N - (intOf i).toNat))
  case atStart => exact ⟨0, [], rfl, Nat.zero_le _, ⟨World.ownsRow_nil _ _ _ _, fun j x hx => by simp at hx, rfl⟩, Below.refl _ _⟩
  case round =>
    obtain ⟨k, us, rfl, hk, hM, hB⟩ := hrel
    obtain ⟨ua, uc, rfl⟩ := own_slice hM.own
    have HM := hide hM
    have HB := hide hB
    have hBs := hB.size
    by_cases hkk : k < N
    · have hki : (k : Int) < (N : Int) := by omega
      have hk0 : (0 : Int) ≤ (k : Int) := by omega
      have hk1 : (k : Int) ≤ 1000 := by omega
      clear hM hB
      go_wp2_with fail
      refine (row_any ((k : Int) + 1) _ (by omega) (by omega)).mono ?_
      rintro e w1 ⟨u, rfl, hu, hb1, ⟨a, hua⟩⟩
      subst hua
      have HU : Hid (RowK w1 (.slice a 1 1) (numT k)) := hu
      have HM1 := hide (HM.out.below hb1)
      have HB1 := hide (HB.out.trans (hb1.mono hBs))
      have hs1 : w.heap.size ≤ w1.heap.size := Nat.le_trans hBs hb1.size
      clear hu hb1
      go_wp2_with (at_builtin; refine wpList_append_grown w1 rfl _ _ 42 rfl w.heap.size 27 i0 (.slice none 0 0) 1 24 Tryd.underlying42 hi hi0 hi1 hi2 rfl (by decide) _ k _ [.slice a 1 1] HM1.out.own rfl rfl (by simp [Value.oneCell']) rfl (by simp [maxLen]; omega) (by omega) hs1 ?_; intro v4 w4 hown4 hg4; obtain ⟨da, dc, hd⟩ := own_slice hown4; subst hd; have HG4 := hide hg4; have HOwn4 := hide hown4; clear hg4 hown4)
      go_wp2_with fail
      go_roundw
      case rel =>
        refine ⟨k + 1, us ++ [.slice a 1 1], by go_num, by omega, HM1.out.snoc HU.out HOwn4.out (kept_grown HM1.out.own HG4.out), ?_⟩
        exact (HB1.out.alloc hs1 (.cells #[.slice a 1 1] 27)).grown HG4.out (by rw [World.size_alloc]; omega) (fun j hj => own_ge HM1.out.own hj)
      case measure => simp [intOf]; omega
    · have hki : ¬ (k : Int) < (N : Int) := by omega
      obtain rfl : k = N := by omega
      clear hM hB
      go_wp2_with fail
      go_returns
      exact ⟨_, rfl, HM.out.rowsAt, HB.out⟩
theorem crows_any (n : Int) (w : World) :
    Calls Tryd.prog 28 #[.int .i64 n] w fun e w' => ∃ v, e = .returned v ∧ RowsAt w' v (heldN n) numT ∧ Below w.heap.size w w' := by
  go_enter Tryd.func28, Tryd.ntmps28
  go_wp2_with fail
  refine (each_any n _).mono ?_
  rintro e w1 ⟨v, rfl, h1, h2⟩
  have H1 := hide h1
  have H2 := hide h2
  clear h1 h2
  go_wp2_with fail
  go_returns
  exact ⟨v, rfl, H1.out, H2.out⟩

set_option maxHeartbeats 1000000 in
theorem rcrows_any (n : Int) (w : World) :
    Calls Tryd.prog 31 #[.int .i64 n] w fun e w' => ∃ v, e = .returned v ∧ RowsAt w' v (heldN n) numT ∧ Below w.heap.size w w' := by
  obtain ⟨i0, hi, hi0, hi1, hi2⟩ := info_parts infoRow
  have hN := heldN_le n
  obtain ⟨N, hNN⟩ : ∃ N, heldN n = N := ⟨_, rfl⟩
  rw [hNN] at hN ⊢
  have HN := hide hNN
  clear hNN
  go_enter Tryd.func31, Tryd.ntmps31
  go_wp2_with fail
  go_loopw [3, 4] (fun v i wr => ∃ (k : Nat) (us : List Value), i = .int .i64 ((k : Int) + 1) ∧ k ≤ N ∧ Many wr w.heap.size v k us ∧ Below w.heap.size w wr) (fun _ i _ => (N + 1 - (intOf i).toNat))
  case atStart => exact ⟨0, [], rfl, Nat.zero_le _, ⟨World.ownsRow_nil _ _ _ _, fun j x hx => by simp at hx, rfl⟩, Below.refl _ _⟩
  case round =>
    obtain ⟨k, us, rfl, hk, hM, hB⟩ := hrel
    obtain ⟨ua, uc, rfl⟩ := own_slice hM.own
    have HM := hide hM
    have HB := hide hB
    have hBs := hB.size
    clear hM hB
    go_wp2_with fail
    refine (rheld_any n _).mono ?_
    rintro e w1 ⟨rfl, rfl⟩
    rw [HN.out]
    by_cases hkk : k < N
    · have hki : (k : Int) + 1 ≤ (N : Int) := by omega
      have hk0 : (0 : Int) ≤ (k : Int) := by omega
      have hk1 : (k : Int) ≤ 1000 := by omega
      have Hz := hide (text_sz ((k : Int) + 1))
      go_wp2_with fail
      refine (rtext_any ((k : Int) + 1) _ (by omega) (by omega)).mono ?_
      rintro e w1 ⟨rfl, rfl⟩
      go_wp2_with fail
      rw [Lib.run_convert_string_bytes _ _ _ 5 _ Tryd.underlying9 Tryd.underlying61 Tryd.underlying5]
      simp only [Result.andThen]
      rw [Oper.upon_value, Hz.out]
      obtain ⟨cs, fz, k1, k2⟩ := bytes_row (w := wr) (text ((k : Int) + 1)) (textL ((k : Int) + 1)) rfl
      have hBW : Below wr.heap.size wr (Lib.bytesWorld wr 5 (text ((k : Int) + 1))) := bytesWorld_below _ _ _
      generalize Lib.bytesWorld wr 5 (text ((k : Int) + 1)) = W at k1 hBW ⊢
      generalize grownCap wr (textL ((k : Int) + 1)).length 0 5 = cp
      obtain ⟨z, hz⟩ : ∃ z, (textL ((k : Int) + 1)).length = z := ⟨_, rfl⟩
      have hA : Below W.heap.size W (W.alloc (.cells #[.bool false, .slice (some ⟨wr.heap.size, 0, none⟩) (textL ((k : Int) + 1)).length cp] 64)) := (Below.refl _ _).alloc (Nat.le_refl _) _
      have hu : RowK (W.alloc (.cells #[.bool false, .slice (some ⟨wr.heap.size, 0, none⟩) (textL ((k : Int) + 1)).length cp] 64)) (.slice (some ⟨W.heap.size, 0, none⟩) 1 1) (numT k) :=
        rowK_made (Blk.new W 64 _) ((hA.block _ (Array.getElem?_eq_some_iff.1 k1).1).trans k1) k2
      rw [hz] at hu hA ⊢
      have HU := hide hu
      have HM1 := hide ((HM.out.below hBW).below hA)
      have HB1 := hide ((HB.out.trans (hBW.mono hBs)).trans (hA.mono (Nat.le_trans hBs hBW.size)))
      have hs1 : w.heap.size ≤ (W.alloc (.cells #[.bool false, .slice (some ⟨wr.heap.size, 0, none⟩) z cp] 64)).heap.size := by have := hBW.size; rw [World.size_alloc]; omega
      clear k1 k2 hBW hA hu hz Hz
      go_wp2_with (at_builtin; refine wpList_append_grown (W.alloc (.cells #[.bool false, .slice (some ⟨wr.heap.size, 0, none⟩) z cp] 64)) rfl _ _ 42 rfl w.heap.size 27 i0 (.slice none 0 0) 1 24 Tryd.underlying42 hi hi0 hi1 hi2 rfl (by decide) _ k _ [.slice (some ⟨W.heap.size, 0, none⟩) 1 1] HM1.out.own rfl rfl (by simp [Value.oneCell']) (by simp only [World.size_alloc]; rfl) (by simp [maxLen]; omega) (by omega) hs1 ?_; intro v4 w4 hown4 hg4; obtain ⟨da, dc, hd⟩ := own_slice hown4; subst hd; have HG4 := hide hg4; have HOwn4 := hide hown4; clear hg4 hown4)
      go_wp2_with fail
      go_roundw
      case rel =>
        refine ⟨k + 1, us ++ [.slice (some ⟨W.heap.size, 0, none⟩) 1 1], by go_num, by omega, HM1.out.snoc HU.out HOwn4.out (kept_grown HM1.out.own HG4.out), ?_⟩
        exact (HB1.out.alloc hs1 (.cells #[.slice (some ⟨W.heap.size, 0, none⟩) 1 1] 27)).grown HG4.out (by rw [World.size_alloc]; omega) (fun j hj => own_ge HM1.out.own hj)
      case measure => simp [intOf]; omega
    · have hki : ¬ (k : Int) + 1 ≤ (N : Int) := by omega
      obtain rfl : k = N := by omega
      go_wp2_with fail
      go_returns
      exact ⟨_, rfl, HM.out.rowsAt, HB.out⟩
end Go.Proofs.YtpaodffckhnieaaDoor
