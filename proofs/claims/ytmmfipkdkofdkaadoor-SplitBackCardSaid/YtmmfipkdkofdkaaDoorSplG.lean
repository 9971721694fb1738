/-
  Texts as one; what is far; what holds no empty text. No condition but on lengths.
-/
import Derived.Test.YtmmfipkdkofdkaaDoorSplF
import Derived.Lib.Join
namespace Go.Proofs.YtmmfipkdkofdkaaDoor
open Go.RowKit
set_option linter.unusedVariables false
set_option linter.unusedSimpArgs false

/-- Texts as one. -/
def joinB (l : List ByteArray) : ByteArray := bs (Lib.join (l.map (·.data.toList)) [59, 32])
theorem joinB_cons (p : ByteArray) (l : List ByteArray) : joinB (p :: l) = bs (p.data.toList ++ (l.map fun q => [59, 32] ++ q.data.toList).flatten) := by
  unfold joinB
  rw [List.map_cons, Lib.join_cons]
  unfold Lib.joinTail
  rw [List.map_map]; rfl
theorem take_tj (l : List ByteArray) (k : Nat) (h : k < l.length) : l.take (k + 1) = l.take k ++ [tj l k] := by
  unfold tj
  rw [List.take_add_one, List.getElem?_eq_getElem h, List.getD_eq_getElem?_getD, List.getElem?_eq_getElem h]; rfl
theorem joinB_snoc (l : List ByteArray) (k : Nat) (h : k < l.length) : joinB (l.take (k + 1)) = if k = 0 then tj l k else joinB (l.take k) ++ ⟨#[59, 32]⟩ ++ tj l k := by
  rw [take_tj l k h]
  cases l with
  | nil => simp at h
  | cons p l =>
    cases k with
    | zero =>
      rw [if_pos rfl]
      show joinB [tj (p :: l) 0] = _
      rw [joinB_cons]
      show bs ((tj (p :: l) 0).data.toList ++ []) = _
      rw [List.append_nil, bs_of]
    | succ k =>
      rw [if_neg (by omega), List.take_succ_cons, List.cons_append, joinB_cons, joinB_cons]
      rw [ext_iff, bs_list, app_list, app_list, bs_list, List.map_append, List.flatten_append]
      simp
/-- Neither too many texts nor too long ones. -/
def Near (l : List ByteArray) : Prop := l.length ≤ 30 ∧ ∀ k, k < l.length → (tj l k).size ≤ 100
theorem joinB_size (l : List ByteArray) (h : Near l) (k : Nat) (hk : k ≤ l.length) : (joinB (l.take k)).size ≤ 102 * k := by
  induction k with
  | zero => exact Nat.zero_le _
  | succ k ih =>
    have h1 := ih (by omega)
    have h2 := h.2 k (by omega)
    rw [joinB_snoc l k (by omega)]
    split
    · omega
    · rw [ByteArray.size_append, ByteArray.size_append, show ((⟨#[59, 32]⟩ : ByteArray)).size = 2 from rfl]; omega
theorem joinB_size_all (l : List ByteArray) (h : Near l) : (joinB l).size ≤ 3060 := by
  have := joinB_size l h l.length (Nat.le_refl _)
  rw [List.take_length] at this
  have := h.1
  omega
/-- What Join answers. -/
def joinP (l : List ByteArray) : ByteArray × Bool := if textsP (joinB l) = l then (joinB l, true) else (⟨#[]⟩, false)
def joinV (l : List ByteArray) : Value := .tuple #[.string (joinP l).1, .bool (joinP l).2]
theorem joinV_yes (l : List ByteArray) (h : decide (textsP (joinB l) = l) = true) : joinV l = .tuple #[.string (joinB l), .bool true] := by
  unfold joinV joinP; rw [if_pos (of_decide_eq_true h)]
theorem joinV_no (l : List ByteArray) (h : decide (textsP (joinB l) = l) = false) : joinV l = .tuple #[.string ⟨#[]⟩, .bool false] := by
  unfold joinV joinP; rw [if_neg (of_decide_eq_false h)]
theorem sjoin_any (l : List ByteArray) (v : Value) (w : World) (hn : Near l) (hv : TextsAt w v l) :
    Calls Tryd.prog 14 #[v, .string ⟨#[59, 32]⟩] w fun e w' => e = .returned (.string (joinB l)) ∧ Below w.heap.size w w' := by
  obtain ⟨a, cap, rfl, hcap, hv⟩ := hv
  rcases hv with rfl | ⟨b, off, rfl, hb, hc⟩
  · exact (Tryd.strings_Join_none a cap ⟨#[59, 32]⟩ w).mono fun e w' ⟨he, hw⟩ => ⟨he, by rw [hw]; exact Below.refl _ _⟩
  · have hz := joinB_size_all l hn
    unfold joinB at hz
    rw [bs_size] at hz
    exact Tryd.strings_Join b off cap l ⟨#[59, 32]⟩ w (fun j x hx => by
      have hlt := (List.getElem?_eq_some_iff.1 hx).1
      rw [hc j hlt]
      unfold tj
      rw [List.getD_eq_getElem?_getD, hx]; rfl) hb (by have := hn.1; omega) hcap (by
      show (Lib.join (l.map (·.data.toList)) [59, 32]).length ≤ _
      omega)

theorem textsP_length (s : ByteArray) : (textsP s).length ≤ s.size + 1 := by
  obtain ⟨h1, _⟩ := fields_sum s.data.toList.length s.data.toList
  rw [list_size] at h1
  unfold textsP keepT
  refine Nat.le_trans (List.length_filter_le _ _) ?_
  rw [List.length_map]
  unfold fields
  rw [list_size]
  omega

theorem join_any (l : List ByteArray) (v : Value) (w : World) (hn : Near l) (hv : TextsAt w v l) :
    Calls Tryd.prog 7 #[v] w fun e w' => e = .returned (joinV l) ∧ Below w.heap.size w w' := by
  have HV := hide hv
  have HN := hide hn
  have hz := joinB_size_all l hn
  have hl := hn.1
  have hy := joinV_yes l
  have hno := joinV_no l
  have hlen := textsP_length (joinB l)
  obtain ⟨j, hj⟩ : ∃ j, joinB l = j := ⟨_, rfl⟩
  rw [hj] at hz hy hno hlen
  obtain ⟨d, hd⟩ : ∃ d, decide (textsP j = l) = d := ⟨_, rfl⟩
  rw [hd] at hy hno
  obtain ⟨r, hr⟩ : ∃ r, joinV l = r := ⟨_, rfl⟩
  rw [hr] at hy hno
  rw [hr]
  have Hj := hide hj
  have Hd := hide hd
  have Hy := hide hy
  have Hno := hide hno
  obtain ⟨a, cap, rfl, _⟩ := hv
  clear hj hd hr hy hno hn
  go_enter Tryd.func7, Tryd.ntmps7
  go_wp2_with fail
  refine (sjoin_any l _ _ HN.out HV.out).mono ?_
  rintro e w1 ⟨rfl, hb1⟩
  rw [Hj.out]
  have HV1 := hide (HV.out.below hb1)
  have HB1 := hide hb1
  clear hb1
  go_wp2_with fail
  refine (texts_any j _ (by omega)).mono ?_
  rintro e w2 ⟨v2, rfl, hown, hb2⟩
  have HT := hide (TextsAt.of_own hown)
  have HV2 := hide (HV1.out.below hb2)
  have HB2 := hide (below_via HB1.out hb2)
  obtain ⟨a2, c2, rfl⟩ := own_slice hown
  clear hown hb2
  go_wp2_with fail
  refine (equal_any _ _ (textsP j) l _ (by omega) (by omega) HT.out HV2.out).mono ?_
  rintro e w3 ⟨rfl, hb3⟩
  rw [Hd.out]
  have HB3 := hide (below_via HB2.out hb3)
  clear hb3
  cases d with
  | true =>
    have HR := hide (Hy.out rfl)
    go_wp2_with fail
    go_returns
    exact ⟨by rw [HR.out]; rfl, HB3.out⟩
  | false =>
    have HR := hide (Hno.out rfl)
    go_wp2_with fail
    go_returns
    exact ⟨by rw [HR.out]; rfl, HB3.out⟩

def sepB (k : Nat) (t : ByteArray) : ByteArray := if k = 0 then t else t ++ ⟨#[59, 32]⟩
theorem sepB_size (k : Nat) (t : ByteArray) : (sepB k t).size ≤ t.size + 2 := by
  unfold sepB
  split
  · omega
  · rw [ByteArray.size_append]; exact Nat.le_refl _
theorem sep_item (l : List ByteArray) (k : Nat) (h : k < l.length) (t : ByteArray) (ht : t = joinB (l.take k)) : sepB k t ++ tj l k = joinB (l.take (k + 1)) := by
  rw [joinB_snoc l k h]
  unfold sepB
  split
  · rename_i h0
    subst h0
    rw [ht]
    show joinB [] ++ _ = _
    rw [ext_iff, app_list]; rfl
  · rw [ht]

set_option maxHeartbeats 1000000 in
theorem rjoin_any (l : List ByteArray) (v : Value) (w : World) (hn : Near l) (hv : TextsAt w v l) :
    Calls Tryd.prog 8 #[v] w fun e w' => e = .returned (joinV l) ∧ Below w.heap.size w w' := by
  have HV := hide hv
  have HN := hide hn
  have hz := joinB_size_all l hn
  have hl := hn.1
  have hy := joinV_yes l
  have hno := joinV_no l
  have hlen := textsP_length (joinB l)
  obtain ⟨j, hj⟩ : ∃ j, joinB l = j := ⟨_, rfl⟩
  rw [hj] at hz hy hno hlen
  obtain ⟨d, hd⟩ : ∃ d, decide (textsP j = l) = d := ⟨_, rfl⟩
  rw [hd] at hy hno
  obtain ⟨r, hr⟩ : ∃ r, joinV l = r := ⟨_, rfl⟩
  rw [hr] at hy hno
  rw [hr]
  have Hj := hide hj
  have Hd := hide hd
  have Hy := hide hy
  have Hno := hide hno
  obtain ⟨a, cap, rfl, _, hv2⟩ := hv
  have HV2 := hide hv2
  clear hj hd hr hy hno hn hv2
  go_enter Tryd.func8, Tryd.ntmps8
  go_wp2_with fail
  go_loop [4, 5] (fun x i => ∃ (k : Nat) (t : ByteArray), x = .string t ∧ i = .int .i64 k ∧ k ≤ l.length ∧ t.size ≤ 102 * k ∧ Hid (t = joinB (l.take k))) (fun _ i => (l.length - (intOf i).toNat))
  case atStart => exact ⟨0, ⟨#[]⟩, rfl, rfl, Nat.zero_le _, Nat.zero_le _, rfl⟩
  case round =>
    obtain ⟨k, t, rfl, rfl, hk, ht, Ht⟩ := hrel
    by_cases hkk : k < l.length
    · have hki : (k : Int) < (l.length : Int) := by omega
      have hk0 : (0 : Int) ≤ (k : Int) := by omega
      rcases HV2.out with h0 | ⟨b, off, rfl, hb, hc⟩
      · subst h0; simp at hkk
      have c0 := hc k hkk
      have hsi := sep_item l k hkk t Ht.out
      have hsz := sepB_size k t
      have htz := HN.out.2 k hkk
      have hq1 : (k = 0 ∧ sepB k t = t) ∨ (0 < k ∧ sepB k t = t ++ ⟨#[59, 32]⟩) := by
        unfold sepB
        by_cases h : k = 0
        · exact Or.inl ⟨h, if_pos h⟩
        · exact Or.inr ⟨by omega, if_neg h⟩
      obtain ⟨x, hx⟩ : ∃ x, tj l k = x := ⟨_, rfl⟩
      rw [hx] at c0 hsi htz
      have HI := hide hsi
      clear hc hx hsi
      have z2 : ((⟨#[59, 32]⟩ : ByteArray)).size = 2 := rfl
      rcases hq1 with ⟨h0, h1⟩ | ⟨h0, h1⟩
      · rw [h1] at HI hsz
        have hki0 : ¬ (0 : Int) < (k : Int) := by omega
        have hkn : ¬ 0 < k := by omega
        have HZ : Hid ((t ++ x).size ≤ 102 * (k + 1)) := by show _ ≤ _; rw [ByteArray.size_append]; omega
        clear h0 h1
        go_wp2_with fail
        go_round
        case rel => exact ⟨k + 1, _, rfl, by go_num, by omega, HZ.out, HI.out⟩
        case measure => simp [intOf]; omega
      · rw [h1] at HI hsz
        have hki0 : (0 : Int) < (k : Int) := by omega
        have hkn : 0 < k := h0
        have z1 : (t ++ ⟨#[59, 32]⟩).size = t.size + 2 := by rw [ByteArray.size_append]; rfl
        have HZ : Hid ((t ++ ⟨#[59, 32]⟩ ++ x).size ≤ 102 * (k + 1)) := by show _ ≤ _; rw [ByteArray.size_append]; omega
        clear h0 h1
        go_wp2_with fail
        go_round
        case rel => exact ⟨k + 1, _, rfl, by go_num, by omega, HZ.out, HI.out⟩
        case measure => simp [intOf]; omega
    · have hki : ¬ (k : Int) < (l.length : Int) := by omega
      obtain rfl : k = l.length := by omega
      have hT : t = j := by
        have := Ht.out
        rw [List.take_length, Hj.out] at this
        exact this
      subst hT
      go_wp2_with fail
      refine (rtexts_any t _ (by omega)).mono ?_
      rintro e w2 ⟨v2, rfl, hown, hb2⟩
      have HT := hide (TextsAt.of_own hown)
      have HVV := hide (HV.out.below hb2)
      have HB2 := hide hb2
      obtain ⟨a2, c2, rfl⟩ := own_slice hown
      clear hown hb2
      go_wp2_with fail
      refine (same_any _ _ (textsP t) l _ (by omega) (by omega) HT.out HVV.out).mono ?_
      rintro e w3 ⟨rfl, hb3⟩
      rw [Hd.out]
      have HB3 := hide (below_via HB2.out hb3)
      clear hb3
      cases d with
      | true =>
        have HR := hide (Hy.out rfl)
        go_wp2_with fail
        go_returns
        exact ⟨by rw [HR.out]; rfl, HB3.out⟩
      | false =>
        have HR := hide (Hno.out rfl)
        go_wp2_with fail
        go_returns
        exact ⟨by rw [HR.out]; rfl, HB3.out⟩

theorem far_any (v : Value) (ps : List ByteArray) (w : World) (hl : ps.length ≤ 9223372036854775807) (hv : TextsAt w v ps) :
    Calls Tryd.prog 5 #[v] w fun e w' => (e = .returned (.bool true) ∨ (e = .returned (.bool false) ∧ Near ps)) ∧ Below w.heap.size w w' := by
  obtain ⟨a, cap, rfl, _, hv⟩ := hv
  have HV := hide hv
  clear hv
  go_enter Tryd.func5, Tryd.ntmps5
  go_wp2_with fail
  go_loop [7] (fun i => ∃ k : Nat, i = .int .i64 k ∧ k ≤ ps.length ∧ k ≤ 30 ∧ Hid (∀ j, j < k → (tj ps j).size ≤ 100)) (fun i => (ps.length - (intOf i).toNat))
  case atStart => exact ⟨0, rfl, Nat.zero_le _, Nat.zero_le _, (by intro j hj; omega)⟩
  case round =>
    obtain ⟨k, rfl, hk, hk20, Hf⟩ := hrel
    by_cases hkk : k < ps.length
    · have hki : (k : Int) < (ps.length : Int) := by omega
      have hk0 : (0 : Int) ≤ (k : Int) := by omega
      rcases HV.out with h0 | ⟨b, off, rfl, hb, hc⟩
      · subst h0; simp at hkk
      have c0 := hc k hkk
      obtain ⟨x, hx⟩ : ∃ x, tj ps k = x := ⟨_, rfl⟩
      rw [hx] at c0
      have Hx := hide hx
      clear hc hx
      by_cases h20 : k < 30
      · have h20i : ¬ (30 : Int) ≤ (k : Int) := by omega
        by_cases hn : x.size ≤ 100
        · have hni : (x.size : Int) ≤ 100 := by omega
          have Hf2 : Hid (∀ j, j < k + 1 → (tj ps j).size ≤ 100) := by
            intro j hj
            rcases Nat.lt_or_eq_of_le (Nat.lt_succ_iff.1 hj) with h | rfl
            · exact Hf.out j h
            · rw [Hx.out]; exact hn
          go_wp2_with fail
          go_round
          case rel => exact ⟨k + 1, by go_num, by omega, by omega, Hf2.out⟩
          case measure => simp [intOf]; omega
        · have hni : ¬ (x.size : Int) ≤ 100 := by omega
          go_wp2_with fail
          go_returns
          exact ⟨Or.inl rfl, Below.refl _ _⟩
      · have h20i : (30 : Int) ≤ (k : Int) := by omega
        go_wp2_with fail
        go_returns
        exact ⟨Or.inl rfl, Below.refl _ _⟩
    · have hki : ¬ (k : Int) < (ps.length : Int) := by omega
      have HE : Hid (Near ps) := ⟨by omega, fun j hj => Hf.out j (by omega)⟩
      go_wp2_with fail
      go_returns
      exact ⟨Or.inr ⟨rfl, HE.out⟩, Below.refl _ _⟩
end Go.Proofs.YtmmfipkdkofdkaaDoor
