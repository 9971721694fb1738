/-
  Blanks, names and values of lines. No condition but on lengths.
-/
import Derived.Test.YtlmelbijgckfpaaDoorShelf
import Derived.Test.YtlmelbijgckfpaaDoorIniP
import Derived.Test.YtlmelbijgckfpaaDoorRParse
import Derived.Test.YtlmelbijgckfpaaDoorParse
namespace Go.Proofs.YtlmelbijgckfpaaDoor
open Go.RowKit
set_option linter.unusedVariables false
set_option linter.unusedSimpArgs false
set_option maxRecDepth 100000

theorem trim_any (s : ByteArray) (w : World) (hs : s.size ≤ 9223372036854775807) :
    Calls Tryd.prog 23 #[.string s, .string ⟨#[32]⟩] w fun e w' => e = .returned (.string (trimS s)) ∧ Below w.heap.size w w' :=
  (Tryd.strings_Trim_one s 32 (by decide) w hs).mono fun e w' ⟨he, hw⟩ => ⟨he, by
    rcases hw with rfl | rfl
    · exact Below.refl _ _
    · exact (Below.refl _ _).drew⟩
theorem trimB_length (l : List UInt8) (b : UInt8) : (Lib.trimB l b).length ≤ l.length := by
  unfold Lib.trimB Lib.trimLeftB Lib.trimRightB
  refine Nat.le_trans ((List.dropWhile_sublist _).length_le) ?_
  rw [List.length_reverse]
  refine Nat.le_trans ((List.dropWhile_sublist _).length_le) ?_
  rw [List.length_reverse]
  exact Nat.le_refl _
theorem trimS_size (s : ByteArray) : (trimS s).size ≤ s.size := by
  have := trimB_length s.data.toList 32
  rw [list_size] at this
  show (Lib.trimB s.data.toList 32).toArray.size ≤ _
  rw [List.size_toArray]; exact this

/-- A list without what p holds at its end. -/
def rdrop (p : UInt8 → Bool) (l : List UInt8) : List UInt8 := (l.reverse.dropWhile p).reverse
theorem rdrop_snoc (p : UInt8 → Bool) (l : List UInt8) (x : UInt8) : rdrop p (l ++ [x]) = if p x then rdrop p l else l ++ [x] := by
  unfold rdrop
  rw [List.reverse_append]
  show (List.dropWhile p (x :: l.reverse)).reverse = _
  rw [List.dropWhile_cons]
  split <;> simp
theorem dropWhile_eq_nil (p : UInt8 → Bool) (l : List UInt8) : l.dropWhile p = [] ↔ ∀ x ∈ l, p x = true := by
  induction l with
  | nil => simp
  | cons x l ih =>
    rw [List.dropWhile_cons]
    cases h : p x <;> simp [h, ih]
theorem rdrop_cons (p : UInt8 → Bool) (x : UInt8) (l : List UInt8) : rdrop p (x :: l) = if rdrop p l = [] then (if p x then [] else [x]) else x :: rdrop p l := by
  unfold rdrop
  rw [List.reverse_cons, List.dropWhile_append]
  cases h : l.reverse.dropWhile p with
  | nil =>
    simp
    cases hp : p x <;> simp [hp, List.dropWhile]
  | cons y t => simp
theorem trim_swap (p : UInt8 → Bool) (l : List UInt8) : (rdrop p l).dropWhile p = rdrop p (l.dropWhile p) := by
  induction l with
  | nil => rfl
  | cons x l ih =>
    rw [rdrop_cons, List.dropWhile_cons]
    cases hp : p x with
    | true =>
      by_cases hr : rdrop p l = []
      · rw [if_pos hr]; simp only [if_true]; rw [← ih, hr]
      · rw [if_neg hr, List.dropWhile_cons]; simp only [hp, if_true]; exact ih
    | false =>
      simp only [Bool.false_eq_true, if_false]
      rw [rdrop_cons, hp]
      by_cases hr : rdrop p l = []
      · simp [hr, List.dropWhile, hp]
      · simp [hr, List.dropWhile_cons, hp]
theorem trimB_eq (l : List UInt8) : Lib.trimB l 32 = rdrop (· == 32) (l.dropWhile (· == 32)) := trim_swap _ _

theorem bytes_cons (t : ByteArray) (h : 0 < t.size) : t.data.toList = t.data.toList.getD 0 0 :: (t.extract 1 t.size).data.toList := by
  have h1 : t.data.toList.length = t.size := Array.length_toList
  cases hl : t.data.toList with
  | nil => rw [hl] at h1; simp at h1; omega
  | cons x l =>
    have h2 : (t.extract 1 t.size).data.toList = t.data.toList.drop 1 := by
      rw [ByteArray.data_extract, Array.toList_extract, List.extract_eq_take_drop, ← h1]
      rw [List.take_of_length_le (by simp)]
    rw [h2, hl]; rfl
theorem bytes_snoc (t : ByteArray) (h : 0 < t.size) : t.data.toList = (t.extract 0 (t.size - 1)).data.toList ++ [t.data.toList.getD (t.size - 1) 0] := by
  have h1 : t.data.toList.length = t.size := Array.length_toList
  have h2 : (t.extract 0 (t.size - 1)).data.toList = t.data.toList.take (t.size - 1) := by
    rw [ByteArray.data_extract, Array.toList_extract, List.extract_eq_take_drop]
    simp
  rw [h2, List.getD_eq_getElem?_getD, List.getElem?_eq_getElem (by omega)]
  have h3 : t.data.toList.take (t.size - 1 + 1) = t.data.toList := List.take_of_length_le (by omega)
  rw [List.take_add_one, List.getElem?_eq_getElem (by omega)] at h3
  exact h3.symm
theorem sb_blank (t : ByteArray) (k : Nat) : (t.data.toList.getD k 0 == 32) = (sb t k == 32) := by
  unfold sb
  generalize t.data.toList.getD k 0 = b
  by_cases h : b = 32
  · subst h; rfl
  · have h1 : ¬ (b.toNat : Int) = 32 := fun e => h (UInt8.toNat.inj (show _ = 32 by omega))
    have h2 : (b == 32) = false := by simpa using h
    rw [h2]
    have h3 : ((b.toNat : Int) == 32) = false := by simpa using h1
    exact h3.symm

theorem rtrim_any (s : ByteArray) (w : World) (hs : s.size ≤ 100000) :
    Calls Tryd.prog 20 #[.string s] w fun e w' => e = .returned (.string (trimS s)) ∧ w = w' := by
  have HT : Hid (trimS s = ⟨(rdrop (· == 32) (s.data.toList.dropWhile (· == 32))).toArray⟩) := by show _ = _; unfold trimS; rw [trimB_eq]
  go_enter Tryd.func20, Tryd.ntmps20
  go_wp2_with fail
  go_loop [0] (fun v => ∃ t : ByteArray, v = .string t ∧ t.size ≤ 100000 ∧ Hid (t.data.toList.dropWhile (· == 32) = s.data.toList.dropWhile (· == 32))) (fun v => match v with | .string t => t.size | _ => 0)
  case atStart => exact ⟨s, rfl, hs, rfl⟩
  case round =>
    obtain ⟨t, rfl, ht, Hl⟩ := hrel
    by_cases h0 : 0 < t.size ∧ sb t 0 = 32
    · obtain ⟨h0, h1⟩ := h0
      have hi : (0 : Int) < (t.size : Int) := by omega
      have hg := sb_get t 0 h0
      rw [h1] at hg
      have h1i : (1 : Int) ≤ (t.size : Int) := by omega
      have hb := bytes_cons t h0
      have Hl2 : Hid ((t.extract 1 t.size).data.toList.dropWhile (· == 32) = s.data.toList.dropWhile (· == 32)) := by
        show _ = _
        rw [← Hl.out, hb, List.dropWhile_cons, sb_blank, h1]
        rfl
      have hz : (t.extract 1 t.size).size = t.size - 1 := by rw [ByteArray.size_extract]; omega
      clear hb
      go_wp2_with fail
      go_round
      case rel => exact ⟨_, rfl, by omega, Hl2⟩
      case measure => show (t.extract 1 t.size).size < t.size; omega
    · have h0c : t.size = 0 ∨ (0 < t.size ∧ sb t 0 ≠ 32) := by omega
      have HL : Hid (t.data.toList = s.data.toList.dropWhile (· == 32)) := by
        show _ = _
        rw [← Hl.out]
        rcases h0c with h | ⟨h, h2⟩
        · rw [show t.data.toList = [] from List.eq_nil_of_length_eq_zero (by rw [Array.length_toList]; exact h)]; rfl
        · rw [bytes_cons t h, List.dropWhile_cons, sb_blank]
          have : (sb t 0 == 32) = false := by simpa using h2
          rw [this]; rfl
      clear Hl h0
      rcases h0c with h0 | ⟨h0, h1⟩
      · have hi2 : ¬ (0 : Int) < (t.size : Int) := by omega
        go_wp2_with fail
        go_loop [0] (fun v => ∃ r : ByteArray, v = .string r ∧ r.size ≤ 100000 ∧ Hid (rdrop (· == 32) r.data.toList = rdrop (· == 32) t.data.toList)) (fun v => match v with | .string t => t.size | _ => 0)
        case atStart => exact ⟨t, rfl, ht, rfl⟩
        case round =>
          obtain ⟨r, rfl, hr, Hr⟩ := hrel
          by_cases q0 : 0 < r.size
          · have qi : (0 : Int) < (r.size : Int) := by omega
            have qj : (0 : Int) ≤ (r.size : Int) - 1 := by omega
            have qk : (r.size : Int) - 1 < (r.size : Int) := by omega
            have qt : ((r.size : Int) - 1).toNat = r.size - 1 := by omega
            have qg := sb_get r (r.size - 1) (by omega)
            by_cases q1 : sb r (r.size - 1) = 32
            · rw [q1] at qg
              have hb := bytes_snoc r q0
              have Hr2 : Hid (rdrop (· == 32) (r.extract 0 (r.size - 1)).data.toList = rdrop (· == 32) t.data.toList) := by
                show _ = _
                rw [← Hr.out, hb, rdrop_snoc, sb_blank, q1]
                rfl
              have hz : (r.extract 0 (r.size - 1)).size = r.size - 1 := by rw [ByteArray.size_extract]; omega
              clear hb
              go_wp2_with fail
              go_round
              case rel => exact ⟨_, rfl, by omega, Hr2⟩
              case measure => show (r.extract 0 (r.size - 1)).size < r.size; omega
            · have hb := bytes_snoc r q0
              have HE : Hid (trimS s = r) := by
                show _ = _
                have e1 : rdrop (· == 32) r.data.toList = r.data.toList := by
                  rw [hb, rdrop_snoc, sb_blank]
                  have : (sb r (r.size - 1) == 32) = false := by simpa using q1
                  rw [this]; rfl
                rw [HT.out, ← HL.out, ← Hr.out, e1]
              have qd : (sb r (r.size - 1) == 32) = false := by simpa using q1
              clear hb q1
              go_wp2_with fail
              go_returns
              exact ⟨by rw [HE.out]; rfl, rfl⟩
          · have HE : Hid (trimS s = r) := by
              show _ = _
              have e0 : r.data.toList = [] := List.eq_nil_of_length_eq_zero (by rw [Array.length_toList]; show r.size = 0; omega)
              have e1 : rdrop (· == 32) r.data.toList = r.data.toList := by rw [e0]; rfl
              rw [HT.out, ← HL.out, ← Hr.out, e1]
            have qi : ¬ (0 : Int) < (r.size : Int) := by omega
            go_wp2_with fail
            go_returns
            exact ⟨by rw [HE.out]; rfl, rfl⟩
      · have hi : (0 : Int) < (t.size : Int) := by omega
        have hg := sb_get t 0 h0
        have hd : (sb t 0 == 32) = false := by simpa using h1
        go_wp2_with fail
        go_loop [0] (fun v => ∃ r : ByteArray, v = .string r ∧ r.size ≤ 100000 ∧ Hid (rdrop (· == 32) r.data.toList = rdrop (· == 32) t.data.toList)) (fun v => match v with | .string t => t.size | _ => 0)
        case atStart => exact ⟨t, rfl, ht, rfl⟩
        case round =>
          obtain ⟨r, rfl, hr, Hr⟩ := hrel
          by_cases q0 : 0 < r.size
          · have qi : (0 : Int) < (r.size : Int) := by omega
            have qj : (0 : Int) ≤ (r.size : Int) - 1 := by omega
            have qk : (r.size : Int) - 1 < (r.size : Int) := by omega
            have qt : ((r.size : Int) - 1).toNat = r.size - 1 := by omega
            have qg := sb_get r (r.size - 1) (by omega)
            by_cases q1 : sb r (r.size - 1) = 32
            · rw [q1] at qg
              have hb := bytes_snoc r q0
              have Hr2 : Hid (rdrop (· == 32) (r.extract 0 (r.size - 1)).data.toList = rdrop (· == 32) t.data.toList) := by
                show _ = _
                rw [← Hr.out, hb, rdrop_snoc, sb_blank, q1]
                rfl
              have hz : (r.extract 0 (r.size - 1)).size = r.size - 1 := by rw [ByteArray.size_extract]; omega
              clear hb
              go_wp2_with fail
              go_round
              case rel => exact ⟨_, rfl, by omega, Hr2⟩
              case measure => show (r.extract 0 (r.size - 1)).size < r.size; omega
            · have hb := bytes_snoc r q0
              have HE : Hid (trimS s = r) := by
                show _ = _
                have e1 : rdrop (· == 32) r.data.toList = r.data.toList := by
                  rw [hb, rdrop_snoc, sb_blank]
                  have : (sb r (r.size - 1) == 32) = false := by simpa using q1
                  rw [this]; rfl
                rw [HT.out, ← HL.out, ← Hr.out, e1]
              have qd : (sb r (r.size - 1) == 32) = false := by simpa using q1
              clear hb q1
              go_wp2_with fail
              go_returns
              exact ⟨by rw [HE.out]; rfl, rfl⟩
          · have HE : Hid (trimS s = r) := by
              show _ = _
              have e0 : r.data.toList = [] := List.eq_nil_of_length_eq_zero (by rw [Array.length_toList]; show r.size = 0; omega)
              have e1 : rdrop (· == 32) r.data.toList = r.data.toList := by rw [e0]; rfl
              rw [HT.out, ← HL.out, ← Hr.out, e1]
            have qi : ¬ (0 : Int) < (r.size : Int) := by omega
            go_wp2_with fail
            go_returns
            exact ⟨by rw [HE.out]; rfl, rfl⟩

/-- strings.Cut at a byte 61. -/
theorem cut_none (s : ByteArray) (w : World) (h : Lib.indexByte s.data.toList 61 < 0) :
    Calls Tryd.prog 38 #[.string s, .string ⟨#[61]⟩] w fun e w' => w = w' ∧ e = .returned (.tuple #[.string s, .string ⟨#[]⟩, .bool false]) := by
  obtain ⟨i, hi⟩ : ∃ i, Lib.indexByte s.data.toList 61 = i := ⟨_, rfl⟩
  rw [hi] at h
  have Hi := hide hi
  clear hi
  go_enter Tryd.func38, Tryd.ntmps38
  go_wp2_with fail
  refine (Tryd.stringslite_Index_one s 61 _).mono ?_
  rintro e w1 ⟨rfl, rfl⟩
  rw [Hi.out]
  go_wp2_with fail
  go_returns
  exact ⟨rfl, rfl⟩
theorem scut_none (s : ByteArray) (w : World) (h : Lib.indexByte s.data.toList 61 < 0) :
    Calls Tryd.prog 22 #[.string s, .string ⟨#[61]⟩] w fun e w' => w = w' ∧ e = .returned (.tuple #[.string s, .string ⟨#[]⟩, .bool false]) := by
  have H := hide h
  clear h
  go_enter Tryd.func22, Tryd.ntmps22
  go_wp2_with fail
  refine (cut_none s _ H.out).mono ?_
  rintro e w1 ⟨rfl, rfl⟩
  go_wp2_with fail
  go_returns
  exact ⟨rfl, rfl⟩
theorem cut_some (s : ByteArray) (i : Nat) (w : World) (hs : s.size ≤ 1000000) (h : Lib.indexByte s.data.toList 61 = (i : Int)) (hi : i < s.size) :
    Calls Tryd.prog 38 #[.string s, .string ⟨#[61]⟩] w fun e w' => Below w.heap.size w w' ∧ e = .returned (.tuple #[.string (s.extract 0 i), .string (s.extract (i + 1) s.size), .bool true]) := by
  have Hi := hide h
  have k0 : (0 : Int) ≤ (i : Int) := by omega
  have k1 : (i : Int) ≤ (s.size : Int) := by omega
  have k2 : (i : Int) + 1 ≤ (s.size : Int) := by omega
  have k3 : IntKind.i64.wrap ((i : Int) + 1) = (i : Int) + 1 := by
    rw [IntKind.wrap_i64]; omega
  have k4 : (0 : Int) ≤ (i : Int) + 1 := by omega
  have k5 : ((i : Int) + 1).toNat = i + 1 := by omega
  clear h
  go_enter Tryd.func38, Tryd.ntmps38
  go_wp2_with fail
  refine (Tryd.stringslite_Index_one s 61 _).mono ?_
  rintro e w1 ⟨rfl, rfl⟩
  rw [Hi.out]
  go_wp2_with fail
  go_quiet (fail)
  go_wp2_with fail
  go_returns
  exact ⟨below_drewN (Below.refl _ _) _, rfl⟩
theorem scut_some (s : ByteArray) (i : Nat) (w : World) (hs : s.size ≤ 1000000) (h : Lib.indexByte s.data.toList 61 = (i : Int)) (hi : i < s.size) :
    Calls Tryd.prog 22 #[.string s, .string ⟨#[61]⟩] w fun e w' => Below w.heap.size w w' ∧ e = .returned (.tuple #[.string (s.extract 0 i), .string (s.extract (i + 1) s.size), .bool true]) := by
  have H := hide h
  clear h
  go_enter Tryd.func22, Tryd.ntmps22
  go_wp2_with fail
  refine (cut_some s i _ hs H.out hi).mono ?_
  rintro e w1 ⟨hb, rfl⟩
  have HB := hide hb
  clear hb
  go_wp2_with fail
  go_returns
  exact ⟨HB.out, rfl⟩

theorem keyV_none (s : ByteArray) (h : Lib.indexByte s.data.toList 61 < 0) : keyP s = none ∧ keyV s = .tuple #[.string ⟨#[]⟩, .string ⟨#[]⟩, .bool false] := by
  have : keyP s = none := by unfold keyP; rw [if_pos h]
  exact ⟨this, by unfold keyV; rw [this]⟩
theorem keyV_some (s : ByteArray) (i : Nat) (h : Lib.indexByte s.data.toList 61 = (i : Int)) : keyP s = some (trimS (s.extract 0 i), trimS (s.extract (i + 1) s.size)) ∧ keyV s = .tuple #[.string (trimS (s.extract 0 i)), .string (trimS (s.extract (i + 1) s.size)), .bool true] := by
  have e : (i : Int).toNat = i := by omega
  have : keyP s = some (trimS (s.extract 0 i), trimS (s.extract (i + 1) s.size)) := by unfold keyP; rw [h, if_neg (by omega), e]
  exact ⟨this, by unfold keyV; rw [this]⟩
theorem key_any (s : ByteArray) (w : World) (hs : s.size ≤ 1000000) :
    Calls Tryd.prog 10 #[.string s] w fun e w' => e = .returned (keyV s) ∧ Below w.heap.size w w' := by
  by_cases hi : Lib.indexByte s.data.toList 61 < 0
  · have HV := hide (keyV_none s hi).2
    have HI := hide hi
    clear hi
    go_enter Tryd.func10, Tryd.ntmps10
    go_wp2_with fail
    refine (scut_none s _ HI.out).mono ?_
    rintro e w1 ⟨rfl, rfl⟩
    go_wp2_with fail
    go_returns
    exact ⟨by rw [HV.out]; rfl, Below.refl _ _⟩
  · obtain ⟨i, hi2⟩ : ∃ i : Nat, Lib.indexByte s.data.toList 61 = (i : Int) := ⟨(Lib.indexByte s.data.toList 61).toNat, by omega⟩
    have hlt := indexByte_lt s.data.toList 61
    rw [hi2, list_size] at hlt
    have hlt2 : i < s.size := by omega
    have HV := hide (keyV_some s i hi2).2
    have HI := hide hi2
    have hz0 : (s.extract 0 i).size ≤ 1000000 := by rw [ByteArray.size_extract]; omega
    have hz1 : (s.extract (i + 1) s.size).size ≤ 1000000 := by rw [ByteArray.size_extract]; omega
    obtain ⟨a, ha⟩ : ∃ a, s.extract 0 i = a := ⟨_, rfl⟩
    obtain ⟨b, hb⟩ : ∃ b, s.extract (i + 1) s.size = b := ⟨_, rfl⟩
    rw [ha] at HV hz0
    rw [hb] at HV hz1
    have Ha := hide ha
    have Hb := hide hb
    clear hi hi2 hlt ha hb
    go_enter Tryd.func10, Tryd.ntmps10
    go_wp2_with fail
    refine (scut_some s i _ (by omega) HI.out hlt2).mono ?_
    rintro e w1 ⟨hb1, rfl⟩
    rw [Ha.out, Hb.out]
    have HB1 := hide hb1
    clear hb1
    go_wp2_with fail
    refine (trim_any a _ (by omega)).mono ?_
    rintro e w2 ⟨rfl, hb2⟩
    have HB2 := hide (below_via HB1.out hb2)
    clear hb2
    go_wp2_with fail
    refine (trim_any b _ (by omega)).mono ?_
    rintro e w3 ⟨rfl, hb3⟩
    have HB3 := hide (below_via HB2.out hb3)
    clear hb3
    go_wp2_with fail
    go_returns
    exact ⟨by rw [HV.out]; rfl, HB3.out⟩

theorem index_step (s : ByteArray) (k : Nat) (h : k < s.size) (hc : sb s k ≠ 61) : Lib.indexByte (s.data.toList.drop k) 61 = if Lib.indexByte (s.data.toList.drop (k + 1)) 61 < 0 then -1 else Lib.indexByte (s.data.toList.drop (k + 1)) 61 + 1 := by
  have hne : s.data.toList.getD k 0 ≠ 61 := fun e => hc ((sb_is s k 61).2 e)
  rw [drop_cons s k h]
  exact indexByte_cons _ _ _ hne
set_option maxHeartbeats 1000000 in
theorem rkey_any (s : ByteArray) (w : World) (hs : s.size ≤ 100000) :
    Calls Tryd.prog 11 #[.string s] w fun e w' => e = .returned (keyV s) ∧ Below w.heap.size w w' := by
  obtain ⟨z, hz⟩ : ∃ z, Lib.indexByte s.data.toList 61 = z := ⟨_, rfl⟩
  have HZ := hide hz
  clear hz
  go_enter Tryd.func11, Tryd.ntmps11
  go_wp2_with fail
  go_loop [5] (fun i => ∃ k : Nat, i = .int .i64 k ∧ k ≤ s.size ∧ Hid (z = if Lib.indexByte (s.data.toList.drop k) 61 < 0 then -1 else Lib.indexByte (s.data.toList.drop k) 61 + k)) (fun i => (s.size - (intOf i).toNat))
  case atStart =>
    refine ⟨0, rfl, Nat.zero_le _, ?_⟩
    show _ = _
    have hge := Lib.indexByte_ge s.data.toList 61
    rw [List.drop_zero, HZ.out]
    rw [HZ.out] at hge
    split
    · omega
    · simp
  case round =>
    obtain ⟨k, rfl, hk, Hk⟩ := hrel
    by_cases hkk : k < s.size
    · have hki : (k : Int) < (s.size : Int) := by omega
      have hg := sb_get s k hkk
      by_cases h61 : sb s k = 61
      · have h0 : Lib.indexByte (s.data.toList.drop k) 61 = 0 := by rw [drop_cons s k hkk, (sb_is s k 61).1 h61, indexByte_self]
        have hzk : Lib.indexByte s.data.toList 61 = (k : Int) := by
          rw [HZ.out, Hk.out, h0]; simp
        have HV := hide (keyV_some s k hzk).2
        rw [h61] at hg
        clear h0 hzk h61
        have hz0 : (s.extract 0 k).size ≤ 100000 := by rw [ByteArray.size_extract]; omega
        have hz1 : (s.extract (k + 1) s.size).size ≤ 100000 := by rw [ByteArray.size_extract]; omega
        have k0 : (0 : Int) ≤ (k : Int) := by omega
        have k1 : (k : Int) ≤ (s.size : Int) := by omega
        have k2 : (k : Int) + 1 ≤ (s.size : Int) := by omega
        have k3 : IntKind.i64.wrap ((k : Int) + 1) = (k : Int) + 1 := by
          rw [IntKind.wrap_i64]; omega
        have k4 : (0 : Int) ≤ (k : Int) + 1 := by omega
        have k5 : ((k : Int) + 1).toNat = k + 1 := by omega
        have A1 : Hid (∀ W, Calls Tryd.prog 20 #[.string (s.extract 0 k)] W fun e w' => e = .returned (.string (trimS (s.extract 0 k))) ∧ w' = W) := fun W => (rtrim_any _ W hz0).mono fun e w' ⟨h1, h2⟩ => ⟨h1, h2.symm⟩
        have A2 : Hid (∀ W, Calls Tryd.prog 20 #[.string (s.extract (k + 1) s.size)] W fun e w' => e = .returned (.string (trimS (s.extract (k + 1) s.size))) ∧ w' = W) := fun W => (rtrim_any _ W hz1).mono fun e w' ⟨h1, h2⟩ => ⟨h1, h2.symm⟩
        clear hz0 hz1
        go_wp2_with fail
        go_quiet ((go_at_call 20; first | (with_reducible exact Calls.quiet_of_same (A1.out _)) | (with_reducible exact Calls.quiet_of_same (A2.out _))))
        go_wp2_with fail
        go_returns
        exact ⟨by rw [HV.out]; rfl, below_drewN (Below.refl _ _) _⟩
      · have HE : Hid (z = if Lib.indexByte (s.data.toList.drop (k + 1)) 61 < 0 then -1 else Lib.indexByte (s.data.toList.drop (k + 1)) 61 + (k + 1 : Nat)) := by
          show _ = _
          have hge := Lib.indexByte_ge (s.data.toList.drop (k + 1)) 61
          rw [Hk.out, index_step s k hkk h61]
          by_cases h : Lib.indexByte (s.data.toList.drop (k + 1)) 61 < 0
          · rw [if_pos h, if_pos (by decide), if_pos h]
          · rw [if_neg h, if_neg (by omega), if_neg h]; omega
        have d61 : (sb s k == 61) = false := by simpa using h61
        clear h61
        go_wp2_with fail
        go_round
        case rel => exact ⟨k + 1, by go_num, by omega, HE.out⟩
        case measure => simp [intOf]; omega
    · have hz0 : Lib.indexByte s.data.toList 61 < 0 := by
        rw [HZ.out, Hk.out, drop_none s k (by omega)]
        unfold Lib.indexByte; rw [if_pos (by decide)]; decide
      have HV := hide (keyV_none s hz0).2
      have hki : ¬ (k : Int) < (s.size : Int) := by omega
      clear hz0
      go_wp2_with fail
      go_returns
      exact ⟨by rw [HV.out]; rfl, Below.refl _ _⟩
end Go.Proofs.YtlmelbijgckfpaaDoor
