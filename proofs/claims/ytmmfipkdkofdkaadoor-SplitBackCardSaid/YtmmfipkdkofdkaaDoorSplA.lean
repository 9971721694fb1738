/-
  Parts of a text, what is ahead of a semicolon, blanks. No condition but on lengths.
-/
import Derived.Test.YtmmfipkdkofdkaaDoorShelf
import Derived.Test.YtmmfipkdkofdkaaDoorBytes
namespace Go.Proofs.YtmmfipkdkofdkaaDoor
open Go.RowKit
set_option linter.unusedVariables false
set_option linter.unusedSimpArgs false

def trimS (s : ByteArray) : ByteArray := ⟨(Lib.trimB s.data.toList 32).toArray⟩
theorem trim_any (s : ByteArray) (w : World) (hs : s.size ≤ 9223372036854775807) :
    Calls Tryd.prog 17 #[.string s, .string ⟨#[32]⟩] w fun e w' => e = .returned (.string (trimS s)) ∧ Below w.heap.size w w' :=
  (Tryd.strings_Trim_one s 32 (by decide) w hs).mono fun e w' ⟨he, hw⟩ => ⟨he, by
    rcases hw with rfl | rfl
    · exact Below.refl _ _
    · exact (Below.refl _ _).drew⟩

/-- Where the first semicolon stands that is not quoted; m: the quote that is open, 0: none. -/
def cutM (m : UInt8) : List UInt8 → Option Nat
  | [] => none
  | c :: t =>
    if m = 0 then (if c = 59 then some 0 else if c = 39 ∨ c = 34 then (cutM c t).map (· + 1) else (cutM 0 t).map (· + 1))
    else if c = m then (cutM 0 t).map (· + 1) else (cutM m t).map (· + 1)
theorem cut_lt (l : List UInt8) : ∀ (m : UInt8) (p : Nat), cutM m l = some p → p < l.length := by
  induction l with
  | nil => intro m p h; cases h
  | cons c t ih =>
    intro m p h
    have step : ∀ m', (cutM m' t).map (· + 1) = some p → p < (c :: t).length := by
      intro m' h
      cases hq : cutM m' t with
      | none => rw [hq] at h; cases h
      | some q =>
        rw [hq] at h
        cases h
        have := ih m' q hq
        simp; omega
    rw [cutM] at h
    split at h
    · split at h
      · cases h; simp
      · split at h
        · exact step _ h
        · exact step _ h
    · split at h
      · exact step _ h
      · exact step _ h
theorem cut_quoted (m : UInt8) (hm : m ≠ 0) (l : List UInt8) : cutM m l = if Lib.indexByte l m < 0 then none else (cutM 0 (l.drop ((Lib.indexByte l m).toNat + 1))).map (· + ((Lib.indexByte l m).toNat + 1)) := by
  induction l with
  | nil => rfl
  | cons c t ih =>
    rw [cutM, if_neg hm]
    by_cases h : c = m
    · subst h
      rw [if_pos rfl, indexByte_self, if_neg (by decide)]; rfl
    · have hge := Lib.indexByte_ge t m
      rw [if_neg h, ih, indexByte_cons c t m h]
      by_cases h2 : Lib.indexByte t m < 0
      · rw [if_pos h2, if_pos h2, if_pos (by decide)]; rfl
      · rw [if_neg h2, if_neg h2, if_neg (by omega)]
        obtain ⟨e, he⟩ : ∃ e : Nat, Lib.indexByte t m = (e : Int) := ⟨(Lib.indexByte t m).toNat, by omega⟩
        rw [he]
        have e1 : ((e : Int) + 1).toNat = e + 1 := by omega
        have e2 : (e : Int).toNat = e := by omega
        rw [e1, e2, List.drop_succ_cons]
        cases cutM 0 (t.drop (e + 1)) with
        | none => rfl
        | some v => simp; omega
/-- What stands between such semicolons. -/
def fieldsL : Nat → List UInt8 → List (List UInt8)
  | 0, l => [l]
  | n + 1, l => match cutM 0 l with | none => [l] | some p => l.take p :: fieldsL n (l.drop (p + 1))
theorem fieldsL_none (n : Nat) (l : List UInt8) (h : cutM 0 l = none) : fieldsL n l = [l] := by
  cases n with
  | zero => rfl
  | succ n => rw [fieldsL, h]
theorem fieldsL_some (n : Nat) (l : List UInt8) (p : Nat) (h : cutM 0 l = some p) : fieldsL (n + 1) l = l.take p :: fieldsL n (l.drop (p + 1)) := by
  rw [fieldsL, h]
theorem fieldsL_fuel : ∀ (n m : Nat) (l : List UInt8), l.length ≤ n → l.length ≤ m → fieldsL n l = fieldsL m l
  | n, m, l, hn, hm => by
    cases h : cutM 0 l with
    | none => rw [fieldsL_none n l h, fieldsL_none m l h]
    | some p =>
      have hp := cut_lt l 0 p h
      cases n with
      | zero => omega
      | succ n =>
        cases m with
        | zero => omega
        | succ m =>
          rw [fieldsL_some n l p h, fieldsL_some m l p h, fieldsL_fuel n m _ (by rw [List.length_drop]; omega) (by rw [List.length_drop]; omega)]
def fields (l : List UInt8) : List (List UInt8) := fieldsL l.length l
theorem fields_none (l : List UInt8) (h : cutM 0 l = none) : fields l = [l] := fieldsL_none _ l h
theorem fields_some (l : List UInt8) (p : Nat) (h : cutM 0 l = some p) : fields l = l.take p :: fields (l.drop (p + 1)) := by
  have hp := cut_lt l 0 p h
  unfold fields
  rw [fieldsL_fuel l.length ((l.length - 1) + 1) l (by omega) (by omega), fieldsL_some _ l p h, fieldsL_fuel (l.length - 1) (l.drop (p + 1)).length _ (by rw [List.length_drop]; omega) (Nat.le_refl _)]
/-- The parts of what is left, 'pre' ahead of it, where the quote m is open. -/
def fieldsM (m : UInt8) (pre l : List UInt8) : List (List UInt8) := match cutM m l with | none => [pre ++ l] | some p => (pre ++ l.take p) :: fields (l.drop (p + 1))
theorem fieldsM_nil (l : List UInt8) : fieldsM 0 [] l = fields l := by
  unfold fieldsM
  cases h : cutM 0 l with
  | none => rw [fields_none l h]; rfl
  | some p => rw [fields_some l p h]; rfl
theorem fieldsM_end (m : UInt8) (pre : List UInt8) : fieldsM m pre [] = [pre] := by unfold fieldsM; rw [cutM]; simp
theorem fieldsM_cut (pre t : List UInt8) : fieldsM 0 pre (59 :: t) = pre :: fieldsM 0 [] t := by
  rw [fieldsM_nil]; unfold fieldsM; rw [cutM, if_pos rfl, if_pos rfl]; simp
theorem fieldsM_step (m m' c : UInt8) (pre t : List UInt8) (h : cutM m (c :: t) = (cutM m' t).map (· + 1)) : fieldsM m pre (c :: t) = fieldsM m' (pre ++ [c]) t := by
  unfold fieldsM
  rw [h]
  cases cutM m' t with
  | none => simp
  | some p => simp
/-- Without blanks around, and those that are not empty. -/
def keepT (l : List (List UInt8)) : List ByteArray := (l.map fun p => trimS (bs p)).filter fun t => decide (t.size ≠ 0)
theorem keepT_cons (p : List UInt8) (l : List (List UInt8)) : keepT (p :: l) = if (trimS (bs p)).size = 0 then keepT l else trimS (bs p) :: keepT l := by
  unfold keepT
  rw [List.map_cons, List.filter_cons]
  by_cases h : (trimS (bs p)).size = 0
  · rw [if_pos h, decide_eq_false (by simpa using h)]; rfl
  · rw [if_neg h, decide_eq_true h]; rfl
/-- What split.Texts answers. -/
def textsP (s : ByteArray) : List ByteArray := keepT (fields s.data.toList)

/-- A list without what p holds at its end. -/
def rdrop (p : UInt8 → Bool) (l : List UInt8) : List UInt8 := (l.reverse.dropWhile p).reverse
theorem rdrop_snoc (p : UInt8 → Bool) (l : List UInt8) (x : UInt8) : rdrop p (l ++ [x]) = if p x then rdrop p l else l ++ [x] := by
  unfold rdrop
  rw [List.reverse_append]
  show (List.dropWhile p (x :: l.reverse)).reverse = _
  rw [List.dropWhile_cons]
  split <;> simp
theorem dropWhile_eq_nil (p : UInt8 → Bool) (l : List UInt8) : l.dropWhile p = [] ↔ ∀ x ∈ l, p x = true := by
  induction l with
  | nil => simp
  | cons x l ih =>
    rw [List.dropWhile_cons]
    cases h : p x <;> simp [h, ih]
theorem rdrop_cons (p : UInt8 → Bool) (x : UInt8) (l : List UInt8) : rdrop p (x :: l) = if rdrop p l = [] then (if p x then [] else [x]) else x :: rdrop p l := by
  unfold rdrop
  rw [List.reverse_cons, List.dropWhile_append]
  cases h : l.reverse.dropWhile p with
  | nil =>
    simp
    cases hp : p x <;> simp [hp, List.dropWhile]
  | cons y t => simp
theorem trim_swap (p : UInt8 → Bool) (l : List UInt8) : (rdrop p l).dropWhile p = rdrop p (l.dropWhile p) := by
  induction l with
  | nil => rfl
  | cons x l ih =>
    rw [rdrop_cons, List.dropWhile_cons]
    cases hp : p x with
    | true =>
      by_cases hr : rdrop p l = []
      · rw [if_pos hr]; simp only [if_true]; rw [← ih, hr]
      · rw [if_neg hr, List.dropWhile_cons]; simp only [hp, if_true]; exact ih
    | false =>
      simp only [Bool.false_eq_true, if_false]
      rw [rdrop_cons, hp]
      by_cases hr : rdrop p l = []
      · simp [hr, List.dropWhile, hp]
      · simp [hr, List.dropWhile_cons, hp]
theorem trimB_eq (l : List UInt8) : Lib.trimB l 32 = rdrop (· == 32) (l.dropWhile (· == 32)) := trim_swap _ _

theorem bytes_cons (t : ByteArray) (h : 0 < t.size) : t.data.toList = t.data.toList.getD 0 0 :: (t.extract 1 t.size).data.toList := by
  have h1 : t.data.toList.length = t.size := Array.length_toList
  cases hl : t.data.toList with
  | nil => rw [hl] at h1; simp at h1; omega
  | cons x l =>
    have h2 : (t.extract 1 t.size).data.toList = t.data.toList.drop 1 := by
      rw [ByteArray.data_extract, Array.toList_extract, List.extract_eq_take_drop, ← h1]
      rw [List.take_of_length_le (by simp)]
    rw [h2, hl]; rfl
theorem bytes_snoc (t : ByteArray) (h : 0 < t.size) : t.data.toList = (t.extract 0 (t.size - 1)).data.toList ++ [t.data.toList.getD (t.size - 1) 0] := by
  have h1 : t.data.toList.length = t.size := Array.length_toList
  have h2 : (t.extract 0 (t.size - 1)).data.toList = t.data.toList.take (t.size - 1) := by
    rw [ByteArray.data_extract, Array.toList_extract, List.extract_eq_take_drop]
    simp
  rw [h2, List.getD_eq_getElem?_getD, List.getElem?_eq_getElem (by omega)]
  have h3 : t.data.toList.take (t.size - 1 + 1) = t.data.toList := List.take_of_length_le (by omega)
  rw [List.take_add_one, List.getElem?_eq_getElem (by omega)] at h3
  exact h3.symm
theorem sb_blank (t : ByteArray) (k : Nat) : (t.data.toList.getD k 0 == 32) = (sb t k == 32) := by
  unfold sb
  generalize t.data.toList.getD k 0 = b
  by_cases h : b = 32
  · subst h; rfl
  · have h1 : ¬ (b.toNat : Int) = 32 := fun e => h (UInt8.toNat.inj (show _ = 32 by omega))
    have h2 : (b == 32) = false := by simpa using h
    rw [h2]
    have h3 : ((b.toNat : Int) == 32) = false := by simpa using h1
    exact h3.symm

theorem rtrim_any (s : ByteArray) (w : World) (hs : s.size ≤ 100000) :
    Calls Tryd.prog 18 #[.string s] w fun e w' => e = .returned (.string (trimS s)) ∧ w = w' := by
  have HT : Hid (trimS s = ⟨(rdrop (· == 32) (s.data.toList.dropWhile (· == 32))).toArray⟩) := by show _ = _; unfold trimS; rw [trimB_eq]
  go_enter Tryd.func18, Tryd.ntmps18
  go_wp2_with fail
  go_loop [0] (fun v => ∃ t : ByteArray, v = .string t ∧ t.size ≤ 100000 ∧ Hid (t.data.toList.dropWhile (· == 32) = s.data.toList.dropWhile (· == 32))) (fun v => match v with | .string t => t.size | _ => 0)
  case atStart => exact ⟨s, rfl, hs, rfl⟩
  case round =>
    obtain ⟨t, rfl, ht, Hl⟩ := hrel
    by_cases h0 : 0 < t.size ∧ sb t 0 = 32
    · obtain ⟨h0, h1⟩ := h0
      have hi : (0 : Int) < (t.size : Int) := by omega
      have hg := sb_get t 0 h0
      rw [h1] at hg
      have h1i : (1 : Int) ≤ (t.size : Int) := by omega
      have hb := bytes_cons t h0
      have Hl2 : Hid ((t.extract 1 t.size).data.toList.dropWhile (· == 32) = s.data.toList.dropWhile (· == 32)) := by
        show _ = _
        rw [← Hl.out, hb, List.dropWhile_cons, sb_blank, h1]
        rfl
      have hz : (t.extract 1 t.size).size = t.size - 1 := by rw [ByteArray.size_extract]; omega
      clear hb
      go_wp2_with fail
      go_round
      case rel => exact ⟨_, rfl, by omega, Hl2⟩
      case measure => show (t.extract 1 t.size).size < t.size; omega
    · have h0c : t.size = 0 ∨ (0 < t.size ∧ sb t 0 ≠ 32) := by omega
      have HL : Hid (t.data.toList = s.data.toList.dropWhile (· == 32)) := by
        show _ = _
        rw [← Hl.out]
        rcases h0c with h | ⟨h, h2⟩
        · rw [show t.data.toList = [] from List.eq_nil_of_length_eq_zero (by rw [Array.length_toList]; exact h)]; rfl
        · rw [bytes_cons t h, List.dropWhile_cons, sb_blank]
          have : (sb t 0 == 32) = false := by simpa using h2
          rw [this]; rfl
      clear Hl h0
      rcases h0c with h0 | ⟨h0, h1⟩
      · have hi2 : ¬ (0 : Int) < (t.size : Int) := by omega
        go_wp2_with fail
        go_loop [0] (fun v => ∃ r : ByteArray, v = .string r ∧ r.size ≤ 100000 ∧ Hid (rdrop (· == 32) r.data.toList = rdrop (· == 32) t.data.toList)) (fun v => match v with | .string t => t.size | _ => 0)
        case atStart => exact ⟨t, rfl, ht, rfl⟩
        case round =>
          obtain ⟨r, rfl, hr, Hr⟩ := hrel
          by_cases q0 : 0 < r.size
          · have qi : (0 : Int) < (r.size : Int) := by omega
            have qj : (0 : Int) ≤ (r.size : Int) - 1 := by omega
            have qk : (r.size : Int) - 1 < (r.size : Int) := by omega
            have qt : ((r.size : Int) - 1).toNat = r.size - 1 := by omega
            have qg := sb_get r (r.size - 1) (by omega)
            by_cases q1 : sb r (r.size - 1) = 32
            · rw [q1] at qg
              have hb := bytes_snoc r q0
              have Hr2 : Hid (rdrop (· == 32) (r.extract 0 (r.size - 1)).data.toList = rdrop (· == 32) t.data.toList) := by
                show _ = _
                rw [← Hr.out, hb, rdrop_snoc, sb_blank, q1]
                rfl
              have hz : (r.extract 0 (r.size - 1)).size = r.size - 1 := by rw [ByteArray.size_extract]; omega
              clear hb
              go_wp2_with fail
              go_round
              case rel => exact ⟨_, rfl, by omega, Hr2⟩
              case measure => show (r.extract 0 (r.size - 1)).size < r.size; omega
            · have hb := bytes_snoc r q0
              have HE : Hid (trimS s = r) := by
                show _ = _
                have e1 : rdrop (· == 32) r.data.toList = r.data.toList := by
                  rw [hb, rdrop_snoc, sb_blank]
                  have : (sb r (r.size - 1) == 32) = false := by simpa using q1
                  rw [this]; rfl
                rw [HT.out, ← HL.out, ← Hr.out, e1]
              have qd : (sb r (r.size - 1) == 32) = false := by simpa using q1
              clear hb q1
              go_wp2_with fail
              go_returns
              exact ⟨by rw [HE.out]; rfl, rfl⟩
          · have HE : Hid (trimS s = r) := by
              show _ = _
              have e0 : r.data.toList = [] := List.eq_nil_of_length_eq_zero (by rw [Array.length_toList]; show r.size = 0; omega)
              have e1 : rdrop (· == 32) r.data.toList = r.data.toList := by rw [e0]; rfl
              rw [HT.out, ← HL.out, ← Hr.out, e1]
            have qi : ¬ (0 : Int) < (r.size : Int) := by omega
            go_wp2_with fail
            go_returns
            exact ⟨by rw [HE.out]; rfl, rfl⟩
      · have hi : (0 : Int) < (t.size : Int) := by omega
        have hg := sb_get t 0 h0
        have hd : (sb t 0 == 32) = false := by simpa using h1
        go_wp2_with fail
        go_loop [0] (fun v => ∃ r : ByteArray, v = .string r ∧ r.size ≤ 100000 ∧ Hid (rdrop (· == 32) r.data.toList = rdrop (· == 32) t.data.toList)) (fun v => match v with | .string t => t.size | _ => 0)
        case atStart => exact ⟨t, rfl, ht, rfl⟩
        case round =>
          obtain ⟨r, rfl, hr, Hr⟩ := hrel
          by_cases q0 : 0 < r.size
          · have qi : (0 : Int) < (r.size : Int) := by omega
            have qj : (0 : Int) ≤ (r.size : Int) - 1 := by omega
            have qk : (r.size : Int) - 1 < (r.size : Int) := by omega
            have qt : ((r.size : Int) - 1).toNat = r.size - 1 := by omega
            have qg := sb_get r (r.size - 1) (by omega)
            by_cases q1 : sb r (r.size - 1) = 32
            · rw [q1] at qg
              have hb := bytes_snoc r q0
              have Hr2 : Hid (rdrop (· == 32) (r.extract 0 (r.size - 1)).data.toList = rdrop (· == 32) t.data.toList) := by
                show _ = _
                rw [← Hr.out, hb, rdrop_snoc, sb_blank, q1]
                rfl
              have hz : (r.extract 0 (r.size - 1)).size = r.size - 1 := by rw [ByteArray.size_extract]; omega
              clear hb
              go_wp2_with fail
              go_round
              case rel => exact ⟨_, rfl, by omega, Hr2⟩
              case measure => show (r.extract 0 (r.size - 1)).size < r.size; omega
            · have hb := bytes_snoc r q0
              have HE : Hid (trimS s = r) := by
                show _ = _
                have e1 : rdrop (· == 32) r.data.toList = r.data.toList := by
                  rw [hb, rdrop_snoc, sb_blank]
                  have : (sb r (r.size - 1) == 32) = false := by simpa using q1
                  rw [this]; rfl
                rw [HT.out, ← HL.out, ← Hr.out, e1]
              have qd : (sb r (r.size - 1) == 32) = false := by simpa using q1
              clear hb q1
              go_wp2_with fail
              go_returns
              exact ⟨by rw [HE.out]; rfl, rfl⟩
          · have HE : Hid (trimS s = r) := by
              show _ = _
              have e0 : r.data.toList = [] := List.eq_nil_of_length_eq_zero (by rw [Array.length_toList]; show r.size = 0; omega)
              have e1 : rdrop (· == 32) r.data.toList = r.data.toList := by rw [e0]; rfl
              rw [HT.out, ← HL.out, ← Hr.out, e1]
            have qi : ¬ (0 : Int) < (r.size : Int) := by omega
            go_wp2_with fail
            go_returns
            exact ⟨by rw [HE.out]; rfl, rfl⟩

/-- What cut answers. -/
def cutV (s : ByteArray) : Value :=
  match cutM 0 s.data.toList with
  | none => .tuple #[.string s, .string ⟨#[]⟩, .bool false]
  | some p => .tuple #[.string (s.extract 0 p), .string (s.extract (p + 1) s.size), .bool true]
theorem cut_semi (s : ByteArray) (k : Nat) (h : k < s.size) (hc : sb s k = 59) : cutM 0 (s.data.toList.drop k) = some 0 := by
  rw [drop_cons s k h, (sb_is s k 59).1 hc, cutM, if_pos rfl, if_pos rfl]
theorem cut_plain (s : ByteArray) (k : Nat) (h : k < s.size) (h1 : sb s k ≠ 59) (h2 : sb s k ≠ 39) (h3 : sb s k ≠ 34) : cutM 0 (s.data.toList.drop k) = (cutM 0 (s.data.toList.drop (k + 1))).map (· + 1) := by
  rw [drop_cons s k h, cutM, if_pos rfl, if_neg (fun e => h1 ((sb_is s k 59).2 e)), if_neg (fun e => e.elim (fun e => h2 ((sb_is s k 39).2 e)) (fun e => h3 ((sb_is s k 34).2 e)))]
theorem cut_open (s : ByteArray) (k : Nat) (h : k < s.size) (c : UInt8) (hc : sb s k = (c.toNat : Int)) (h2 : c = 39 ∨ c = 34) : cutM 0 (s.data.toList.drop k) = if Lib.indexByte (s.data.toList.drop (k + 1)) c < 0 then none else (cutM 0 (s.data.toList.drop (k + 1 + ((Lib.indexByte (s.data.toList.drop (k + 1)) c).toNat + 1)))).map (· + ((Lib.indexByte (s.data.toList.drop (k + 1)) c).toNat + 2)) := by
  have h0 : c ≠ 0 := by rcases h2 with rfl | rfl <;> decide
  have h59 : c ≠ 59 := by rcases h2 with rfl | rfl <;> decide
  rw [drop_cons s k h, (sb_is s k c).1 hc, cutM, if_pos rfl, if_neg h59, if_pos h2, cut_quoted c h0, List.drop_drop]
  split
  · rfl
  · cases cutM 0 _ with
    | none => rfl
    | some v => simp; omega
theorem map_plus (o : Option Nat) (a b : Nat) : (o.map (· + a)).map (· + b) = o.map (· + (a + b)) := by
  cases o <;> simp; omega
end Go.Proofs.YtmmfipkdkofdkaaDoor
