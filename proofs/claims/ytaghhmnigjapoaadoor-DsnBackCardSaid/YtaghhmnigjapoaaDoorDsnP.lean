/-
  What texts of pairs mean: no program in sight. No condition.
-/
import Derived.Test.YtaghhmnigjapoaaDoorDsnA
namespace Go.Proofs.YtaghhmnigjapoaaDoor
open Go.RowKit
set_option linter.unusedVariables false
set_option linter.unusedSimpArgs false

/-- A list of bytes as a text. -/
def bs (l : List UInt8) : ByteArray := ⟨l.toArray⟩
theorem bs_list (l : List UInt8) : (bs l).data.toList = l := by simp [bs]
theorem bs_of (s : ByteArray) : bs s.data.toList = s := by
  rw [ext_iff, bs_list]
theorem bs_size (l : List UInt8) : (bs l).size = l.length := by show l.toArray.size = _; simp
theorem list_size (s : ByteArray) : s.data.toList.length = s.size := Array.length_toList
theorem ext_drop (s : ByteArray) (i : Nat) : s.extract i s.size = bs (s.data.toList.drop i) := by
  rw [ext_iff, bs_list, ByteArray.data_extract, Array.toList_extract, List.extract_eq_take_drop]
  exact List.take_of_length_le (by rw [List.length_drop, list_size]; exact Nat.le_refl _)
theorem ext_take (s : ByteArray) (i : Nat) : s.extract 0 i = bs (s.data.toList.take i) := by
  rw [ext_iff, bs_list, ByteArray.data_extract, Array.toList_extract, List.extract_eq_take_drop]
  simp
theorem ext_mid (s : ByteArray) (a b : Nat) : s.extract a b = bs ((s.data.toList.drop a).take (b - a)) := by
  rw [ext_iff, bs_list, ByteArray.data_extract, Array.toList_extract, List.extract_eq_take_drop]
theorem app_bs (a b : List UInt8) : bs a ++ bs b = bs (a ++ b) := by
  rw [ext_iff, bs_list, ByteArray.data_append, Array.toList_append, bs_list, bs_list]
theorem drop_cons (s : ByteArray) (k : Nat) (h : k < s.size) : s.data.toList.drop k = s.data.toList.getD k 0 :: s.data.toList.drop (k + 1) := by
  have h' : k < s.data.toList.length := by rw [list_size]; exact h
  rw [List.drop_eq_getElem_cons h', List.getD_eq_getElem?_getD, List.getElem?_eq_getElem h']; rfl
theorem drop_none (s : ByteArray) (k : Nat) (h : s.size ≤ k) : s.data.toList.drop k = [] := List.drop_eq_nil_of_le (by rw [list_size]; exact h)
theorem sb_is (s : ByteArray) (k : Nat) (c : UInt8) : sb s k = (c.toNat : Int) ↔ s.data.toList.getD k 0 = c := by
  unfold sb
  constructor
  · intro h
    exact UInt8.toNat.inj (by omega)
  · intro h; rw [h]

/-- The value that stands in quotes, the first of which is read, and what is behind it; 'b': a byte 92 is just ahead. -/
def qE : Bool → List UInt8 → Option (List UInt8 × List UInt8)
  | _, [] => none
  | true, d :: u => (qE false u).map fun p => (d :: p.1, p.2)
  | false, c :: t => if c = 39 then some ([], t) else if c = 92 then qE true t else (qE false t).map fun p => (c :: p.1, p.2)
def qL (l : List UInt8) : Option (List UInt8 × List UInt8) := qE false l
theorem qL_cons (c : UInt8) (t : List UInt8) : qL (c :: t) = if c = 39 then some ([], t) else if c = 92 then qE true t else (qL t).map fun p => (c :: p.1, p.2) := by
  unfold qL; rw [qE]
theorem qE_esc (d : UInt8) (u : List UInt8) : qE true (d :: u) = (qL u).map fun p => (d :: p.1, p.2) := by unfold qL; rw [qE]
/-- What came ahead, put ahead. -/
def ahead (o : List UInt8) (x : Option (List UInt8 × List UInt8)) : Option (List UInt8 × List UInt8) := x.map fun p => (o ++ p.1, p.2)
theorem ahead_nil (x : Option (List UInt8 × List UInt8)) : ahead [] x = x := by cases x <;> rfl
theorem ahead_cons (o : List UInt8) (c : UInt8) (x : Option (List UInt8 × List UInt8)) : ahead o (x.map fun p => (c :: p.1, p.2)) = ahead (o ++ [c]) x := by
  cases x <;> simp [ahead]
theorem q_end (s : ByteArray) (k : Nat) (h : s.size ≤ k) : qL (s.data.toList.drop k) = none := by
  rw [drop_none s k h]; rfl
theorem q_quote (s : ByteArray) (k : Nat) (h : k < s.size) (hc : sb s k = 39) : qL (s.data.toList.drop k) = some ([], s.data.toList.drop (k + 1)) := by
  rw [drop_cons s k h, (sb_is s k 39).1 hc, qL_cons, if_pos rfl]
theorem q_esc (s : ByteArray) (k : Nat) (h : k + 1 < s.size) (hc : sb s k = 92) : qL (s.data.toList.drop k) = (qL (s.data.toList.drop (k + 2))).map fun p => (s.data.toList.getD (k + 1) 0 :: p.1, p.2) := by
  rw [drop_cons s k (by omega), (sb_is s k 92).1 hc, drop_cons s (k + 1) h, qL_cons, if_neg (by decide), if_pos rfl, qE_esc]
theorem q_esc_end (s : ByteArray) (k : Nat) (h : k + 1 = s.size) (hc : sb s k = 92) : qL (s.data.toList.drop k) = none := by
  rw [drop_cons s k (by omega), (sb_is s k 92).1 hc, drop_none s (k + 1) (by omega), qL_cons, if_neg (by decide), if_pos rfl]; rfl
theorem q_other (s : ByteArray) (k : Nat) (h : k < s.size) (h1 : sb s k ≠ 39) (h2 : sb s k ≠ 92) : qL (s.data.toList.drop k) = (qL (s.data.toList.drop (k + 1))).map fun p => (s.data.toList.getD k 0 :: p.1, p.2) := by
  rw [drop_cons s k h, qL_cons, if_neg (fun e => h1 ((sb_is s k 39).2 e)), if_neg (fun e => h2 ((sb_is s k 92).2 e))]
theorem qE_short : ∀ (l : List UInt8) (b : Bool) (v r : List UInt8), qE b l = some (v, r) → r <:+ l ∧ r.length < l.length ∧ v.length ≤ l.length
  | [], b, v, r, h => by cases b <;> simp [qE] at h
  | c :: t, b, v, r, h => by
    have step : ∀ d : UInt8, ((qE false t).map fun p => (d :: p.1, p.2)) = some (v, r) → r <:+ c :: t ∧ r.length < (c :: t).length ∧ v.length ≤ (c :: t).length := by
      intro d h
      cases hq : qE false t with
      | none => rw [hq] at h; cases h
      | some p =>
        rw [hq] at h
        obtain ⟨p1, p2⟩ := p
        cases h
        obtain ⟨h1, h2, h3⟩ := qE_short t false p1 p2 hq
        exact ⟨h1.trans ⟨[c], rfl⟩, by simp; omega, by simp; omega⟩
    cases b with
    | true => rw [qE] at h; exact step c h
    | false =>
      rw [qE] at h
      split at h
      · cases h
        exact ⟨⟨[c], rfl⟩, by simp, by simp⟩
      · split at h
        · obtain ⟨h1, h2, h3⟩ := qE_short t true v r h
          exact ⟨h1.trans ⟨[c], rfl⟩, by simp; omega, by simp; omega⟩
        · exact step c h
theorem qL_short (l : List UInt8) (v r : List UInt8) (h : qL l = some (v, r)) : r <:+ l ∧ r.length < l.length ∧ v.length ≤ l.length := qE_short l false v r h

/-- The value that stands without quotes, and what is behind it. -/
def bL : List UInt8 → Option (List UInt8 × List UInt8)
  | [] => some ([], [])
  | c :: t => if c = 32 then some ([], c :: t) else if c = 39 ∨ c = 92 then none else (bL t).map fun p => (c :: p.1, p.2)
theorem bL_short : ∀ (l : List UInt8) (v r : List UInt8), bL l = some (v, r) → r <:+ l ∧ v.length ≤ l.length
  | [], v, r, h => by cases h; exact ⟨List.suffix_refl _, Nat.le_refl _⟩
  | c :: t, v, r, h => by
    rw [bL] at h
    split at h
    · cases h; exact ⟨List.suffix_refl _, by simp⟩
    · split at h
      · cases h
      · cases hq : bL t with
        | none => rw [hq] at h; cases h
        | some p =>
          rw [hq] at h
          obtain ⟨p1, p2⟩ := p
          cases h
          obtain ⟨h1, h3⟩ := bL_short t p1 p2 hq
          refine ⟨h1.trans ⟨[c], rfl⟩, by simp; omega⟩
/-- Where the first byte c stands, or the end. -/
def cutAt (l : List UInt8) (c : UInt8) : Nat := if Lib.indexByte l c < 0 then l.length else (Lib.indexByte l c).toNat
theorem indexByte_cons (x : UInt8) (l : List UInt8) (c : UInt8) (h : x ≠ c) : Lib.indexByte (x :: l) c = if Lib.indexByte l c < 0 then -1 else Lib.indexByte l c + 1 := by
  have hge := Lib.indexByte_ge l c
  rw [Lib.indexByte, if_neg (by simpa using h)]
  by_cases h2 : Lib.indexByte l c = -1
  · rw [h2]; rfl
  · rw [if_neg (by simpa using h2), if_neg (by omega)]
theorem indexByte_self (x : UInt8) (l : List UInt8) : Lib.indexByte (x :: l) x = 0 := by
  rw [Lib.indexByte, if_pos (by simp)]
theorem cutAt_cons (x : UInt8) (l : List UInt8) (c : UInt8) (h : x ≠ c) : cutAt (x :: l) c = cutAt l c + 1 := by
  have hge := Lib.indexByte_ge l c
  unfold cutAt
  rw [indexByte_cons x l c h]
  by_cases h2 : Lib.indexByte l c < 0
  · rw [if_pos h2, if_pos h2, if_pos (by omega)]; rfl
  · rw [if_neg h2, if_neg h2, if_neg (by omega)]; omega
theorem cutAt_le (l : List UInt8) (c : UInt8) : cutAt l c ≤ l.length := by
  induction l with
  | nil => simp [cutAt, Lib.indexByte]
  | cons x l ih =>
    by_cases h : x = c
    · subst h; unfold cutAt; rw [indexByte_self]; simp
    · rw [cutAt_cons x l c h]; simp; exact ih
/-- A text without quotes, as dsn.bare reads it. -/
theorem bL_eq (l : List UInt8) : bL l = if Lib.indexByte (l.take (cutAt l 32)) 39 < 0 ∧ Lib.indexByte (l.take (cutAt l 32)) 92 < 0 then some (l.take (cutAt l 32), l.drop (cutAt l 32)) else none := by
  induction l with
  | nil => rfl
  | cons x l ih =>
    by_cases h : x = 32
    · subst h
      have : cutAt (32 :: l) 32 = 0 := by unfold cutAt; rw [indexByte_self]; rfl
      rw [this, bL, if_pos rfl]; rfl
    · rw [cutAt_cons x l 32 h, bL, if_neg h, List.take_succ_cons, List.drop_succ_cons]
      generalize l.take (cutAt l 32) = t at ih ⊢
      by_cases h1 : x = 39
      · subst h1
        rw [if_pos (Or.inl rfl), indexByte_self, if_neg (fun e => absurd e.1 (by decide))]
      · by_cases h2 : x = 92
        · subst h2
          rw [if_pos (Or.inr rfl), indexByte_self, if_neg (fun e => absurd e.2 (by decide))]
        · rw [if_neg (fun e => e.elim h1 h2), indexByte_cons x t 39 h1, indexByte_cons x t 92 h2, ih]
          have g1 := Lib.indexByte_ge t 39
          have g2 := Lib.indexByte_ge t 92
          by_cases k1 : Lib.indexByte t 39 < 0 <;> by_cases k2 : Lib.indexByte t 92 < 0 <;> simp [k1, k2] <;> omega

/-- The next value. -/
def valL (l : List UInt8) : Option (List UInt8 × List UInt8) := if l.head? = some 39 then qL l.tail else bL l
theorem valL_short (l v r : List UInt8) (h : valL l = some (v, r)) : r <:+ l ∧ v.length ≤ l.length := by
  unfold valL at h
  split at h
  · cases l with
    | nil => simp at *
    | cons c t =>
      obtain ⟨h1, h2, h3⟩ := qL_short t v r h
      exact ⟨h1.trans ⟨[c], rfl⟩, by simp; omega⟩
  · exact bL_short l v r h
/-- What may stand behind a pair. -/
def okEnd (r : List UInt8) : Bool := r.isEmpty || r.head? == some 32
/-- The next pair, and what is behind it. -/
def pairL (l : List UInt8) : Option ((ByteArray × ByteArray) × List UInt8) :=
  if Lib.indexByte l 61 < 0 then none
  else if wordB (bs (l.take (cutAt l 61))) = false then none
  else match valL (l.drop (cutAt l 61 + 1)) with
    | none => none
    | some (v, r) => if okEnd r = true then some ((bs (l.take (cutAt l 61)), bs v), r) else none
theorem cutAt_lt (l : List UInt8) (c : UInt8) (h : ¬ Lib.indexByte l c < 0) : cutAt l c < l.length := by
  induction l with
  | nil => exact absurd (show Lib.indexByte [] c < 0 from by unfold Lib.indexByte; decide) h
  | cons x l ih =>
    by_cases hx : x = c
    · subst hx; unfold cutAt; rw [indexByte_self]; simp
    · have hge := Lib.indexByte_ge l c
      rw [indexByte_cons x l c hx] at h
      rw [cutAt_cons x l c hx]
      by_cases h2 : Lib.indexByte l c < 0
      · rw [if_pos h2] at h; omega
      · have := ih h2; simp; exact this
theorem pairL_short (l : List UInt8) (p : ByteArray × ByteArray) (r : List UInt8) (h : pairL l = some (p, r)) : r <:+ l ∧ r.length < l.length ∧ p.1.size ≤ l.length ∧ p.2.size ≤ l.length := by
  unfold pairL at h
  split at h
  · cases h
  · rename_i hi
    have hlt := cutAt_lt l 61 hi
    split at h
    · cases h
    · cases hv : valL (l.drop (cutAt l 61 + 1)) with
      | none => rw [hv] at h; cases h
      | some q =>
        obtain ⟨v, r'⟩ := q
        rw [hv] at h
        simp only at h
        split at h
        · cases h
          obtain ⟨h1, h2⟩ := valL_short _ _ _ hv
          have h3 := h1.length_le
          rw [List.length_drop] at h2 h3
          refine ⟨h1.trans (List.drop_suffix _ _), by omega, ?_, ?_⟩
          · show (bs _).size ≤ _
            rw [bs_size, List.length_take]; omega
          · show (bs _).size ≤ _
            rw [bs_size]; omega
        · cases h
/-- The pairs of a text; n: more than its bytes. -/
def parseL : Nat → List UInt8 → Option (List (ByteArray × ByteArray))
  | n, l =>
    match l.dropWhile (· == 32) with
    | [] => some []
    | x :: t =>
      match n with
      | 0 => none
      | n + 1 =>
        match pairL (x :: t) with
        | none => none
        | some (p, r) => (parseL n r).map fun q => p :: q
def aheadP (acc : List (ByteArray × ByteArray)) (x : Option (List (ByteArray × ByteArray))) : Option (List (ByteArray × ByteArray)) := x.map fun q => acc ++ q
theorem aheadP_nil (x : Option (List (ByteArray × ByteArray))) : aheadP [] x = x := by cases x <;> rfl
theorem aheadP_cons (acc : List (ByteArray × ByteArray)) (p : ByteArray × ByteArray) (x : Option (List (ByteArray × ByteArray))) : aheadP acc (x.map fun q => p :: q) = aheadP (acc ++ [p]) x := by
  cases x <;> simp [aheadP]
theorem parse_blank (n : Nat) (l : List UInt8) (h : l.dropWhile (· == 32) = []) : parseL n l = some [] := by
  unfold parseL; rw [h]
theorem parse_bad (n : Nat) (l : List UInt8) (x : UInt8) (t : List UInt8) (h : l.dropWhile (· == 32) = x :: t) (hp : pairL (x :: t) = none) : parseL (n + 1) l = none := by
  unfold parseL; rw [h]; simp only [hp]
theorem parse_pair (n : Nat) (l : List UInt8) (x : UInt8) (t : List UInt8) (p : ByteArray × ByteArray) (r : List UInt8) (h : l.dropWhile (· == 32) = x :: t) (hp : pairL (x :: t) = some (p, r)) : parseL (n + 1) l = (parseL n r).map fun q => p :: q := by
  rw [parseL, h]; simp only [hp]
theorem parse_skip (n : Nat) (l : List UInt8) : parseL n (32 :: l) = parseL n l := by
  have : (32 :: l).dropWhile (· == 32) = l.dropWhile (· == 32) := by rw [List.dropWhile_cons]; rfl
  rw [parseL, this]
  conv => rhs; rw [parseL]
/-- What dsn.Parse answers. -/
def parseP (s : ByteArray) : List (ByteArray × ByteArray) × Int :=
  if 4096 < s.size then ([], 5) else match parseL (s.size + 1) s.data.toList with | none => ([], 4) | some q => (q, 0)
def pairCells (ps : List (ByteArray × ByteArray)) : List Value := ps.flatMap fun p => [.string p.1, .string p.2]
theorem pairCells_snoc (ps : List (ByteArray × ByteArray)) (p : ByteArray × ByteArray) : pairCells (ps ++ [p]) = pairCells ps ++ [.string p.1, .string p.2] := by
  unfold pairCells; rw [List.flatMap_append]; rfl
end Go.Proofs.YtaghhmnigjapoaaDoor
