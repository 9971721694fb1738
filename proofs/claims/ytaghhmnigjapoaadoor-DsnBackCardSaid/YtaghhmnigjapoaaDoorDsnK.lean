/-
  What the text of pairs is: no program in sight. No condition.
-/
import Derived.Test.YtaghhmnigjapoaaDoorDsnJ
import Derived.Lib.IndexBytes
import Derived.Lib.Replace
import Derived.Lib.ReplaceLaws
import Derived.Lib.CountLaws
import Derived.Lib.Join
namespace Go.Proofs.YtaghhmnigjapoaaDoor
open Go.RowKit
set_option linter.unusedVariables false
set_option linter.unusedSimpArgs false

/-! Replacing one byte. -/
def flat (c : UInt8) (new s : List UInt8) : List UInt8 := s.flatMap fun x => if x = c then new else [x]
theorem flat_cons (c : UInt8) (new : List UInt8) (x : UInt8) (s : List UInt8) : flat c new (x :: s) = (if x = c then new else [x]) ++ flat c new s := rfl
theorem flat_miss (c : UInt8) (new s : List UInt8) (h : Lib.indexByte s c < 0) : flat c new s = s := by
  induction s with
  | nil => rfl
  | cons x s ih =>
    by_cases hx : x = c
    · subst hx; rw [indexByte_self] at h; omega
    · have hge := Lib.indexByte_ge s c
      rw [indexByte_cons x s c hx] at h
      rw [flat_cons, if_neg hx, ih (by split at h <;> omega)]; rfl
theorem flat_hit (c : UInt8) (new s : List UInt8) (i : Nat) (h : Lib.indexByte s c = (i : Int)) : flat c new s = s.take i ++ new ++ flat c new (s.drop (i + 1)) := by
  induction s generalizing i with
  | nil => exact absurd h (by unfold Lib.indexByte; omega)
  | cons x s ih =>
    by_cases hx : x = c
    · subst hx
      rw [indexByte_self] at h
      have : i = 0 := by omega
      subst this
      rw [flat_cons, if_pos rfl]; rfl
    · have hge := Lib.indexByte_ge s c
      rw [indexByte_cons x s c hx] at h
      split at h
      · omega
      · obtain ⟨j, rfl⟩ : ∃ j, i = j + 1 := ⟨i - 1, by omega⟩
        rw [flat_cons, if_neg hx, ih j (by omega)]; rfl
theorem replaceK_one (c : UInt8) (new : List UInt8) : ∀ (n : Nat) (s : List UInt8), s.length ≤ n → Lib.replaceK [c] new (Lib.count s [c]) s = flat c new s
  | n, s, hn => by
    by_cases h : Lib.indexByte s c < 0
    · have hge := Lib.indexByte_ge s c
      rw [Lib.count_miss (by rw [Lib.index_one]; omega), flat_miss c new s h]; rfl
    · obtain ⟨i, hi⟩ : ∃ i : Nat, Lib.indexByte s c = (i : Int) := ⟨(Lib.indexByte s c).toNat, by omega⟩
      have hi2 : Lib.index s [c] = (i : Int) := by rw [Lib.index_one]; exact hi
      have hlt := cutAt_lt s c h
      cases n with
      | zero => omega
      | succ n =>
        rw [Lib.count_hit (by simp) hi2, Nat.add_comm, Lib.replaceK_hit _ _ _ _ i hi2, flat_hit c new s i hi]
        show _ ++ Lib.replaceK [c] new (Lib.count (s.drop (i + 1)) [c]) (s.drop (i + 1)) = _
        rw [replaceK_one c new n _ (by rw [List.length_drop]; omega)]
theorem replaceAll_one (c : UInt8) (new s : List UInt8) (hne : [c] ≠ new) : Lib.replaceAll s [c] new = flat c new s := by
  unfold Lib.replaceAll Lib.replace
  rw [if_neg (by simpa using hne)]
  unfold Lib.replaceNum
  rw [if_pos (Or.inl (by decide))]
  exact replaceK_one c new s.length s (Nat.le_refl _)
theorem flat_length (c : UInt8) (a b : UInt8) (s : List UInt8) : (flat c [a, b] s).length ≤ 2 * s.length := by
  induction s with
  | nil => simp [flat]
  | cons x s ih =>
    rw [flat_cons, List.length_append, List.length_cons]
    split <;> simp <;> omega

/-- A value as it stands between quotes. -/
def escL (s : List UInt8) : List UInt8 := s.flatMap fun c => if c = 39 ∨ c = 92 then [92, c] else [c]
theorem escL_eq (s : List UInt8) : flat 39 [92, 39] (flat 92 [92, 92] s) = escL s := by
  induction s with
  | nil => rfl
  | cons x s ih =>
    have e : escL (x :: s) = (if x = 39 ∨ x = 92 then [92, x] else [x]) ++ escL s := rfl
    rw [flat_cons, e, ← ih]
    have app : ∀ a b, flat 39 [92, 39] (a ++ b) = flat 39 [92, 39] a ++ flat 39 [92, 39] b := fun a b => List.flatMap_append
    rw [app]
    congr 1
    by_cases h92 : x = 92
    · subst h92; rfl
    · rw [if_neg h92]
      by_cases h39 : x = 39
      · subst h39; rfl
      · rw [if_neg (fun h => h.elim h39 h92), flat_cons, if_neg h39]; rfl
theorem escL_length (s : List UInt8) : (escL s).length ≤ 2 * s.length := by
  induction s with
  | nil => simp [escL]
  | cons x s ih =>
    have e : escL (x :: s) = (if x = 39 ∨ x = 92 then [92, x] else [x]) ++ escL s := rfl
    rw [e, List.length_append, List.length_cons]
    split <;> simp <;> omega
theorem escL_snoc (s : List UInt8) (x : UInt8) : escL (s ++ [x]) = escL s ++ if x = 39 ∨ x = 92 then [92, x] else [x] := by
  unfold escL; rw [List.flatMap_append]; simp
/-- A pair's text. -/
def itemL (p : ByteArray × ByteArray) : List UInt8 := p.1.data.toList ++ (61 :: 39 :: (escL p.2.data.toList ++ [39]))
def joinL (ps : List (ByteArray × ByteArray)) : List UInt8 := Lib.join (ps.map itemL) [32]
def tailL (ps : List (ByteArray × ByteArray)) : List UInt8 := ps.flatMap fun p => 32 :: itemL p
theorem joinL_cons (p : ByteArray × ByteArray) (ps : List (ByteArray × ByteArray)) : joinL (p :: ps) = itemL p ++ tailL ps := by
  unfold joinL
  rw [List.map_cons, Lib.join_cons]
  congr 1
  induction ps with
  | nil => rfl
  | cons q ps ih =>
    have e : tailL (q :: ps) = 32 :: itemL q ++ tailL ps := rfl
    rw [e, ← ih]; rfl
theorem joinL_snoc (ps : List (ByteArray × ByteArray)) (k : Nat) (h : k < ps.length) : joinL (ps.take (k + 1)) = if k = 0 then itemL (pj ps k) else joinL (ps.take k) ++ 32 :: itemL (pj ps k) := by
  have e : ps.take (k + 1) = ps.take k ++ [pj ps k] := by
    unfold pj
    rw [List.take_add_one, List.getElem?_eq_getElem h, List.getD_eq_getElem?_getD, List.getElem?_eq_getElem h]; rfl
  rw [e]
  cases ps with
  | nil => simp at h
  | cons p ps =>
    cases k with
    | zero => rw [if_pos rfl]; show joinL [pj (p :: ps) 0] = _; rw [joinL_cons]; simp [tailL]
    | succ k =>
      rw [if_neg (by omega), List.take_succ_cons, List.cons_append, joinL_cons, joinL_cons]
      unfold tailL
      rw [List.flatMap_append]; simp
/-- The lengths of the first k pairs' texts. -/
def sumL (ps : List (ByteArray × ByteArray)) (k : Nat) : Nat := ((ps.take k).map fun p => (itemL p).length).sum
theorem sumL_snoc (ps : List (ByteArray × ByteArray)) (k : Nat) (h : k < ps.length) : sumL ps (k + 1) = sumL ps k + (itemL (pj ps k)).length := by
  unfold sumL pj
  rw [List.take_add_one, List.getElem?_eq_getElem h, List.getD_eq_getElem?_getD, List.getElem?_eq_getElem h, List.map_append, List.sum_append]
  simp only [Option.toList, List.map_cons, List.map_nil, List.sum_cons, List.sum_nil, Option.getD_some]
  omega
theorem sumL_le (ps : List (ByteArray × ByteArray)) (k : Nat) (h : k ≤ ps.length) : sumL ps k ≤ (joinL (ps.take k)).length := by
  induction k with
  | zero => exact Nat.zero_le _
  | succ k ih =>
    have := ih (by omega)
    rw [sumL_snoc ps k (by omega), joinL_snoc ps k (by omega)]
    split
    · rename_i h0; subst h0; show 0 + _ ≤ _; omega
    · simp; omega
theorem joinL_step (ps : List (ByteArray × ByteArray)) (k : Nat) (h : k < ps.length) : (joinL (ps.take k)).length ≤ (joinL (ps.take (k + 1))).length := by
  rw [joinL_snoc ps k h]
  split
  · rename_i h0; subst h0; exact Nat.zero_le _
  · simp
theorem joinL_mono (ps : List (ByteArray × ByteArray)) (k d : Nat) (h : k + d ≤ ps.length) : (joinL (ps.take k)).length ≤ (joinL (ps.take (k + d))).length := by
  induction d with
  | zero => exact Nat.le_refl _
  | succ d ih => exact Nat.le_trans (ih (by omega)) (joinL_step ps (k + d) (by omega))
theorem joinL_all (ps : List (ByteArray × ByteArray)) (k : Nat) (h : k ≤ ps.length) : (joinL (ps.take k)).length ≤ (joinL ps).length := by
  have := joinL_mono ps k (ps.length - k) (by omega)
  rw [show k + (ps.length - k) = ps.length by omega, List.take_length] at this
  exact this
def wordsP (ps : List (ByteArray × ByteArray)) : Bool := ps.all fun p => wordB p.1
/-- What dsn.Print answers. -/
def printP (ps : List (ByteArray × ByteArray)) : ByteArray × Int := if wordsP ps = true ∧ (joinL ps).length ≤ 4096 then (bs (joinL ps), 0) else (⟨#[]⟩, 1)
theorem pj_mem (ps : List (ByteArray × ByteArray)) (k : Nat) (h : k < ps.length) : pj ps k ∈ ps := by
  unfold pj
  rw [List.getD_eq_getElem?_getD, List.getElem?_eq_getElem h]
  exact List.getElem_mem h
theorem print_word (ps : List (ByteArray × ByteArray)) (k : Nat) (h : k < ps.length) (hw : wordB (pj ps k).1 = false) : printP ps = (⟨#[]⟩, 1) := by
  unfold printP
  rw [if_neg]
  intro hh
  have := List.all_eq_true.1 hh.1 _ (pj_mem ps k h)
  rw [hw] at this; cases this
theorem print_long (ps : List (ByteArray × ByteArray)) (h : 4096 < (joinL ps).length) : printP ps = (⟨#[]⟩, 1) := by
  unfold printP; rw [if_neg (fun hh => by omega)]
theorem wordsP_all (ps : List (ByteArray × ByteArray)) (h : ∀ k, k < ps.length → wordB (pj ps k).1 = true) : wordsP ps = true := by
  unfold wordsP
  rw [List.all_eq_true]
  intro p hp
  obtain ⟨k, hk, rfl⟩ := List.mem_iff_getElem.1 hp
  have := h k hk
  unfold pj at this
  rw [List.getD_eq_getElem?_getD, List.getElem?_eq_getElem hk] at this
  exact this
theorem print_ok (ps : List (ByteArray × ByteArray)) (h : ∀ k, k < ps.length → wordB (pj ps k).1 = true) (hl : (joinL ps).length ≤ 4096) : printP ps = (bs (joinL ps), 0) := by
  unfold printP; rw [if_pos ⟨wordsP_all ps h, hl⟩]

/-! What is printed is read again. -/
theorem wordN_at (s : ByteArray) (r k : Nat) (h : wordN s r k = true) : ∀ j, k ≤ j → j < k + r → okW (sb s j) = true := by
  induction r generalizing k with
  | zero => intro j h1 h2; omega
  | succ r ih =>
    intro j h1 h2
    rw [wordN] at h
    split at h
    · cases h
    · rename_i hk
      rcases Nat.eq_or_lt_of_le h1 with rfl | h3
      · simpa using hk
      · exact ih (k + 1) h j h3 (by omega)
theorem word_bytes (s : ByteArray) (h : wordB s = true) : s.data.toList ≠ [] ∧ ∀ x ∈ s.data.toList, x ≠ 61 ∧ x ≠ 32 := by
  unfold wordB at h
  rw [Bool.and_eq_true] at h
  refine ⟨?_, ?_⟩
  · intro e
    have h2 := of_decide_eq_true h.2
    rw [← list_size, e] at h2
    exact h2 rfl
  · intro x hx
    obtain ⟨j, hj, rfl⟩ := List.mem_iff_getElem.1 hx
    have h1 := wordN_at s s.size 0 h.1 j (Nat.zero_le _) (by rw [list_size] at hj; omega)
    have e : s.data.toList[j] = s.data.toList.getD j 0 := by rw [List.getD_eq_getElem?_getD, List.getElem?_eq_getElem hj]; rfl
    rw [e]
    constructor
    · intro hc
      rw [(sb_is s j 61).2 hc] at h1; exact absurd h1 (by decide)
    · intro hc
      rw [(sb_is s j 32).2 hc] at h1; exact absurd h1 (by decide)
theorem indexByte_app (a b : List UInt8) (c : UInt8) (h : ∀ x ∈ a, x ≠ c) : Lib.indexByte (a ++ c :: b) c = (a.length : Int) := by
  induction a with
  | nil => exact indexByte_self c b
  | cons x a ih =>
    have := ih (fun y hy => h y (List.mem_cons_of_mem _ hy))
    rw [List.cons_append, indexByte_cons _ _ _ (h x (List.mem_cons_self ..)), this, if_neg (by omega)]
    simp
theorem qL_esc (v r : List UInt8) : qL (escL v ++ 39 :: r) = some (v, r) := by
  induction v with
  | nil => show qL (39 :: r) = _; rw [qL_cons, if_pos rfl]
  | cons x v ih =>
    have e : escL (x :: v) = (if x = 39 ∨ x = 92 then [92, x] else [x]) ++ escL v := rfl
    rw [e]
    by_cases h : x = 39 ∨ x = 92
    · rw [if_pos h]
      show qL (92 :: x :: (escL v ++ 39 :: r)) = _
      rw [qL_cons, if_neg (by decide), if_pos rfl, qE_esc, ih]; rfl
    · rw [if_neg h]
      show qL (x :: (escL v ++ 39 :: r)) = _
      rw [qL_cons, if_neg (fun e => h (Or.inl e)), if_neg (fun e => h (Or.inr e)), ih]; rfl
theorem valL_quote (t : List UInt8) : valL (39 :: t) = qL t := by unfold valL; simp
theorem pairL_item (p : ByteArray × ByteArray) (r : List UInt8) (hw : wordB p.1 = true) (hr : okEnd r = true) : pairL (itemL p ++ r) = some (p, r) := by
  obtain ⟨_, hb⟩ := word_bytes p.1 hw
  have e : itemL p ++ r = p.1.data.toList ++ 61 :: (39 :: (escL p.2.data.toList ++ 39 :: r)) := by unfold itemL; simp
  have hi := indexByte_app p.1.data.toList (39 :: (escL p.2.data.toList ++ 39 :: r)) 61 (fun x hx => (hb x hx).1)
  rw [e]
  generalize hT : (39 :: (escL p.2.data.toList ++ 39 :: r)) = T at hi ⊢
  have hc : cutAt (p.1.data.toList ++ 61 :: T) 61 = p.1.data.toList.length := by unfold cutAt; rw [hi, if_neg (by omega)]; omega
  have h1 : (p.1.data.toList ++ 61 :: T).take p.1.data.toList.length = p.1.data.toList := by simp
  have h2 : (p.1.data.toList ++ 61 :: T).drop (p.1.data.toList.length + 1) = T := by
    rw [← List.drop_drop, List.drop_left]; rfl
  unfold pairL
  rw [if_neg (by rw [hi]; omega), hc, h1, bs_of, if_neg (by rw [hw]; decide), h2, ← hT]
  have h3 : valL (39 :: (escL p.2.data.toList ++ 39 :: r)) = some (p.2.data.toList, r) := by
    rw [valL_quote]; exact qL_esc _ _
  rw [h3]
  simp only [hr, if_true, bs_of]
theorem tailL_end (ps : List (ByteArray × ByteArray)) : okEnd (tailL ps) = true := by
  cases ps with
  | nil => rfl
  | cons p ps => rfl
theorem item_head (p : ByteArray × ByteArray) (r : List UInt8) (hw : wordB p.1 = true) : ∃ x t, itemL p ++ r = x :: t ∧ (itemL p ++ r).dropWhile (· == 32) = x :: t := by
  obtain ⟨hne, hb⟩ := word_bytes p.1 hw
  cases hp : p.1.data.toList with
  | nil => exact absurd hp hne
  | cons x t =>
    have e : itemL p ++ r = x :: (t ++ (61 :: 39 :: (escL p.2.data.toList ++ [39])) ++ r) := by unfold itemL; rw [hp]; rfl
    have hx : (x == 32) = false := by
      have := (hb x (by rw [hp]; exact List.mem_cons_self ..)).2
      simpa using this
    refine ⟨x, _, e, ?_⟩
    rw [e, List.dropWhile_cons, hx]; rfl
theorem parse_item (n : Nat) (p : ByteArray × ByteArray) (r : List UInt8) (hw : wordB p.1 = true) (hr : okEnd r = true) : parseL (n + 1) (itemL p ++ r) = (parseL n r).map fun q => p :: q := by
  obtain ⟨x, t, e, hd⟩ := item_head p r hw
  have hp := pairL_item p r hw hr
  rw [e] at hp
  exact parse_pair n _ x t p r hd hp
theorem parse_tail (ps : List (ByteArray × ByteArray)) (hw : wordsP ps = true) : ∀ n, ps.length ≤ n → parseL n (tailL ps) = some ps := by
  induction ps with
  | nil => intro n _; exact parse_blank n [] rfl
  | cons p ps ih =>
    intro n hn
    obtain ⟨m, rfl⟩ : ∃ m, n = m + 1 := ⟨n - 1, by simp at hn; omega⟩
    have hw' := hw
    unfold wordsP at hw'
    rw [List.all_cons, Bool.and_eq_true] at hw'
    show parseL (m + 1) (32 :: (itemL p ++ tailL ps)) = _
    rw [parse_skip, parse_item m p _ hw'.1 (tailL_end ps), ih hw'.2 m (by simp at hn; omega)]; rfl
theorem parse_join (ps : List (ByteArray × ByteArray)) (hw : wordsP ps = true) : ∀ n, ps.length ≤ n → parseL n (joinL ps) = some ps := by
  intro n hn
  cases ps with
  | nil => exact parse_blank n [] rfl
  | cons p ps =>
    obtain ⟨m, rfl⟩ : ∃ m, n = m + 1 := ⟨n - 1, by simp at hn; omega⟩
    have hw' := hw
    unfold wordsP at hw'
    rw [List.all_cons, Bool.and_eq_true] at hw'
    rw [joinL_cons, parse_item m p _ hw'.1 (tailL_end ps), parse_tail ps hw'.2 m (by simp at hn; omega)]; rfl
theorem join_count (ps : List (ByteArray × ByteArray)) : ps.length ≤ (joinL ps).length := by
  have key : ∀ qs : List (ByteArray × ByteArray), qs.length ≤ (tailL qs).length := by
    intro qs
    induction qs with
    | nil => exact Nat.le_refl _
    | cons q qs ih => 
      have e : tailL (q :: qs) = 32 :: itemL q ++ tailL qs := rfl
      rw [e]; simp; omega
  cases ps with
  | nil => exact Nat.le_refl _
  | cons p ps =>
    rw [joinL_cons]
    have := key ps
    unfold itemL
    simp; omega
theorem back_plain (ps : List (ByteArray × ByteArray)) (h : (printP ps).2 = 0) : parseP (printP ps).1 = (ps, 0) := by
  unfold printP at h ⊢
  by_cases hc : wordsP ps = true ∧ (joinL ps).length ≤ 4096
  · rw [if_pos hc]
    show parseP (bs (joinL ps)) = _
    rw [parseP_short _ (by rw [bs_size]; omega), bs_list, bs_size, parse_join ps hc.1 _ (by have := join_count ps; omega)]; rfl
  · rw [if_neg hc] at h; exact absurd h (by decide)
end Go.Proofs.YtaghhmnigjapoaaDoor
