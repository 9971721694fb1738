/-
  Where a word stands in lines: the plain law. No condition.
-/
import Derived.Test.YtlcflajkpkgejaaRepC
namespace Go.Proofs.Ytlcflajkpkgejaa
open Go.RowKit
set_option linter.unusedVariables false
set_option linter.unusedSimpArgs false

/-- Whether a line begins with a word. -/
def hitL (l p : List UInt8) : Bool := p.isPrefixOf l && (l.length == p.length || (l.drop p.length).getD 0 0 == 32)
def hit (s w : ByteArray) : Bool := hitL s.data.toList w.data.toList
def findL (w : ByteArray) : Nat → List ByteArray → Int
  | _, [] => -1
  | k, s :: r => if hit s w = true then (k : Int) else findL w (k + 1) r

theorem lineB_data (w : ByteArray) (L : List Int) : ∃ t, (lineB w L).data.toList = w.data.toList ++ t ∧ (t = [] ∨ t.getD 0 0 = 32) := by
  have h : ∀ (L : List Int) (u : ByteArray), ∃ t, (lineB u L).data.toList = u.data.toList ++ t := by
    intro L
    induction L with
    | nil => intro u; exact ⟨[], by simp [lineB]⟩
    | cons n L ih =>
      intro u
      obtain ⟨t, ht⟩ := ih (u ++ sp ++ text n)
      exact ⟨sp.data.toList ++ (text n).data.toList ++ t, by rw [lineB, ht]; simp [ByteArray.data_append]⟩
  cases L with
  | nil => exact ⟨[], by simp [lineB], .inl rfl⟩
  | cons n L =>
    obtain ⟨t, ht⟩ := h L (w ++ sp ++ text n)
    refine ⟨32 :: ((text n).data.toList ++ t), ?_, .inr rfl⟩
    rw [lineB, ht]
    simp [ByteArray.data_append, sp]
theorem prefix_self (p t : List UInt8) : p.isPrefixOf (p ++ t) = true := by
  rw [List.isPrefixOf_iff_prefix]; exact List.prefix_append p t
theorem hit_line (w : ByteArray) (L : List Int) : hit (lineB w L) w = true := by
  obtain ⟨t, ht, h2⟩ := lineB_data w L
  unfold hit hitL
  rw [ht, prefix_self, Bool.true_and, List.drop_left]
  rcases h2 with rfl | h2
  · simp
  · simp only [Bool.or_eq_true, beq_iff_eq]; exact .inr h2
theorem hit_other (w u : ByteArray) (L : List Int) (a b : UInt8) (x y : List UInt8) (hw : w.data.toList = a :: x) (hu : u.data.toList = b :: y) (hab : a ≠ b) : hit (lineB w L) u = false := by
  obtain ⟨t, ht, _⟩ := lineB_data w L
  unfold hit hitL
  rw [ht, hw, hu]
  have : (b == a) = false := by simpa using fun e => hab e.symm
  simp [List.isPrefixOf, this]
theorem findL_skip (w : ByteArray) (A R : List ByteArray) (k : Nat) (h : ∀ s ∈ A, hit s w = false) : findL w k (A ++ R) = findL w (k + A.length) R := by
  induction A generalizing k with
  | nil => rfl
  | cons s A ih =>
    rw [List.cons_append, findL, if_neg (by rw [h s (List.mem_cons_self ..)]; simp), ih (k + 1) (fun x hx => h x (List.mem_cons_of_mem _ hx))]
    congr 1
    simp; omega
theorem findL_none (w : ByteArray) (A : List ByteArray) (k : Nat) (h : ∀ s ∈ A, hit s w = false) : findL w k A = -1 := by
  have := findL_skip w A [] k h
  rw [List.append_nil] at this
  rw [this]; rfl
theorem findL_here (w s : ByteArray) (R : List ByteArray) (k : Nat) (h : hit s w = true) : findL w k (s :: R) = k := by rw [findL, if_pos h]

instance cvInh : Inhabited CV := ⟨⟨0, 0, 0, [], none, 0⟩⟩
instance svInh : Inhabited SV := ⟨⟨0, 0, 0, 0, [], none, 0, none, 0, 0⟩⟩
/-- The lines of the first k clients, and servers. -/
def clN (C : List CV) : Nat → List ByteArray
  | 0 => []
  | k + 1 => if (C.getD k default).phase = 0 then clN C k else clN C k ++ [cvLine k (C.getD k default)]
def svN (S : List SV) : Nat → List ByteArray
  | 0 => []
  | k + 1 => svN S k ++ [svLine k (S.getD k default)]
/-- A view's lines. -/
def linesB (C : List CV) (S : List SV) (n : Int) (W : List Int) : List ByteArray := clN C C.length ++ svN S S.length ++ [lineB registryW [n], lineB waitingW W]
/-- How many of the first k clients came. -/
def cameN (C : List CV) : Nat → Nat
  | 0 => 0
  | k + 1 => if (C.getD k default).phase = 0 then cameN C k else cameN C k + 1
theorem clN_length (C : List CV) (k : Nat) : (clN C k).length = cameN C k := by
  induction k with
  | zero => rfl
  | succ k ih =>
    unfold clN cameN
    split
    · exact ih
    · rw [List.length_append, ih]; rfl
theorem cameN_le (C : List CV) (k : Nat) : cameN C k ≤ k := by
  induction k with
  | zero => exact Nat.le_refl _
  | succ k ih => unfold cameN; split <;> omega
theorem svN_length (S : List SV) (k : Nat) : (svN S k).length = k := by
  induction k with
  | zero => rfl
  | succ k ih => unfold svN; rw [List.length_append, ih]; rfl
theorem clN_mem (C : List CV) (k : Nat) : ∀ s ∈ clN C k, ∃ L, s = lineB clientW L := by
  induction k with
  | zero => intro s h; cases h
  | succ k ih =>
    unfold clN
    split
    · exact ih
    · intro s h
      rcases List.mem_append.1 h with h | h
      · exact ih s h
      · exact ⟨_, List.mem_singleton.1 h⟩
theorem svN_mem (S : List SV) (k : Nat) : ∀ s ∈ svN S k, ∃ L, s = lineB serverW L := by
  induction k with
  | zero => intro s h; cases h
  | succ k ih =>
    unfold svN
    intro s h
    rcases List.mem_append.1 h with h | h
    · exact ih s h
    · exact ⟨_, List.mem_singleton.1 h⟩
theorem linesB_length (C : List CV) (S : List SV) (n : Int) (W : List Int) : (linesB C S n W).length = cameN C C.length + S.length + 2 := by
  unfold linesB
  rw [List.length_append, List.length_append, clN_length, svN_length]; rfl
theorem not_client (u : ByteArray) (b : UInt8) (y : List UInt8) (hu : u.data.toList = b :: y) (hb : (99 : UInt8) ≠ b) (C : List CV) (k : Nat) : ∀ s ∈ clN C k, hit s u = false := by
  intro s h
  obtain ⟨L, rfl⟩ := clN_mem C k s h
  exact hit_other clientW u L 99 b [108, 105, 101, 110, 116] y rfl hu hb
theorem not_server (u : ByteArray) (b : UInt8) (y : List UInt8) (hu : u.data.toList = b :: y) (hb : (115 : UInt8) ≠ b) (S : List SV) (k : Nat) : ∀ s ∈ svN S k, hit s u = false := by
  intro s h
  obtain ⟨L, rfl⟩ := svN_mem S k s h
  exact hit_other serverW u L 115 b [101, 114, 118, 101, 114] y rfl hu hb
theorem find_registry (C : List CV) (S : List SV) (n : Int) (W : List Int) : findL registryW 0 (linesB C S n W) = (cameN C C.length + S.length : Nat) := by
  unfold linesB
  rw [List.append_assoc, findL_skip _ _ _ _ (not_client registryW 114 [101, 103, 105, 115, 116, 114, 121] rfl (by decide) C _), findL_skip _ _ _ _ (not_server registryW 114 [101, 103, 105, 115, 116, 114, 121] rfl (by decide) S _),
    findL_here _ _ _ _ (hit_line _ _), clN_length, svN_length, Nat.zero_add]
theorem svN_cons (S : List SV) (k : Nat) : svN S (k + 1) = svLine 0 (S.getD 0 default) :: (svN S (k + 1)).tail := by
  induction k with
  | zero => rfl
  | succ k ih =>
    conv => lhs; rw [svN, ih]
    conv => rhs; rw [svN, ih]
    rfl
theorem find_server (C : List CV) (S : List SV) (n : Int) (W : List Int) : findL serverW 0 (linesB C S n W) = if S.length = 0 then -1 else (cameN C C.length : Int) := by
  unfold linesB
  rw [List.append_assoc, findL_skip _ _ _ _ (not_client serverW 115 [101, 114, 118, 101, 114] rfl (by decide) C _), clN_length, Nat.zero_add]
  split
  · rename_i h
    rw [h]
    refine findL_none _ _ _ ?_
    intro s hs
    simp only [svN, List.nil_append, List.mem_cons, List.not_mem_nil, or_false] at hs
    rcases hs with rfl | rfl
    · exact hit_other registryW serverW _ 114 115 [101, 103, 105, 115, 116, 114, 121] [101, 114, 118, 101, 114] rfl rfl (by decide)
    · exact hit_other waitingW serverW _ 119 115 [97, 105, 116, 105, 110, 103] [101, 114, 118, 101, 114] rfl rfl (by decide)
  · rename_i h
    obtain ⟨k, hk⟩ : ∃ k, S.length = k + 1 := ⟨S.length - 1, by omega⟩
    rw [hk, svN_cons, List.cons_append]; exact findL_here _ _ _ _ (hit_line _ _)
theorem clN_cons (C : List CV) (k : Nat) (h : cameN C k ≠ 0) : ∃ L R, clN C k = lineB clientW L :: R := by
  have hl := clN_length C k
  rcases hq : clN C k with _ | ⟨s, R⟩
  · rw [hq] at hl; exact absurd hl.symm h
  · obtain ⟨L, rfl⟩ := clN_mem C k s (by rw [hq]; exact List.mem_cons_self ..)
    exact ⟨L, R, rfl⟩
theorem find_client (C : List CV) (S : List SV) (n : Int) (W : List Int) (h : cameN C C.length ≠ 0) : findL clientW 0 (linesB C S n W) = 0 := by
  unfold linesB
  obtain ⟨L, R, hq⟩ := clN_cons C _ h
  rw [hq, List.cons_append, List.cons_append, findL_here _ _ _ _ (hit_line _ _)]; rfl
end Go.Proofs.Ytlcflajkpkgejaa
