/-
  What settings mean: no program in sight. No condition.
-/
import Derived.Test.YtlmelbijgckfpaaDoorBytes
import Derived.Test.YtlmelbijgckfpaaDoorDigitsPlain
import Derived.Lib.TrimByte
namespace Go.Proofs.YtlmelbijgckfpaaDoor
open Go.RowKit
set_option linter.unusedVariables false
set_option linter.unusedSimpArgs false
set_option maxRecDepth 100000

/-! Lines. -/
def linesL : Nat → List UInt8 → List (List UInt8)
  | 0, l => [l]
  | n + 1, l => if Lib.indexByte l 10 < 0 then [l] else l.take (Lib.indexByte l 10).toNat :: linesL n (l.drop ((Lib.indexByte l 10).toNat + 1))
theorem linesL_none (n : Nat) (l : List UInt8) (h : Lib.indexByte l 10 < 0) : linesL n l = [l] := by
  cases n with
  | zero => rfl
  | succ n => rw [linesL, if_pos h]
theorem linesL_some (n p : Nat) (l : List UInt8) (h : Lib.indexByte l 10 = (p : Int)) : linesL (n + 1) l = l.take p :: linesL n (l.drop (p + 1)) := by
  have e : (p : Int).toNat = p := by omega
  rw [linesL, h, if_neg (by omega), e]
theorem linesL_fuel : ∀ (n m : Nat) (l : List UInt8), l.length ≤ n → l.length ≤ m → linesL n l = linesL m l
  | n, m, l, hn, hm => by
    by_cases h : Lib.indexByte l 10 < 0
    · rw [linesL_none n l h, linesL_none m l h]
    · obtain ⟨p, hp⟩ : ∃ p : Nat, Lib.indexByte l 10 = (p : Int) := ⟨(Lib.indexByte l 10).toNat, by omega⟩
      have hlt := indexByte_lt l 10
      rw [hp] at hlt
      cases n with
      | zero => omega
      | succ n =>
        cases m with
        | zero => omega
        | succ m => rw [linesL_some n p l hp, linesL_some m p l hp, linesL_fuel n m _ (by rw [List.length_drop]; omega) (by rw [List.length_drop]; omega)]
def lines (l : List UInt8) : List (List UInt8) := linesL l.length l
theorem lines_none (l : List UInt8) (h : Lib.indexByte l 10 < 0) : lines l = [l] := linesL_none _ l h
theorem lines_some (l : List UInt8) (p : Nat) (h : Lib.indexByte l 10 = (p : Int)) : lines l = l.take p :: lines (l.drop (p + 1)) := by
  have hlt := indexByte_lt l 10
  rw [h] at hlt
  unfold lines
  rw [linesL_fuel l.length ((l.length - 1) + 1) l (by omega) (by omega), linesL_some _ p l h, linesL_fuel (l.length - 1) (l.drop (p + 1)).length _ (by rw [List.length_drop]; omega) (Nat.le_refl _)]
/-- The lines of what is left, 'pre' ahead of it. -/
def linesM (pre l : List UInt8) : List (List UInt8) := if Lib.indexByte l 10 < 0 then [pre ++ l] else (pre ++ l.take (Lib.indexByte l 10).toNat) :: lines (l.drop ((Lib.indexByte l 10).toNat + 1))
theorem linesM_nil (l : List UInt8) : linesM [] l = lines l := by
  unfold linesM
  by_cases h : Lib.indexByte l 10 < 0
  · rw [if_pos h, lines_none l h]; rfl
  · rw [if_neg h, lines_some l (Lib.indexByte l 10).toNat (by omega)]; rfl
theorem linesM_end (pre : List UInt8) : linesM pre [] = [pre] := by
  unfold linesM
  rw [if_pos (by unfold Lib.indexByte; decide), List.append_nil]
theorem linesM_cut (pre t : List UInt8) : linesM pre (10 :: t) = pre :: linesM [] t := by
  rw [linesM_nil]
  unfold linesM
  rw [indexByte_self, if_neg (by decide)]
  show (pre ++ []) :: lines t = _
  rw [List.append_nil]
theorem linesM_step (c : UInt8) (pre t : List UInt8) (h : c ≠ 10) : linesM pre (c :: t) = linesM (pre ++ [c]) t := by
  have hge := Lib.indexByte_ge t 10
  unfold linesM
  rw [indexByte_cons c t 10 h]
  by_cases h2 : Lib.indexByte t 10 < 0
  · rw [if_pos h2, if_pos h2, if_pos (by decide)]; simp
  · rw [if_neg h2, if_neg h2, if_neg (by omega)]
    have e : (Lib.indexByte t 10 + 1).toNat = (Lib.indexByte t 10).toNat + 1 := by omega
    rw [e, List.take_succ_cons, List.drop_succ_cons]; simp
theorem lines_sum : ∀ (n : Nat) (l : List UInt8), (linesL n l).length ≤ l.length + 1 ∧ ∀ f ∈ linesL n l, f.length ≤ l.length
  | 0, l => by simp [linesL]
  | n + 1, l => by
    by_cases h : Lib.indexByte l 10 < 0
    · rw [linesL_none _ l h]; simp
    · obtain ⟨p, hp⟩ : ∃ p : Nat, Lib.indexByte l 10 = (p : Int) := ⟨(Lib.indexByte l 10).toNat, by omega⟩
      have hlt := indexByte_lt l 10
      rw [hp] at hlt
      obtain ⟨h1, h2⟩ := lines_sum n (l.drop (p + 1))
      rw [List.length_drop] at h1 h2
      rw [linesL_some n p l hp]
      refine ⟨by simp; omega, ?_⟩
      intro f hf
      rcases List.mem_cons.1 hf with rfl | hf
      · rw [List.length_take]; omega
      · have := h2 f hf; omega

/-! A line. -/
def trimS (s : ByteArray) : ByteArray := ⟨(Lib.trimB s.data.toList 32).toArray⟩
/-- A line's name and value. -/
def keyP (s : ByteArray) : Option (ByteArray × ByteArray) :=
  if Lib.indexByte s.data.toList 61 < 0 then none else some (trimS (s.extract 0 (Lib.indexByte s.data.toList 61).toNat), trimS (s.extract ((Lib.indexByte s.data.toList 61).toNat + 1) s.size))
def keyV (s : ByteArray) : Value := match keyP s with | none => .tuple #[.string ⟨#[]⟩, .string ⟨#[]⟩, .bool false] | some (a, b) => .tuple #[.string a, .string b, .bool true]
def nServers : ByteArray := ⟨#[115, 101, 114, 118, 101, 114, 115]⟩
def nCache : ByteArray := ⟨#[99, 97, 99, 104, 101]⟩
def nTable : ByteArray := ⟨#[116, 97, 98, 108, 101]⟩
def nMessage : ByteArray := ⟨#[109, 101, 115, 115, 97, 103, 101]⟩
def nBuffer : ByteArray := ⟨#[98, 117, 102, 102, 101, 114]⟩
def nQueue : ByteArray := ⟨#[113, 117, 101, 117, 101]⟩
def nParam : ByteArray := ⟨#[112, 97, 114, 97, 109, 46]⟩
/-- Which number a name names. -/
def nameIx (s : ByteArray) : Option Nat :=
  if s = nServers then some 0 else if s = nCache then some 1 else if s = nTable then some 2 else if s = nMessage then some 3 else if s = nBuffer then some 4 else if s = nQueue then some 5 else none
theorem nameIx_lt (s : ByteArray) (i : Nat) (h : nameIx s = some i) : i < 6 := by
  unfold nameIx at h
  repeat' split at h
  all_goals first | (cases h; decide) | cases h
/-- Whether a list has a text. -/
def isIn (x : ByteArray) (l : List ByteArray) : Bool := l.any fun y => decide (y = x)
theorem isIn_mem (x : ByteArray) (l : List ByteArray) : isIn x l = true ↔ x ∈ l := by
  unfold isIn
  rw [List.any_eq_true]
  constructor
  · rintro ⟨y, hy, h⟩
    rw [← of_decide_eq_true h]; exact hy
  · intro h
    exact ⟨x, h, decide_eq_true rfl⟩
theorem isIn_snoc (x y : ByteArray) (l : List ByteArray) : isIn x (l ++ [y]) = (isIn x l || decide (y = x)) := by
  unfold isIn; rw [List.any_append]; simp
/-- Settings: six numbers, and parameters. -/
structure Cfg where
  n : List Int
  ps : List (ByteArray × ByteArray)
deriving DecidableEq
def Cfg.zero : Cfg := ⟨[0, 0, 0, 0, 0, 0], []⟩
def Cfg.put (c : Cfg) (i : Nat) (v : Int) : Cfg := ⟨c.n.set i v, c.ps⟩
/-- Settings, and which numbers were told. -/
structure St where
  c : Cfg
  seen : List ByteArray
def St.zero : St := ⟨.zero, []⟩
/-- What one is told by a name and a value. -/
def setP (st : St) (name value : ByteArray) : Int × St :=
  match nameIx name with
  | none => (9, st)
  | some i =>
    match parseN value 2147483648 with
    | none => (4, st)
    | some v => if isIn name st.seen = true then (8, st) else (0, ⟨st.c.put i v, st.seen ++ [name]⟩)
def isParam (name : ByteArray) : Bool := Lib.hasPrefix name.data.toList nParam.data.toList && decide (6 < name.size)
def oneP (st : St) (s : ByteArray) : Int × St :=
  match keyP s with
  | none => (4, st)
  | some (name, value) =>
    if name.size = 0 then (4, st)
    else if isParam name = true then (0, ⟨⟨st.c.n, st.c.ps ++ [(name.extract 6 name.size, value)]⟩, st.seen⟩)
    else setP st name value
/-- Nothing stands there, or a remark. -/
def idleP (s : ByteArray) : Bool := decide ((trimS s).size = 0 ∨ sb (trimS s) 0 = 35)
def lineP (st : St) (s : ByteArray) : Int × St := if idleP s = true then (0, st) else oneP st s
/-- The lines one after the other; k: how many were ahead. -/
def doL (st : St) (k : Nat) : List ByteArray → Int × Nat × Cfg
  | [] => (0, 0, st.c)
  | l :: ls => if (lineP st l).1 = 0 then doL (lineP st l).2 (k + 1) ls else ((lineP st l).1, k + 1, Cfg.zero)
def linesB (s : ByteArray) : List ByteArray := (lines s.data.toList).map bs
/-- What Parse answers: an error, its line, settings. -/
def parseC (s : ByteArray) : Int × Nat × Cfg := if 65536 < s.size then (5, 0, Cfg.zero) else doL St.zero 0 (linesB s)
end Go.Proofs.YtlmelbijgckfpaaDoor
