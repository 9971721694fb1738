/-
  A set of texts kept in a map; the program's set. No condition but on lengths.
-/
import Derived.Test.YtlmelbijgckfpaaDoorIniE
import Derived.Test.YtlmelbijgckfpaaDoorParse
import Derived.Maps.Own
import Derived.Maps.OwnIn
import Derived.WideKeyEntry
import Derived.ChangeKeys
namespace Go.Proofs.YtlmelbijgckfpaaDoor
open Go.RowKit Go.Maps
set_option linter.unusedVariables false
set_option linter.unusedSimpArgs false
set_option maxRecDepth 100000

theorem find_insert {H : Type} (q : Lit × DataW H → Bool) (x : Lit × DataW H) : ∀ l : List (Lit × DataW H), (q x = true → ∀ y ∈ l, q y = false) → (DataW.insert x l).find? q = if q x = true then some x else l.find? q
  | [], _ => by
    unfold DataW.insert
    cases h : q x <;> simp [h]
  | y :: r, hu => by
    unfold DataW.insert
    have ih := find_insert q x r (fun h z hz => hu h z (List.mem_cons_of_mem _ hz))
    split
    · cases h : q x <;> simp [h]
    · rw [List.find?_cons, ih]
      cases h : q x with
      | true => simp [hu h y (List.mem_cons_self ..)]
      | false => cases h2 : q y <;> simp [h2]
theorem same_str (s : List UInt8) (l : Lit) : l.sameKey (.string s) = true ↔ l = .string s := by
  constructor
  · exact WideAt.sameKey_eq
  · intro e
    subst e
    simp [Lit.sameKey]
theorem same_not {s : List UInt8} {l : Lit} (h : l ≠ .string s) : l.sameKey (.string s) = false := by
  rw [Bool.eq_false_iff]
  exact fun e => h ((same_str s l).1 e)
theorem atKey_put_str {H : Type} (es : List (Lit × DataW H)) (s t : List UInt8) (d z : DataW H) :
    ((DataW.map es).put (.string s) d).atKey (.string t) z = if s = t then d else (DataW.map es).atKey (.string t) z := by
  rw [DataW.put_eq]
  unfold ChangeMaps.putKey DataW.atKey
  simp only []
  rw [find_insert]
  · by_cases h : s = t
    · subst h
      have : (Lit.string s).sameKey (.string s) = true := (same_str s _).2 rfl
      simp [this]
    · have hf : (Lit.string s).sameKey (.string t) = false := same_not (fun e => h (by cases e; rfl))
      simp only [hf, if_neg h, List.find?_filter]
      have : (fun a : Lit × DataW H => (ChangeMaps.notKey (.string s) a && a.1.sameKey (.string t))) = fun p => p.1.sameKey (.string t) := by
        funext a
        unfold ChangeMaps.notKey
        by_cases h2 : a.1 = .string t
        · rw [h2, same_not (s := s) (l := .string t) (fun e => h (by cases e; rfl))]
          simp
        · rw [same_not h2]; simp
      simp [this]
  · intro hx y hy
    have hst : s = t := by have := (same_str t _).1 hx; cases this; rfl
    subst hst
    have := (List.mem_filter.1 hy).2
    unfold ChangeMaps.notKey at this
    simpa using this
/-- Block M is a map that has the texts of a list, each told true. -/
def SetM (w : World) (M : Nat) (l : List ByteArray) : Prop :=
  ∃ D : DataW Unit, w.ownsMap Tryd.prog 9 (plainElem Tryd.prog 4) M l.length D ∧ ∀ x : ByteArray, D.atKey (.string x.data.toList) (.lit (.bool false)) = .lit (.bool (isIn x l))
theorem key_str (s : ByteArray) (hs : s.size ≤ maxLen) : keyOf Tryd.prog 9 (.string s) = some (.string s.data.toList) := by
  rw [keyOf_string Tryd.underlying9]
  unfold mapKey
  simp [Tryd.underlying9, hs]
theorem SetM.made (w : World) : SetM (w.alloc (.map #[] 0)) w.heap.size [] := ⟨_, World.ownsMap_made w _ _ _, fun x => rfl⟩
theorem SetM.kept {w w' : World} {M : Nat} {l : List ByteArray} {row : Option Nat} (h : SetM w M l) (hg : w.grownBy w' row) (hne : some M ≠ row) : SetM w' M l := by
  obtain ⟨D, h1, h2⟩ := h
  exact ⟨D, h1.kept hg hne, h2⟩
theorem SetM.same {w w' : World} {M : Nat} {l : List ByteArray} (h : SetM w M l) (he : w'.heap[M]? = w.heap[M]?) : SetM w' M l := by
  obtain ⟨D, ⟨es, clock, h1, h3⟩, h2⟩ := h
  exact ⟨D, ⟨es, clock, he.trans h1, h3⟩, h2⟩
theorem SetM.look {w : World} {M : Nat} {l : List ByteArray} (h : SetM w M l) (x : ByteArray) (hx : x.size ≤ maxLen) :
    (Instr.lookup 41 (.map (some M)) (.string x) false).run Tryd.prog w = .ok (.bool (isIn x l)) w := by
  obtain ⟨D, h1, h2⟩ := h
  have hz : (zeroValue 4).run Tryd.prog w = .ok (.bool false) w := by kernel_rfl
  obtain ⟨v, ps, hrun, hv⟩ := h1.lookup (string_keyed Tryd.underlying9) Tryd.underlying41 hz (plainElem_bool Tryd.underlying4 false) (key_str x hx)
  rw [h2 x] at hv
  rw [hrun]
  have hv2 := hv
  unfold plainElem at hv2
  rw [Tryd.underlying4] at hv2
  cases v <;> simp at hv2
  obtain ⟨rfl, _⟩ := hv2
  rfl
end Go.Proofs.YtlmelbijgckfpaaDoor
