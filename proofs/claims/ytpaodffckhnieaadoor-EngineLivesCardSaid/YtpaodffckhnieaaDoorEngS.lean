/-
  Which texts an engine refuses: the program's map and the reference's list. No condition.
-/
import Derived.Test.YtpaodffckhnieaaDoorEngO
import Derived.Maps.Views
import Derived.Maps.Ext
import Derived.Sort.KeysCollected
import Derived.Lib.OthersKept
namespace Go.Proofs.YtpaodffckhnieaaDoor
open Go.RowKit Go.Maps
set_option linter.unusedVariables false
set_option linter.unusedSimpArgs false
set_option maxRecDepth 100000

/-- Whether a list has a text. -/
def isIn (x : ByteArray) (l : List ByteArray) : Bool := l.any fun y => decide (y = x)
theorem isIn_snoc (x y : ByteArray) (l : List ByteArray) : isIn x (l ++ [y]) = (isIn x l || decide (y = x)) := by
  unfold isIn; rw [List.any_append]; simp
/-- A list without a text. -/
def wout (s : ByteArray) (l : List ByteArray) : List ByteArray := l.filter fun y => !decide (y = s)
theorem isIn_wout (x s : ByteArray) (l : List ByteArray) : isIn x (wout s l) = (isIn x l && !decide (s = x)) := by
  unfold isIn wout
  induction l with
  | nil => rfl
  | cons y l ih =>
    rw [List.filter_cons]
    by_cases hy : y = s
    · subst hy
      simp only [decide_true, Bool.not_true, Bool.false_eq_true, if_false, List.any_cons]
      rw [ih]
      by_cases hx : y = x
      · subst hx; simp
      · simp [hx]
    · simp only [hy, decide_false, Bool.not_false, if_true, List.any_cons]
      rw [ih]
      by_cases hx : y = x
      · subst hx
        have : s ≠ y := fun e => hy e.symm
        simp [this]
      · simp [hx]
theorem wout_length (s : ByteArray) (l : List ByteArray) : (wout s l).length ≤ l.length := List.length_filter_le _ _
def turnL (s : ByteArray) (l : List ByteArray) : List ByteArray := if isIn s l = true then wout s l else l ++ [s]
/-- A map says which texts a list has. -/
def Says (D : DataW Unit) (l : List ByteArray) : Prop := ∀ x : ByteArray, D.atKey (.string x.data.toList) (.lit (.bool false)) = .lit (.bool (isIn x l))
theorem says_nil : Says (.map []) [] := fun x => rfl
theorem key_ne {x s : ByteArray} (h : x ≠ s) : (Lit.string x.data.toList) ≠ .string s.data.toList := by
  intro e
  have e2 : x.data.toList = s.data.toList := by injection e
  apply h
  obtain ⟨a⟩ := x
  obtain ⟨b⟩ := s
  congr 1
  exact Array.toList_inj.1 e2
theorem says_put {D : DataW Unit} {l : List ByteArray} (h : Says D l) (hm : IsMap D) (s : ByteArray) : Says (D.put (.string s.data.toList) (.lit (.bool true))) (l ++ [s]) := by
  intro x
  rw [isIn_snoc]
  by_cases hx : x = s
  · subst hx
    rw [atKey_put_same hm (show WideAt.IsKeyLit (.string x.data.toList) from trivial)]
    simp
  · rw [atKey_put_other (key_ne hx), h x]
    have : s ≠ x := fun e => hx e.symm
    simp [this]
theorem says_del {D : DataW Unit} {l : List ByteArray} (h : Says D l) (s : ByteArray) : Says (D.del (.string s.data.toList)) (wout s l) := by
  intro x
  rw [isIn_wout]
  by_cases hx : x = s
  · subst hx
    rw [atKey_del_same]
    simp
  · rw [atKey_del_other (key_ne hx), h x]
    have : s ≠ x := fun e => hx e.symm
    simp [this]
/-- An engine that refuses the texts of a list. -/
def EngS (w : World) (g m k : Nat) (l : List ByteArray) (n : Int) : Prop := ∃ D, Eng w g m k D n ∧ Says D l
theorem EngS.below {w w' : World} {g m k : Nat} {l : List ByteArray} {n : Int} (h : EngS w g m k l n) (hb : Below w.heap.size w w') : EngS w' g m k l n := by
  obtain ⟨D, h1, h2⟩ := h
  exact ⟨D, h1.below hb, h2⟩
theorem Eng.same {w w' : World} {g m k : Nat} {D : DataW Unit} {n : Int} (h : Eng w g m k D n) (hg : w'.heap[g]? = w.heap[g]?) (hm : w'.heap[m]? = w.heap[m]?) : Eng w' g m k D n := by
  refine ⟨hg.trans h.head, ?_⟩
  obtain ⟨es, clock, he, r⟩ := h.map
  exact ⟨es, clock, hm.trans he, r⟩
theorem EngS.same {w w' : World} {g m k : Nat} {l : List ByteArray} {n : Int} (h : EngS w g m k l n) (hg : w'.heap[g]? = w.heap[g]?) (hm : w'.heap[m]? = w.heap[m]?) : EngS w' g m k l n := by
  obtain ⟨D, h1, h2⟩ := h
  exact ⟨D, h1.same hg hm, h2⟩
theorem EngS.more {w : World} {g m k : Nat} {l : List ByteArray} {n : Int} (h : EngS w g m k l n) : EngS w g m (k + 1) l n := by
  obtain ⟨D, h1, h2⟩ := h
  exact ⟨D, h1.more, h2⟩
theorem EngS.head {w : World} {g m k : Nat} {l : List ByteArray} {n : Int} (h : EngS w g m k l n) : Blk w g 52 #[.map (some m), .int .i64 n] := by
  obtain ⟨D, h1, h2⟩ := h
  exact h1.head
theorem EngS.lts {w : World} {g m k : Nat} {l : List ByteArray} {n : Int} (h : EngS w g m k l n) : g < w.heap.size ∧ m < w.heap.size ∧ m ≠ g := by
  obtain ⟨D, h1, h2⟩ := h
  exact ⟨h1.head.lt, h1.map.lt, map_ne h1.map h1.head⟩
theorem looks {w : World} {m k : Nat} {D : DataW Unit} {l : List ByteArray} (h : w.ownsMap Tryd.prog 9 (plainElem Tryd.prog 4) m k D) (hs : Says D l) (x : ByteArray) (hx : x.size ≤ maxLen) :
    (Instr.lookup 45 (.map (some m)) (.string x) false).run Tryd.prog w = .ok (.bool (isIn x l)) w := by
  obtain ⟨b, h1, h2⟩ := lookup_bool h (key_str x hx)
  rw [hs x] at h2
  have hb : isIn x l = b := by injection h2 with h2; injection h2
  rw [h1, hb]

theorem turn_set (g m k : Nat) (l : List ByteArray) (n : Int) (s : ByteArray) (w : World) (h : EngS w g m k l n) (hs : s.size ≤ maxLen) (hk : k < 1000) :
    Calls Tryd.prog 8 #[.pointer (some ⟨g, 0, none⟩), .string s] w fun e w' => e = .returned (.bool (!isIn s l)) ∧ EngS w' g m (k + 1) (turnL s l) n ∧ Kept g m w w' := by
  obtain ⟨D, h, hsay⟩ := h
  have hkey := key_str s hs
  have c0 := h.c0
  have hown := h.map
  have Hl := hide h
  have HSay := hide hsay
  obtain ⟨es, hes, _⟩ := hown.entries (string_keyed Tryd.underlying9)
  have HM : Hid (IsMap D) := ⟨es, hes⟩
  have hrun := looks hown hsay s hs
  have HT : Hid (turnL s l = if isIn s l = true then wout s l else l ++ [s]) := rfl
  clear h hsay hes
  generalize isIn s l = b at hrun HT ⊢
  go_enter Tryd.func8, Tryd.ntmps8
  go_wp2_with fail
  refine (ready_live g m k D n _ Hl.out).mono ?_
  rintro e w1 ⟨rfl, rfl⟩
  rcases b with _ | _
  · go_wp2_with (at_mapUpdate; refine wpList_mapUpdate_in _ rfl _ _ _ 45 rfl 9 4 (string_keyed Tryd.underlying9) Tryd.underlying45 _ m k D rfl hown (by unfold maxLen; omega) _ _ _ rfl rfl hkey _ [] (plainElem_bool Tryd.underlying4 true) ?_; intro w3 hown3 hturn3)
    go_returns
    refine ⟨rfl, ⟨_, ⟨Hl.out.head.grown hturn3.grown (by simpa using (map_ne Hl.out.map Hl.out.head).symm), hown3⟩, ?_⟩, Kept.grown hturn3.grown⟩
    have ht := HT.out
    simp at ht
    rw [ht]
    exact says_put HSay.out HM.out s
  · go_wp2_with (at_delete; refine wpList_delete_own _ rfl _ _ 45 9 rfl 4 (string_keyed Tryd.underlying9) Tryd.underlying45 _ m k D rfl hown _ _ rfl hkey ?_; intro w3 hown3 hturn3)
    go_returns
    refine ⟨rfl, ⟨_, ⟨Hl.out.head.grown hturn3.grown (by simpa using (map_ne Hl.out.map Hl.out.head).symm), hown3.mono (Nat.le_succ _)⟩, ?_⟩, Kept.grown hturn3.grown⟩
    have ht := HT.out
    simp at ht
    rw [ht]
    exact says_del HSay.out s
theorem new_set (w : World) :
    Calls Tryd.prog 7 #[] w fun e w' => ∃ g m, EngS w' g m 0 [] 0 ∧ w.heap.size ≤ g ∧ w.heap.size ≤ m ∧ Below w.heap.size w w' ∧ e = .returned (.pointer (some ⟨g, 0, none⟩)) := by
  have hmm : ∀ w : World, (Instr.makeMap 45 none).run Tryd.prog w = .ok (.map (some w.heap.size)) (w.alloc (.map #[] 0)) := fun _ => by kernel_rfl
  go_enter Tryd.func7, Tryd.ntmps7
  go_wp2
  go_returns
  have hm := World.ownsMap_made (H := Unit) w Tryd.prog 9 (plainElem Tryd.prog 4)
  have hh := Blk.new (w.alloc (.map #[] 0)) 52 #[.map (some w.heap.size), .int .i64 0]
  have s2 : (w.alloc (.map #[] 0)).heap.size = w.heap.size + 1 := by simp
  rw [s2] at hh
  exact ⟨w.heap.size + 1, w.heap.size, ⟨.map [], ⟨hh, hm.alloc _⟩, says_nil⟩, by omega, Nat.le_refl _, ((Below.refl _ w).alloc (Nat.le_refl _) _).alloc (by simp) _, rfl⟩
end Go.Proofs.YtpaodffckhnieaaDoor
