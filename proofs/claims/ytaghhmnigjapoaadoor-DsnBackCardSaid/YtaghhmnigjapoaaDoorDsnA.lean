/-
  Words. No condition but on lengths.
-/
import Derived.Test.YtaghhmnigjapoaaDoorRows
import Derived.Test.YtaghhmnigjapoaaDoorKit
import Derived.Test.YtaghhmnigjapoaaDoorShelf
import Derived.Test.YtaghhmnigjapoaaDoorParsePlain
import Derived.Handy
import Derived.WalkKit
import Derived.WalkSpells
import Derived.Deep.QuietTactic
import Derived.BigQuiet
import Derived.Deep.DeepCutAuto
import Derived.Deep.CutBlock
import Derived.Lib.ConvBytes
namespace Go.Proofs.YtaghhmnigjapoaaDoor
open Go.RowKit
set_option linter.unusedVariables false
set_option linter.unusedSimpArgs false

theorem str_ne {s : ByteArray} {l : List UInt8} (h : s ≠ ⟨l.toArray⟩) : (s.toList == l) = false := by
  have : s.toList ≠ l := by
    rw [ByteArray.toList_eq]
    intro e
    exact h (by
      obtain ⟨a⟩ := s
      congr 1
      exact Array.toList_inj.1 e)
  simpa using this
theorem str_ne_empty {s : ByteArray} (h : s ≠ ByteArray.empty) : ¬ s.toList = [] := by
  have h2 : s ≠ ⟨([] : List UInt8).toArray⟩ := h
  have := str_ne h2
  simpa using this
theorem ext_iff (a b : ByteArray) : a = b ↔ a.data.toList = b.data.toList := by
  constructor
  · rintro rfl; rfl
  · intro h
    obtain ⟨x⟩ := a
    obtain ⟨y⟩ := b
    congr 1
    exact Array.toList_inj.1 h
theorem size_zero {s : ByteArray} (h : s.size = 0) : s = ByteArray.empty := by
  rw [ext_iff]
  exact List.eq_nil_of_length_eq_zero (by rw [Array.length_toList]; exact h)
theorem empty_tests (s : ByteArray) : (s.size = 0 ∧ s = ByteArray.empty) ∨ (0 < s.size ∧ ¬ s.toList = [] ∧ s.toList.isEmpty = false) := by
  by_cases h : s.size = 0
  · exact Or.inl ⟨h, size_zero h⟩
  · have hne : s ≠ ByteArray.empty := by intro e; rw [e] at h; exact h rfl
    exact Or.inr ⟨by omega, str_ne_empty hne, by simpa using str_ne_empty hne⟩
theorem bytesWorld_below (w : World) (e : TypeId) (s : ByteArray) : Below w.heap.size w (Lib.bytesWorld w e s) :=
  ⟨by simp [Lib.bytesWorld, World.freeze, World.alloc, World.drew, -World.alloc_eq, -World.drew_eq], by simp [Lib.bytesWorld, World.freeze, World.alloc, World.drew, -World.alloc_eq, -World.drew_eq], by simp [Lib.bytesWorld, World.freeze, World.alloc, World.drew, -World.alloc_eq, -World.drew_eq], by rw [Lib.bytesWorld_size]; omega, fun k hk => Lib.bytesWorld_at_old w e s k hk⟩

def okW (c : Int) : Bool := decide (c = 95) || (decide (97 ≤ c) && decide (c ≤ 122))
/-- Signs of a word only among the r bytes from byte k on. -/
def wordN (s : ByteArray) : Nat → Nat → Bool
  | 0, _ => true
  | r + 1, k => if okW (sb s k) = false then false else wordN s r (k + 1)
def wordB (s : ByteArray) : Bool := wordN s s.size 0 && decide (s.size ≠ 0)
theorem okW_cases (c : Int) (h0 : 0 ≤ c) (h1 : c ≤ 255) : (c < 95 ∧ okW c = false) ∨ (c = 95 ∧ okW c = true) ∨ (95 < c ∧ c < 97 ∧ okW c = false) ∨ (97 ≤ c ∧ c ≤ 122 ∧ okW c = true) ∨ (122 < c ∧ okW c = false) := by
  unfold okW
  by_cases a : c = 95 <;> by_cases b : 97 ≤ c <;> by_cases d : c ≤ 122 <;> simp [a, b, d] <;> omega

theorem word_any (s : ByteArray) (w : World) (hs : s.size ≤ 100000) :
    Calls Tryd.prog 18 #[.string s] w fun e w' => e = .returned (.bool (wordB s)) ∧ Below w.heap.size w w' := by
  have hR : Hid (wordB s = (wordN s s.size 0 && decide (s.size ≠ 0))) := rfl
  go_enter Tryd.func18, Tryd.ntmps18
  go_wp2_with fail
  rw [Lib.run_convert_string_bytes _ _ _ 5 _ Tryd.underlying9 Tryd.underlying53 Tryd.underlying5]
  simp only [Result.andThen]
  rw [Oper.upon_value]
  have hc : ∀ j, j < s.size → (Lib.bytesWorld w 5 s).cell? ⟨w.heap.size, j, none⟩ = some (.int .u8 (sb s j)) := fun j hj => Lib.bytesWorld_cell w _ s j hj
  have hB : Below w.heap.size w (Lib.bytesWorld w 5 s) := bytesWorld_below _ _ _
  generalize Lib.bytesWorld w 5 s = W at hc hB ⊢
  generalize grownCap w s.size 0 5 = cp
  have HC := hide hc
  have HB := hide hB
  clear hc hB
  go_wp2_with fail
  go_loop [8] (fun i => ∃ (k r : Nat), i = .int .i64 k ∧ Hid (k + r = s.size) ∧ k + r ≤ 100000 ∧ Hid (wordN s r k = wordN s s.size 0)) (fun i => (s.size - (intOf i).toNat))
  case atStart => exact ⟨0, s.size, rfl, Nat.zero_add _, by omega, rfl⟩
  case round =>
    obtain ⟨k, r, rfl, Hkr, hkr, Hc⟩ := hrel
    rcases r with _ | r
    · have hk : ¬ (k : Int) < s.size := by have := Hkr.out; omega
      rcases empty_tests s with ⟨h0, h1⟩ | ⟨h0, h1, h2⟩
      · have Hc2 : Hid (wordB s = false) := by show _ = _; unfold wordB; rw [decide_eq_false (by omega), Bool.and_false]
        clear h0
        subst h1
        go_wp2
        go_returns
        exact ⟨by rw [Hc2.out]; rfl, HB.out⟩
      · have Hc2 : Hid (wordB s = true) := by show _ = _; unfold wordB; rw [← Hc.out, decide_eq_true (by omega)]; rfl
        go_wp2
        go_returns
        exact ⟨by rw [Hc2.out]; rfl, HB.out⟩
    · have hk : (k : Int) < s.size := by have := Hkr.out; omega
      have hkn : k < s.size := by omega
      have hg := HC.out k hkn
      obtain ⟨h0, h255⟩ := sb_in s k
      rcases okW_cases (sb s k) h0 h255 with ⟨c1, c2⟩ | ⟨c1, c2⟩ | ⟨c0, c1, c2⟩ | ⟨c0, c1, c2⟩ | ⟨c1, c2⟩
      all_goals
        first
          | have Hc2 : Hid (wordB s = false) := by show _ = _; unfold wordB; rw [← Hc.out, wordN, if_pos c2]; rfl
          | have Hc2 : Hid (wordN s r (k + 1) = wordN s s.size 0) := by show _ = _; rw [← Hc.out, wordN, if_neg (by rw [c2]; decide)]
      all_goals
        clear c2
        first
          | rw [c1] at hg
          | (have d95 : (sb s k == 95) = false := by
              have : sb s k ≠ 95 := by omega
              simpa using this)
        go_wp2_with fail
      all_goals try (exfalso; rename_i hz; simp only [Bool.not_eq_false', decide_eq_true_eq] at hz; omega)
      all_goals
        first
          | (go_returns; exact ⟨congrArg (fun b => Ending.returned (.bool b)) Hc2.out.symm, HB.out⟩)
          | skip
      all_goals
        go_round
        case rel => exact ⟨k + 1, r, rfl, by have := Hkr.out; show k + 1 + r = _; omega, by omega, Hc2⟩
        case measure => simp [intOf]; omega

theorem rword_any (s : ByteArray) (w : World) (hs : s.size ≤ 100000) :
    Calls Tryd.prog 21 #[.string s] w fun e w' => e = .returned (.bool (wordB s)) ∧ w = w' := by
  go_enter Tryd.func21, Tryd.ntmps21
  go_wp2_with fail
  go_loop [3] (fun i => ∃ (k r : Nat), i = .int .i64 k ∧ Hid (k + r = s.size) ∧ k + r ≤ 100000 ∧ Hid (wordN s r k = wordN s s.size 0)) (fun i => (s.size - (intOf i).toNat))
  case atStart => exact ⟨0, s.size, rfl, Nat.zero_add _, by omega, rfl⟩
  case round =>
    obtain ⟨k, r, rfl, Hkr, hkr, Hc⟩ := hrel
    rcases r with _ | r
    · have hk : ¬ (k : Int) < s.size := by have := Hkr.out; omega
      rcases empty_tests s with ⟨h0, h1⟩ | ⟨h0, h1, h2⟩
      · have Hc2 : Hid (wordB s = false) := by show _ = _; unfold wordB; rw [decide_eq_false (by omega), Bool.and_false]
        clear h0
        subst h1
        go_wp2
        go_returns
        exact ⟨by rw [Hc2.out]; rfl, rfl⟩
      · have Hc2 : Hid (wordB s = true) := by show _ = _; unfold wordB; rw [← Hc.out, decide_eq_true (by omega)]; rfl
        go_wp2
        go_returns
        exact ⟨by rw [Hc2.out]; rfl, rfl⟩
    · have hk : (k : Int) < s.size := by have := Hkr.out; omega
      have hkn : k < s.size := by omega
      have hg := sb_get s k hkn
      obtain ⟨h0, h255⟩ := sb_in s k
      rcases okW_cases (sb s k) h0 h255 with ⟨c1, c2⟩ | ⟨c1, c2⟩ | ⟨c0, c1, c2⟩ | ⟨c0, c1, c2⟩ | ⟨c1, c2⟩
      all_goals
        first
          | have Hc2 : Hid (wordB s = false) := by show _ = _; unfold wordB; rw [← Hc.out, wordN, if_pos c2]; rfl
          | have Hc2 : Hid (wordN s r (k + 1) = wordN s s.size 0) := by show _ = _; rw [← Hc.out, wordN, if_neg (by rw [c2]; decide)]
      all_goals
        clear c2
        first
          | rw [c1] at hg
          | (have d95 : (sb s k == 95) = false := by
              have : sb s k ≠ 95 := by omega
              simpa using this)
        go_wp2_with fail
      all_goals try (exfalso; rename_i hz; simp only [Bool.not_eq_false', decide_eq_true_eq] at hz; omega)
      all_goals
        first
          | (go_returns; exact ⟨congrArg (fun b => Ending.returned (.bool b)) Hc2.out.symm, rfl⟩)
          | skip
      all_goals
        go_round
        case rel => exact ⟨k + 1, r, rfl, by have := Hkr.out; show k + 1 + r = _; omega, by omega, Hc2⟩
        case measure => simp [intOf]; omega
end Go.Proofs.YtaghhmnigjapoaaDoor
