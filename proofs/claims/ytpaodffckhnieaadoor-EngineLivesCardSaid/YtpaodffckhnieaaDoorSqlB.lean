/-
  A fault's code, and what stands ahead of a blank and behind it. No condition.
-/
import Derived.Test.YtpaodffckhnieaaDoorSqlA
import Derived.Test.YtpaodffckhnieaaDoorParse
import Derived.Test.YtpaodffckhnieaaDoorParseLaw
import Derived.Lib.ConvBytes
namespace Go.Proofs.YtpaodffckhnieaaDoor
open Go.RowKit
set_option linter.unusedVariables false
set_option linter.unusedSimpArgs false
set_option maxRecDepth 100000

def okI (c : Int) : Bool := (decide (48 ≤ c) && decide (c ≤ 57)) || (decide (65 ≤ c) && decide (c ≤ 90))
/-- Digits and capitals only among the r bytes from byte k on. -/
def codeN (s : ByteArray) : Nat → Nat → Bool
  | 0, _ => true
  | r + 1, k => if okI (sb s k) = false then false else codeN s r (k + 1)
def codeS (s : ByteArray) : Bool := decide (s.size = 5) && codeN s s.size 0
theorem okI_cases (c : Int) (h0 : 0 ≤ c) (h1 : c ≤ 255) : (c < 48 ∧ okI c = false) ∨ (48 ≤ c ∧ c ≤ 57 ∧ okI c = true) ∨ (57 < c ∧ c < 65 ∧ okI c = false) ∨ (65 ≤ c ∧ c ≤ 90 ∧ okI c = true) ∨ (90 < c ∧ okI c = false) := by
  unfold okI
  by_cases a : 48 ≤ c <;> by_cases b : c ≤ 57 <;> by_cases d : 65 ≤ c <;> by_cases e : c ≤ 90 <;> simp [a, b, d, e] <;> omega

theorem bytesWorld_below (w : World) (e : TypeId) (s : ByteArray) : Below w.heap.size w (Lib.bytesWorld w e s) :=
  ⟨by simp [Lib.bytesWorld, World.freeze, World.alloc, World.drew, -World.alloc_eq, -World.drew_eq], by simp [Lib.bytesWorld, World.freeze, World.alloc, World.drew, -World.alloc_eq, -World.drew_eq], by simp [Lib.bytesWorld, World.freeze, World.alloc, World.drew, -World.alloc_eq, -World.drew_eq], by rw [Lib.bytesWorld_size]; omega, fun k hk => Lib.bytesWorld_at_old w e s k hk⟩

theorem code_any (s : ByteArray) (w : World) :
    Calls Tryd.prog 63 #[.string s] w fun e w' => e = .returned (.bool (codeS s)) ∧ Below w.heap.size w w' := by
  by_cases h5 : s.size = 5
  · have hR : Hid (codeS s = codeN s 5 0) := by show _ = _; unfold codeS; rw [decide_eq_true h5, h5]; rfl
    have h5i : (s.size : Int) = 5 := by omega
    go_enter Tryd.func63, Tryd.ntmps63
    go_wp2_with fail
    rw [Lib.run_convert_string_bytes _ _ _ 5 _ Tryd.underlying9 Tryd.underlying61 Tryd.underlying5]
    simp only [Result.andThen]
    rw [Oper.upon_value, h5]
    have hc : ∀ j, j < 5 → (Lib.bytesWorld w 5 s).cell? ⟨w.heap.size, j, none⟩ = some (.int .u8 (sb s j)) := fun j hj => Lib.bytesWorld_cell w _ s j (by omega)
    have hB : Below w.heap.size w (Lib.bytesWorld w 5 s) := bytesWorld_below _ _ _
    generalize Lib.bytesWorld w 5 s = W at hc hB ⊢
    generalize grownCap w 5 0 5 = cp
    have HC := hide hc
    have HB := hide hB
    clear hc hB h5 h5i
    go_wp2_with fail
    go_loop [13] (fun i => ∃ (k r : Nat), i = .int .i64 k ∧ Hid (k + r = 5) ∧ k + r ≤ 5 ∧ Hid (codeN s r k = codeS s)) (fun i => (5 - (intOf i).toNat))
    case atStart => exact ⟨0, 5, rfl, rfl, by omega, hR.out.symm⟩
    case round =>
      obtain ⟨k, r, rfl, Hkr, hkr, Hc⟩ := hrel
      rcases r with _ | r
      · have hk : ¬ (k : Int) < 5 := by have := Hkr.out; omega
        have Hc2 : Hid (codeS s = true) := Hc.out.symm
        go_wp2
        go_returns
        exact ⟨congrArg (fun b => Ending.returned (.bool b)) Hc2.out.symm, HB.out⟩
      · have hk : (k : Int) < 5 := by have := Hkr.out; omega
        have hkn : k < 5 := by omega
        have hg := HC.out k hkn
        obtain ⟨h0, h255⟩ := sb_in s k
        rcases okI_cases (sb s k) h0 h255 with ⟨c1, c2⟩ | ⟨c0, c1, c2⟩ | ⟨c0, c1, c2⟩ | ⟨c0, c1, c2⟩ | ⟨c1, c2⟩
        all_goals
          first
            | have Hc2 : Hid (codeS s = false) := by show _ = _; rw [← Hc.out, codeN, if_pos c2]
            | have Hc2 : Hid (codeN s r (k + 1) = codeS s) := by show _ = _; rw [← Hc.out, codeN, if_neg (by rw [c2]; decide)]
        all_goals
          clear c2
          go_wp2_with fail
        all_goals try (exfalso; rename_i hz; simp only [Bool.not_eq_false', decide_eq_true_eq] at hz; omega)
        all_goals
          first
            | (go_returns; exact ⟨congrArg (fun b => Ending.returned (.bool b)) Hc2.out.symm, HB.out⟩)
            | skip
        all_goals
          go_round
          case rel => exact ⟨k + 1, r, rfl, by have := Hkr.out; show k + 1 + r = _; omega, by omega, Hc2⟩
          case measure => simp [intOf]; omega
  · have h5b : ((s.size : Int) == 5) = false := by
      have : (s.size : Int) ≠ 5 := by omega
      simpa using this
    have hR : Hid (codeS s = false) := by show codeS s = false; unfold codeS; rw [decide_eq_false h5]; rfl
    clear h5
    go_enter Tryd.func63, Tryd.ntmps63
    go_wp2_with fail
    go_returns
    exact ⟨by rw [hR.out]; rfl, Below.refl _ _⟩

theorem cut_some (s : ByteArray) (i : Nat) (w : World) (hs : s.size ≤ 1000000) (h : Lib.indexByte s.data.toList 32 = (i : Int)) (hi : i < s.size) :
    Calls Tryd.prog 61 #[.string s, .string ⟨#[32]⟩] w fun e w' => Below w.heap.size w w' ∧ e = .returned (.tuple #[.string (s.extract 0 i), .string (s.extract (i + 1) s.size), .bool true]) := by
  have Hi := hide h
  have k0 : (0 : Int) ≤ (i : Int) := by omega
  have k1 : (i : Int) ≤ (s.size : Int) := by omega
  have k2 : (i : Int) + 1 ≤ (s.size : Int) := by omega
  have k3 : IntKind.i64.wrap ((i : Int) + 1) = (i : Int) + 1 := by
    rw [IntKind.wrap_i64]; omega
  have k4 : (0 : Int) ≤ (i : Int) + 1 := by omega
  have k5 : ((i : Int) + 1).toNat = i + 1 := by omega
  clear h
  go_enter Tryd.func61, Tryd.ntmps61
  go_wp2_with fail
  refine (Tryd.stringslite_Index_one s 32 _).mono ?_
  rintro e w1 ⟨rfl, rfl⟩
  rw [Hi.out]
  go_wp2_with fail
  go_quiet (fail)
  go_wp2_with fail
  go_returns
  exact ⟨below_drewN (Below.refl _ _) _, rfl⟩
end Go.Proofs.YtpaodffckhnieaaDoor
