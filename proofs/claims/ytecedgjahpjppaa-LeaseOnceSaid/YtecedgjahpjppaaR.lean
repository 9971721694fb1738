/-
  Two rows of the same integers are equal. No condition.
-/
import Derived.Test.YtecedgjahpjppaaQ
import Derived.Deep.QuietTactic
import Derived.BigQuiet
namespace Go.Proofs.Ytecedgjahpjppaa
open Go.RowKit Go.Maps
set_option linter.unusedVariables false
set_option linter.unusedSimpArgs false

theorem equal_nil (a1 a2 : Option Addr) (c1 c2 : Nat) (w : World) :
    Calls Try.prog 16 #[.slice a1 0 c1, .slice a2 0 c2] w fun e w' => e = .returned (.bool true) ∧ Below w.heap.size w w' := by
  go_enter Try.func16, Try.ntmps16
  go_wp2_with fail
  go_rounds 1
  all_goals go_returns
  all_goals exact ⟨rfl, Below.refl _ _⟩
theorem equal_row (b1 b2 n c1 c2 : Nat) (L : List Int) (w : World) (hn : n ≤ 8) (h1 : ∀ j, j < n → w.cell? ⟨b1, j, none⟩ = some (.int .i64 (L.getD j 0))) (h2 : ∀ j, j < n → w.cell? ⟨b2, j, none⟩ = some (.int .i64 (L.getD j 0))) :
    Calls Try.prog 16 #[.slice (some ⟨b1, 0, none⟩) n c1, .slice (some ⟨b2, 0, none⟩) n c2] w fun e w' => e = .returned (.bool true) ∧ Below w.heap.size w w' := by
  have H1 := hide h1
  have H2 := hide h2
  clear h1 h2
  go_enter Try.func16, Try.ntmps16
  go_wp2_with fail
  go_loopw [13] (fun i wr => ∃ j : Nat, j ≤ n ∧ i = .int .i64 j ∧ ∃ q, wr = w.drewN q) (fun i _ => n - (intOf i).toNat)
  case atStart => exact ⟨0, Nat.zero_le _, rfl, 0, rfl⟩
  case round =>
    obtain ⟨j, hj, rfl, q, rfl⟩ := hrel
    by_cases hlt : j < n
    · have g1 := H1.out j hlt
      have g2 := H2.out j hlt
      have k0 : (0 : Int) ≤ (j : Int) := by omega
      have k1 : (j : Int) < (n : Int) := by omega
      generalize L.getD j 0 = x at g1 g2
      go_wp2_with fail
      go_quiet (fail)
      go_wp2_with fail
      go_roundw
      case rel => exact ⟨j + 1, by omega, by go_num, _, rfl⟩
      case measure => simp [intOf]; omega
    · go_wp2
      go_returns
      exact ⟨rfl, below_drewN (Below.refl _ _) _⟩
/-- Two rows of one's own. -/
theorem equal_own (B1 B2 : Nat) (v1 v2 : Value) (L : List Int) (w : World) (hn : L.length ≤ 8) (h1 : w.ownsRow B1 3 1 v1 L.length (L.map (Value.int .i64))) (h2 : w.ownsRow B2 3 1 v2 L.length (L.map (Value.int .i64))) :
    Calls Try.prog 16 #[v1, v2] w fun e w' => e = .returned (.bool true) ∧ Below w.heap.size w w' := by
  by_cases h0 : L.length = 0
  · rw [h0] at h1 h2
    obtain ⟨a1, c1, rfl, _⟩ := own_empty h1
    obtain ⟨a2, c2, rfl, _⟩ := own_empty h2
    exact equal_nil a1 a2 c1 c2 w
  · obtain ⟨g1, c1, rfl, _, _, _, _, _, k1⟩ := own_form h1 (by omega)
    obtain ⟨g2, c2, rfl, _, _, _, _, _, k2⟩ := own_form h2 (by omega)
    have e : ∀ j, j < L.length → (L.map (Value.int .i64))[j]? = some (.int .i64 (L.getD j 0)) := by
      intro j hj
      rw [List.getElem?_map, List.getElem?_eq_getElem hj, List.getD_eq_getElem?_getD, List.getElem?_eq_getElem hj]; rfl
    exact equal_row g1 g2 L.length c1 c2 L w hn (fun j hj => (k1 j (by omega)).trans (e j hj)) (fun j hj => (k2 j (by omega)).trans (e j hj))
end Go.Proofs.Ytecedgjahpjppaa
