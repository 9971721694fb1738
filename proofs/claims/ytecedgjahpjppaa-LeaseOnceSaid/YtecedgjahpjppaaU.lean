/-
  Who has a server: the plain law, and whether one is among those seen. No condition.
-/
import Derived.Test.YtecedgjahpjppaaT
namespace Go.Proofs.Ytecedgjahpjppaa
open Go.RowKit Go.Maps
set_option linter.unusedVariables false
set_option linter.unusedSimpArgs false

/-- Whose the first k servers are. -/
def heldN (st : List (Int × Int)) : Nat → List Int
  | 0 => []
  | k + 1 => if (st.getD k (0, 0)).1 = 3 then heldN st k ++ [(st.getD k (0, 0)).2] else heldN st k
theorem heldN_length (st : List (Int × Int)) (k : Nat) : (heldN st k).length ≤ k := by
  induction k with
  | zero => exact Nat.le_refl _
  | succ k ih =>
    unfold heldN
    split
    · simp; omega
    · omega
theorem held_mem (st : List (Int × Int)) (k : Nat) (c : Int) (h : c ∈ heldN st k) : ∃ i, i < k ∧ st.getD i (0, 0) = (3, c) := by
  induction k with
  | zero => cases h
  | succ k ih =>
    unfold heldN at h
    split at h
    · rename_i h2
      rcases List.mem_append.1 h with h | h
      · obtain ⟨i, hi, h3⟩ := ih h
        exact ⟨i, by omega, h3⟩
      · rw [List.mem_singleton] at h
        refine ⟨k, by omega, ?_⟩
        rcases hq : st.getD k (0, 0) with ⟨q1, q2⟩
        rw [hq] at h h2
        rw [show q1 = 3 from h2, h]
    · obtain ⟨i, hi, h3⟩ := ih h
      exact ⟨i, by omega, h3⟩
theorem Agree.once {st : List (Int × Int)} {D : DataW Unit} (h : Agree st D) {i j : Nat} {c : Int} (hi : i < st.length) (hj : j < st.length) (h1 : st.getD i (0, 0) = (3, c)) (h2 : st.getD j (0, 0) = (3, c)) : i = j := by
  have e1 := ((h c).2 i hi h1).2
  have e2 := ((h c).2 j hj h2).2
  rw [e1] at e2
  injection e2 with e2; injection e2 with _ e2
  omega
theorem Agree.of {st : List (Int × Int)} {D : DataW Unit} (h : Agree st D) {i : Nat} {c : Int} (hi : i < st.length) (h1 : st.getD i (0, 0) = (3, c)) : ofV (ofN st c st.length 0) = .tuple #[.int .i64 i, .bool true] := by
  have e1 := (h c).2 i hi h1
  have e2 := of_agree h c
  rw [e1.1] at e2
  have e3 := e2.2
  rw [e1.2] at e3
  injection e3 with e3; injection e3 with _ e3
  unfold ofV
  rw [← e2.1, ← e3]
theorem held_new {st : List (Int × Int)} {D : DataW Unit} (h : Agree st D) {k : Nat} {c : Int} (hk : k < st.length) (h1 : st.getD k (0, 0) = (3, c)) : ∀ x ∈ heldN st k, x ≠ c := by
  rintro x hx rfl
  obtain ⟨i, hi, h3⟩ := held_mem st k x hx
  have := h.once (by omega) hk h3 h1
  omega

theorem turnS_length (st : List (Int × Int)) (s s' : Int) (may : Int → Bool) : (turnS st s s' may).length = st.length := by
  unfold turnS
  split <;> simp
theorem leaseS_length (st : List (Int × Int)) (c p : Int) : (leaseS st c p).length = st.length := by
  unfold leaseS
  split
  · rfl
  · split <;> simp
theorem doS_length (st : List (Int × Int)) (o s c p : Int) : (doS st o s c p).length = st.length := by
  unfold doS
  split
  · exact turnS_length _ _ _ _
  · split
    · exact turnS_length _ _ _ _
    · split
      · exact turnS_length _ _ _ _
      · split
        · exact leaseS_length _ _ _
        · exact turnS_length _ _ _ _

theorem index_nil (a : Option Addr) (cap : Nat) (c : Int) (w : World) :
    Calls Try.prog 33 #[.slice a 0 cap, .int .i64 c] w fun e w' => w = w' ∧ e = .returned (.int .i64 (-1)) := by
  go_enter Try.func33, Try.ntmps33
  go_wp2_with fail
  go_rounds 1
  all_goals go_returns
  all_goals exact ⟨rfl, rfl⟩
theorem index_row (b n cap : Nat) (L : List Int) (c : Int) (w : World) (hn : n ≤ 8) (h1 : ∀ j, j < n → w.cell? ⟨b, j, none⟩ = some (.int .i64 (L.getD j 0))) (h2 : ∀ j, j < n → L.getD j 0 ≠ c) :
    Calls Try.prog 33 #[.slice (some ⟨b, 0, none⟩) n cap, .int .i64 c] w fun e w' => w = w' ∧ e = .returned (.int .i64 (-1)) := by
  have H1 := hide h1
  have H2 := hide h2
  clear h1 h2
  go_enter Try.func33, Try.ntmps33
  go_wp2_with fail
  go_loop [8] (fun i => ∃ j : Nat, j ≤ n ∧ i = .int .i64 j) (fun i => n - (intOf i).toNat)
  case atStart => exact ⟨0, Nat.zero_le _, rfl⟩
  case round =>
    obtain ⟨j, hj, rfl⟩ := hrel
    by_cases hlt : j < n
    · have g1 := H1.out j hlt
      have g2 := H2.out j hlt
      have k0 : (0 : Int) ≤ (j : Int) := by omega
      have k1 : (j : Int) < (n : Int) := by omega
      generalize L.getD j 0 = x at g1 g2
      have g3 : (c == x) = false := by simpa using fun e => g2 e.symm
      clear g2
      go_wp2_with fail
      go_round
      case rel => exact ⟨j + 1, by omega, by go_num⟩
      case measure => simp [intOf]; omega
    · go_wp2
      go_returns
      exact ⟨rfl, rfl⟩
theorem contains_no (B : Nat) (v : Value) (L : List Int) (c : Int) (w : World) (hn : L.length ≤ 8) (h1 : w.ownsRow B 3 1 v L.length (L.map (Value.int .i64))) (h2 : ∀ x ∈ L, x ≠ c) :
    Calls Try.prog 20 #[v, .int .i64 c] w fun e w' => w = w' ∧ e = .returned (.bool false) := by
  have hI : Calls Try.prog 33 #[v, .int .i64 c] w fun e w' => w = w' ∧ e = .returned (.int .i64 (-1)) := by
    by_cases h0 : L.length = 0
    · rw [h0] at h1
      obtain ⟨a1, c1, rfl, _⟩ := own_empty h1
      exact index_nil a1 c1 c w
    · obtain ⟨g1, c1, rfl, _, _, _, _, _, k1⟩ := own_form h1 (by omega)
      refine index_row g1 L.length c1 L c w hn (fun j hj => (k1 j (by omega)).trans ?_) (fun j hj => ?_)
      · rw [List.getElem?_map, List.getElem?_eq_getElem hj, List.getD_eq_getElem?_getD, List.getElem?_eq_getElem hj]; rfl
      · rw [List.getD_eq_getElem?_getD, List.getElem?_eq_getElem hj]
        exact h2 _ (List.getElem_mem hj)
  have HI := hide hI
  clear hI h1 h2
  go_enter Try.func20, Try.ntmps20
  go_wp2_with fail
  refine HI.out.mono ?_
  rintro e w1 ⟨rfl, rfl⟩
  go_wp2_with fail
  go_returns
  exact ⟨rfl, rfl⟩

end Go.Proofs.Ytecedgjahpjppaa
