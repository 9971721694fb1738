/-
  Leases that were made: which servers are idle. No condition.
-/
import Derived.Test.YtecedgjahpjppaaD
namespace Go.Proofs.Ytecedgjahpjppaa
open Go.RowKit Go.Maps
set_option linter.unusedVariables false
set_option linter.unusedSimpArgs false

theorem infoInt : (Try.prog.info? 3).map (fun i => (i.zero, i.size, i.bytes)) = some (some (.int .i64 0), 1, 8) := by kernel_rfl
/-- Those among the first k that are idle. -/
def idleN (st : List (Int × Int)) : Nat → List Int
  | 0 => []
  | k + 1 => if (st.getD k (0, 0)).1 = 2 then idleN st k ++ [(k : Int)] else idleN st k
theorem idleN_length (st : List (Int × Int)) (k : Nat) : (idleN st k).length ≤ k := by
  induction k with
  | zero => exact Nat.le_refl _
  | succ k ih =>
    unfold idleN
    split
    · simp; omega
    · omega

theorem idle_live (a g m k : Nat) (st : List (Int × Int)) (D : DataW Unit) (w : World) (h : Live w a g m k st D) :
    Calls Try.prog 10 #[.pointer (some ⟨a, 0, none⟩)] w fun e w' => ∃ v, e = .returned v ∧ w'.ownsRow w.heap.size 3 1 v (idleN st st.length).length ((idleN st st.length).map (Value.int .i64)) ∧ Below w.heap.size w w' := by
  obtain ⟨i0, hi, hz0, hz1, hz2⟩ := info_parts infoInt
  have c0 := h.c0
  have h8 := h.few
  have Hl := hide h
  clear h
  go_enter Try.func10, Try.ntmps10
  go_wp2_with fail
  go_loopw [3, 13] (fun v i wr => ∃ j : Nat, j ≤ st.length ∧ i = .int .i64 j ∧ wr.ownsRow w.heap.size 3 1 v (idleN st j).length ((idleN st j).map (Value.int .i64)) ∧ Below w.heap.size w wr) (fun _ i _ => st.length - (intOf i).toNat)
  case atStart => exact ⟨0, Nat.zero_le _, rfl, by simpa [idleN] using World.ownsRow_nil w w.heap.size 3 1, Below.refl _ _⟩
  case round =>
    obtain ⟨j, hj, rfl, hown, hB⟩ := hrel
    by_cases hjl : j = st.length
    · subst hjl
      have HB := hide hB
      have Ho := hide hown
      clear hB hown
      go_wp2
      go_returns
      exact ⟨_, rfl, Ho.out, HB.out⟩
    · have hjlt : j < st.length := by omega
      have s0 : wr.cell? ⟨g, j * 2, none⟩ = some (.int .i64 (st.getD j (0, 0)).1) := (hB.cell (p := ⟨g, j * 2, none⟩) Hl.out.rows.lt).trans (Hl.out.s0 j hjlt)
      have s1 : wr.cell? ⟨g, j * 2 + 1, none⟩ = some (.int .i64 (st.getD j (0, 0)).2) := (hB.cell (p := ⟨g, j * 2 + 1, none⟩) Hl.out.rows.lt).trans (Hl.out.s1 j hjlt)
      have hlen := idleN_length st j
      have hstep : idleN st (j + 1) = if (st.getD j (0, 0)).1 = 2 then idleN st j ++ [(j : Int)] else idleN st j := rfl
      have Hstep := hide hstep
      clear hstep
      obtain ⟨x, hx⟩ : ∃ x, (st.getD j (0, 0)).1 = x := ⟨_, rfl⟩
      obtain ⟨y, hy⟩ : ∃ y, (st.getD j (0, 0)).2 = y := ⟨_, rfl⟩
      rw [hx] at s0 Hstep
      rw [hy] at s1
      clear hx hy
      have HB := hide hB
      have hwb := hB.size
      clear hB
      by_cases h2 : x = 2
      · rw [if_pos h2] at Hstep
        subst h2
        go_upto_region 8 with fail
        have hown2 := hown.alloc (.cells #[.int .i64 2, .int .i64 y] 53)
        have hB2 : Below w.heap.size w (wr.alloc (.cells #[.int .i64 2, .int .i64 y] 53)) := HB.out.alloc hwb _
        generalize wr.alloc (.cells #[.int .i64 2, .int .i64 y] 53) = W2 at hown2 hB2 ⊢
        have hwb2 := hB2.size
        have HB2 := hide hB2
        clear hB2 hown HB hwb s0 s1
        go_wp2_with (at_builtin; refine wpList_append_one W2 rfl _ _ 34 rfl w.heap.size 3 i0 (.int .i64 0) 1 8 Try.underlying34 hi hz0 hz1 hz2 rfl (by decide) _ _ _ [.int .i64 (j : Int)] hown2 rfl rfl (by simp [Value.oneCell']) rfl (by simp [maxLen]; omega) (by omega) hwb2 ?_; intro v1 w1 hown1 hb1 _)
        go_roundw
        case rel => exact ⟨j + 1, by omega, rfl, by rw [Hstep.out, List.length_append, List.map_append]; exact hown1, HB2.out.trans hb1⟩
        case measure => simp [intOf]; omega
      · rw [if_neg h2] at Hstep
        have h2b : (x == 2) = false := by simpa using h2
        go_wp2_with fail
        go_roundw
        case rel => exact ⟨j + 1, by omega, rfl, by rw [Hstep.out]; exact hown.alloc _, HB.out.alloc hwb _⟩
        case measure => simp [intOf]; omega

end Go.Proofs.Ytecedgjahpjppaa
