/-
  An engine's Turn and Verdict; the laws' own guard. No condition.
-/
import Derived.Test.YtpaodffckhnieaaDoorEngA
import Derived.ChangeKeys
namespace Go.Proofs.YtpaodffckhnieaaDoor
open Go.RowKit Go.Maps
set_option linter.unusedVariables false
set_option linter.unusedSimpArgs false

theorem key_str (s : ByteArray) (hs : s.size ≤ maxLen) : keyOf Tryd.prog 9 (.string s) = some (.string s.data.toList) := by
  rw [keyOf_string Tryd.underlying9]
  unfold mapKey
  simp [Tryd.underlying9, hs]
theorem bool_inv {P : Program} {e : TypeId} (he : P.underlying e = some .bool) {v : Value} {z : DataW Unit × List MemPlace} (h : plainElem P e v = some z) : ∃ a, v = .bool a ∧ z = (.lit (.bool a), []) := by
  unfold plainElem at h
  rw [he] at h
  cases v <;> simp at h
  exact ⟨_, rfl, h.symm⟩
theorem lookup_bool {w : World} {m n : Nat} {D : DataW Unit} {key : Value} {kl : Lit} (h : w.ownsMap Tryd.prog 9 (plainElem Tryd.prog 4) m n D) (hkey : keyOf Tryd.prog 9 key = some kl) :
    ∃ b : Bool, (Instr.lookup 45 (.map (some m)) key false).run Tryd.prog w = .ok (.bool b) w ∧ D.atKey kl (.lit (.bool false)) = .lit (.bool b) := by
  have hz : (zeroValue 4).run Tryd.prog w = .ok (.bool false) w := by kernel_rfl
  obtain ⟨v, ps, hrun, hv⟩ := h.lookup (string_keyed Tryd.underlying9) Tryd.underlying45 hz (plainElem_bool Tryd.underlying4 false) hkey
  obtain ⟨b, rfl, hb⟩ := bool_inv Tryd.underlying4 hv
  exact ⟨b, hrun, congrArg Prod.fst hb⟩

theorem turn_live (g m k : Nat) (D : DataW Unit) (n : Int) (s : ByteArray) (w : World) (h : Eng w g m k D n) (hs : s.size ≤ maxLen) (hk : k < 1000) :
    Calls Tryd.prog 8 #[.pointer (some ⟨g, 0, none⟩), .string s] w fun e w' => ∃ (b : Bool) (D' : DataW Unit), e = .returned (.bool b) ∧ Eng w' g m (k + 1) D' n ∧ Kept g m w w' := by
  have hkey := key_str s hs
  have c0 := h.c0
  have hown := h.map
  have Hl := hide h
  obtain ⟨b, hrun, _⟩ := lookup_bool hown hkey
  clear h
  go_enter Tryd.func8, Tryd.ntmps8
  go_wp2_with fail
  refine (ready_live g m k D n _ Hl.out).mono ?_
  rintro e w1 ⟨rfl, rfl⟩
  rcases b with _ | _
  · go_wp2_with (at_mapUpdate; refine wpList_mapUpdate_in _ rfl _ _ _ 45 rfl 9 4 (string_keyed Tryd.underlying9) Tryd.underlying45 _ m k D rfl hown (by unfold maxLen; omega) _ _ _ rfl rfl hkey _ [] (plainElem_bool Tryd.underlying4 true) ?_; intro w3 hown3 hturn3)
    go_returns
    exact ⟨true, _, rfl, ⟨Hl.out.head.grown hturn3.grown (by simpa using (map_ne Hl.out.map Hl.out.head).symm), hown3⟩, Kept.grown hturn3.grown⟩
  · go_wp2_with (at_delete; refine wpList_delete_own _ rfl _ _ 45 9 rfl 4 (string_keyed Tryd.underlying9) Tryd.underlying45 _ m k D rfl hown _ _ rfl hkey ?_; intro w3 hown3 hturn3)
    go_returns
    exact ⟨false, _, rfl, ⟨Hl.out.head.grown hturn3.grown (by simpa using (map_ne Hl.out.map Hl.out.head).symm), hown3.mono (Nat.le_succ _)⟩, Kept.grown hturn3.grown⟩

theorem one_any (k n : Int) (c : ByteArray) (b : Nat) (w : World) (h0 : w.cell? ⟨b, 0, none⟩ = some (.int .i64 3)) (h1 : w.cell? ⟨b, 1, none⟩ = some (.int .i64 4)) :
    Calls Tryd.prog 41 #[.agg #[.int .i64 k, .int .i64 n, .string c], .slice (some ⟨b, 0, none⟩) 2 2] w fun e w' => e = .returned (.bool (([3, 4] : List Int).contains k)) ∧ Below w.heap.size w w' := by
  obtain ⟨r, hr⟩ : ∃ r, ([3, 4] : List Int).contains k = r := ⟨_, rfl⟩
  rw [hr]
  have Hr := hide hr
  clear hr
  have hb : Below w.heap.size w (w.alloc (.cells #[.int .i64 k, .int .i64 n, .string c] 26)) := (Below.refl _ _).alloc (Nat.le_refl _) _
  have HB := hide hb
  have hc : ∀ j, j < ([3, 4] : List Int).length → (w.alloc (.cells #[.int .i64 k, .int .i64 n, .string c] 26)).cell? ⟨b, 0 + j, none⟩ = some (.int .i64 (([3, 4] : List Int).getD j 0)) := by
    intro j hj
    have hj2 : j = 0 ∨ j = 1 := by simp at hj; omega
    rcases hj2 with rfl | rfl
    · exact (hb.cell (p := ⟨b, 0, none⟩) (World.block_lt_of_cell? _ _ h0)).trans h0
    · exact (hb.cell (p := ⟨b, 1, none⟩) (World.block_lt_of_cell? _ _ h1)).trans h1
  have Hc := hide hc
  clear hb hc h0 h1
  go_enter Tryd.func41, Tryd.ntmps41
  go_wp2_with fail
  refine (Tryd.slices_Contains_int b 0 2 2 [3, 4] k _ (by decide) (by decide) Hc.out).mono ?_
  rintro e w1 ⟨rfl, rfl⟩
  rw [show ([3, 4] : List Int).take 2 = [3, 4] from rfl, Hr.out]
  go_wp2_with fail
  go_returns
  exact ⟨rfl, HB.out⟩
theorem exit_any (k n : Int) (c : ByteArray) (w : World) :
    Calls Tryd.prog 25 #[.agg #[.int .i64 k, .int .i64 n, .string c]] w fun e w' => e = .returned (.bool (([3, 4] : List Int).contains k)) ∧ Below w.heap.size w w' := by
  obtain ⟨r, hr⟩ : ∃ r, ([3, 4] : List Int).contains k = r := ⟨_, rfl⟩
  rw [hr]
  have Hr := hide hr
  clear hr
  have hb : Below w.heap.size w ((w.alloc (.cells #[.int .i64 k, .int .i64 n, .string c] 26)).alloc (.cells #[.int .i64 3, .int .i64 4] 3)) := ((Below.refl _ w).alloc (Nat.le_refl _) _).alloc (by simp) _
  have HB := hide hb
  clear hb
  go_enter Tryd.func25, Tryd.ntmps25
  go_wp2_with fail
  refine (one_any k n c _ _ (by simp) (by simp)).mono ?_
  rintro e w1 ⟨rfl, hb1⟩
  have HB1 := hide (below_via HB.out hb1)
  rw [Hr.out]
  clear hb1
  go_wp2_with fail
  go_returns
  exact ⟨rfl, HB1.out⟩

def abortedT : ByteArray := ⟨[99, 117, 114, 114, 101, 110, 116, 32, 116, 114, 97, 110, 115, 97, 99, 116, 105, 111, 110, 32, 105, 115, 32, 97, 98, 111, 114, 116, 101, 100, 44, 32, 99, 111, 109, 109, 97, 110, 100, 115, 32, 105, 103, 110, 111, 114, 101, 100, 32, 117, 110, 116, 105, 108, 32, 101, 110, 100, 32, 111, 102, 32, 116, 114, 97, 110, 115, 97, 99, 116, 105, 111, 110, 32, 98, 108, 111, 99, 107].toArray⟩
theorem verdict_bad (g m k : Nat) (D : DataW Unit) (n : Int) (s : ByteArray) (b : Int) (w : World) (h : Eng w g m k D n)
    (hp : ∀ W, Calls Tryd.prog 24 #[.string s] W fun e w' => e = .returned (.agg #[.int .i64 0, .int .i64 0, .string ⟨#[]⟩]) ∧ Below W.heap.size W w') :
    Calls Tryd.prog 12 #[.pointer (some ⟨g, 0, none⟩), .string s, .int .u8 b] w fun e w' => e = .returned (.tuple #[.string ⟨#[52, 50, 54, 48, 49]⟩, .string ⟨#[115, 121, 110, 116, 97, 120, 32, 101, 114, 114, 111, 114]⟩, .bool true]) ∧ Below w.heap.size w w' := by
  have Hl := hide h
  have Hp := hide hp
  clear h hp
  go_enter Tryd.func12, Tryd.ntmps12
  go_wp2_with fail
  refine (ready_live g m k D n _ Hl.out).mono ?_
  rintro e w1 ⟨rfl, rfl⟩
  go_wp2_with fail
  refine (Hp.out _).mono ?_
  rintro e w2 ⟨rfl, hb2⟩
  have HB2 := hide (hb2.alloc hb2.size (.cells #[.int .i64 0, .int .i64 0, .string ⟨#[]⟩] 26))
  clear hb2
  go_wp2_with fail
  go_returns
  exact ⟨rfl, HB2.out⟩
theorem verdict_fault (g m k : Nat) (D : DataW Unit) (n : Int) (s : ByteArray) (kd : Int) (w : World) (h : Eng w g m k D n) (hk0 : kd ≠ 0) (hx : ([3, 4] : List Int).contains kd = false)
    (hp : ∀ W, Calls Tryd.prog 24 #[.string s] W fun e w' => e = .returned (.agg #[.int .i64 kd, .int .i64 0, .string ⟨#[]⟩]) ∧ Below W.heap.size W w') :
    Calls Tryd.prog 12 #[.pointer (some ⟨g, 0, none⟩), .string s, .int .u8 69] w fun e w' => e = .returned (.tuple #[.string ⟨#[50, 53, 80, 48, 50]⟩, .string abortedT, .bool true]) ∧ Below w.heap.size w w' := by
  have Hl := hide h
  have Hp := hide hp
  have Hx := hide hx
  have hk0b : (kd == 0) = false := by simpa using hk0
  clear h hp hx
  go_enter Tryd.func12, Tryd.ntmps12
  go_wp2_with fail
  refine (ready_live g m k D n _ Hl.out).mono ?_
  rintro e w1 ⟨rfl, rfl⟩
  go_wp2_with fail
  refine (Hp.out _).mono ?_
  rintro e w2 ⟨rfl, hb2⟩
  have HB2 := hide (hb2.alloc hb2.size (.cells #[.int .i64 kd, .int .i64 0, .string ⟨#[]⟩] 26))
  clear hb2
  go_wp2_with fail
  refine (exit_any kd 0 ⟨#[]⟩ _).mono ?_
  rintro e w3 ⟨rfl, hb3⟩
  rw [Hx.out]
  have HB3 := hide (below_via HB2.out hb3)
  clear hb3
  go_wp2_with fail
  go_returns
  exact ⟨rfl, HB3.out⟩
end Go.Proofs.YtpaodffckhnieaaDoor
