/-
  Leases that were made: a client is given a server that is idle. No condition.
-/
import Derived.Test.YtecedgjahpjppaaF
namespace Go.Proofs.Ytecedgjahpjppaa
open Go.RowKit Go.Maps
set_option linter.unusedVariables false
set_option linter.unusedSimpArgs false

theorem idle_mem (st : List (Int × Int)) (k : Nat) (x : Int) (h : x ∈ idleN st k) : ∃ i : Nat, x = i ∧ i < k ∧ (st.getD i (0, 0)).1 = 2 := by
  induction k with
  | zero => cases h
  | succ k ih =>
    unfold idleN at h
    split at h
    · rename_i h2
      rcases List.mem_append.1 h with h | h
      · obtain ⟨i, e, hi, h3⟩ := ih h
        exact ⟨i, e, by omega, h3⟩
      · exact ⟨k, by simpa using h, by omega, h2⟩
    · obtain ⟨i, e, hi, h3⟩ := ih h
      exact ⟨i, e, by omega, h3⟩

/-- Which of the idle ones is picked. -/
def pickN (p : Int) (n : Nat) : Nat := (p % n).toNat
theorem pick_lt (p : Int) (n : Nat) (h : 0 < n) : pickN p n < n := by
  unfold pickN
  have h1 := Int.emod_lt_of_pos p (show (0 : Int) < n by omega)
  have h2 := Int.emod_nonneg p (show (n : Int) ≠ 0 by omega)
  omega
theorem pick_eq (p : Int) (n : Nat) (h : 0 < n) : (p.tmod n + n) % n = (pickN p n : Int) := by
  unfold pickN
  have h2 := Int.emod_nonneg p (show (n : Int) ≠ 0 by omega)
  rw [Int.toNat_of_nonneg h2, Int.add_emod_right]
  have h3 : (n : Int) * (p.tdiv n) + p.tmod n = p := Int.mul_tdiv_add_tmod p n
  conv => rhs; rw [← h3]
  rw [Int.add_comm, Int.add_mul_emod_self_left]

theorem Live.below {w w' : World} {a g m k : Nat} {st : List (Int × Int)} {D : DataW Unit} (h : Live w a g m k st D) (hb : Below w.heap.size w w') : Live w' a g m k st D := by
  refine ⟨h.head.below hb h.head.lt, h.rows.below hb h.rows.lt, ?_, h.few, h.one, h.agree, h.range⟩
  have hlt := h.map.lt
  obtain ⟨es, clock, he, r⟩ := h.map
  exact ⟨es, clock, (hb.block m hlt).trans he, r⟩

theorem given_live (a g m k : Nat) (st : List (Int × Int)) (D : DataW Unit) (c p : Int) (w : World) (h : Live w a g m k st D) (hc : (Lit.int .i64 c).wf = true) (hh : has D (.int .i64 c) = false) (hn : 0 < (idleN st st.length).length) (hk : k < 1000) :
    Calls Try.prog 25 #[.pointer (some ⟨a, 0, none⟩), .int .i64 c, .int .i64 p] w fun e w' => ∃ s : Nat, (idleN st st.length)[pickN p (idleN st st.length).length]? = some (s : Int) ∧ e = .returned (.tuple #[.int .i64 s, .int .i64 0]) ∧ Kept g m w w' ∧ ∃ D', Live w' a g m (k + 1) (st.set s (3, c)) D' := by
  have qm := map_nil
  have hkey := keyOf_int_mk Try.underlying3 hc
  have c0 := h.c0
  have c1 := h.c1
  have hown := h.map
  have hL8 := idleN_length st st.length
  have h8 := h.few
  obtain ⟨L, hL⟩ : ∃ L, idleN st st.length = L := ⟨_, rfl⟩
  rw [hL] at hn hL8
  have hpl := pick_lt p L.length hn
  have hpe := pick_eq p L.length hn
  obtain ⟨q, hq⟩ : ∃ q, pickN p L.length = q := ⟨_, rfl⟩
  rw [hq] at hpl hpe
  obtain ⟨s, hs, hsl, hs2⟩ := idle_mem st st.length (L[q]'hpl) (by rw [hL]; exact List.getElem_mem hpl)
  have Hs : Hid (L[q]? = some (s : Int)) := by show _ = _; rw [List.getElem?_eq_getElem hpl, hs]
  have HL := hide hL
  have Hq := hide hq
  have Hl := hide h
  have Hs2 := hide hs2
  have ht1 : -(L.length : Int) < p.tmod L.length := Int.lt_tmod_of_pos p (by omega)
  have ht2 : p.tmod L.length < L.length := Int.tmod_lt_of_pos p (by omega)
  clear h hs hL hq hs2
  go_enter Try.func25, Try.ntmps25
  go_wp2_with (first | (at_lookup; refine wpList_lookup_own_ok_int _ rfl _ _ 26 rfl 3 3 .i64 law3 Try.underlying26 Try.underlying3 (zero3 _) m k D rfl hown _ _ rfl hkey ?_; intro n hat hwc; have Hat := hide hat; clear hat) | fail)
  refine (idle_live a g m k st D _ Hl.out).mono ?_
  rintro e w1 ⟨v, rfl, hv, hB⟩
  rw [HL.out] at hv
  obtain ⟨b, cap, rfl, hb1, hb2, hb3, hb4, hb5, hb6⟩ := own_form hv hn
  have hcell : w1.cell? ⟨b, q, none⟩ = some (.int .i64 s) := by
    rw [hb6 q (by omega), List.getElem?_map, Hs.out]; rfl
  have HB := hide hB
  clear hB hv hb6 hb5
  go_upto_region 11 with fail
  have hl1 := Hl.out.below HB.out
  have HL1 := hide hl1
  have e0 := hl1.c0
  have e1 := hl1.c1
  have e2 := hl1.s0 s hsl
  have e3 := hl1.s1 s hsl
  have f0 := hl1.rows.frozen (s * 2)
  have f1 := hl1.rows.frozen (s * 2 + 1)
  have hga : g ≠ a := fun e => (hl1.head.apart hl1.rows (by decide)) e.symm
  have hown1 := hl1.map
  have hmg : m ≠ g := map_ne hl1.map hl1.rows
  have hown2 : ((w1.setCell ⟨g, s * 2, none⟩ (.int .i64 3)).setCell ⟨g, s * 2 + 1, none⟩ (.int .i64 c)).ownsMap Try.prog 3 (plainElem Try.prog 3) m k D := (hown1.setCell (a := ⟨g, s * 2, none⟩) hmg _).setCell (a := ⟨g, s * 2 + 1, none⟩) hmg _
  have e4 : ((w1.setCell ⟨g, s * 2, none⟩ (.int .i64 3)).setCell ⟨g, s * 2 + 1, none⟩ (.int .i64 c)).cell? ⟨a, 1, none⟩ = some (.map (some m)) := ((hl1.head.far (p := ⟨g, s * 2, none⟩) (fun e => hga e.symm) _).far (p := ⟨g, s * 2 + 1, none⟩) (fun e => hga e.symm) _).cell 1
  have hwf : (Lit.int .i64 (s : Int)).wf = true := by simp [Lit.wf, IntKind.min, IntKind.max, IntKind.signed, IntKind.bits]; omega
  clear hl1
  go_upto_region 12 with fail
  generalize hW : (w1.setCell ⟨g, s * 2, none⟩ (.int .i64 3)).setCell ⟨g, s * 2 + 1, none⟩ (.int .i64 c) = W2 at hown2 e4 ⊢
  have HW := hide hW
  clear hW
  go_wp2_with (at_mapUpdate; refine wpList_mapUpdate_in _ rfl _ _ _ 26 rfl 3 3 law3 Try.underlying26 _ m k D rfl hown2 (by unfold maxLen; omega) _ _ _ rfl rfl hkey _ [] (plainElem_int Try.underlying3 hwf) ?_; intro w3 hown3 hturn3)
  go_returns
  refine ⟨s, by rw [HL.out, Hq.out]; exact Hs.out, rfl, ?_, D.put (.int .i64 c) (.lit (.int .i64 s)), ?_⟩
  · rw [← HW.out] at hturn3
    exact (Kept.of_below HB.out).trans ((Kept.setCell g m _ _ _).trans ((Kept.setCell g m _ _ _).trans (Kept.grown hturn3.grown)))
  · have hag := Hl.out.agree.lease Hl.out.map.isMap hsl (by rw [Hs2.out]; decide) hh
    have hd : Blk W2 a 28 #[.slice (some ⟨g, 0, none⟩) st.length st.length, .map (some m)] := by
      rw [← HW.out]
      exact (HL1.out.head.far (p := ⟨g, s * 2, none⟩) (fun e => hga e.symm) _).far (p := ⟨g, s * 2 + 1, none⟩) (fun e => hga e.symm) _
    have hr : Blk W2 g 53 (cellsL (st.set s (3, c))).toArray := by
      rw [← HW.out]
      have h2 := (HL1.out.rows.put (s * 2) (.int .i64 3)).put (s * 2 + 1) (.int .i64 c)
      rw [List.setIfInBounds_toArray, List.setIfInBounds_toArray, cellsL_set st s (3, c) hsl] at h2
      exact h2
    have hma : a ≠ m := fun e => map_ne HL1.out.map HL1.out.head e.symm
    refine ⟨by rw [List.length_set]; exact hd.grown hturn3.grown (by simpa using hma), hr.grown hturn3.grown (by simpa using hmg.symm), hown3, by rw [List.length_set]; exact Hl.out.few, by rw [List.length_set]; exact Hl.out.one, hag, ?_⟩
    intro q hq
    rcases List.mem_or_eq_of_mem_set hq with h | h
    · exact Hl.out.range q h
    · rw [h]; exact hc

end Go.Proofs.Ytecedgjahpjppaa
