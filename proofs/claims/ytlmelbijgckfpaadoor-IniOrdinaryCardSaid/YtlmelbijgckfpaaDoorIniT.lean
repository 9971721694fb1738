/-
  What is read may be printed; the statements' own test. No condition but on lengths.
-/
import Derived.Test.YtlmelbijgckfpaaDoorIniS
namespace Go.Proofs.YtlmelbijgckfpaaDoor
open Go.RowKit Go.Shelf
set_option linter.unusedVariables false
set_option linter.unusedSimpArgs false
set_option maxRecDepth 100000

theorem cEq_refl (c : Cfg) : cEq c c = true := cEq_yes rfl
theorem cEq_eq {c d : Cfg} (h : cEq c d = true) : c = d := of_decide_eq_true h
def InvC (c : Cfg) (m : Nat) : Prop := (∀ z ∈ c.n, -9223372036854775808 ≤ z ∧ z ≤ 9223372036854775807) ∧ ∀ p ∈ c.ps, p.1.size ≤ m ∧ p.2.size ≤ m
theorem keyP_size (s a b : ByteArray) (h : keyP s = some (a, b)) : a.size ≤ s.size ∧ b.size ≤ s.size := by
  unfold keyP at h
  split at h
  · cases h
  · cases h
    refine ⟨Nat.le_trans (trimS_size _) ?_, Nat.le_trans (trimS_size _) ?_⟩
    · rw [ByteArray.size_extract]; omega
    · rw [ByteArray.size_extract]; omega
theorem inv_one (st : St) (s : ByteArray) (m : Nat) (hs : s.size ≤ m) (h : InvC st.c m) : InvC (oneP st s).2.c m := by
  unfold oneP
  split
  · exact h
  · rename_i name value hk
    obtain ⟨h1, h2⟩ := keyP_size s name value hk
    split
    · exact h
    · split
      · refine ⟨h.1, fun p hp => ?_⟩
        rcases List.mem_append.1 hp with hp | hp
        · exact h.2 p hp
        · rw [List.mem_singleton.1 hp]
          refine ⟨?_, by show value.size ≤ m; omega⟩
          show (name.extract 6 name.size).size ≤ m
          rw [ByteArray.size_extract]; omega
      · unfold setP
        split
        · exact h
        · split
          · exact h
          · rename_i v hv
            split
            · exact h
            · obtain ⟨v0, v1⟩ := parse_nonneg _ _ _ hv
              refine ⟨fun z hz => ?_, h.2⟩
              rcases List.mem_or_eq_of_mem_set hz with hz | rfl
              · exact h.1 z hz
              · omega
theorem inv_line (st : St) (s : ByteArray) (m : Nat) (hs : s.size ≤ m) (h : InvC st.c m) : InvC (lineP st s).2.c m := by
  unfold lineP
  split
  · exact h
  · exact inv_one st s m hs h
theorem inv_zero (m : Nat) : InvC Cfg.zero m := ⟨fun z hz => by
  have : z = 0 := by
    simp [Cfg.zero] at hz
    exact hz
  omega, fun p hp => by cases hp⟩
theorem inv_do (m : Nat) : ∀ (ls : List ByteArray) (st : St) (k : Nat), (∀ l ∈ ls, l.size ≤ m) → InvC st.c m → InvC (doL st k ls).2.2 m
  | [], st, k, _, h => h
  | l :: ls, st, k, hl, h => by
    by_cases hz : (lineP st l).1 = 0
    · rw [doL_ok st k l ls hz]
      exact inv_do m ls _ _ (fun x hx => hl x (List.mem_cons_of_mem _ hx)) (inv_line st l m (hl l List.mem_cons_self) h)
    · rw [doL_bad st k l ls hz]; exact inv_zero m
theorem parsed_bears (s : ByteArray) (hs : s.size ≤ 60000) : Bears (parseC s).2.2 100000 := by
  have hi : InvC (parseC s).2.2 s.size := by
    unfold parseC
    split
    · exact inv_zero _
    · exact inv_do _ _ _ _ (linesB_lens s).2 (inv_zero _)
  refine ⟨hi.1, Nat.le_trans (parsed_many s) (by decide), fun j hj => ?_⟩
  have hm : pj (parseC s).2.2.ps j ∈ (parseC s).2.2.ps := by
    unfold pj
    rw [List.getD_eq_getElem?_getD, List.getElem?_eq_getElem hj]
    exact List.getElem_mem hj
  obtain ⟨h1, h2⟩ := hi.2 _ hm
  omega
/-- An error's settings are nothing; no error has no line. -/
theorem do_forms (ls : List ByteArray) (st : St) (k : Nat) : ((doL st k ls).1 = 0 ∧ (doL st k ls).2.1 = 0) ∨ ((doL st k ls).1 ≠ 0 ∧ (doL st k ls).2.2 = Cfg.zero) := by
  induction ls generalizing st k with
  | nil => exact .inl ⟨rfl, rfl⟩
  | cons l ls ih =>
    by_cases hz : (lineP st l).1 = 0
    · rw [doL_ok st k l ls hz]; exact ih _ _
    · rw [doL_bad st k l ls hz]; exact .inr ⟨hz, rfl⟩
theorem parse_forms (s : ByteArray) : ((parseC s).1 = 0 ∧ (parseC s).2.1 = 0) ∨ ((parseC s).1 ≠ 0 ∧ (parseC s).2.2 = Cfg.zero) := by
  unfold parseC
  split
  · exact .inr ⟨by decide, rfl⟩
  · exact do_forms _ _ _
/-- What has a text is read from it. -/
theorem print_forms (c : Cfg) (q : ByteArray) (z : Int) (h : printC c = (q, z)) : (z = 0 ∧ parseC q = (0, 0, c)) ∨ (z = 1 ∧ q = ⟨#[]⟩) := by
  unfold printC at h
  split at h
  · rename_i hc
    obtain ⟨h1, h2⟩ := hc
    cases h
    refine .inl ⟨rfl, ?_⟩
    rcases parse_forms (textC c) with ⟨_, h3⟩ | ⟨h3, _⟩
    · generalize parseC (textC c) = T at h1 h2 h3 ⊢
      obtain ⟨e, l, d⟩ := T
      have h1' : e = 0 := h1
      have h3' : l = 0 := h3
      have h2' : c = d := cEq_eq h2
      rw [h1', h3', ← h2']
    · exact absurd h1 h3
  · cases h
    exact .inr ⟨rfl, rfl⟩

def awakeC : Cfg := ⟨[2, 0, 0, 0, 0, 0], [(⟨#[97]⟩, ⟨#[98]⟩)]⟩
theorem parse_awake : parseC ⟨#[35, 32, 120, 10, 32, 115, 101, 114, 118, 101, 114, 115, 32, 61, 32, 50, 10, 112, 97, 114, 97, 109, 46, 97, 61, 98]⟩ = (0, 0, awakeC) := by kernel_rfl
theorem parse_wrong : parseC ⟨#[10, 120]⟩ = (4, 2, Cfg.zero) := by kernel_rfl
set_option maxHeartbeats 1000000 in
theorem iniawake_any (w : World) : Calls Tryd.prog 7 #[] w fun e w' => e = .returned (.bool true) ∧ Below w.heap.size w w' := by
  go_enter Tryd.func7, Tryd.ntmps7
  go_wp2_with fail
  refine (pini_any _ _).mono ?_
  rintro e w1 ⟨u, rfl, hu, hb1⟩
  rw [parse_awake] at hu ⊢
  obtain ⟨n0, n1, n2, n3, n4, n5, v, hn, rfl, hv⟩ := CfgA.of_val hu
  have hn' : ([2, 0, 0, 0, 0, 0] : List Int) = [n0, n1, n2, n3, n4, n5] := hn
  injection hn' with e0 hn'
  injection hn' with e1 hn'
  injection hn' with e2 hn'
  injection hn' with e3 hn'
  injection hn' with e4 hn'
  injection hn' with e5 _
  subst e0 e1 e2 e3 e4 e5
  have HV := hide hv
  have HB1 := hide hb1
  obtain ⟨a, cap, rfl, _⟩ := hv
  clear hu hb1 hn
  go_upto_region 2 with fail
  refine Code.wp_named (fun W => Blk W w1.heap.size 25 #[.int .i64 2, .int .i64 0, .int .i64 0, .int .i64 0, .int .i64 0, .int .i64 0, .slice a 1 cap] ∧ Below w1.heap.size w1 W) ⟨Blk.new w1 _ _, (Below.refl _ _).alloc (Nat.le_refl _) _⟩ ?_
  rintro W ⟨hx, hB⟩
  have HX := hide hx
  have HB := hide (below_via HB1.out hB)
  have HV1 := hide (HV.out.below hB)
  clear hx hB
  go_wp2_with fail
  refine (pini_any _ _).mono ?_
  rintro e w2 ⟨u2, rfl, hu2, hb2⟩
  rw [parse_wrong] at hu2 ⊢
  obtain ⟨m0, m1, m2, m3, m4, m5, v2, _, rfl, hv2⟩ := CfgA.of_val hu2
  obtain ⟨a2, cap2, rfl, _⟩ := hv2
  have HX2 := hide (HX.out.below hb2 HX.out.lt)
  have HB2 := hide (below_via HB.out hb2)
  have HV2 := hide (HV1.out.below hb2)
  clear hu2 hb2
  go_upto_region 3 with fail
  refine Code.wp_named (fun W => Below w2.heap.size w2 W) ((Below.refl _ _).alloc (Nat.le_refl _) _) ?_
  rintro W3 hB3
  have hx := HX2.out.below hB3 HX2.out.lt
  have HB3 := hide (below_via HB2.out hB3)
  have hv3 := HV2.out.below hB3
  have x0 : W3.cell? ⟨w1.heap.size, 0, none⟩ = some (.int .i64 2) := hx.cell 0
  have x6 : W3.cell? ⟨w1.heap.size, 6, none⟩ = some (.slice a 1 cap) := hx.cell 6
  obtain ⟨_, _, hsl, hor⟩ := hv3
  cases hsl
  rcases hor with h0 | ⟨b, off, rfl, hbl, hcc⟩
  · cases h0
  have c1 := (hcc 0 (by decide)).2
  rw [Nat.zero_mul, Nat.add_zero] at c1
  have c2 : W3.cell? ⟨b, off + 1, none⟩ = some (.string ⟨#[98]⟩) := c1
  clear hx hB3 hcc c1
  go_wp2_with fail
  go_returns
  exact ⟨rfl, HB3.out⟩
end Go.Proofs.YtlmelbijgckfpaaDoor
