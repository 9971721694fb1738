/-
  What split.Texts answers. No condition but on lengths.
-/
import Derived.Test.YtmmfipkdkofdkaaDoorSplC
import Derived.Maps.AppendAt
namespace Go.Proofs.YtmmfipkdkofdkaaDoor
open Go.RowKit Go.Shelf
attribute [local go_sem] Oper.semAt_some
set_option linter.unusedVariables false
set_option linter.unusedSimpArgs false

theorem infoStr : (Tryd.prog.info? 9).map (fun i => (i.zero, i.size, i.bytes)) = some (some (.string ⟨#[]⟩), 1, 16) := by kernel_rfl
theorem KeepsOthers.below {w w' : World} (h : Below w.heap.size w w') : KeepsOthers w w' := ⟨h.size, fun k o hk _ => (h.block k (Array.getElem?_eq_some_iff.1 hk).1).trans hk⟩
theorem Mild.own {B b base e size m : Nat} {v : Value} {xs : List Value} {w w' : World} (h : Mild B b w w') (ho : w.ownsRow base e size v m xs) (hb : b < base) : w'.ownsRow base e size v m xs := by
  refine ⟨ho.1, ?_⟩
  rcases ho.2 with hn | ⟨g, cap, cur, rfl, h1, hg, rest⟩
  · exact Or.inl hn
  · exact Or.inr ⟨g, cap, cur, rfl, h1, h.at hg rfl (by omega), rest⟩
theorem parts_any (s : ByteArray) (w : World) :
    Calls Tryd.prog 16 #[.string s] w fun e w' => e = .returned (.func (.func 23) #[] #[.pointer (some ⟨w.heap.size, 0, none⟩)]) ∧ Blk w' w.heap.size 9 #[.string s] ∧ Below w.heap.size w w' := by
  go_enter Tryd.func16, Tryd.ntmps16
  go_wp2_with fail
  go_returns
  exact ⟨rfl, Blk.new w _ _, (Below.refl _ _).alloc (Nat.le_refl _) _⟩

/-- The texts of the first k parts. -/
def keepK (s : ByteArray) (k : Nat) : List ByteArray := keepT ((fields s.data.toList).take k)
theorem keepK_all (s : ByteArray) : keepK s (partsV s).length = textsP s := by
  unfold keepK partsV textsP
  rw [List.length_map, List.take_length]
theorem keepT_append (a b : List (List UInt8)) : keepT (a ++ b) = keepT a ++ keepT b := by
  unfold keepT; rw [List.map_append, List.filter_append]
theorem keepK_snoc (s : ByteArray) (k : Nat) (x : Value) (h : (partsV s)[k]? = some x) : ∃ p : ByteArray, x = .string p ∧ keepK s (k + 1) = if (trimS p).size = 0 then keepK s k else keepK s k ++ [trimS p] := by
  unfold partsV at h
  rw [List.getElem?_map] at h
  cases hf : (fields s.data.toList)[k]? with
  | none => rw [hf] at h; cases h
  | some f =>
    rw [hf] at h
    refine ⟨bs f, (Option.some.inj h).symm, ?_⟩
    unfold keepK
    rw [List.take_add_one, hf, keepT_append]
    show _ ++ keepT [f] = _
    rw [keepT_cons]
    split
    · exact List.append_nil _
    · rfl
theorem fields_sum : ∀ (n : Nat) (l : List UInt8), ((fieldsL n l).map List.length).sum + (fieldsL n l).length ≤ l.length + 1 ∧ ∀ f ∈ fieldsL n l, f.length ≤ l.length
  | 0, l => by simp [fieldsL]
  | n + 1, l => by
    cases h : cutM 0 l with
    | none => rw [fieldsL_none _ l h]; simp
    | some p =>
      have hp := cut_lt l 0 p h
      obtain ⟨h1, h2⟩ := fields_sum n (l.drop (p + 1))
      rw [List.length_drop] at h1 h2
      rw [fieldsL_some n l p h]
      refine ⟨?_, ?_⟩
      · simp [List.length_take]; omega
      · intro f hf
        rcases List.mem_cons.1 hf with rfl | hf
        · rw [List.length_take]; omega
        · have := h2 f hf; omega
theorem partsV_size (s : ByteArray) (k : Nat) (p : ByteArray) (h : (partsV s)[k]? = some (.string p)) : p.size ≤ s.size ∧ k ≤ s.size := by
  obtain ⟨h1, h2⟩ := fields_sum s.data.toList.length s.data.toList
  rw [list_size] at h1 h2
  have hk := (List.getElem?_eq_some_iff.1 h).1
  unfold partsV at h hk
  rw [List.getElem?_map] at h
  rw [List.length_map] at hk
  cases hf : (fields s.data.toList)[k]? with
  | none => rw [hf] at h; cases h
  | some f =>
    rw [hf] at h
    have hp : Value.string (bs f) = .string p := Option.some.inj h
    cases hp
    have hm := List.mem_of_getElem? hf
    refine ⟨by rw [bs_size]; exact h2 f hm, ?_⟩
    have : (fieldsL s.size s.data.toList).length ≤ s.size + 1 := by omega
    unfold fields at hk
    rw [list_size] at hk
    omega
theorem keepK_length (s : ByteArray) (k : Nat) : (keepK s k).length ≤ k := by
  unfold keepK keepT
  refine Nat.le_trans (List.length_filter_le _ _) ?_
  rw [List.length_map, List.length_take]; omega

theorem grown_keeps1 {b base e size m : Nat} {v : Value} {xs : List Value} {w w' : World} (ho : w.ownsRow base e size v m xs) (hg : w.grownBy w' v.ownBlock) (hb : b < base) : Keeps1 b w w' := by
  intro o hk
  refine (hg.block b (Array.getElem?_eq_some_iff.1 hk).1 fun e => ?_).trans hk
  rcases ho.2 with ⟨rfl, _⟩ | ⟨g, cap, cur, rfl, h1, _⟩
  · cases e
  · have : b = g := by simpa [Value.ownBlock] using e
    omega
theorem grown_others {base e size m : Nat} {v : Value} {xs : List Value} {w w' : World} (ho : w.ownsRow base e size v m xs) (hg : w.grownBy w' v.ownBlock) : KeepsOthers w w' := by
  refine KeepsOthers.of_grownBy hg fun j o ej hj => ?_
  rcases ho.2 with ⟨rfl, _⟩ | ⟨g, cap, cur, rfl, h1, h2, _⟩
  · cases ej
  · have : g = j := by simpa [Value.ownBlock] using ej
    subst this
    rw [h2] at hj; cases hj; rfl
theorem Keeps1.set {b : Nat} (w : World) (p : Addr) (u : Value) (h : b ≠ p.block) : Keeps1 b w (w.setCell p u) := fun o ho => (Below.heap_setCell _ _ _ _ h).trans ho
theorem Keeps1.alloc (b : Nat) (w : World) (o : Obj) : Keeps1 b w (w.alloc o) := fun _ ho => (Below.heap_alloc _ _ _ (Array.getElem?_eq_some_iff.1 ho).1).trans ho

theorem own_ge {base e size m j : Nat} {v : Value} {xs : List Value} {w : World} (ho : w.ownsRow base e size v m xs) (h : v.ownBlock = some j) : base ≤ j := by
  rcases ho.2 with ⟨rfl, _⟩ | ⟨g, cap, cur, rfl, h1, _⟩
  · cases h
  · have : g = j := by simpa [Value.ownBlock] using h
    omega
set_option maxHeartbeats 2000000 in
theorem texts_any (s : ByteArray) (w : World) (hs : s.size ≤ 1000000) :
    Calls Tryd.prog 10 #[.string s] w fun e w' => ∃ v, e = .returned v ∧ w'.ownsRow w.heap.size 9 1 v (textsP s).length ((textsP s).map Value.string) ∧ Below w.heap.size w w' := by
  obtain ⟨i0, hi, hz0, hz1, hz2⟩ := info_parts infoStr
  refine (callsIn_wide (n := 3)).1 ?_
  refine callsIn_of_wp_marks Tryd.func10 rfl trivial ?_ rfl
  simp only [Tryd.ntmps10, List.size_toArray, List.length_cons, List.length_nil, Nat.reduceAdd, Nat.reduceSub, Array.replicate_succ, Array.replicate_zero, List.push_toArray, List.append_toArray, List.nil_append, List.cons_append]
  gi_wp2
  refine ⟨trivial, (callsIn_wide.2 (parts_any s _)).mono ?_⟩
  rintro e w1 ⟨rfl, hx, hb⟩
  have hO : Blk w1 w.heap.size 22 #[.slice none 0 0] := (Blk.new w _ _).below hb (by simp)
  have hB1 : Below w.heap.size w w1 := ((Below.refl _ _).alloc (Nat.le_refl _) _).trans (hb.mono (by simp))
  have hsz : (w.alloc (.cells #[.slice none 0 0] 22)).heap.size = w.heap.size + 1 := by simp
  rw [hsz] at hx ⊢
  have hlt : w.heap.size + 1 < w1.heap.size := hx.lt
  have HX := hide hx
  have HO := hide hO
  have HB1 := hide hB1
  clear hx hO hB1 hb hsz
  gi_wp2
  refine wpIn_range_box (n := 3) (gf := 23) (b := w.heap.size + 1) (lb := #[.pointer (some ⟨w.heap.size + 1, 0, none⟩)]) (xs := partsV s) rfl (enters_of Tryd.func23 (by kernel_rfl) rfl) rfl hlt
    (parts_gives (3 - 1) (w.heap.size + 1) s w1 hs HX.out) (Below.refl _ _)
    (fun k W => (∃ v, Blk W w.heap.size 22 #[v] ∧ W.ownsRow w1.heap.size 9 1 v (keepK s k).length ((keepK s k).map Value.string)) ∧ Below w.heap.size w W ∧ w1.heap.size ≤ W.heap.size)
    (fun _ _ _ => False)
    (fun k A B h hm => by
      obtain ⟨⟨v, h1, h2⟩, h3, h4⟩ := h
      exact ⟨⟨v, hm.blk h1 (by omega), Mild.own hm h2 hlt⟩, hm.below h3 h3.size (by omega) (by omega), Nat.le_trans h4 (by obtain ⟨row, hg, _⟩ := hm; exact hg.size)⟩)
    (fun _ _ _ _ h _ => h)
    ⟨⟨_, HO.out, World.ownsRow_nil _ _ _ _⟩, HB1.out, Nat.le_refl _⟩
    (fun x => { tmps := #[.string s, undef, .slice none 0 0, .pointer (some ⟨w.heap.size, 0, none⟩), x, .string s, .func (.func 23) #[] #[.pointer (some ⟨w.heap.size + 1, 0, none⟩)], x, undef, undef, undef, undef, undef, undef, undef, undef, undef], defers := [] }) ?assign ?body ?done ?stop
  case assign =>
    intro l x W K hK
    gi_wp2
    exact hK
  case body =>
    rintro l k x W hx ⟨⟨v, hO, hr⟩, hB, hsW⟩
    obtain ⟨p, rfl, hkeep⟩ := keepK_snoc s k x hx
    obtain ⟨hps, hks⟩ := partsV_size s k p hx
    have hkl := keepK_length s k
    have Hkeep := hide hkeep
    have HO2 := hide hO
    have HR := hide hr
    have HB := hide hB
    clear hkeep hO hr hB hx HX HO HB1
    gi_wp2
    refine ⟨trivial, (CallsIn.inRound l (callsIn_wide.2 (trim_any p _ (by omega)))).mono ?_⟩
    rintro e w2 ⟨rfl, hb2⟩
    have hO2 := HO2.out.below hb2 HO2.out.lt
    have hR2 := own_below HR.out hb2
    have HB2 := hide (HB.out.trans (hb2.mono HB.out.size))
    have HK := hide (KeepsOthers.below hb2)
    have hlt2 : w1.heap.size ≤ w2.heap.size := Nat.le_trans hsW hb2.size
    have HK1 : Hid (Keeps1 (w.heap.size + 1) W w2) := Keeps1.of_below hb2
    obtain ⟨t, ht⟩ : ∃ t, trimS p = t := ⟨_, rfl⟩
    rw [ht] at Hkeep
    rw [ht]
    clear ht hb2
    rcases empty_tests t with ⟨h0, rfl⟩ | ⟨h0, h1, h2⟩
    · have HE : Hid (keepK s (k + 1) = keepK s k) := by show _ = _; rw [Hkeep.out, if_pos h0]
      have HO3 := hide hO2
      have HR3 := hide hR2
      clear hO2 hR2 h0
      gi_wp2
      exact ⟨HK.out, HK1.out, ⟨v, HO3.out, by rw [HE.out]; exact HR3.out⟩, HB2.out, hlt2⟩
    · have HE : Hid (keepK s (k + 1) = keepK s k ++ [t]) := by show _ = _; rw [Hkeep.out, if_neg (by omega)]
      have g0 := hO2.cell 0
      have f0 := hO2.frozen 0
      simp at g0
      have hne := own_apart hR2 hO2 (by decide)
      have HNE := hide hne
      have HO3 := hide hO2
      have HR3 := hide hR2
      clear hO2 hR2 hne h0
      gi_wp2_with (gi_at_builtin; refine wpListIn_append_own _ rfl _ _ 22 rfl w1.heap.size 9 i0 (.string ⟨#[]⟩) 1 16 Tryd.underlying22 hi hz0 hz1 hz2 rfl (by decide) _ _ _ rfl (HR3.out.alloc _) ⟨w2.heap.size, 0, none⟩ 1 1 [.string t] rfl rfl (cell_one_new _ _ _) (by simp [Value.oneCell']) (by simp [maxLen]; omega) (by omega) (by simp; omega) ?_; intro v' w3 hown3 hgrow _; obtain ⟨a3, c3, rfl⟩ := own_slice hown3; have hO4 := (HO3.out.alloc (.cells #[.string t] 9)).grown hgrow (fun e => HNE.out e.symm); have g1 := hO4.cell 0; have f1 := hO4.frozen 0; simp at g1; have HO4 := hide hO4; have HR4 := hide hown3; have HG : Hid ((w2.alloc (.cells #[.string t] 9)).grownBy w3 v.ownBlock) := hgrow; clear g0 f0 hown3 hgrow hO4)
      refine ⟨((HK.out.trans (KeepsOthers.alloc _ _)).trans (grown_others (HR3.out.alloc _) HG.out)).trans (KeepsOthers.setCell _ _ _), ((HK1.out.trans (Keeps1.alloc _ _ _)).trans (grown_keeps1 (HR3.out.alloc _) HG.out hlt)).trans (Keeps1.set _ _ _ (by simp)), ⟨_, HO4.out.put 0 _, ?_⟩, ?_, ?_⟩
      · rw [HE.out, List.length_append, List.map_append]
        exact ownsRow_setCell_below HR4.out (a := ⟨w.heap.size, 0, none⟩) (by show w.heap.size < w1.heap.size; omega) _
      · exact ((HB2.out.alloc HB2.out.size _).grown HG.out (by have := HB2.out.size; simp; omega) (fun j e => by have := own_ge HR3.out e; omega)).setCell (p := ⟨w.heap.size, 0, none⟩) (Nat.le_refl _) _
      · have h1 := HG.out.size
        simp at h1
        simp [World.setCell]
        omega
  case done =>
    rintro D W hD ⟨⟨v, hO, hr⟩, hB, _⟩ hK
    have g0 := hO.cell 0
    simp at g0
    have HR := hide hr
    have HB := hide hB
    have HE := hide (keepK_all s)
    clear hr hB hO HX HO HB1
    gi_wp2
    refine ⟨by simp, .inl ⟨_, _, rfl, run_takeDeferred hK, ?_⟩⟩
    refine ⟨_, results_tmp rfl _ _ _, _, rfl, ?_, ?_⟩
    · have h2 := ownsRow_putObj HR.out (.deferred none) hK rfl
      rw [HE.out] at h2
      exact own_base h2 (by omega)
    · exact HB.out.trans (belowK_b (w := w) (Nat.le_refl _) W D _ _ (by omega) hK rfl rfl)
  case stop =>
    rintro D c k W _ _ h _
    exact h.elim
end Go.Proofs.YtmmfipkdkofdkaaDoor
