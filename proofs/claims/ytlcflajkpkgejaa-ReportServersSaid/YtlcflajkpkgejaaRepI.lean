/-
  The laws' own guard. No condition.
-/
import Derived.Test.YtlcflajkpkgejaaRepH
namespace Go.Proofs.Ytlcflajkpkgejaa
open Go.RowKit
set_option linter.unusedVariables false
set_option linter.unusedSimpArgs false

/-- The numbers fit. -/
structure Ranged (v : View) : Prop where
  n3 : v.n3 ≤ 9223372036854775807
  rc : ∀ i, i < v.C.length → InRange ([(v.C.getD i default).phase, (v.C.getD i default).server, (v.C.getD i default).done] ++ (v.C.getD i default).table)
  rs : ∀ i, i < v.S.length → InRange ([(v.S.getD i default).state, (v.S.getD i default).holder, (v.S.getD i default).queue] ++ (v.S.getD i default).cache)
  rw_ : InRange v.W
theorem few_of {v : View} (h : FewN v) (hr : Ranged v) : Few v := by
  have h1 := h.nc
  have h2 := h.ns
  refine ⟨h.nc, h.ns, h.nw, hr.n3, h.tb, h.ch, fun i hi x hx => ?_, fun i hi x hx => ?_, hr.rw_⟩
  · unfold CV.nums at hx
    rcases List.mem_cons.1 hx with rfl | hx
    · omega
    · exact hr.rc i hi x hx
  · unfold SV.nums at hx
    rcases List.mem_cons.1 hx with rfl | hx
    · omega
    · exact hr.rs i hi x hx
theorem own_slice {w : World} {B : Nat} {v : Value} {L : List ByteArray} (h : w.ownsRow B 9 1 v L.length (strs L)) : ∃ a c, v = .slice a L.length c ∧ StrsAt w a L := by
  rcases h.2 with ⟨rfl, h0⟩ | ⟨g, cap, cur, rfl, _⟩
  · exact ⟨none, 0, by rw [h0], .inl (List.length_eq_zero_iff.1 h0)⟩
  · exact ⟨_, cap, rfl, StrsAt.of_own h⟩
theorem lines_lit (a1 : Option Addr) (C : List CV) (c1 : Nat) (a2 : Option Addr) (S : List SV) (c2 : Nat) (a3 : Option Addr) (n3 c3 : Nat) (a4 : Option Addr) (L4 : List Int) (c4 : Nat) (w : World) (h : ViewAt w ⟨a1, C, c1, a2, S, c2, a3, n3, c3, a4, L4, c4⟩) (hf : Few ⟨a1, C, c1, a2, S, c2, a3, n3, c3, a4, L4, c4⟩) :
    Calls Try.prog 8 #[.agg #[.slice a1 C.length c1, .slice a2 S.length c2, .slice a3 n3 c3, .slice a4 L4.length c4]] w (LinesOf w (linesB C S n3 L4)) := lines_any _ w h hf
theorem rlines_lit (a1 : Option Addr) (C : List CV) (c1 : Nat) (a2 : Option Addr) (S : List SV) (c2 : Nat) (a3 : Option Addr) (n3 c3 : Nat) (a4 : Option Addr) (L4 : List Int) (c4 : Nat) (w : World) (h : ViewAt w ⟨a1, C, c1, a2, S, c2, a3, n3, c3, a4, L4, c4⟩) (hf : Few ⟨a1, C, c1, a2, S, c2, a3, n3, c3, a4, L4, c4⟩) :
    Calls Try.prog 9 #[.agg #[.slice a1 C.length c1, .slice a2 S.length c2, .slice a3 n3 c3, .slice a4 L4.length c4]] w (LinesOf w (linesB C S n3 L4)) := rlines_any _ w h hf
theorem few_lit (a1 : Option Addr) (C : List CV) (c1 : Nat) (a2 : Option Addr) (S : List SV) (c2 : Nat) (a3 : Option Addr) (n3 c3 : Nat) (a4 : Option Addr) (L4 : List Int) (c4 : Nat) (w : World) (h : ViewAt w ⟨a1, C, c1, a2, S, c2, a3, n3, c3, a4, L4, c4⟩) :
    Calls Try.prog 5 #[.agg #[.slice a1 C.length c1, .slice a2 S.length c2, .slice a3 n3 c3, .slice a4 L4.length c4]] w (FewRes ⟨a1, C, c1, a2, S, c2, a3, n3, c3, a4, L4, c4⟩ w) := few_any _ w h

def three : List ByteArray := [⟨#[115, 101, 114, 118, 101, 114, 32, 48, 32, 50, 32, 45, 49, 32, 48, 32, 55]⟩, ⟨#[114, 101, 103, 105, 115, 116, 114, 121, 32, 48]⟩, ⟨#[119, 97, 105, 116, 105, 110, 103]⟩]
theorem three_is (y : Option Addr) : linesB [] [⟨2, -1, 0, 0, [7], y, 1, none, 0, 0⟩] ((0 : Nat) : Int) [] = three := by
  have h : lineB serverW [0, 2, -1, 0, 7] = ⟨#[115, 101, 114, 118, 101, 114, 32, 48, 32, 50, 32, 45, 49, 32, 48, 32, 55]⟩ := by decide +kernel
  have h2 : lineB registryW [0] = ⟨#[114, 101, 103, 105, 115, 116, 114, 121, 32, 48]⟩ := by decide +kernel
  have h3 : lineB waitingW [] = ⟨#[119, 97, 105, 116, 105, 110, 103]⟩ := by decide +kernel
  show [lineB serverW [0, 2, -1, 0, 7], lineB registryW [0], lineB waitingW []] = three
  rw [h, h2, h3]; rfl
theorem three_find : findL ⟨#[114, 101, 103, 105, 115, 116, 114, 121]⟩ 0 three = 1 := by decide +kernel

theorem awake_any (w : World) : Calls Try.prog 6 #[] w fun e w' => e = .returned (.bool true) ∧ Below w.heap.size w w' := by
  have hy : Blk (w.alloc (.cells #[.int .i64 7] 3)) w.heap.size 3 #[.int .i64 7] := Blk.new w _ _
  have hx : Blk ((w.alloc (.cells #[.int .i64 7] 3)).alloc (.cells #[.int .i64 2, .int .i64 (-1), .int .i64 0, .int .u8 0, .slice (some ⟨w.heap.size, 0, none⟩) 1 1, .slice none 0 0] 40)) (w.heap.size + 1) 40 #[.int .i64 2, .int .i64 (-1), .int .i64 0, .int .u8 0, .slice (some ⟨w.heap.size, 0, none⟩) 1 1, .slice none 0 0] := by
    have := Blk.new (w.alloc (.cells #[.int .i64 7] 3)) 40 #[.int .i64 2, .int .i64 (-1), .int .i64 0, .int .u8 0, .slice (some ⟨w.heap.size, 0, none⟩) 1 1, .slice none 0 0]
    simpa using this
  have hv : ViewAt ((w.alloc (.cells #[.int .i64 7] 3)).alloc (.cells #[.int .i64 2, .int .i64 (-1), .int .i64 0, .int .u8 0, .slice (some ⟨w.heap.size, 0, none⟩) 1 1, .slice none 0 0] 40)) ⟨none, [], 0, some ⟨w.heap.size + 1, 0, none⟩, [⟨2, -1, 0, 0, [7], some ⟨w.heap.size, 0, none⟩, 1, none, 0, 0⟩], 1, none, 0, 0, none, [], 0⟩ := by
    have hy2 := hy.alloc (.cells #[.int .i64 2, .int .i64 (-1), .int .i64 0, .int .u8 0, .slice (some ⟨w.heap.size, 0, none⟩) 1 1, .slice none 0 0] 40)
    refine ⟨.inl rfl, .inr ⟨w.heap.size + 1, 0, rfl, hx.lt, fun i hi => ?_⟩, .inl rfl⟩
    have hi0 : i = 0 := by simp at hi; omega
    subst hi0
    refine ⟨⟨hx.cell 0, hx.cell 1, hx.cell 2, hx.cell 3, hx.cell 4, hx.cell 5⟩, (fun h => by cases h), .inr ⟨w.heap.size, 0, rfl, hy2.lt, fun j hj => ?_⟩⟩
    have hj0 : j = 0 := by
      have : j < 1 := hj
      omega
    subst hj0
    exact hy2.cell 0
  have hf : Few ⟨none, [], 0, some ⟨w.heap.size + 1, 0, none⟩, [⟨2, -1, 0, 0, [7], some ⟨w.heap.size, 0, none⟩, 1, none, 0, 0⟩], 1, none, 0, 0, none, [], 0⟩ := by
    refine ⟨show 0 ≤ 40 from by decide, show 1 ≤ 20 from by decide, show 0 ≤ 60 from by decide, show 0 ≤ 9223372036854775807 from by decide, fun i hi => ?_, fun i hi => ?_, fun i hi => ?_, fun i hi => ?_, fun x hx => ?_⟩
    · exact absurd hi (Nat.not_lt_zero i)
    · have hi0 : i = 0 := by
        have : i < 1 := hi
        omega
      subst hi0
      show 1 ≤ 60
      decide
    · exact absurd hi (Nat.not_lt_zero i)
    · have hi0 : i = 0 := by
        have : i < 1 := hi
        omega
      subst hi0
      intro x hx
      have hx : x ∈ ([0, 2, -1, 0, 7] : List Int) := hx
      simp at hx
      omega
    · exact absurd hx (List.not_mem_nil)
  have hb : Below w.heap.size w ((w.alloc (.cells #[.int .i64 7] 3)).alloc (.cells #[.int .i64 2, .int .i64 (-1), .int .i64 0, .int .u8 0, .slice (some ⟨w.heap.size, 0, none⟩) 1 1, .slice none 0 0] 40)) := ((Below.refl _ w).alloc (Nat.le_refl _) _).alloc (by simp) _
  have HV := hide hv
  have HF := hide hf
  have HB := hide hb
  clear hy hx hv hf hb
  go_enter Try.func6, Try.ntmps6
  go_wp2_with fail
  refine (lines_lit none [] 0 (some ⟨w.heap.size + 1, 0, none⟩) [⟨2, -1, 0, 0, [7], some ⟨w.heap.size, 0, none⟩, 1, none, 0, 0⟩] 1 none 0 0 none [] 0 _ HV.out HF.out).mono ?_
  rintro e w1 ⟨v, rfl, hv, hb1⟩
  rw [three_is] at hv
  have HB1 := hide (below_via HB.out hb1)
  have HV1 := hide hv
  obtain ⟨a, c, rfl, hs⟩ := own_slice hv
  have hx1 := own_new w1 9 #[.string ⟨#[115, 101, 114, 118, 101, 114, 32, 48, 32, 50, 32, 45, 49, 32, 48, 32, 55]⟩, .string ⟨#[114, 101, 103, 105, 115, 116, 114, 121, 32, 48]⟩, .string ⟨#[119, 97, 105, 116, 105, 110, 103]⟩] (by simp [maxLen])
  have hb2 : Below w1.heap.size w1 (w1.alloc (.cells #[.string ⟨#[115, 101, 114, 118, 101, 114, 32, 48, 32, 50, 32, 45, 49, 32, 48, 32, 55]⟩, .string ⟨#[114, 101, 103, 105, 115, 116, 114, 121, 32, 48]⟩, .string ⟨#[119, 97, 105, 116, 105, 110, 103]⟩] 9)) := (Below.refl _ _).alloc (Nat.le_refl _) _
  have HX1 := hide hx1
  have HV2 := hide (own_below hv hb2)
  have HB2 := hide (below_via HB1.out hb2)
  have HS2 := hide (hs.below hb2)
  clear hb1 hv hs hx1 hb2
  rw [show three.length = 3 from rfl]
  go_wp2_with fail
  refine (equal_own _ _ _ _ three _ (by decide) HV2.out HX1.out).mono ?_
  rintro e w3 ⟨rfl, hb3⟩
  have HB3 := hide (below_via HB2.out hb3)
  have HS3 := hide (HS2.out.below hb3)
  clear hb3
  go_wp2_with fail
  refine (find_any a three c ⟨#[114, 101, 103, 105, 115, 116, 114, 121]⟩ _ HS3.out (by decide)).mono ?_
  rintro e w4 ⟨rfl, rfl⟩
  rw [three_find]
  go_wp2_with fail
  have h12 : IntsAt (w3.alloc (.cells #[.int .i64 1, .int .i64 2] 3)) (some ⟨w3.heap.size, 0, none⟩) [1, 2] := IntsAt.of_own (own_new w3 3 #[.int .i64 1, .int .i64 2] (by simp [maxLen]))
  have hr12 : InRange [1, 2] := by
    intro x hx
    simp at hx
    omega
  have HB4 := hide (HB3.out.alloc HB3.out.size (.cells #[.int .i64 1, .int .i64 2] 3))
  refine (counts_any (some ⟨w3.heap.size, 0, none⟩) [1, 2] 2 _ h12 hr12 (by decide) (by decide)).mono ?_
  rintro e w5 ⟨v5, rfl, hv5, hb5⟩
  have HB5 := hide (below_via HB4.out hb5)
  obtain ⟨a5, c5, rfl, hs5⟩ := own_slice hv5
  rw [show (cntN [1, 2] (min ([1, 2] : List Int).length 5)).length = 2 from rfl]
  clear hb5 hv5 hs5 h12 hr12
  go_wp2_with fail
  go_returns
  exact ⟨rfl, HB5.out⟩
end Go.Proofs.Ytlcflajkpkgejaa
