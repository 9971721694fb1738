/-
  What a view is in memory; the program's lines. No condition.
-/
import Derived.Test.YtlcflajkpkgejaaRepL
import Derived.Deep.RegionHeld3
import Derived.Deep.AppendLies
namespace Go.Proofs.Ytlcflajkpkgejaa
open Go.RowKit
set_option linter.unusedVariables false
set_option linter.unusedSimpArgs false

def ClientsAt (w : World) (a : Option Addr) (C : List CV) : Prop :=
  C = [] ∨ ∃ b off, a = some ⟨b, off, none⟩ ∧ b < w.heap.size ∧ ∀ i, i < C.length →
    (w.cell? ⟨b, off + i * 4, none⟩ = some (.int .i64 (C.getD i default).phase) ∧ w.cell? ⟨b, off + i * 4 + 1, none⟩ = some (.int .i64 (C.getD i default).server) ∧ w.cell? ⟨b, off + i * 4 + 2, none⟩ = some (.int .i64 (C.getD i default).done) ∧
      w.cell? ⟨b, off + i * 4 + 3, none⟩ = some (.slice (C.getD i default).ta (C.getD i default).table.length (C.getD i default).tc)) ∧ NamedAt w (C.getD i default).ta (C.getD i default).table
theorem ClientsAt.below {w w' : World} {a : Option Addr} {C : List CV} (h : ClientsAt w a C) (hb : Below w.heap.size w w') : ClientsAt w' a C := by
  rcases h with h | ⟨b, off, e, hlt, hc⟩
  · exact .inl h
  · refine .inr ⟨b, off, e, Nat.lt_of_lt_of_le hlt hb.size, fun i hi => ?_⟩
    obtain ⟨⟨h0, h1, h2, h3⟩, h4⟩ := hc i hi
    exact ⟨⟨(hb.cell (p := ⟨b, _, none⟩) hlt).trans h0, (hb.cell (p := ⟨b, _, none⟩) hlt).trans h1, (hb.cell (p := ⟨b, _, none⟩) hlt).trans h2, (hb.cell (p := ⟨b, _, none⟩) hlt).trans h3⟩, h4.below hb⟩
def ServersAt (w : World) (a : Option Addr) (S : List SV) : Prop :=
  S = [] ∨ ∃ b off, a = some ⟨b, off, none⟩ ∧ b < w.heap.size ∧ ∀ i, i < S.length →
    (w.cell? ⟨b, off + i * 6, none⟩ = some (.int .i64 (S.getD i default).state) ∧ w.cell? ⟨b, off + i * 6 + 1, none⟩ = some (.int .i64 (S.getD i default).holder) ∧ w.cell? ⟨b, off + i * 6 + 2, none⟩ = some (.int .i64 (S.getD i default).queue) ∧
      w.cell? ⟨b, off + i * 6 + 3, none⟩ = some (.int .u8 (S.getD i default).status) ∧ w.cell? ⟨b, off + i * 6 + 4, none⟩ = some (.slice (S.getD i default).ca (S.getD i default).cache.length (S.getD i default).cc) ∧
      w.cell? ⟨b, off + i * 6 + 5, none⟩ = some (.slice (S.getD i default).pa (S.getD i default).pl (S.getD i default).pc)) ∧ Cached w (S.getD i default).ca (S.getD i default).cc (S.getD i default).cache
theorem ServersAt.below {w w' : World} {a : Option Addr} {S : List SV} (h : ServersAt w a S) (hb : Below w.heap.size w w') : ServersAt w' a S := by
  rcases h with h | ⟨b, off, e, hlt, hc⟩
  · exact .inl h
  · refine .inr ⟨b, off, e, Nat.lt_of_lt_of_le hlt hb.size, fun i hi => ?_⟩
    obtain ⟨⟨h0, h1, h2, h3, h4, h5⟩, h6⟩ := hc i hi
    exact ⟨⟨(hb.cell (p := ⟨b, _, none⟩) hlt).trans h0, (hb.cell (p := ⟨b, _, none⟩) hlt).trans h1, (hb.cell (p := ⟨b, _, none⟩) hlt).trans h2, (hb.cell (p := ⟨b, _, none⟩) hlt).trans h3, (hb.cell (p := ⟨b, _, none⟩) hlt).trans h4, (hb.cell (p := ⟨b, _, none⟩) hlt).trans h5⟩, h6.below hb⟩

/-- A view that came in. -/
structure View where
  a1 : Option Addr
  C : List CV
  c1 : Nat
  a2 : Option Addr
  S : List SV
  c2 : Nat
  a3 : Option Addr
  n3 : Nat
  c3 : Nat
  a4 : Option Addr
  W : List Int
  c4 : Nat
def View.cells (v : View) : Array Value := #[.slice v.a1 v.C.length v.c1, .slice v.a2 v.S.length v.c2, .slice v.a3 v.n3 v.c3, .slice v.a4 v.W.length v.c4]
structure ViewAt (w : World) (v : View) : Prop where
  cl : ClientsAt w v.a1 v.C
  sv : ServersAt w v.a2 v.S
  wt : IntsAt w v.a4 v.W
theorem ViewAt.below {w w' : World} {v : View} (h : ViewAt w v) (hb : Below w.heap.size w w') : ViewAt w' v := ⟨h.cl.below hb, h.sv.below hb, h.wt.below hb⟩
/-- It is small, and its numbers fit. -/
structure Few (v : View) : Prop where
  nc : v.C.length ≤ 40
  ns : v.S.length ≤ 20
  nw : v.W.length ≤ 60
  n3 : v.n3 ≤ 9223372036854775807
  tb : ∀ i, i < v.C.length → (v.C.getD i default).table.length ≤ 40
  ch : ∀ i, i < v.S.length → (v.S.getD i default).cache.length ≤ 60
  rc : ∀ i, i < v.C.length → InRange ((v.C.getD i default).nums i)
  rs : ∀ i, i < v.S.length → InRange ((v.S.getD i default).nums i)
  rw_ : InRange v.W
def View.lines (v : View) : List ByteArray := linesB v.C v.S v.n3 v.W

theorem line_one (word : ByteArray) (b : Nat) (n : Int) (w : World) (hb : b < w.heap.size) (hc : w.cell? ⟨b, 0, none⟩ = some (.int .i64 n)) (hr : InRange [n]) (hw : word.size ≤ 20) :
    Calls Try.prog 16 #[.string word, .slice (some ⟨b, 0, none⟩) 1 1] w fun e w' => e = .returned (.string (lineB word [n])) ∧ Below w.heap.size w w' :=
  line_any word (some ⟨b, 0, none⟩) [n] 1 w (.inr ⟨b, 0, rfl, hb, fun j hj => by
    have : j = 0 := by simp at hj; omega
    subst this; exact hc⟩) hr (by simp) hw
theorem rline_one (word : ByteArray) (b : Nat) (n : Int) (w : World) (hb : b < w.heap.size) (hc : w.cell? ⟨b, 0, none⟩ = some (.int .i64 n)) (hr : InRange [n]) (hw : word.size ≤ 20) :
    Calls Try.prog 17 #[.string word, .slice (some ⟨b, 0, none⟩) 1 1] w fun e w' => e = .returned (.string (lineB word [n])) ∧ Below w.heap.size w w' :=
  rline_any word (some ⟨b, 0, none⟩) [n] 1 w (.inr ⟨b, 0, rfl, hb, fun j hj => by
    have : j = 0 := by simp at hj; omega
    subst this; exact hc⟩) hr (by simp) hw

theorem two_alloc {W : World} (o : Obj) {A i j : Nat} {x y : Value} (h : W.cell? ⟨A, i, none⟩ = some x ∧ W.cell? ⟨A, j, none⟩ = some y) : (W.alloc o).cell? ⟨A, i, none⟩ = some x ∧ (W.alloc o).cell? ⟨A, j, none⟩ = some y := by
  have hb : Below W.heap.size W (W.alloc o) := (Below.refl _ _).alloc (Nat.le_refl _) o
  exact ⟨(hb.cell (World.block_lt_of_cell? _ _ h.1)).trans h.1, (hb.cell (World.block_lt_of_cell? _ _ h.2)).trans h.2⟩
theorem two_drew {W : World} {A i j : Nat} {x y : Value} (h : W.cell? ⟨A, i, none⟩ = some x ∧ W.cell? ⟨A, j, none⟩ = some y) : W.drew.cell? ⟨A, i, none⟩ = some x ∧ W.drew.cell? ⟨A, j, none⟩ = some y := h

def LinesOf (w : World) (l : List ByteArray) (e : Ending) (w' : World) : Prop := ∃ v, e = .returned v ∧ w'.ownsRow w.heap.size 9 1 v l.length (strs l) ∧ Below w.heap.size w w'
theorem strs_append (a b : List ByteArray) : strs a ++ strs b = strs (a ++ b) := by simp [strs]
theorem strs_length (l : List ByteArray) : (strs l).length = l.length := List.length_map ..

set_option maxHeartbeats 1000000 in
theorem lines_any (v : View) (w : World) (h : ViewAt w v) (hf : Few v) :
    Calls Try.prog 8 #[.agg v.cells] w (LinesOf w v.lines) := by
  obtain ⟨i0, hi, hz0, hz1, hz2⟩ := info_parts infoStr
  obtain ⟨a1, C, c1, a2, S, c2, a3, n3, c3, a4, L4, c4⟩ := v
  have H := hide h
  have HF := hide hf
  have hnc : C.length ≤ 40 := hf.nc
  have hns : S.length ≤ 20 := hf.ns
  have hbx : Blk (w.alloc (.cells #[.slice a1 C.length c1, .slice a2 S.length c2, .slice a3 n3 c3, .slice a4 L4.length c4] 27)) w.heap.size 27 #[.slice a1 C.length c1, .slice a2 S.length c2, .slice a3 n3 c3, .slice a4 L4.length c4] := Blk.new w _ _
  have hb0 : Below w.heap.size w (w.alloc (.cells #[.slice a1 C.length c1, .slice a2 S.length c2, .slice a3 n3 c3, .slice a4 L4.length c4] 27)) := (Below.refl _ _).alloc (Nat.le_refl _) _
  have HX := hide hbx
  have HB0 := hide hb0
  clear h hf hbx hb0
  unfold View.cells
  go_enter Try.func8, Try.ntmps8
  go_upto_region 2 with fail
  refine Code.wp_named (fun W => Blk W w.heap.size 27 #[.slice a1 C.length c1, .slice a2 S.length c2, .slice a3 n3 c3, .slice a4 L4.length c4] ∧ Below w.heap.size w W) ⟨HX.out, HB0.out⟩ ?_
  clear HX HB0
  rintro W0 ⟨hbx, hb0⟩
  have e0 := hbx.cell 0
  simp at e0
  have HX := hide hbx
  have HB0 := hide hb0
  have hs0 : w.heap.size < W0.heap.size := hbx.lt
  clear hbx hb0
  go_wp2_with fail
  go_loopw [3, 11] (fun v i wr => ∃ j : Nat, j ≤ C.length ∧ i = .int .i64 j ∧ wr.ownsRow W0.heap.size 9 1 v (clN C j).length (strs (clN C j)) ∧ Below W0.heap.size W0 wr) (fun _ i _ => 64 - (intOf i).toNat)
  case atStart => exact ⟨0, Nat.zero_le _, rfl, by simpa [clN, strs] using World.ownsRow_nil W0 W0.heap.size 9 1, Below.refl _ _⟩
  case round =>
    obtain ⟨j, hj, rfl, hown, hB⟩ := hrel
    by_cases hlt : j < C.length
    · have hB0 := below_via HB0.out hB
      rcases H.out.cl.below hB0 with h0 | ⟨b, off, rfl, hbl, hc⟩
      · have h0 : C = [] := h0
        subst h0; simp at hlt
      obtain ⟨⟨z0, z1, z2, z3⟩, hna⟩ := hc j hlt
      have htb := HF.out.tb j hlt
      have hrc := HF.out.rc j hlt
      have hstep : clN C (j + 1) = if (C.getD j default).phase = 0 then clN C j else clN C j ++ [cvLine j (C.getD j default)] := rfl
      have hlen : (clN C j).length ≤ j := by rw [clN_length]; exact cameN_le C j
      change (C.getD j default).table.length ≤ 40 at htb
      change InRange ((C.getD j default).nums j) at hrc
      simp only at z0 z1 z2 z3
      generalize C.getD j default = c at z0 z1 z2 z3 hna htb hrc hstep
      obtain ⟨ph, sv, dn, T, ta, tc⟩ := c
      simp only at z0 z1 z2 z3 hna htb hstep
      have k0 : (0 : Int) ≤ (j : Int) := by omega
      have k1 : (j : Int) < (C.length : Int) := by omega
      have Hstep := hide hstep
      have HB := hide hB
      have Hown := hide hown
      have Hna := hide hna
      have Hrc := hide hrc
      have hs1 := hB.size
      clear hc hB hB0 hown hna hrc hstep e0
      by_cases h0 : ph = 0
      · rw [if_pos h0] at Hstep
        subst h0
        go_wp2_with fail
        go_roundw
        case rel => exact ⟨j + 1, by omega, by go_num, by rw [Hstep.out]; exact Hown.out.alloc _, HB.out.alloc hs1 _⟩
        case measure => simp [intOf]; omega
      · rw [if_neg h0] at Hstep
        have h0b : (ph == 0) = false := by simpa using h0
        have hBx : Below wr.heap.size wr (wr.alloc (.cells #[.int .i64 ph, .int .i64 sv, .int .i64 dn, .slice ta T.length tc] 38)) := (Below.refl _ _).alloc (Nat.le_refl _) _
        have Hna1 := hide (Hna.out.below hBx)
        have HB1 := hide (below_via HB.out hBx)
        have Hown1 := hide (own_below Hown.out hBx)
        clear hBx Hna HB Hown
        go_wp2_with fail
        refine (client_any j ⟨ph, sv, dn, T, ta, tc⟩ _ Hna1.out Hrc.out htb).mono ?_
        rintro e w1 ⟨rfl, hb1⟩
        have hown1 := own_below Hown1.out hb1
        have HB2 := hide (below_via HB1.out hb1)
        have hbs := HB2.out.size
        clear hb1 z0 z1 z2 z3
        go_wp2_with (at_builtin; refine wpList_append_one w1 rfl _ _ 28 rfl W0.heap.size 9 i0 (.string ByteArray.empty) 1 16 Try.underlying28 hi hz0 hz1 hz2 rfl (by decide) _ _ _ [.string (cvLine j ⟨ph, sv, dn, T, ta, tc⟩)] hown1 rfl rfl (by simp [Value.oneCell']) rfl (by simp [maxLen]; omega) (by omega) hbs ?_; intro v2 w2 hown2 hb2 _)
        go_roundw
        case rel => exact ⟨j + 1, by omega, by go_num, by rw [Hstep.out, List.length_append, ← strs_one]; exact hown2, HB2.out.trans hb2⟩
        case measure => simp [intOf]; omega
    · have he : j = C.length := by omega
      subst he
      have hlen1 : (clN C C.length).length ≤ C.length := by rw [clN_length]; exact cameN_le C _
      have hx := HX.out.below hB HX.out.lt
      have e1 := hx.cell 1
      simp at e1
      have HX1 := hide hx
      have HB1 := hide hB
      have Hown := hide hown
      have hs1 := hB.size
      clear hown hB hx e0
      go_wp2_with fail
      go_loopw [3, 29] (fun v i wq => ∃ j : Nat, j ≤ S.length ∧ i = .int .i64 j ∧ wq.ownsRow W0.heap.size 9 1 v (clN C C.length ++ svN S j).length (strs (clN C C.length ++ svN S j)) ∧ Below W0.heap.size W0 wq) (fun _ i _ => 64 - (intOf i).toNat)
      case atStart => exact ⟨0, Nat.zero_le _, rfl, by simpa [svN] using Hown.out, HB1.out⟩
      case round =>
        clear Hown HB1 hs1 e1 HX1
        obtain ⟨j, hj, rfl, hown, hB⟩ := hrel
        have hlen2 : (clN C C.length ++ svN S j).length ≤ C.length + j := by rw [List.length_append, svN_length]; omega
        by_cases hlt : j < S.length
        · have hB0 := below_via HB0.out hB
          rcases H.out.sv.below hB0 with h0 | ⟨b, off, rfl, hbl, hc⟩
          · have h0 : S = [] := h0
            subst h0; simp at hlt
          obtain ⟨⟨z0, z1, z2, z3, z4, z5⟩, hna⟩ := hc j hlt
          have htb := HF.out.ch j hlt
          have hrc := HF.out.rs j hlt
          have hstep : clN C C.length ++ svN S (j + 1) = clN C C.length ++ svN S j ++ [svLine j (S.getD j default)] := by rw [List.append_assoc]; rfl
          generalize clN C C.length ++ svN S j = L at hown hlen2 hstep
          change (S.getD j default).cache.length ≤ 60 at htb
          change InRange ((S.getD j default).nums j) at hrc
          simp only at z0 z1 z2 z3 z4 z5
          generalize S.getD j default = c at z0 z1 z2 z3 z4 z5 hna htb hrc hstep
          obtain ⟨st, ho, qu, ss, K, ca, cc, pa, pl, pc⟩ := c
          simp only at z0 z1 z2 z3 z4 z5 hna htb
          have k0 : (0 : Int) ≤ (j : Int) := by omega
          have k1 : (j : Int) < (S.length : Int) := by omega
          have Hstep := hide hstep
          have HB := hide hB
          have Hown := hide hown
          have Hna := hide hna
          have Hrc := hide hrc
          have hs1 := hB.size
          clear hc hB hB0 hown hna hrc hstep
          have hBx : Below wr.heap.size wr (wr.alloc (.cells #[.int .i64 st, .int .i64 ho, .int .i64 qu, .int .u8 ss, .slice ca K.length cc, .slice pa pl pc] 40)) := (Below.refl _ _).alloc (Nat.le_refl _) _
          have Hna1 := hide (Hna.out.below hBx)
          have HB1 := hide (below_via HB.out hBx)
          have Hown1 := hide (own_below Hown.out hBx)
          clear hBx Hna HB Hown
          go_wp2_with fail
          refine (server_any j ⟨st, ho, qu, ss, K, ca, cc, pa, pl, pc⟩ _ Hna1.out Hrc.out htb).mono ?_
          rintro e w1 ⟨rfl, hb1⟩
          have hown1 := own_below Hown1.out hb1
          have HB2 := hide (below_via HB1.out hb1)
          have hbs := HB2.out.size
          clear hb1 z0 z1 z2 z3 z4 z5
          go_wp2_with (at_builtin; refine wpList_append_one w1 rfl _ _ 28 rfl W0.heap.size 9 i0 (.string ByteArray.empty) 1 16 Try.underlying28 hi hz0 hz1 hz2 rfl (by decide) _ _ _ [.string (svLine j ⟨st, ho, qu, ss, K, ca, cc, pa, pl, pc⟩)] hown1 rfl rfl (by simp [Value.oneCell']) rfl (by simp [maxLen]; omega) (by omega) hbs ?_; intro v2 w2 hown2 hb2 _)
          go_roundw
          case rel => exact ⟨j + 1, by omega, by go_num, by rw [Hstep.out, List.length_append, ← strs_one]; exact hown2, HB2.out.trans hb2⟩
          case measure => simp [intOf]; omega
        · have he : j = S.length := by omega
          subst he
          have hx := HX.out.below hB HX.out.lt
          have e2 := hx.cell 2
          have e3 := hx.cell 3
          simp at e2 e3
          have h4 : IntsAt wr a4 L4 := H.out.wt.below (below_via HB0.out hB)
          have Hx := hide hx
          have H4 := hide h4
          have HB := hide hB
          have Hown := hide hown
          have hs1 := hB.size
          clear hown hB hx h4
          generalize hVe : w.heap.size = V at e2 e3 Hx hs0 HB0 ⊢
          have HVe := hide hVe
          clear hVe
          have hV : V < wr.heap.size := by omega
          have hr3 : InRange [(n3 : Int)] := by
            intro x hx
            have hx := List.mem_singleton.1 hx
            have h3 : n3 ≤ 9223372036854775807 := HF.out.n3
            subst hx; omega
          have Hr3 := hide hr3
          have hlen3 : (clN C C.length ++ svN S S.length).length ≤ 60 := by omega
          have hlin : linesB C S n3 L4 = clN C C.length ++ svN S S.length ++ [lineB registryW [(n3 : Int)], lineB waitingW L4] := rfl
          have Hlin := hide hlin
          clear hr3 hlin hlen2
          generalize clN C C.length ++ svN S S.length = L at Hown hlen3 Hlin
          have H4n : Hid (L4.length ≤ 64) := Nat.le_trans HF.out.nw (by decide)
          go_upto_region 13 with fail
          go_region_held3 (fun W => W.cell? ⟨V, 2, none⟩ = some (.slice a3 n3 c3) ∧ W.cell? ⟨V, 3, none⟩ = some (.slice a4 L4.length c4)) (((try dsimp only); repeat (first | with_reducible assumption | exact ⟨by with_reducible assumption, by with_reducible assumption⟩ | (with_reducible refine two_alloc _ ?_) | (with_reducible refine two_drew ?_)))) ((first
            | (go_at_call 16; (with_reducible refine (line_one ⟨#[114, 101, 103, 105, 115, 116, 114, 121]⟩ wr.heap.size n3 _ (by simp) (by simp) Hr3.out (by decide)).mono ?_); rintro e wa ⟨rfl, hba⟩; have hwa := below_via (((Below.refl wr.heap.size wr).alloc (Nat.le_refl _) _).drew) hba; have e2a := (hwa.cell (p := ⟨V, 2, none⟩) hV).trans e2; have e3a := (hwa.cell (p := ⟨V, 3, none⟩) hV).trans e3; have H4a := hide (H4.out.below hwa); have Hwa := hide hwa; clear hba hwa)
            | (go_at_call 16; (with_reducible refine (line_any ⟨#[119, 97, 105, 116, 105, 110, 103]⟩ a4 L4 c4 _ H4a.out HF.out.rw_ H4n.out (by decide)).mono ?_); rintro e wb ⟨rfl, hbb⟩; have hwb := below_via Hwa.out hbb; have e2b := (hwb.cell (p := ⟨V, 2, none⟩) hV).trans e2; have e3b := (hwb.cell (p := ⟨V, 3, none⟩) hV).trans e3; have hVb : V < wb.heap.size := Nat.lt_of_lt_of_le hV hwb.size; have hownb := own_below Hown.out hwb; have HBb := hide (below_via HB.out hwb); have hsb := HBb.out.size; clear hbb hwb)
            | (refine step_append_lies _ (by rfl) _ _ 28 (by rfl) W0.heap.size 9 i0 (.string ByteArray.empty) 1 16 Try.underlying28 hi hz0 hz1 hz2 rfl (by decide) _ L.length (strs L) (by rfl) (hownb.alloc _) ⟨wb.heap.size, 0, none⟩ 2 2 [.string (lineB registryW [(n3 : Int)]), .string (lineB waitingW L4)] (by rfl) rfl (World.news_of_block (heap_alloc_new wb _)) (by simp [Value.oneCell']) (by decide) (by simp [maxLen]; omega) (by omega) (by simp; omega) _ rfl ?_; intro g cap w3 hown3 hg3 hat hlt3; have hb3 := (Below.refl W0.heap.size (wb.alloc (.cells #[.string (lineB registryW [(n3 : Int)]), .string (lineB waitingW L4)] 9))).grown hg3 (by simp; omega) (fun k hk => (hownb.lt k hk).1); have h23 := two_alloc (.cells #[.string (lineB registryW [(n3 : Int)]), .string (lineB waitingW L4)] 9) ⟨e2b, e3b⟩; have e2c := (hb3.cell (p := ⟨V, 2, none⟩) hs0).trans h23.1; have e3c := (hb3.cell (p := ⟨V, 3, none⟩) hs0).trans h23.2)))
          have HBz := hide ((HBb.out.alloc hsb _).trans hb3)
          have Hz := hide hown3
          clear hown3 hb3 hg3 e2c e3c h23 e2b e3b e2a e3a e2 e3
          go_wp2_with fail
          go_returns
          refine ⟨_, rfl, ?_, ?_⟩
          · rw [View.lines, Hlin.out]
            have hz := own_base Hz.out (Nat.le_trans (Nat.le_of_lt hs0) (Nat.le_refl _))
            rw [HVe.out, List.length_append, ← strs_append]
            exact hz
          · rw [HVe.out]
            exact HB0.out.trans (HBz.out.mono (Nat.le_of_lt hs0))
end Go.Proofs.Ytlcflajkpkgejaa
