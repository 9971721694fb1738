/-
  What a view is in memory; the lines of a client and of a server. No condition.
-/
import Derived.Test.YtlcflajkpkgejaaRepB
import Derived.Laws.AppendOwnNone
namespace Go.Proofs.Ytlcflajkpkgejaa
open Go.RowKit
set_option linter.unusedVariables false
set_option linter.unusedSimpArgs false

theorem infoInt : (Try.prog.info? 3).map (fun i => (i.zero, i.size, i.bytes)) = some (some (.int .i64 0), 1, 8) := by kernel_rfl

/-- A slice of integers that came in. -/
def IntsV (w : World) (v : Value) (L : List Int) : Prop :=
  (v = .slice none 0 0 ∧ L = []) ∨ ∃ ad cap, v = .slice (some ad) L.length cap ∧ IntsAt w (some ad) L
theorem IntsV.below {w w' : World} {v : Value} {L : List Int} (h : IntsV w v L) (hb : Below w.heap.size w w') : IntsV w' v L := by
  rcases h with h | ⟨ad, cap, e, h⟩
  · exact .inl h
  · exact .inr ⟨ad, cap, e, h.below hb⟩
theorem IntsV.form {w : World} {v : Value} {L : List Int} (h : IntsV w v L) : ∃ a cap, v = .slice a L.length cap ∧ IntsAt w a L := by
  rcases h with ⟨rfl, rfl⟩ | ⟨ad, cap, e, h⟩
  · exact ⟨none, 0, rfl, .inl rfl⟩
  · exact ⟨some ad, cap, e, h⟩
theorem rline_v (word : ByteArray) (v : Value) (L : List Int) (w : World) (h : IntsV w v L) (hr : InRange L) (hn : L.length ≤ 64) (hw : word.size ≤ 20) :
    Calls Try.prog 17 #[.string word, v] w fun e w' => e = .returned (.string (lineB word L)) ∧ Below w.heap.size w w' := by
  obtain ⟨a, cap, rfl, h2⟩ := h.form
  exact rline_any word a L cap w h2 hr hn hw
theorem line_v (word : ByteArray) (v : Value) (L : List Int) (w : World) (h : IntsV w v L) (hr : InRange L) (hn : L.length ≤ 64) (hw : word.size ≤ 20) :
    Calls Try.prog 16 #[.string word, v] w fun e w' => e = .returned (.string (lineB word L)) ∧ Below w.heap.size w w' := by
  obtain ⟨a, cap, rfl, h2⟩ := h.form
  exact line_any word a L cap w h2 hr hn hw
theorem IntsV.of_own {w : World} {base e : Nat} {v : Value} {n : Nat} {L : List Int} (h : w.ownsRow base e 1 v n (L.map (Value.int .i64))) : IntsV w v L := by
  have hl : L.length = n := by have := h.1; simpa using this
  rcases h.2 with ⟨rfl, h0⟩ | ⟨g, cap, cur, rfl, _⟩
  · exact .inl ⟨rfl, List.length_eq_zero_iff.1 (by omega)⟩
  · subst hl; exact .inr ⟨_, cap, rfl, IntsAt.of_own h⟩
/-- A client's view: its table's slice is the value tv. -/
structure CV where
  phase : Int
  server : Int
  done : Int
  table : List Int
  ta : Option Addr
  tc : Nat
def CV.nums (i : Nat) (c : CV) : List Int := [(i : Int), c.phase, c.server, c.done] ++ c.table
def clientW : ByteArray := ⟨#[99, 108, 105, 101, 110, 116]⟩
def serverW : ByteArray := ⟨#[115, 101, 114, 118, 101, 114]⟩
def registryW : ByteArray := ⟨#[114, 101, 103, 105, 115, 116, 114, 121]⟩
def waitingW : ByteArray := ⟨#[119, 97, 105, 116, 105, 110, 103]⟩
def cvLine (i : Nat) (c : CV) : ByteArray := lineB clientW (c.nums i)

/-- The table's numbers, each behind a name. -/
def NamedAt (w : World) (a : Option Addr) (T : List Int) : Prop :=
  T = [] ∨ ∃ b off, a = some ⟨b, off, none⟩ ∧ b < w.heap.size ∧ ∀ j, j < T.length → ∃ s : ByteArray, w.cell? ⟨b, off + j * 2, none⟩ = some (.string s) ∧ w.cell? ⟨b, off + j * 2 + 1, none⟩ = some (.int .i64 (T.getD j 0))
theorem NamedAt.below {w w' : World} {a : Option Addr} {L : List Int} (h : NamedAt w a L) (hb : Below w.heap.size w w') : NamedAt w' a L := by
  rcases h with h | ⟨b, off, e, hlt, hc⟩
  · exact .inl h
  · refine .inr ⟨b, off, e, Nat.lt_of_lt_of_le hlt hb.size, fun j hj => ?_⟩
    obtain ⟨s, h1, h2⟩ := hc j hj
    exact ⟨s, (hb.cell (p := ⟨b, off + j * 2, none⟩) hlt).trans h1, (hb.cell (p := ⟨b, off + j * 2 + 1, none⟩) hlt).trans h2⟩

theorem ints_one (l : List Int) (n : Int) : l.map (Value.int .i64) ++ [.int .i64 n] = (l ++ [n]).map (Value.int .i64) := by simp

theorem client_any (i : Nat) (c : CV) (w : World) (h : NamedAt w c.ta c.table) (hr : InRange (c.nums i)) (hn : c.table.length ≤ 40) :
    Calls Try.prog 14 #[.int .i64 i, .agg #[.int .i64 c.phase, .int .i64 c.server, .int .i64 c.done, .slice c.ta c.table.length c.tc]] w fun e w' => e = .returned (.string (cvLine i c)) ∧ Below w.heap.size w w' := by
  obtain ⟨i0, hi, hz0, hz1, hz2⟩ := info_parts infoInt
  obtain ⟨ph, sv, dn, T, ta, tc⟩ := c
  have H := hide h
  have HR := hide hr
  clear h hr
  change T.length ≤ 40 at hn
  go_enter Try.func14, Try.ntmps14
  go_wp2_with fail
  go_loopw [5, 19] (fun v i' wr => ∃ j : Nat, j ≤ T.length ∧ i' = .int .i64 j ∧ wr.ownsRow w.heap.size 3 1 v (j + 4) (([(i : Int), ph, sv, dn] ++ T.take j).map (Value.int .i64)) ∧ Below w.heap.size w wr) (fun _ i' _ => 64 - (intOf i').toNat)
  case atStart =>
    refine ⟨0, Nat.zero_le _, rfl, ?_, ?_⟩
    · have h1 := own_new (w.alloc (.cells #[.int .i64 ph, .int .i64 sv, .int .i64 dn, .slice ta T.length tc] 38)) 3 #[.int .i64 i, .int .i64 ph, .int .i64 sv, .int .i64 dn] (by simp [maxLen])
      have h2 : w.heap.size ≤ (w.alloc (.cells #[.int .i64 ph, .int .i64 sv, .int .i64 dn, .slice ta T.length tc] 38)).heap.size := by simp
      have h3 := own_base h1 h2
      simpa using h3
    · go_grown
  case round =>
    obtain ⟨j, hj, rfl, hown, hB⟩ := hrel
    by_cases hlt : j < T.length
    · have hI : NamedAt wr ta T := H.out.below hB
      rcases hI with h0 | ⟨b, off, rfl, hbl, hc⟩
      · subst h0; simp at hlt
      obtain ⟨s, hcs, hcj⟩ := hc j hlt
      have hsn : ([(i : Int), ph, sv, dn] ++ T.take (j + 1)).map (Value.int .i64) = ([(i : Int), ph, sv, dn] ++ T.take j).map (Value.int .i64) ++ [.int .i64 (T.getD j 0)] := by rw [take_snocD hlt, ints_one]; simp
      have HS := hide hsn
      have HB := hide hB
      have Hown := hide hown
      have hwb := hB.size
      generalize T.getD j 0 = x at hcj HS
      have k0 : (0 : Int) ≤ (j : Int) := by omega
      have k1 : (j : Int) < (T.length : Int) := by omega
      clear hsn hB hc hown
      go_upto_region 5 with fail
      have hown2 := Hown.out.alloc (.cells #[.string s, .int .i64 x] 45)
      have hB2 : Below w.heap.size w (wr.alloc (.cells #[.string s, .int .i64 x] 45)) := HB.out.alloc hwb _
      have d1 : (wr.alloc (.cells #[.string s, .int .i64 x] 45)).cell? ⟨wr.heap.size, 1, none⟩ = some (.int .i64 x) := by simp
      generalize wr.alloc (.cells #[.string s, .int .i64 x] 45) = W2 at hown2 hB2 d1 ⊢
      have hwb2 := hB2.size
      have HB2 := hide hB2
      clear hB2 HB hwb hcs hcj
      go_wp2_with (at_builtin; refine wpList_append_one W2 rfl _ _ 25 rfl w.heap.size 3 i0 (.int .i64 0) 1 8 Try.underlying25 hi hz0 hz1 hz2 rfl (by decide) _ _ _ [.int .i64 x] hown2 rfl rfl (by simp [Value.oneCell']) rfl (by simp [maxLen]; omega) (by omega) hwb2 ?_; intro v1 w1 hown1 hb1 _)
      go_roundw
      case rel => exact ⟨j + 1, by omega, by go_num, by rw [HS.out, show j + 1 + 4 = j + 4 + 1 from by omega]; exact hown1, HB2.out.trans hb1⟩
      case measure => simp [intOf]; omega
    · have he : T.take j = T := List.take_of_length_le (by omega)
      rw [he] at hown
      have HB := hide hB
      have hV := IntsV.of_own hown
      have HV := hide hV
      clear hB hown he hV
      go_wp2_with fail
      refine (line_v _ _ _ _ HV.out HR.out (by simp; omega) (by decide)).mono ?_
      rintro e w1 ⟨rfl, hb1⟩
      have HB1 := hide (below_via HB.out hb1)
      clear hb1
      go_wp2_with fail
      go_returns
      exact ⟨rfl, HB1.out⟩

/-- A server's view. -/
structure SV where
  state : Int
  holder : Int
  queue : Int
  status : Int
  cache : List Int
  ca : Option Addr
  cc : Nat
  pa : Option Addr
  pl : Nat
  pc : Nat
def SV.nums (i : Nat) (s : SV) : List Int := [(i : Int), s.state, s.holder, s.queue] ++ s.cache
def svLine (i : Nat) (s : SV) : ByteArray := lineB serverW (s.nums i)
/-- The cache's slice: nil has no spare. -/
def Cached (w : World) (a : Option Addr) (cap : Nat) (L : List Int) : Prop := (a = none → L = [] ∧ cap = 0) ∧ IntsAt w a L
theorem Cached.below {w w' : World} {a : Option Addr} {cap : Nat} {L : List Int} (h : Cached w a cap L) (hb : Below w.heap.size w w') : Cached w' a cap L := ⟨h.1, h.2.below hb⟩

theorem IntsAt.news {w : World} {ad : Addr} {L : List Int} (h : IntsAt w (some ad) L) : ∀ j u, (L.map (Value.int .i64))[j]? = some u → w.cell? (ad.add j) = some u := by
  intro j u hu
  have hj : j < L.length := by
    rcases Nat.lt_or_ge j L.length with h1 | h1
    · exact h1
    · rw [List.getElem?_eq_none (by simpa using h1)] at hu; cases hu
  rcases h with rfl | ⟨b, off, e, _, hc⟩
  · simp at hj
  · injection e with e
    subst e
    rw [Addr.add_lit, hc j hj, ← hu, List.getElem?_map, List.getElem?_eq_getElem hj, List.getD_eq_getElem?_getD, List.getElem?_eq_getElem hj]; rfl
theorem server_any (i : Nat) (c : SV) (w : World) (h : Cached w c.ca c.cc c.cache) (hr : InRange (c.nums i)) (hn : c.cache.length ≤ 60) :
    Calls Try.prog 15 #[.int .i64 i, .agg #[.int .i64 c.state, .int .i64 c.holder, .int .i64 c.queue, .int .u8 c.status, .slice c.ca c.cache.length c.cc, .slice c.pa c.pl c.pc]] w fun e w' => e = .returned (.string (svLine i c)) ∧ Below w.heap.size w w' := by
  obtain ⟨i0, hi, hz0, hz1, hz2⟩ := info_parts infoInt
  obtain ⟨st, ho, qu, ss, C, ca, cc, pa, pl, pc⟩ := c
  have H := hide h
  have HR := hide hr
  clear h hr
  change C.length ≤ 60 at hn
  rcases ca with _ | ad
  · obtain ⟨rfl, rfl⟩ : C = [] ∧ cc = 0 := H.out.1 rfl
    simp only [List.length_nil]
    go_enter Try.func15, Try.ntmps15
    go_upto_region 1 with fail
    refine Code.wp_named (fun W => Blk W w.heap.size 40 #[.int .i64 st, .int .i64 ho, .int .i64 qu, .int .u8 ss, .slice none 0 0, .slice pa pl pc] ∧ Below w.heap.size w W) ⟨Blk.new w _ _, (Below.refl _ _).alloc (Nat.le_refl _) _⟩ ?_
    rintro W ⟨hx, hB⟩
    have e0 := hx.cell 0; have e1 := hx.cell 1; have e2 := hx.cell 2; have e3 := hx.cell 3; have e4 := hx.cell 4
    simp at e0 e1 e2 e3 e4
    have hown : (W.alloc (.cells #[.int .i64 i, .int .i64 st, .int .i64 ho, .int .i64 qu] 3)).ownsRow W.heap.size 3 1 (.slice (some ⟨W.heap.size, 0, none⟩) 4 4) 4 [.int .i64 i, .int .i64 st, .int .i64 ho, .int .i64 qu] := own_new W 3 #[.int .i64 i, .int .i64 st, .int .i64 ho, .int .i64 qu] (by simp [maxLen])
    have hltW : w.heap.size < W.heap.size := hx.lt
    have HBW := hide (hB.alloc hB.size (.cells #[.int .i64 i, .int .i64 st, .int .i64 ho, .int .i64 qu] 3))
    have HV := hide (IntsV.of_own (L := [(i : Int), st, ho, qu]) hown)
    clear hx hB
    go_wp2_with (at_builtin; refine wpList_append_own_none rfl _ _ 25 rfl W.heap.size 3 i0 1 Try.underlying25 hi _ _ _ rfl hown rfl ?_)
    refine (line_v ⟨#[115, 101, 114, 118, 101, 114]⟩ _ _ _ HV.out HR.out (by simp) (by decide)).mono ?_
    rintro e w1 ⟨rfl, hb1⟩
    have HB1 := hide (below_via HBW.out hb1)
    clear hb1
    go_wp2_with fail
    go_returns
    exact ⟨rfl, HB1.out⟩
  · go_enter Try.func15, Try.ntmps15
    go_upto_region 1 with fail
    refine Code.wp_named (fun W => Blk W w.heap.size 40 #[.int .i64 st, .int .i64 ho, .int .i64 qu, .int .u8 ss, .slice (some ad) C.length cc, .slice pa pl pc] ∧ Below w.heap.size w W) ⟨Blk.new w _ _, (Below.refl _ _).alloc (Nat.le_refl _) _⟩ ?_
    rintro W ⟨hx, hB⟩
    have e0 := hx.cell 0; have e1 := hx.cell 1; have e2 := hx.cell 2; have e3 := hx.cell 3; have e4 := hx.cell 4
    simp at e0 e1 e2 e3 e4
    have hown : (W.alloc (.cells #[.int .i64 i, .int .i64 st, .int .i64 ho, .int .i64 qu] 3)).ownsRow W.heap.size 3 1 (.slice (some ⟨W.heap.size, 0, none⟩) 4 4) 4 [.int .i64 i, .int .i64 st, .int .i64 ho, .int .i64 qu] := own_new W 3 #[.int .i64 i, .int .i64 st, .int .i64 ho, .int .i64 qu] (by simp [maxLen])
    have hltW : w.heap.size < W.heap.size := hx.lt
    have hBW := hB.alloc hB.size (.cells #[.int .i64 i, .int .i64 st, .int .i64 ho, .int .i64 qu] 3)
    have hnews : ∀ j u, (C.map (Value.int .i64))[j]? = some u → (W.alloc (.cells #[.int .i64 i, .int .i64 st, .int .i64 ho, .int .i64 qu] 3)).cell? (ad.add j) = some u := IntsAt.news (H.out.2.below hBW)
    have Hnews := hide hnews
    have HBW := hide hBW
    have HS := hide hB.size
    clear hx hB hBW hnews
    go_wp2_with (at_builtin; go_loud (refine wpList_append_own (W.alloc (.cells #[.int .i64 i, .int .i64 st, .int .i64 ho, .int .i64 qu] 3)) rfl _ _ 25 rfl W.heap.size 3 i0 (.int .i64 0) 1 8 Try.underlying25 hi hz0 hz1 hz2 rfl (by decide) _ _ _ rfl hown ad C.length cc (C.map (Value.int .i64)) rfl (by simp) Hnews.out (by intro u hu; obtain ⟨x, _, rfl⟩ := List.mem_map.1 hu; rfl) (by simp [maxLen]; omega) (by omega) (by simp) ?_; intro v1 w1 hown1 hg1 _))
    have hbw : Below W.heap.size (W.alloc (.cells #[.int .i64 i, .int .i64 st, .int .i64 ho, .int .i64 qu] 3)) w1 := (Below.refl _ _).grown hg1 (by simp) (fun k hk => by have := (hown.lt) k hk; omega)
    have HB1 := hide (HBW.out.trans (hbw.mono HS.out))
    have HV := hide (IntsV.of_own (L := [(i : Int), st, ho, qu] ++ C) (n := 4 + C.length) (by rw [List.map_append]; exact hown1))
    clear hg1 hown1 hown hbw
    go_wp2_with fail
    refine (line_v ⟨#[115, 101, 114, 118, 101, 114]⟩ _ _ _ HV.out HR.out (by simp; omega) (by decide)).mono ?_
    rintro e w2 ⟨rfl, hb2⟩
    have HB2 := hide (below_via HB1.out hb2)
    clear hb2
    go_wp2_with fail
    go_returns
    exact ⟨rfl, HB2.out⟩
end Go.Proofs.Ytlcflajkpkgejaa
