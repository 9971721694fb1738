/-
  The reference's Print. No condition but on lengths.
-/
import Derived.Test.YtlmelbijgckfpaaDoorIniR
namespace Go.Proofs.YtlmelbijgckfpaaDoor
open Go.RowKit Go.Shelf
set_option linter.unusedVariables false
set_option linter.unusedSimpArgs false
set_option maxRecDepth 100000

theorem six_at7 (n0 n1 n2 n3 n4 n5 : Int) (u : Value) (k : Nat) (h : k < 6) : (#[.int .i64 n0, .int .i64 n1, .int .i64 n2, .int .i64 n3, .int .i64 n4, .int .i64 n5, u] : Array Value)[k]? = some (.int .i64 ([n0, n1, n2, n3, n4, n5].getD k 0)) := by
  match k, h with
  | 0, _ => rfl
  | 1, _ => rfl
  | 2, _ => rfl
  | 3, _ => rfl
  | 4, _ => rfl
  | 5, _ => rfl
theorem rstart_of (w : World) (ca : Array Value) : Blk ((w.alloc (.cells ca 25)).alloc (.cells nmV 9)) w.heap.size 25 ca ∧ Blk ((w.alloc (.cells ca 25)).alloc (.cells nmV 9)) (w.heap.size + 1) 9 nmV ∧ Below w.heap.size w ((w.alloc (.cells ca 25)).alloc (.cells nmV 9)) ∧ ((w.alloc (.cells ca 25)).alloc (.cells nmV 9)).heap.size = w.heap.size + 2 := by
  refine ⟨(Blk.new w _ _).alloc _, ?_, ((Below.refl _ w).alloc (Nat.le_refl _) _).alloc (by simp) _, by simp⟩
  have := Blk.new (w.alloc (.cells ca 25)) 9 nmV
  rw [World.size_alloc] at this
  exact this

set_option maxHeartbeats 1000000 in
theorem rprint_any (c : Cfg) (u : Value) (w : World) (hc : CfgA w u c) (hb : Bears c 200) :
    Calls Tryd.prog 15 #[u] w fun e w' => e = .returned (.tuple #[.string (printC c).1, .int .i64 (printC c).2]) ∧ Below w.heap.size w w' := by
  obtain ⟨tx, htx⟩ : ∃ t, textC c = t := ⟨_, rfl⟩
  have HTX := hide htx
  have HP : Hid (printC c = if (parseC tx).1 = 0 ∧ cEq c (parseC tx).2.2 = true then (tx, 0) else (⟨#[]⟩, 1)) := by show _ = _; unfold printC; rw [htx]
  have HC := hide hc
  have HBe := hide hb
  clear htx
  obtain ⟨n0, n1, n2, n3, n4, n5, vc, hcn, rfl, hv⟩ := hc
  have HV := hide hv
  have HN := hide hcn
  obtain ⟨a, cap, rfl, _⟩ := hv
  clear hb hcn
  go_enter Tryd.func15, Tryd.ntmps15
  go_upto_block 0 with fail
  refine Code.wp_named (fun W => Blk W w.heap.size 25 #[.int .i64 n0, .int .i64 n1, .int .i64 n2, .int .i64 n3, .int .i64 n4, .int .i64 n5, .slice a c.ps.length cap] ∧ Blk W (w.heap.size + 1) 9 nmV ∧ Below w.heap.size w W ∧ W.heap.size = w.heap.size + 2) (rstart_of w _) ?_
  rintro W1 ⟨hbox, hnm, hold, hsz1⟩
  have HBox1 := hide hbox
  have HNm1 := hide hnm
  have HOld1 := hide hold
  have hz0 : (⟨#[]⟩ : ByteArray).size = 0 := rfl
  clear hbox hnm hold
  go_cut [5] (fun v wr => v = .string (numB c.n 6) ∧ Below W1.heap.size W1 wr)
  case first =>
    go_wp2_with fail
    go_loopw [5, 6] (fun v i wr => ∃ (k : Nat) (t : ByteArray), i = .int .i64 k ∧ k ≤ 6 ∧ v = .string t ∧ Hid (numB c.n k = t) ∧ Below W1.heap.size W1 wr) (fun _ i _ => (6 - (intOf i).toNat))
    case atStart => exact ⟨0, ⟨#[]⟩, rfl, by decide, rfl, rfl, Below.refl _ _⟩
    case round =>
      obtain ⟨k, t, rfl, hk, rfl, Ht, hB⟩ := hrel
      have hBs := hB.size
      have HB := hide hB
      clear hB
      by_cases hkk : k < 6
      · have hki : (k : Int) < 6 := by omega
        have hk0 : (0 : Int) ≤ (k : Int) := by omega
        have c0 : wr.cell? ⟨w.heap.size + 1, k, none⟩ = some (.string (nm k)) := ((HNm1.out.below HB.out HNm1.out.lt).cell k).trans (nmV_at k hkk)
        have hx : c.n.getD k 0 ∈ c.n := by
          rw [List.getD_eq_getElem?_getD]
          have hl : k < c.n.length := by rw [HN.out]; exact hkk
          rw [List.getElem?_eq_getElem hl]; exact List.getElem_mem hl
        obtain ⟨b0, b1⟩ := HBe.out.num _ hx
        have c1 : wr.cell? ⟨w.heap.size, k, none⟩ = some (.int .i64 (c.n.getD k 0)) := by
          rw [(HBox1.out.below HB.out HBox1.out.lt).cell k, HN.out]
          exact six_at7 n0 n1 n2 n3 n4 n5 _ k hkk
        have HAt := hide (atV_nm w.heap.size k hkk)
        have HSt : Hid (numB c.n (k + 1) = t ++ nm k ++ sepB ++ text (c.n.getD k 0) ++ nlB) := by show _ = _; rw [numB, Ht.out]
        have hz1 := nm_size k
        have hz2 := text_le (c.n.getD k 0)
        have hz3 := numB_size c.n k
        rw [Ht.out] at hz3
        generalize nm k = name at c0 HAt HSt hz1
        generalize c.n.getD k 0 = x at c1 HSt b0 b1 hz2
        clear hx
        have g0 : ∀ N : Aft wr, N.out.cell? ⟨w.heap.size + 1, k, none⟩ = some (.string name) := fun N => N.cell c0
        have g1 : ∀ N : Aft wr, N.out.cell? ⟨w.heap.size, k, none⟩ = some (.int .i64 x) := fun N => N.cell c1
        have hP : ∀ W', Calls Tryd.prog 32 #[.pointer (some ⟨w.heap.size, 0, none⟩), .string name] W' fun e w' => e = .returned (.pointer (some ⟨w.heap.size, k, none⟩)) ∧ W' = w' := fun W' => by
          have := rat_any w.heap.size name W'
          rw [HAt.out] at this
          exact this
        have hQ : ∀ W', Calls Tryd.prog 31 #[.int .i64 x] W' fun e w' => e = .returned (.string (text x)) ∧ W' = w' := fun W' => (rtext_any x W' b0 b1).mono fun e w' ⟨h1, h2⟩ => ⟨h2, h1⟩
        have z0 : (⟨#[32, 61, 32]⟩ : ByteArray).size = 3 := rfl
        have z1 : (⟨#[10]⟩ : ByteArray).size = 1 := rfl
        have z2 : (t ++ name).size = t.size + name.size := ByteArray.size_append
        have z3 : (t ++ name ++ ⟨#[32, 61, 32]⟩).size = t.size + name.size + 3 := by rw [ByteArray.size_append, z2]; rfl
        have z4 : (t ++ name ++ ⟨#[32, 61, 32]⟩ ++ text x).size = t.size + name.size + 3 + (text x).size := by rw [ByteArray.size_append, z3]
        go_upto_region 6 with fail
        refine wp_region_aft (by kernel_rfl) (by kernel_rfl) ?_
        repeat (first
          | go_big_quiet_skip
          | (go_big_quiet_want; go_big_quiet_op; first
             | go_big_quiet_on
             | (apply Exists.intro
                refine ⟨fun N => ?_, ?_⟩
                · first
                  | (go_at_call 32; exact Calls.aft_same N (hP _))
                  | (go_at_call 31; exact Calls.aft_same N (hQ _))
                go_big_quiet_on)))
        refine wpQuiet_nil ?_
        rintro w' ⟨N, rfl⟩
        have HE : Hid (numB c.n (k + 1) = t ++ name ++ ⟨#[32, 61, 32]⟩ ++ text x ++ ⟨#[10]⟩) := HSt.out
        have HB3 := hide (HB.out.trans (N.below.mono hBs))
        generalize N.out = W3 at HB3 ⊢
        clear g0 g1 hP hQ z0 z1 z2 z3 z4 HSt c0 c1
        rw [← HE.out]
        obtain ⟨t', ht'⟩ : ∃ t', numB c.n (k + 1) = t' := ⟨_, rfl⟩
        rw [ht']
        have HT' := hide ht'
        clear ht' HE
        go_wp2_with fail
        go_roundw
        case rel => exact ⟨k + 1, t', by go_num, by omega, rfl, HT'.out, HB3.out⟩
        case measure => simp [intOf]; omega
      · have hki : ¬ (k : Int) < 6 := by omega
        obtain rfl : k = 6 := by omega
        go_wp2_with fail
        go_meet
        exact ⟨by rw [Ht.out], HB.out⟩
  case rest =>
    obtain ⟨rfl, hB⟩ := hcut
    obtain ⟨t6, ht6⟩ : ∃ t, numB c.n 6 = t := ⟨_, rfl⟩
    have HTC : Hid (parB t6 c.ps c.ps.length = tx) := by show _ = _; rw [← ht6, ← HTX.out]; rfl
    have hz6 := numB_size c.n 6
    rw [ht6] at hz6
    rw [ht6]
    clear ht6
    have HB := hide hB
    have hBs := hB.size
    clear hB
    go_upto_block 2 with fail
    go_cut [5] (fun v wr => v = .string tx ∧ Below W1.heap.size W1 wr)
    case first =>
      go_wp2_with fail
      go_loopw [5, 7] (fun v i wr => ∃ (k : Nat) (t : ByteArray), i = .int .i64 k ∧ k ≤ c.ps.length ∧ v = .string t ∧ Hid (parB t6 c.ps k = t) ∧ Below W1.heap.size W1 wr) (fun _ i _ => (c.ps.length - (intOf i).toNat))
      case atStart => exact ⟨0, t6, rfl, Nat.zero_le _, rfl, rfl, HB.out⟩
      case round =>
        clear HB hBs
        obtain ⟨k, t, rfl, hk, rfl, Ht, hB⟩ := hrel
        have hBs := hB.size
        have HB := hide hB
        have hOld := below_via HOld1.out hB
        have HOld := hide hOld
        have e6 : wr.cell? ⟨w.heap.size, 6, none⟩ = some (.slice a c.ps.length cap) := (HBox1.out.below hB HBox1.out.lt).cell 6
        clear hB
        by_cases hkk : k < c.ps.length
        · have hki : (k : Int) < (c.ps.length : Int) := by omega
          have hk0 : (0 : Int) ≤ (k : Int) := by omega
          obtain ⟨_, _, hsl, hor⟩ := HV.out
          cases hsl
          rcases hor with h0 | ⟨b, off, rfl, hbl, hcc⟩
          · rw [h0] at hkk; exact absurd hkk (Nat.not_lt_zero _)
          obtain ⟨c0, c1⟩ := hcc k hkk
          rw [← hOld.cell hbl] at c0 c1
          obtain ⟨y0, y1⟩ := HBe.out.long k hkk
          have HSt : Hid (parB t6 c.ps (k + 1) = t ++ nParam ++ (pj c.ps k).1 ++ sepB ++ (pj c.ps k).2 ++ nlB) := by show _ = _; rw [parB, Ht.out]
          have hz2 := parB_size t6 c.ps 200 HBe.out.long k (by omega)
          have hz4 := HBe.out.many
          rw [Ht.out] at hz2
          generalize (pj c.ps k).1 = n at c0 y0 HSt
          generalize (pj c.ps k).2 = x at c1 y1 HSt
          have z0 : (⟨#[32, 61, 32]⟩ : ByteArray).size = 3 := rfl
          have z1 : (⟨#[10]⟩ : ByteArray).size = 1 := rfl
          have z2 : (⟨#[112, 97, 114, 97, 109, 46]⟩ : ByteArray).size = 6 := rfl
          have z3 : (t ++ ⟨#[112, 97, 114, 97, 109, 46]⟩).size = t.size + 6 := by rw [ByteArray.size_append]; rfl
          have z4 : (t ++ ⟨#[112, 97, 114, 97, 109, 46]⟩ ++ n).size = t.size + 6 + n.size := by rw [ByteArray.size_append, z3]
          have z5 : (t ++ ⟨#[112, 97, 114, 97, 109, 46]⟩ ++ n ++ ⟨#[32, 61, 32]⟩).size = t.size + 6 + n.size + 3 := by rw [ByteArray.size_append, z4]; rfl
          have z6 : (t ++ ⟨#[112, 97, 114, 97, 109, 46]⟩ ++ n ++ ⟨#[32, 61, 32]⟩ ++ x).size = t.size + 6 + n.size + 3 + x.size := by rw [ByteArray.size_append, z5]
          have HE : Hid (parB t6 c.ps (k + 1) = t ++ ⟨#[112, 97, 114, 97, 109, 46]⟩ ++ n ++ ⟨#[32, 61, 32]⟩ ++ x ++ ⟨#[10]⟩) := HSt.out
          clear hcc hOld HSt
          go_wp2_with fail
          go_quiet (fail)
          rw [← HE.out]
          obtain ⟨t', ht'⟩ : ∃ t', parB t6 c.ps (k + 1) = t' := ⟨_, rfl⟩
          rw [ht']
          have HT' := hide ht'
          clear ht' HE z0 z1 z2 z3 z4 z5 z6 hz2
          go_wp2_with fail
          go_roundw
          case rel => exact ⟨k + 1, t', by go_num, by omega, rfl, HT'.out, below_drewN HB.out _⟩
          case measure => simp [intOf]; omega
        · have hki : ¬ (k : Int) < (c.ps.length : Int) := by omega
          obtain rfl : k = c.ps.length := by omega
          have htt := Ht.out
          rw [HTC.out] at htt
          subst htt
          go_wp2_with fail
          go_meet
          exact ⟨rfl, HB.out⟩
    case rest =>
      clear HB hBs
      obtain ⟨rfl, hB⟩ := hcut
      have HB := hide hB
      have HOld := hide (below_via HOld1.out hB)
      have HX := hide (HBox1.out.below hB HBox1.out.lt)
      have HCw := hide (HC.out.below HOld.out)
      have hz7 := parB_size t6 c.ps 200 HBe.out.long c.ps.length (Nat.le_refl _)
      have hz4 := HBe.out.many
      rw [HTC.out] at hz7
      have hBs := hB.size
      clear hB
      obtain ⟨⟨pe, pl, d⟩, hT⟩ : ∃ T, parseC tx = T := ⟨_, rfl⟩
      have HT := hide hT
      rw [hT] at HP
      clear hT
      go_wp2_with fail
      refine (rparseIni_any tx _ (by omega)).mono ?_
      rintro e w3 ⟨ud, rfl, hcv, hb3⟩
      rw [HT.out] at hcv ⊢
      have hda := CfgA.of_val hcv
      have hpl := parsed_many tx
      rw [HT.out] at hpl
      have HDA := hide hda
      obtain ⟨m0, m1, m2, m3, m4, m5, vd, hdn, rfl, hvd⟩ := hda
      have HX3 := hide (HX.out.below hb3 HX.out.lt)
      have HOld3 := hide (below_via HOld.out hb3)
      have HC3 := hide (HCw.out.below hb3)
      have hs3 := hb3.size
      clear hcv hb3 hdn
      obtain ⟨da, dc, rfl, _⟩ := hvd
      go_upto_region 12 with fail
      refine Code.wp_named (fun W => Blk W w3.heap.size 25 #[.int .i64 m0, .int .i64 m1, .int .i64 m2, .int .i64 m3, .int .i64 m4, .int .i64 m5, .slice da d.ps.length dc] ∧ Below w3.heap.size w3 W) ⟨Blk.new w3 _ _, (Below.refl _ _).alloc (Nat.le_refl _) _⟩ ?_
      rintro W5 ⟨hy, hb5⟩
      have hx5 := HX3.out.below hb5 HX3.out.lt
      have HOld5 := hide (below_via HOld3.out hb5)
      have HC5 := hide (HC3.out.below hb5)
      have HDA5 := hide (HDA.out.below hb5)
      have hs5 := hb5.size
      have x0 : W5.cell? ⟨w.heap.size, 0, none⟩ = some (.int .i64 n0) := hx5.cell 0
      have x1 : W5.cell? ⟨w.heap.size, 1, none⟩ = some (.int .i64 n1) := hx5.cell 1
      have x2 : W5.cell? ⟨w.heap.size, 2, none⟩ = some (.int .i64 n2) := hx5.cell 2
      have x3 : W5.cell? ⟨w.heap.size, 3, none⟩ = some (.int .i64 n3) := hx5.cell 3
      have x4 : W5.cell? ⟨w.heap.size, 4, none⟩ = some (.int .i64 n4) := hx5.cell 4
      have x5 : W5.cell? ⟨w.heap.size, 5, none⟩ = some (.int .i64 n5) := hx5.cell 5
      have x6 : W5.cell? ⟨w.heap.size, 6, none⟩ = some (.slice a c.ps.length cap) := hx5.cell 6
      have y0 : W5.cell? ⟨w3.heap.size, 0, none⟩ = some (.int .i64 m0) := hy.cell 0
      have y1 : W5.cell? ⟨w3.heap.size, 1, none⟩ = some (.int .i64 m1) := hy.cell 1
      have y2 : W5.cell? ⟨w3.heap.size, 2, none⟩ = some (.int .i64 m2) := hy.cell 2
      have y3 : W5.cell? ⟨w3.heap.size, 3, none⟩ = some (.int .i64 m3) := hy.cell 3
      have y4 : W5.cell? ⟨w3.heap.size, 4, none⟩ = some (.int .i64 m4) := hy.cell 4
      have y5 : W5.cell? ⟨w3.heap.size, 5, none⟩ = some (.int .i64 m5) := hy.cell 5
      have y6 : W5.cell? ⟨w3.heap.size, 6, none⟩ = some (.slice da d.ps.length dc) := hy.cell 6
      clear hy hb5 hx5
      by_cases hpe : pe = 0
      · have HRt : Hid (cEq c d = true → printC c = (tx, 0)) := fun hq => by rw [HP.out, if_pos ⟨hpe, hq⟩]
        have HRf : Hid (cEq c d = false → printC c = (⟨#[]⟩, 1)) := fun hq => by rw [HP.out, if_neg (fun h => by rw [hq] at h; exact absurd h.2 (by decide))]
        subst hpe
        go_wp2_with fail
        refine (rsame_any c d _ _ _ HC5.out HDA5.out (by omega) (by omega)).mono ?_
        rintro e w6 ⟨rfl, hb6⟩
        have HOld6 := hide (below_via HOld5.out hb6)
        clear hb6 x0 x1 x2 x3 x4 x5 x6 y0 y1 y2 y3 y4 y5 y6 hz7
        cases hq : cEq c d with
        | true =>
          have HR := hide (HRt.out hq)
          clear hq
          go_wp2_with fail
          go_returns
          exact ⟨by rw [HR.out]; rfl, HOld6.out⟩
        | false =>
          have HR := hide (HRf.out hq)
          clear hq
          go_wp2_with fail
          go_returns
          exact ⟨by rw [HR.out]; rfl, HOld6.out⟩
      · have HR : Hid (printC c = (⟨#[]⟩, 1)) := by show _ = _; rw [HP.out, if_neg (fun h => hpe h.1)]
        have hpe2 : (pe == 0) = false := by simpa using hpe
        go_wp2_with fail
        go_returns
        exact ⟨by rw [HR.out]; rfl, HOld5.out⟩
end Go.Proofs.YtlmelbijgckfpaaDoor
