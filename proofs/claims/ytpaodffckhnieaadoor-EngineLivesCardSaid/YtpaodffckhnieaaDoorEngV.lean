/-
  Verdicts, the program's and the reference's. No condition but on lengths.
-/
import Derived.Test.YtpaodffckhnieaaDoorEngU
import Derived.Test.YtpaodffckhnieaaDoorSqlG
namespace Go.Proofs.YtpaodffckhnieaaDoor
open Go.RowKit Go.Maps
set_option linter.unusedVariables false
set_option linter.unusedSimpArgs false
set_option maxRecDepth 100000

def exitC (k : Int) : Bool := ([3, 4] : List Int).contains k
def saidBad : Value := .tuple #[.string ⟨#[52, 50, 54, 48, 49]⟩, .string ⟨#[115, 121, 110, 116, 97, 120, 32, 101, 114, 114, 111, 114]⟩, .bool true]
def saidFault : Value := .tuple #[.string ⟨#[50, 53, 80, 48, 50]⟩, .string abortedT, .bool true]
def saidNo : Value := .tuple #[.string ⟨#[52, 50, 80, 48, 49]⟩, .string ⟨#[114, 101, 108, 97, 116, 105, 111, 110, 32, 100, 111, 101, 115, 32, 110, 111, 116, 32, 101, 120, 105, 115, 116]⟩, .bool true]
def saidNone : Value := .tuple #[.string ⟨#[]⟩, .string ⟨#[]⟩, .bool false]
def verdictV (kd b : Int) (no : Bool) : Value :=
  if kd = 0 then saidBad else if b = 69 ∧ exitC kd = false then saidFault else if exitC kd = false ∧ kd ≠ 1 ∧ no = true then saidNo else saidNone
theorem exitC_ne {kd : Int} (h : exitC kd = true) : kd ≠ 0 ∧ kd ≠ 1 := by
  unfold exitC at h
  constructor
  · rintro rfl; exact absurd h (by decide)
  · rintro rfl; exact absurd h (by decide)

set_option maxHeartbeats 1000000 in
theorem verdict_any (g m k : Nat) (l : List ByteArray) (n : Int) (s : ByteArray) (b : Int) (w : World) (hs : s.size ≤ 300) (h : EngS w g m k l n) :
    Calls Tryd.prog 12 #[.pointer (some ⟨g, 0, none⟩), .string s, .int .u8 b] w fun e w' => e = .returned (verdictV (parseP s).1 b (isIn s l)) ∧ Below w.heap.size w w' := by
  obtain ⟨⟨kd, nn, c⟩, hv⟩ : ∃ v, parseP s = v := ⟨_, rfl⟩
  have HP : Hid (∀ W, Calls Tryd.prog 24 #[.string s] W fun e w' => e = .returned (.agg #[.int .i64 kd, .int .i64 nn, .string c]) ∧ Below W.heap.size W w') := fun W => by
    have := sparse_any s W (by omega)
    rw [hv] at this
    exact this
  rw [hv]
  show Calls _ _ _ _ fun e w' => e = .returned (verdictV kd b (isIn s l)) ∧ _
  clear hv
  obtain ⟨no, hno⟩ : ∃ no, isIn s l = no := ⟨_, rfl⟩
  rw [hno]
  have HNo := hide hno
  clear hno
  obtain ⟨D, hE, hsay⟩ := h
  have HE := hide hE
  have HSay := hide hsay
  have hsm : s.size ≤ maxLen := by unfold maxLen; omega
  obtain ⟨x, hx⟩ : ∃ x, exitC kd = x := ⟨_, rfl⟩
  have HX : Hid (([3, 4] : List Int).contains kd = x) := hx
  clear hE hsay
  by_cases k0 : kd = 0
  · subst k0
    have HR : Hid (verdictV 0 b no = saidBad) := rfl
    clear hx
    go_enter Tryd.func12, Tryd.ntmps12
    go_wp2_with fail
    refine (ready_live g m k D n _ HE.out).mono ?_
    rintro e w1 ⟨rfl, rfl⟩
    go_wp2_with fail
    refine (HP.out _).mono ?_
    rintro e w2 ⟨rfl, hb2⟩
    have HB2 := hide (hb2.alloc hb2.size (.cells #[.int .i64 0, .int .i64 nn, .string c] 26))
    clear hb2
    go_wp2_with fail
    go_returns
    exact ⟨by rw [HR.out]; rfl, HB2.out⟩
  have k0b : (kd == 0) = false := by simpa using k0
  by_cases hb : b = 69
  · subst hb
    cases x with
    | false =>
      have HR : Hid (verdictV kd 69 no = saidFault) := by show _ = _; unfold verdictV; rw [if_neg k0, if_pos ⟨rfl, hx⟩]
      clear hx
      go_enter Tryd.func12, Tryd.ntmps12
      go_wp2_with fail
      refine (ready_live g m k D n _ HE.out).mono ?_
      rintro e w1 ⟨rfl, rfl⟩
      go_wp2_with fail
      refine (HP.out _).mono ?_
      rintro e w2 ⟨rfl, hb2⟩
      have HB2 := hide (hb2.alloc hb2.size (.cells #[.int .i64 kd, .int .i64 nn, .string c] 26))
      clear hb2
      go_wp2_with fail
      refine (exit_any kd nn c _).mono ?_
      rintro e w3 ⟨rfl, hb3⟩
      rw [HX.out]
      have HB3 := hide (below_via HB2.out hb3)
      clear hb3
      go_wp2_with fail
      go_returns
      exact ⟨by rw [HR.out]; rfl, HB3.out⟩
    | true =>
      have HR : Hid (verdictV kd 69 no = saidNone) := by show _ = _; unfold verdictV; rw [if_neg k0, if_neg (by rw [hx]; simp), if_neg (by rw [hx]; simp)]
      clear hx
      go_enter Tryd.func12, Tryd.ntmps12
      go_wp2_with fail
      refine (ready_live g m k D n _ HE.out).mono ?_
      rintro e w1 ⟨rfl, rfl⟩
      go_wp2_with fail
      refine (HP.out _).mono ?_
      rintro e w2 ⟨rfl, hb2⟩
      have HV := hide (Blk.new w2 26 #[.int .i64 kd, .int .i64 nn, .string c])
      have HB2 := hide (hb2.alloc hb2.size (.cells #[.int .i64 kd, .int .i64 nn, .string c] 26))
      clear hb2
      go_wp2_with fail
      refine (exit_any kd nn c _).mono ?_
      rintro e w3 ⟨rfl, hb3⟩
      rw [HX.out]
      have hV3 := HV.out.below hb3 HV.out.lt
      have e0 := hV3.cell 0; have e1 := hV3.cell 1; have e2 := hV3.cell 2
      simp at e0 e1 e2
      have HB3 := hide (below_via HB2.out hb3)
      clear hb3 hV3
      go_wp2_with fail
      refine (exit_any kd nn c _).mono ?_
      rintro e w4 ⟨rfl, hb4⟩
      rw [HX.out]
      have HB4 := hide (below_via HB3.out hb4)
      clear hb4 e0 e1 e2
      go_wp2_with fail
      go_returns
      exact ⟨by rw [HR.out]; rfl, HB4.out⟩
  have hbb : (b == 69) = false := by simpa using hb
  cases x with
  | true =>
    have HR : Hid (verdictV kd b no = saidNone) := by show _ = _; unfold verdictV; rw [if_neg k0, if_neg (fun h => hb h.1), if_neg (by rw [hx]; simp)]
    clear hx
    go_enter Tryd.func12, Tryd.ntmps12
    go_wp2_with fail
    refine (ready_live g m k D n _ HE.out).mono ?_
    rintro e w1 ⟨rfl, rfl⟩
    go_wp2_with fail
    refine (HP.out _).mono ?_
    rintro e w2 ⟨rfl, hb2⟩
    have HB2 := hide (hb2.alloc hb2.size (.cells #[.int .i64 kd, .int .i64 nn, .string c] 26))
    clear hb2
    go_wp2_with fail
    refine (exit_any kd nn c _).mono ?_
    rintro e w3 ⟨rfl, hb3⟩
    rw [HX.out]
    have HB3 := hide (below_via HB2.out hb3)
    clear hb3
    go_wp2_with fail
    go_returns
    exact ⟨by rw [HR.out]; rfl, HB3.out⟩
  | false =>
    have HR : Hid (verdictV kd b no = if kd ≠ 1 ∧ no = true then saidNo else saidNone) := by
      show _ = _
      unfold verdictV
      rw [if_neg k0, if_neg (fun h => hb h.1)]
      simp [hx]
    clear hx
    go_enter Tryd.func12, Tryd.ntmps12
    go_wp2_with fail
    refine (ready_live g m k D n _ HE.out).mono ?_
    rintro e w1 ⟨rfl, rfl⟩
    go_wp2_with fail
    refine (HP.out _).mono ?_
    rintro e w2 ⟨rfl, hb2⟩
    have HE2 := hide (HE.out.below hb2)
    have HV := hide (Blk.new w2 26 #[.int .i64 kd, .int .i64 nn, .string c])
    have hb2' := (Below.refl w2.heap.size w2).alloc (Nat.le_refl _) (.cells #[.int .i64 kd, .int .i64 nn, .string c] 26)
    have HE3 := hide (HE2.out.below hb2')
    have HB2 := hide (below_via hb2 hb2')
    clear hb2 hb2'
    go_wp2_with fail
    refine (exit_any kd nn c _).mono ?_
    rintro e w3 ⟨rfl, hb3⟩
    rw [HX.out]
    have hV3 := HV.out.below hb3 HV.out.lt
    have e0 : w3.cell? ⟨w2.heap.size, 0, none⟩ = some (.int .i64 kd) := hV3.cell 0
    have hE4 := HE3.out.below hb3
    have c0 := hE4.c0
    have hrun := looks hE4.map HSay.out s hsm
    rw [HNo.out] at hrun
    have HB3 := hide (below_via HB2.out hb3)
    clear hb3 hV3
    by_cases k1 : kd = 1
    · subst k1
      have HR1 : Hid (verdictV 1 b no = saidNone) := by show _ = _; rw [HR.out, if_neg (fun h => h.1 rfl)]
      clear HR
      go_wp2_with fail
      go_returns
      exact ⟨by rw [HR1.out]; rfl, HB3.out⟩
    · have k1b : (kd == 1) = false := by simpa using k1
      have HR1 : Hid (verdictV kd b no = if no = true then saidNo else saidNone) := by show _ = _; rw [HR.out]; simp [k1]
      clear HR
      cases no with
      | true =>
        go_wp2_with fail
        go_returns
        exact ⟨by rw [HR1.out]; rfl, HB3.out⟩
      | false =>
        go_wp2_with fail
        go_returns
        exact ⟨by rw [HR1.out]; rfl, HB3.out⟩

theorem rexit_any (k n : Int) (c : ByteArray) (w : World) :
    Calls Tryd.prog 34 #[.agg #[.int .i64 k, .int .i64 n, .string c]] w fun e w' => e = .returned (.bool (exitC k)) ∧ Below w.heap.size w w' := by
  by_cases h3 : k = 3
  · have HR : Hid (exitC k = true) := by show _ = _; unfold exitC; simp [h3]
    subst h3
    go_enter Tryd.func34, Tryd.ntmps34
    go_wp2_with fail
    go_returns
    refine ⟨by rw [HR.out]; rfl, ?_⟩
    go_grown
  by_cases h4 : k = 4
  · have HR : Hid (exitC k = true) := by show _ = _; unfold exitC; simp [h4]
    subst h4
    go_enter Tryd.func34, Tryd.ntmps34
    go_wp2_with fail
    go_returns
    refine ⟨by rw [HR.out]; rfl, ?_⟩
    go_grown
  have HR : Hid (exitC k = false) := by show _ = _; unfold exitC; simp [h3, h4]
  have d3 : (k == 3) = false := by simpa using h3
  have d4 : (k == 4) = false := by simpa using h4
  clear h3 h4
  go_enter Tryd.func34, Tryd.ntmps34
  go_wp2_with fail
  go_returns
  refine ⟨by rw [HR.out]; rfl, ?_⟩
  go_grown
theorem raborted_any (w : World) : Calls Tryd.prog 20 #[] w fun e w' => w = w' ∧ e = .returned (.string abortedT) := by
  go_enter Tryd.func20, Tryd.ntmps20
  go_wp2
  go_returns
  exact ⟨rfl, rfl⟩

set_option maxHeartbeats 1000000 in
theorem rverdict_any (G B : Nat) (l : List ByteArray) (n : Int) (s : ByteArray) (b : Int) (w : World) (hs : s.size ≤ 300) (hl : l.length ≤ 1000) (h : REng w G B l n) :
    Calls Tryd.prog 18 #[.pointer (some ⟨G, 0, none⟩), .string s, .int .u8 b] w fun e w' => e = .returned (verdictV (parseP s).1 b (isIn s l)) ∧ Below w.heap.size w w' := by
  obtain ⟨⟨kd, nn, c⟩, hv⟩ : ∃ v, parseP s = v := ⟨_, rfl⟩
  have HP : Hid (∀ W, Calls Tryd.prog 33 #[.string s] W fun e w' => e = .returned (.agg #[.int .i64 kd, .int .i64 nn, .string c]) ∧ Below W.heap.size W w') := fun W => by
    have := rparse_v s W (by omega)
    rw [hv] at this
    exact this
  rw [hv]
  show Calls _ _ _ _ fun e w' => e = .returned (verdictV kd b (isIn s l)) ∧ _
  clear hv
  have HE := hide h
  obtain ⟨no, hno⟩ : ∃ no, isIn s l = no := ⟨_, rfl⟩
  rw [hno]
  have HNo := hide hno
  obtain ⟨x, hx⟩ : ∃ x, exitC kd = x := ⟨_, rfl⟩
  have HX : Hid (exitC kd = x) := hx
  clear h hno
  by_cases k0 : kd = 0
  · subst k0
    have HR : Hid (verdictV 0 b no = saidBad) := rfl
    clear hx
    go_enter Tryd.func18, Tryd.ntmps18
    go_wp2_with fail
    refine (HP.out _).mono ?_
    rintro e w2 ⟨rfl, hb2⟩
    have HB2 := hide (hb2.alloc hb2.size (.cells #[.int .i64 0, .int .i64 nn, .string c] 26))
    clear hb2
    go_wp2_with fail
    go_returns
    exact ⟨by rw [HR.out]; rfl, HB2.out⟩
  have k0b : (kd == 0) = false := by simpa using k0
  by_cases hbf : b = 69 ∧ x = false
  · obtain ⟨rfl, rfl⟩ := hbf
    have HR : Hid (verdictV kd 69 no = saidFault) := by show _ = _; unfold verdictV; rw [if_neg k0, if_pos ⟨rfl, hx⟩]
    clear hx
    go_enter Tryd.func18, Tryd.ntmps18
    go_wp2_with fail
    refine (HP.out _).mono ?_
    rintro e w2 ⟨rfl, hb2⟩
    have HB2 := hide (hb2.alloc hb2.size (.cells #[.int .i64 kd, .int .i64 nn, .string c] 26))
    clear hb2
    go_wp2_with fail
    refine (rexit_any kd nn c _).mono ?_
    rintro e w3 ⟨rfl, hb3⟩
    rw [HX.out]
    have HB3 := hide (below_via HB2.out hb3)
    clear hb3
    go_wp2_with fail
    refine (raborted_any _).mono ?_
    rintro e w4 ⟨rfl, rfl⟩
    go_wp2_with fail
    go_returns
    exact ⟨by rw [HR.out]; rfl, HB3.out⟩
  have HR : Hid (verdictV kd b no = if x = false ∧ kd ≠ 1 ∧ no = true then saidNo else saidNone) := by
    show _ = _
    unfold verdictV
    rw [if_neg k0, if_neg (by rw [hx]; exact hbf), hx]
  clear hx
  by_cases hb : b = 69
  · subst hb
    have hx1 : x = true := by
      cases x
      · exact absurd ⟨rfl, rfl⟩ hbf
      · rfl
    subst hx1
    have HR1 : Hid (verdictV kd 69 no = saidNone) := by show _ = _; rw [HR.out, if_neg (fun h => by cases h.1)]
    clear HR hbf
    go_enter Tryd.func18, Tryd.ntmps18
    go_wp2_with fail
    refine (HP.out _).mono ?_
    rintro e w2 ⟨rfl, hb2⟩
    have HV := hide (Blk.new w2 26 #[.int .i64 kd, .int .i64 nn, .string c])
    have hb2' := (Below.refl w2.heap.size w2).alloc (Nat.le_refl _) (.cells #[.int .i64 kd, .int .i64 nn, .string c] 26)
    have HE2 := hide ((HE.out.below hb2).below hb2')
    have HB2 := hide (below_via hb2 hb2')
    clear hb2 hb2'
    go_wp2_with fail
    refine (rexit_any kd nn c _).mono ?_
    rintro e w3 ⟨rfl, hb3⟩
    rw [HX.out]
    have hV3 := HV.out.below hb3 HV.out.lt
    have e0 : w3.cell? ⟨w2.heap.size, 0, none⟩ = some (.int .i64 kd) := hV3.cell 0
    have e1 : w3.cell? ⟨w2.heap.size, 1, none⟩ = some (.int .i64 nn) := hV3.cell 1
    have e2 : w3.cell? ⟨w2.heap.size, 2, none⟩ = some (.string c) := hV3.cell 2
    have HE3 := hide (HE2.out.below hb3)
    have HB3 := hide (below_via HB2.out hb3)
    clear hb3 hV3
    go_wp2_with fail
    refine (refuses_any G B l n s _ hl HE3.out).mono ?_
    rintro e w4 ⟨rfl, rfl⟩
    rw [HNo.out]
    cases no with
    | false =>
      go_wp2_with fail
      go_returns
      exact ⟨by rw [HR1.out]; rfl, HB3.out⟩
    | true =>
      by_cases k1 : kd = 1
      · subst k1
        go_wp2_with fail
        go_returns
        exact ⟨by rw [HR1.out]; rfl, HB3.out⟩
      · have k1b : (kd == 1) = false := by simpa using k1
        go_wp2_with fail
        refine (rexit_any kd nn c _).mono ?_
        rintro e w5 ⟨rfl, hb5⟩
        rw [HX.out]
        have HB5 := hide (below_via HB3.out hb5)
        clear hb5 e0 e1 e2
        go_wp2_with fail
        go_returns
        exact ⟨by rw [HR1.out]; rfl, HB5.out⟩
  · have hbb : (b == 69) = false := by simpa using hb
    clear hbf
    go_enter Tryd.func18, Tryd.ntmps18
    go_wp2_with fail
    refine (HP.out _).mono ?_
    rintro e w2 ⟨rfl, hb2⟩
    have HV := hide (Blk.new w2 26 #[.int .i64 kd, .int .i64 nn, .string c])
    have hb2' := (Below.refl w2.heap.size w2).alloc (Nat.le_refl _) (.cells #[.int .i64 kd, .int .i64 nn, .string c] 26)
    have HE2 := hide ((HE.out.below hb2).below hb2')
    have HB3 := hide (below_via hb2 hb2')
    clear hb2 hb2'
    go_wp2_with fail
    refine (refuses_any G B l n s _ hl HE2.out).mono ?_
    rintro e w4 ⟨rfl, rfl⟩
    rw [HNo.out]
    cases no with
    | false =>
      have HR1 : Hid (verdictV kd b false = saidNone) := by show _ = _; rw [HR.out, if_neg (fun h => by cases h.2.2)]
      go_wp2_with fail
      go_returns
      exact ⟨by rw [HR1.out]; rfl, HB3.out⟩
    | true =>
      by_cases k1 : kd = 1
      · subst k1
        have HR1 : Hid (verdictV 1 b true = saidNone) := by show _ = _; rw [HR.out, if_neg (fun h => h.2.1 rfl)]
        go_wp2_with fail
        go_returns
        exact ⟨by rw [HR1.out]; rfl, HB3.out⟩
      · have k1b : (kd == 1) = false := by simpa using k1
        have HR1 : Hid (verdictV kd b true = if x = false then saidNo else saidNone) := by show _ = _; rw [HR.out]; simp [k1]
        clear HR
        go_wp2_with fail
        refine (rexit_any kd nn c _).mono ?_
        rintro e w5 ⟨rfl, hb5⟩
        rw [HX.out]
        have HB5 := hide (below_via HB3.out hb5)
        clear hb5
        cases x with
        | true =>
          go_wp2_with fail
          go_returns
          exact ⟨by rw [HR1.out]; rfl, HB5.out⟩
        | false =>
          go_wp2_with fail
          go_returns
          exact ⟨by rw [HR1.out]; rfl, HB5.out⟩
end Go.Proofs.YtpaodffckhnieaaDoor
