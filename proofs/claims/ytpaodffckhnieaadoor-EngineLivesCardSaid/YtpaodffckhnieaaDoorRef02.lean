/-
  What the reference's calls compute. No condition.
-/
import Derived.Test.YtpaodffckhnieaaDoorParse
import Derived.Test.YtpaodffckhnieaaDoorParseLaw
import Derived.Laws.Strings2
namespace Go.Proofs.YtpaodffckhnieaaDoor
open Go.RowKit
set_option linter.unusedVariables false
set_option linter.unusedSimpArgs false
set_option maxRecDepth 100000

/-- A number's digits as a text. -/
def digT (n : Nat) : ByteArray := ⟨(dig n).toArray⟩
theorem digT_small (n : Nat) (h : n < 10) : digT n = ⟨#[dg n]⟩ := by unfold digT; rw [dig_small n h]
theorem append_arrays (a b : List UInt8) : (⟨a.toArray⟩ : ByteArray) ++ ⟨b.toArray⟩ = ⟨(a ++ b).toArray⟩ := by
  apply ByteArray.ext
  rw [ByteArray.data_append]
  simp
theorem digT_step (n : Nat) (h : 10 ≤ n) (hn : n < 10 ^ 20) : digT n = digT (n / 10) ++ ⟨#[dg n]⟩ := by
  unfold digT
  rw [dig_step n h hn]
  exact (append_arrays _ [dg n]).symm
theorem digT_size (n : Nat) : (digT n).size ≤ 20 := by
  show (dig n).toArray.size ≤ 20
  rw [List.size_toArray]
  exact digF_length 20 n
theorem digit_text (d : Nat) (h : d < 10) : (⟨#[48, 49, 50, 51, 52, 53, 54, 55, 56, 57]⟩ : ByteArray).extract d (d + 1) = ⟨#[dg d]⟩ := by
  have : ∀ d : Fin 10, (⟨#[48, 49, 50, 51, 52, 53, 54, 55, 56, 57]⟩ : ByteArray).extract d.1 (d.1 + 1) = ⟨#[dg d.1]⟩ := by decide +kernel
  exact this ⟨d, h⟩
theorem dg_mod (n : Nat) : dg (n % 10) = dg n := by unfold dg; rw [Nat.mod_mod]

theorem rdigits_any (n : Nat) : ∀ (w : World), n ≤ 9223372036854775807 →
    Calls Tryd.prog 50 #[.int .i64 (n : Int)] w fun e w' => w = w' ∧ e = .returned (.string (digT n)) := by
  induction n using Nat.strongRecOn with
  | _ n ih =>
    intro w hn
    have Ih := hide ih
    clear ih
    have hdt := digit_text (n % 10) (by omega)
    rw [dg_mod] at hdt
    have hdt' : (⟨#[48, 49, 50, 51, 52, 53, 54, 55, 56, 57]⟩ : ByteArray).extract ((n : Int) % 10).toNat ((n : Int) % 10 + 1).toNat = ⟨#[dg n]⟩ := by
      rw [← hdt]; congr 1 <;> omega
    clear hdt
    have hb0 : (0 : Int) ≤ (n : Int) % 10 := by omega
    have hb1 : (n : Int) % 10 ≤ (n : Int) % 10 + 1 := by omega
    have hb2 : (n : Int) % 10 + 1 ≤ (⟨#[48, 49, 50, 51, 52, 53, 54, 55, 56, 57]⟩ : ByteArray).size := by show _ ≤ (10 : Int); omega
    have Hb := hide hb2
    have Hds := hide (digT_small n)
    have Hdstep := hide (fun h => digT_step n h (by have : (10 : Nat) ^ 20 = 100000000000000000000 := by decide
                                                    omega))
    go_enter Tryd.func50, Tryd.ntmps50
    by_cases h : n < 10
    · have hsm := Hds.out h
      have Hsm := hide hsm
      clear hsm
      go_wp2_with fail
      rw [run_slice_string _ _ _ _ _ _ _ Tryd.underlying9 hb0 hb1 hb2, hdt']
      simp only [Result.andThen]
      rw [Oper.upon_value]
      go_wp2_with fail
      go_returns
      exact ⟨rfl, by rw [Hsm.out]; rfl⟩
    · have hst := Hdstep.out (by omega)
      have Hst := hide hst
      clear hst
      have hq : (n : Int) / 10 = ((n / 10 : Nat) : Int) := by omega
      have Hq := hide hq
      clear hq
      have hsz := digT_size (n / 10)
      have h1 : ((⟨#[dg n]⟩ : ByteArray)).size = 1 := rfl
      go_wp2_with fail
      rw [run_slice_string _ _ _ _ _ _ _ Tryd.underlying9 hb0 hb1 hb2, hdt']
      simp only [Result.andThen]
      rw [Oper.upon_value]
      go_wp2_with fail
      rw [Hq.out]
      refine (Ih.out (n / 10) (by omega) _ (by omega)).mono ?_
      rintro e w1 ⟨rfl, rfl⟩
      go_wp2_with fail
      go_returns
      exact ⟨rfl, by rw [Hst.out]; rfl⟩

/-- A list's text behind the sign. -/
theorem text_neg (x : Int) (h : x < 0) : text x = ⟨#[45]⟩ ++ digT x.natAbs := by
  unfold text textL digT
  rw [if_pos h]
  exact (append_arrays [45] _).symm
theorem text_pos (x : Int) (h : 0 ≤ x) : text x = digT x.natAbs := by
  unfold text textL digT
  rw [if_neg (by omega)]
theorem rtext_any (x : Int) (w : World) (h0 : -9223372036854775808 ≤ x) (h1 : x ≤ 9223372036854775807) :
    Calls Tryd.prog 32 #[.int .i64 x] w fun e w' => w = w' ∧ e = .returned (.string (text x)) := by
  by_cases hx : 0 ≤ x
  · have ht : Hid (text x = digT x.natAbs) := text_pos x hx
    have hn : Hid (x = ((x.natAbs : Nat) : Int)) := by show _ = _; omega
    go_enter Tryd.func32, Tryd.ntmps32
    go_wp2_with fail
    have hc := rdigits_any x.natAbs w (by omega)
    rw [← hn.out] at hc
    refine hc.mono ?_
    rintro e w1 ⟨rfl, rfl⟩
    go_wp2_with fail
    go_returns
    exact ⟨rfl, by rw [ht.out]; rfl⟩
  · have ht : Hid (text x = ⟨#[45]⟩ ++ digT x.natAbs) := text_neg x (by omega)
    have hone : ((⟨#[45]⟩ : ByteArray)).size = 1 := rfl
    by_cases hx2 : -10 < x
    · have hn : Hid (-x = ((x.natAbs : Nat) : Int)) := by show _ = _; omega
      have hsz := digT_size x.natAbs
      go_enter Tryd.func32, Tryd.ntmps32
      go_wp2_with fail
      rw [hn.out]
      refine (rdigits_any x.natAbs _ (by omega)).mono ?_
      rintro e w1 ⟨rfl, rfl⟩
      go_wp2_with fail
      go_returns
      exact ⟨rfl, by rw [ht.out]; rfl⟩
    · have hx3 : x ≤ -10 := by omega
      have hd0 : x = -((-x).natAbs : Nat) := by omega
      have hq : wrap64 (-(x.tdiv 10)) = ((x.natAbs / 10 : Nat) : Int) := by
        have h1 : x.tdiv 10 = -((x.natAbs / 10 : Nat) : Int) := by
          have e : x = -((x.natAbs : Nat) : Int) := by omega
          conv => lhs; rw [e]
          rw [Int.neg_tdiv]
          congr 1
        rw [h1]; unfold wrap64; omega
      have hr : wrap64 (-(x.tmod 10)) = ((x.natAbs % 10 : Nat) : Int) := by
        have h1 : x.tmod 10 = -((x.natAbs % 10 : Nat) : Int) := by
          have e : x = -((x.natAbs : Nat) : Int) := by omega
          conv => lhs; rw [e]
          rw [Int.neg_tmod]
          congr 1
        rw [h1]; unfold wrap64; omega
      have Hq := hide hq
      have Hr := hide hr
      have ht2 : text x = (⟨#[45]⟩ ++ digT (x.natAbs / 10)) ++ digT (x.natAbs % 10) := by
        rw [ht.out, digT_step x.natAbs (by omega) (by have : (10 : Nat) ^ 20 = 100000000000000000000 := by decide
                                                      omega), digT_small (x.natAbs % 10) (by omega), dg_mod, ByteArray.append_assoc]
      have Ht2 := hide ht2
      have hs1 := digT_size (x.natAbs / 10)
      have hs2 := digT_size (x.natAbs % 10)
      have hs3 : ((⟨#[45]⟩ : ByteArray) ++ digT (x.natAbs / 10)).size = 1 + (digT (x.natAbs / 10)).size := by rw [ByteArray.size_append]; rfl
      clear hq hr ht2 hd0
      obtain ⟨q, hqe⟩ : ∃ q, x.natAbs / 10 = q := ⟨_, rfl⟩
      obtain ⟨r, hre⟩ : ∃ r, x.natAbs % 10 = r := ⟨_, rfl⟩
      have hq2 : q ≤ 9223372036854775807 := by omega
      have hr2 : r ≤ 9 := by omega
      rw [hqe] at hs1 hs3 Hq Ht2
      rw [hre] at hs2 Hr Ht2
      clear hqe hre
      go_enter Tryd.func32, Tryd.ntmps32
      go_wp2_with fail
      rw [Hq.out]
      refine (rdigits_any q _ hq2).mono ?_
      rintro e w1 ⟨rfl, rfl⟩
      go_wp2_with fail
      rw [Hr.out]
      refine (rdigits_any r _ (by omega)).mono ?_
      rintro e w1 ⟨rfl, rfl⟩
      go_wp2_with fail
      go_returns
      exact ⟨rfl, by rw [Ht2.out]; rfl⟩

end Go.Proofs.YtpaodffckhnieaaDoor
