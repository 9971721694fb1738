/-
  What NamesApart computes. No condition.
-/
import Derived.Test.YthcmceemimkgiaaNames2
namespace Go.Proofs.Ythcmceemimkgiaa
open Go.RowKit
set_option linter.unusedVariables false
set_option linter.unusedSimpArgs false

theorem list_of (s t : ByteArray) (h : s.toList = t.toList) : s = t := by
  rw [ByteArray.toList_eq, ByteArray.toList_eq] at h
  exact ByteArray.ext (Array.ext' h)
theorem lists_eq (x y : Int) (h0 : 1 ≤ x) (h1 : x ≤ 2147483648) (h2 : 1 ≤ y) (h3 : y ≤ 2147483648) : ((server x).toList == (server y).toList) = (x == y) := by
  by_cases h : x = y
  · subst h; simp
  · have h4 : (x == y) = false := by simpa using h
    rw [h4]
    apply Bool.eq_false_iff.2
    intro he
    exact h (server_inj x y h0 h1 h2 h3 (list_of _ _ (by simpa using he)))
theorem not_dup (x : Int) (h0 : 1 ≤ x) (h1 : x ≤ 2147483648) : ((server x).toList == [95, 100, 117, 112]) = false := by
  apply Bool.eq_false_iff.2
  intro he
  refine server_not x h0 h1 ⟨#[95, 100, 117, 112]⟩ (by decide +kernel) (list_of _ _ ?_)
  rw [show (⟨#[95, 100, 117, 112]⟩ : ByteArray).toList = [95, 100, 117, 112] from by decide +kernel]
  simpa using he
theorem not_none (x : Int) (h0 : 1 ≤ x) (h1 : x ≤ 2147483648) : ((server x).toList == [95, 110, 111, 110, 101]) = false := by
  apply Bool.eq_false_iff.2
  intro he
  refine server_not x h0 h1 ⟨#[95, 110, 111, 110, 101]⟩ (by decide +kernel) (list_of _ _ ?_)
  rw [show (⟨#[95, 110, 111, 110, 101]⟩ : ByteArray).toList = [95, 110, 111, 110, 101] from by decide +kernel]
  simpa using he
theorem own_server (x : Int) (h0 : 1 ≤ x) (h1 : x ≤ 2147483648) : ownN (server x) = true := by
  unfold ownN
  rw [id_server x h0 h1]
  simp

theorem dup_any (w : World) : Calls Try.prog 12 #[] w fun e w' => w = w' ∧ e = .returned (.string ⟨#[95, 100, 117, 112]⟩) := by
  go_enter Try.func12, Try.ntmps12
  go_wp2
  go_returns
  exact ⟨rfl, rfl⟩
theorem none_any (w : World) : Calls Try.prog 13 #[] w fun e w' => w = w' ∧ e = .returned (.string ⟨#[95, 110, 111, 110, 101]⟩) := by
  go_enter Try.func13, Try.ntmps13
  go_wp2
  go_returns
  exact ⟨rfl, rfl⟩

set_option maxHeartbeats 1000000 in
theorem apart_any (a b : Int) (w : World) (h0 : 0 ≤ a) (h1 : a ≤ 4294967295) (h2 : 0 ≤ b) (h3 : b ≤ 4294967295) :
    Calls Try.prog 4 #[.int .u32 a, .int .u32 b] w fun e w' => e = .returned (.bool true) ∧ Below w.heap.size w w' := by
  go_enter Try.func4, Try.ntmps4
  go_upto_region 2 with fail
  obtain ⟨x, hx⟩ : ∃ x, 1 + a / 2 = x := ⟨_, rfl⟩
  obtain ⟨y, hy⟩ : ∃ y, 1 + b / 2 = y := ⟨_, rfl⟩
  have hx0 : 1 ≤ x ∧ x ≤ 2147483648 := by omega
  have hy0 : 1 ≤ y ∧ y ≤ 2147483648 := by omega
  rw [hx, hy]
  clear hx hy
  have Hid1 : Hid (parseV (idN (server x)) = .tuple #[.int .i64 x, .bool true]) := by rw [id_server x hx0.1 hx0.2]; rfl
  have Hown : Hid (ownN (server x) = true) := own_server x hx0.1 hx0.2
  have hl := lists_eq x y hx0.1 hx0.2 hy0.1 hy0.2
  have hd := not_dup x hx0.1 hx0.2
  have hn := not_none x hx0.1 hx0.2
  have Hl := hide hl
  have Hd := hide hd
  have Hn := hide hn
  clear hl hd hn
  go_wp2_with fail
  refine (server_any x _ (by omega) (by omega)).mono ?_
  rintro e w1 ⟨hB, rfl⟩
  have HB1 := hide hB
  clear hB
  go_wp2_with fail
  refine (id_any _ _).mono ?_
  rintro e w2 ⟨rfl, rfl⟩
  rw [Hid1.out]
  go_wp2_with fail
  refine (server_any x _ (by omega) (by omega)).mono ?_
  rintro e w2 ⟨hB, rfl⟩
  have HB2 := hide hB
  clear hB
  go_wp2_with fail
  refine (server_any y _ (by omega) (by omega)).mono ?_
  rintro e w3 ⟨hB, rfl⟩
  have HB3 := hide hB
  clear hB
  have hl := Hl.out
  have hd := Hd.out
  have hn := Hn.out
  go_wp2_with fail
  refine (dup_any _).mono ?_
  rintro e w4 ⟨rfl, rfl⟩
  go_wp2_with fail
  refine (none_any _).mono ?_
  rintro e w4 ⟨rfl, rfl⟩
  go_wp2_with fail
  refine (own_any (server x) _).mono ?_
  rintro e w4 ⟨rfl, rfl⟩
  rw [Hown.out]
  go_wp2_with fail
  refine (awake_any _).mono ?_
  rintro e w5 ⟨rfl, hB⟩
  have HB4 := hide hB
  clear hB
  go_wp2_with fail
  go_returns
  exact ⟨rfl, below_via (below_via (below_via HB1.out HB2.out) HB3.out) HB4.out⟩

theorem bounds_u32 {n : Int} (h : (Lit.int .u32 n).wf = true) : 0 ≤ n ∧ n ≤ 4294967295 := by
  simpa [Lit.wf, IntKind.min, IntKind.max, IntKind.signed, IntKind.bits] using h

end Go.Proofs.Ythcmceemimkgiaa
