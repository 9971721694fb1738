/-
  What DigitsBack computes. No condition.
-/
import Derived.Test.YtmmphffinnpkmaaAwake
namespace Go.Proofs.Ytmmphffinnpkmaa
open Go.RowKit
set_option linter.unusedVariables false
set_option linter.unusedSimpArgs false

set_option maxHeartbeats 1000000 in
theorem back_any (x : Int) (s : ByteArray) (w : World) (h0 : -9223372036854775808 ≤ x) (h1 : x ≤ 9223372036854775807) :
    Calls Try.prog 4 #[.int .i64 x, .string s] w fun e w' => e = .returned (.bool true) ∧ Below w.heap.size w w' := by
  go_enter Try.func4, Try.ntmps4
  go_upto_region 1 with fail
  go_cut [14] (fun v W => w = W ∧ v = .bool (decide (0 ≤ x ∧ x ≤ 9999999999)))
  case first =>
    by_cases hx0 : 0 ≤ x
    · go_wp2_with fail
      all_goals go_meet
      all_goals exact ⟨rfl, by simp [*]⟩
    · go_wp2_with fail
      all_goals go_meet
      all_goals exact ⟨rfl, by simp; omega⟩
  case rest =>
  obtain ⟨rfl, rfl⟩ := hcut
  go_upto_if 14 with fail
  go_cut [14] (fun v W => v = .bool (decide (0 ≤ x ∧ x ≤ 9999999999)) ∧ Hid (Below w.heap.size w W))
  case first =>
    by_cases hx : 0 ≤ x ∧ x ≤ 9999999999
    · obtain ⟨hx0, hx1⟩ := hx
      have hp : parseV (parseN (text x) x) = .tuple #[.int .i64 x, .bool true] := by rw [parse_text x hx0 hx1]; rfl
      have Hp := hide hp
      clear hp
      have hd : decide (0 ≤ x ∧ x ≤ 9999999999) = true := by simp [hx0, hx1]
      go_wp2_with fail
      refine (text_any x _ h0 h1).mono ?_
      rintro e w1 ⟨rfl, hB⟩
      have HB := hide hB
      clear hB
      generalize text x = t at *
      go_wp2_with fail
      refine (parse_any t x _).mono ?_
      rintro e w2 ⟨rfl, rfl⟩
      rw [Hp.out]
      go_wp2_with fail
      go_meet
      exact ⟨by simp [hx0, hx1], HB⟩
    · have hx' : ¬ 0 ≤ x ∨ ¬ x ≤ 9999999999 := by omega
      rcases hx' with hx' | hx'
      all_goals
        have hd : decide (0 ≤ x ∧ x ≤ 9999999999) = false := by simp [hx']
        go_wp2_with fail
        go_meet
        exact ⟨by simp; omega, Below.refl _ _⟩
  case rest =>
  obtain ⟨rfl, HBc⟩ := hcut
  have hwb := HBc.out.size
  by_cases hs : 2000 < s.size
  · go_wp2_with fail
    refine (awake_any _).mono ?_
    rintro e w1 ⟨rfl, hB⟩
    have HB := hide hB
    clear hB
    go_wp2_with fail
    go_returns
    exact ⟨rfl, below_via HBc.out HB.out⟩
  · rcases hp : parseN s 1099511627776 with _ | n
    · have Hp := hide hp
      clear hp
      go_wp2_with fail
      refine (parse_any s _ _).mono ?_
      rintro e w1 ⟨rfl, rfl⟩
      rw [Hp.out, show parseV none = .tuple #[.int .i64 0, .bool false] from rfl]
      go_wp2_with fail
      refine (awake_any _).mono ?_
      rintro e w1 ⟨rfl, hB⟩
      have HB := hide hB
      clear hB
      go_wp2_with fail
      go_returns
      exact ⟨rfl, below_via HBc.out HB.out⟩
    · have ht := text_parse s _ n hp
      have hn := parse_nonneg s _ n hp
      have Ht := hide ht
      have Hp := hide hp
      clear hp ht
      go_wp2_with fail
      refine (parse_any s _ _).mono ?_
      rintro e w1 ⟨rfl, rfl⟩
      rw [Hp.out, show parseV (some n) = .tuple #[.int .i64 n, .bool true] from rfl]
      go_wp2_with fail
      refine (text_any n _ (by omega) (by omega)).mono ?_
      rintro e w1 ⟨rfl, hB⟩
      rw [Ht.out]
      have HB := hide hB
      clear hB
      have hss : (s.toList == s.toList) = true := by simp
      go_wp2_with fail
      refine (awake_any _).mono ?_
      rintro e w2 ⟨rfl, hB2⟩
      have HB2 := hide hB2
      clear hB2
      go_wp2_with fail
      go_returns
      exact ⟨rfl, below_via HBc.out (below_via HB.out HB2.out)⟩

end Go.Proofs.Ytmmphffinnpkmaa
