/-
  What NamesTell and NamesApart compute. No condition.
-/
import Derived.Test.YthcmceemimkgiaaNames2
namespace Go.Proofs.Ythcmceemimkgiaa
open Go.RowKit
set_option linter.unusedVariables false
set_option linter.unusedSimpArgs false

set_option maxHeartbeats 1000000 in
theorem tell_any (x : Int) (s : ByteArray) (w : World) (h0 : -9223372036854775808 ≤ x) (h1 : x ≤ 9223372036854775807) :
    Calls Try.prog 3 #[.int .i64 x, .string s] w fun e w' => e = .returned (.bool true) ∧ Below w.heap.size w w' := by
  by_cases hs : 500 < s.size
  · go_enter Try.func3, Try.ntmps3
    go_wp2_with fail
    refine (awake_any _).mono ?_
    rintro e w1 ⟨rfl, hB⟩
    have HB := hide hB
    clear hB
    go_wp2_with fail
    go_returns
    exact ⟨rfl, HB.out⟩
  · obtain ⟨n, hp⟩ := id_form s
    generalize (idN s).isSome = b at *
    have Hp := hide hp
    clear hp
    have hss : ∀ a : ByteArray, (a.toList == a.toList) = true := fun a => by simp
    have Hss := hide hss
    clear hss
    go_enter Try.func3, Try.ntmps3
    go_wp2_with fail
    refine (id_any s _).mono ?_
    rintro e w1 ⟨rfl, rfl⟩
    rw [Hp.out]
    go_wp2_with fail
    refine (rid_any s _).mono ?_
    rintro e w1 ⟨rfl, rfl⟩
    rw [Hp.out]
    go_wp2_with fail
    refine (server_any x _ h0 h1).mono ?_
    rintro e w1 ⟨hB, rfl⟩
    have HB := hide hB
    clear hB
    go_wp2_with fail
    refine (rserver_any x _ h0 h1).mono ?_
    rintro e w2 ⟨rfl, rfl⟩
    have ht := Hss.out (server x)
    generalize server x = t at *
    go_wp2_with fail
    refine (own_any s _).mono ?_
    rintro e w2 ⟨rfl, rfl⟩
    go_wp2_with fail
    refine (rown_any s _).mono ?_
    rintro e w2 ⟨rfl, rfl⟩
    generalize ownN s = c at *
    clear ht
    go_wp2_with fail
    refine (awake_any _).mono ?_
    rintro e w3 ⟨rfl, hB3⟩
    have HB3 := hide hB3
    clear hB3
    go_wp2_with fail
    go_returns
    exact ⟨rfl, below_via HB.out HB3.out⟩

end Go.Proofs.Ythcmceemimkgiaa
