/-
  Whose a name is, and the law's own guard. No condition.
-/
import Derived.Test.YthcmceemimkgiaaNames
namespace Go.Proofs.Ythcmceemimkgiaa
open Go.RowKit
set_option linter.unusedVariables false
set_option linter.unusedSimpArgs false

theorem id_form (s : ByteArray) : ∃ n : Int, parseV (idN s) = .tuple #[.int .i64 n, .bool (idN s).isSome] := ⟨_, rfl⟩
theorem own_any (s : ByteArray) (w : World) :
    Calls Try.prog 10 #[.string s] w fun e w' => w = w' ∧ e = .returned (.bool (ownN s)) := by
  obtain ⟨n, hn⟩ := id_form s
  have Hn := hide hn
  clear hn
  rcases h1 : (s.toList == [95, 100, 117, 112]) with _ | _
  · rcases h2 : (s.toList == [95, 110, 111, 110, 101]) with _ | _
    · have hR : Hid (ownN s = (idN s).isSome) := by unfold ownN; rw [h1, h2]; rfl
      generalize (idN s).isSome = b at *
      go_enter Try.func10, Try.ntmps10
      go_wp2_with fail
      refine (id_any s _).mono ?_
      rintro e w1 ⟨rfl, rfl⟩
      rw [Hn.out]
      go_wp2_with fail
      go_returns
      exact ⟨rfl, congrArg (fun b => Ending.returned (.bool b)) hR.out.symm⟩
    · have hR : Hid (ownN s = true) := by unfold ownN; rw [h1, h2]; rfl
      go_enter Try.func10, Try.ntmps10
      go_wp2_with fail
      all_goals go_returns
      all_goals exact ⟨rfl, congrArg (fun b => Ending.returned (.bool b)) hR.out.symm⟩
  · have hR : Hid (ownN s = true) := by unfold ownN; rw [h1]; rfl
    go_enter Try.func10, Try.ntmps10
    go_wp2_with fail
    all_goals go_returns
    all_goals exact ⟨rfl, congrArg (fun b => Ending.returned (.bool b)) hR.out.symm⟩
theorem rown_any (s : ByteArray) (w : World) :
    Calls Try.prog 11 #[.string s] w fun e w' => w = w' ∧ e = .returned (.bool (ownN s)) := by
  obtain ⟨n, hn⟩ := id_form s
  have Hn := hide hn
  clear hn
  have hR : Hid (ownN s = ((s.toList == [95, 100, 117, 112]) || ((s.toList == [95, 110, 111, 110, 101]) || (idN s).isSome))) := rfl
  go_enter Try.func11, Try.ntmps11
  go_wp2_with fail
  refine (rid_any s _).mono ?_
  rintro e w1 ⟨rfl, rfl⟩
  rw [Hn.out]
  generalize (idN s).isSome = b at *
  rcases b with _ | _
  · rcases h1 : (s.toList == [95, 100, 117, 112]) with _ | _
    · rcases h2 : (s.toList == [95, 110, 111, 110, 101]) with _ | _
      · have hR2 : Hid (ownN s = false) := by show _ = _; rw [hR.out, h1, h2]; rfl
        go_wp2_with fail
        all_goals go_returns
        all_goals exact ⟨rfl, congrArg (fun b => Ending.returned (.bool b)) hR2.out.symm⟩
      · have hR2 : Hid (ownN s = true) := by show _ = _; rw [hR.out, h1, h2]; rfl
        go_wp2_with fail
        all_goals go_returns
        all_goals exact ⟨rfl, congrArg (fun b => Ending.returned (.bool b)) hR2.out.symm⟩
    · have hR2 : Hid (ownN s = true) := by show _ = _; rw [hR.out, h1]; rfl
      go_wp2_with fail
      all_goals go_returns
      all_goals exact ⟨rfl, congrArg (fun b => Ending.returned (.bool b)) hR2.out.symm⟩
  · have hR2 : Hid (ownN s = true) := by show _ = _; rw [hR.out]; simp
    go_wp2_with fail
    all_goals go_returns
    all_goals exact ⟨rfl, congrArg (fun b => Ending.returned (.bool b)) hR2.out.symm⟩
theorem id_7 : parseV (idN (server 7)) = .tuple #[.int .i64 7, .bool true] := by rw [id_server 7 (by decide) (by decide)]; rfl
theorem server_7 : server 7 = ⟨#[95, 112, 55]⟩ := by decide +kernel
theorem own_dup : ownN ⟨#[95, 100, 117, 112]⟩ = true := by decide +kernel
theorem awake_any (w : World) : Calls Try.prog 5 #[] w fun e w' => e = .returned (.bool true) ∧ Below w.heap.size w w' := by
  go_enter Try.func5, Try.ntmps5
  go_wp2_with fail
  refine (server_any 7 _ (by decide) (by decide)).mono ?_
  rintro e w1 ⟨hB, rfl⟩
  have HB := hide hB
  clear hB
  go_wp2_with fail
  refine (id_any _ _).mono ?_
  rintro e w2 ⟨rfl, rfl⟩
  rw [id_7]
  go_wp2_with fail
  refine (server_any 7 _ (by decide) (by decide)).mono ?_
  rintro e w2 ⟨hB, rfl⟩
  have HB2 := hide hB
  clear hB
  rw [server_7]
  go_wp2_with fail
  refine (own_any _ _).mono ?_
  rintro e w3 ⟨rfl, rfl⟩
  rw [own_dup]
  go_wp2
  all_goals go_returns
  all_goals exact ⟨rfl, below_via HB.out HB2.out⟩

end Go.Proofs.Ythcmceemimkgiaa
