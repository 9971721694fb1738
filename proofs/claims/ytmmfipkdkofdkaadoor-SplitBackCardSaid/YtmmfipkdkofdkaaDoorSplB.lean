/-
  What is ahead of a first semicolon, walked. No condition but on lengths.
-/
import Derived.Test.YtmmfipkdkofdkaaDoorSplA
namespace Go.Proofs.YtmmfipkdkofdkaaDoor
open Go.RowKit
set_option linter.unusedVariables false
set_option linter.unusedSimpArgs false

theorem cutV_none (s : ByteArray) (h : cutM 0 s.data.toList = none) : cutV s = .tuple #[.string s, .string ⟨#[]⟩, .bool false] := by unfold cutV; rw [h]
theorem cutV_some (s : ByteArray) (p : Nat) (h : cutM 0 s.data.toList = some p) : cutV s = .tuple #[.string (s.extract 0 p), .string (s.extract (p + 1) s.size), .bool true] := by unfold cutV; rw [h]
theorem drop_list (s : ByteArray) (i : Nat) : (s.extract i s.size).data.toList = s.data.toList.drop i := by rw [ext_drop, bs_list]

set_option maxHeartbeats 1000000 in
theorem cut_any (s : ByteArray) (w : World) (hs : s.size ≤ 1000000) :
    Calls Tryd.prog 24 #[.string s] w fun e w' => e = .returned (cutV s) ∧ Below w.heap.size w w' := by
  obtain ⟨o0, ho⟩ : ∃ o, cutM 0 s.data.toList = o := ⟨_, rfl⟩
  have HO := hide ho
  clear ho
  go_enter Tryd.func24, Tryd.ntmps24
  go_wp2_with fail
  go_loop [5] (fun i => ∃ k : Nat, i = .int .i64 k ∧ k ≤ s.size ∧ Hid ((cutM 0 (s.data.toList.drop k)).map (· + k) = o0)) (fun i => (s.size - (intOf i).toNat))
  case atStart => exact ⟨0, rfl, Nat.zero_le _, by show _ = _; rw [List.drop_zero, HO.out]; cases o0 <;> rfl⟩
  case round =>
    obtain ⟨k, rfl, hk, Hk⟩ := hrel
    by_cases hkk : k < s.size
    · have hki : (k : Int) < (s.size : Int) := by omega
      have hk1 : (k : Int) + 1 ≤ (s.size : Int) := by omega
      have hg := sb_get s k hkk
      by_cases h59 : sb s k = 59
      · have HE : Hid (cutV s = .tuple #[.string (s.extract 0 k), .string (s.extract (k + 1) s.size), .bool true]) := by
          refine cutV_some s k ?_
          rw [HO.out, ← Hk.out, cut_semi s k hkk h59]; simp
        rw [h59] at hg
        have k0 : (0 : Int) ≤ (k : Int) := by omega
        have k1 : (k : Int) ≤ (s.size : Int) := by omega
        have k3 : IntKind.i64.wrap ((k : Int) + 1) = (k : Int) + 1 := by
          rw [IntKind.wrap_i64]; omega
        have k4 : (0 : Int) ≤ (k : Int) + 1 := by omega
        have k5 : ((k : Int) + 1).toNat = k + 1 := by omega
        clear h59
        go_wp2_with fail
        go_quiet (fail)
        go_wp2_with fail
        go_returns
        exact ⟨by rw [HE.out]; rfl, below_drewN (Below.refl _ _) _⟩
      · have d59 : (sb s k == 59) = false := by simpa using h59
        by_cases hq : sb s k = 39 ∨ sb s k = 34
        · obtain ⟨c, hc, hc2⟩ : ∃ c : UInt8, sb s k = (c.toNat : Int) ∧ (c = 39 ∨ c = 34) := by
            rcases hq with h | h
            · exact ⟨39, h, Or.inl rfl⟩
            · exact ⟨34, h, Or.inr rfl⟩
          have hcut := cut_open s k hkk c hc hc2
          rw [← drop_list s (k + 1)] at hcut
          obtain ⟨z, hz⟩ : ∃ z, Lib.indexByte (s.extract (k + 1) s.size).data.toList c = z := ⟨_, rfl⟩
          have hzl := indexByte_lt (s.extract (k + 1) s.size).data.toList c
          rw [hz] at hcut hzl
          rw [drop_list, drop_len] at hzl
          have Hcut := hide hcut
          have Hz := hide hz
          have hzl2 : z < (s.size : Int) - (k + 1) := by omega
          clear hcut hz hq
          rcases hc2 with rfl | rfl
          all_goals
            rw [hc] at hg d59
            clear hc h59
            first | have hg39 : ((s[k]'hkk).toNat : Int) = 39 := hg | have hg34 : ((s[k]'hkk).toNat : Int) = 34 := hg
            clear hg
            go_wp2_with fail
            refine (Tryd.strings_IndexByte _ _ _).mono ?_
            rintro e w1 ⟨rfl, rfl⟩
            first | rw [show (39 : Int).toNat.toUInt8 = 39 from rfl, Hz.out] | rw [show (34 : Int).toNat.toUInt8 = 34 from rfl, Hz.out]
            by_cases hz0 : z < 0
            · have HE : Hid (cutV s = .tuple #[.string s, .string ⟨#[]⟩, .bool false]) := by
                refine cutV_none s ?_
                rw [HO.out, ← Hk.out, Hcut.out, if_pos hz0]; rfl
              go_wp2_with fail
              go_returns
              exact ⟨by rw [HE.out]; rfl, Below.refl _ _⟩
            · obtain ⟨e, rfl⟩ : ∃ e : Nat, z = (e : Int) := ⟨z.toNat, by omega⟩
              have hb : k + e + 2 ≤ s.size := by omega
              have HE : Hid ((cutM 0 (s.data.toList.drop (k + e + 2))).map (· + (k + e + 2)) = o0) := by
                show _ = _
                rw [← Hk.out, Hcut.out, if_neg hz0, map_plus]
                have e1 : (e : Int).toNat = e := by omega
                rw [e1, show k + 1 + (e + 1) = k + e + 2 by omega, show e + 2 + k = k + e + 2 by omega]
              clear Hcut Hz hz0
              go_wp2_with fail
              go_round
              case rel => exact ⟨k + e + 2, by go_num, hb, HE.out⟩
              case measure => simp [intOf]; omega
        · have h39 : sb s k ≠ 39 := fun h => hq (Or.inl h)
          have h34 : sb s k ≠ 34 := fun h => hq (Or.inr h)
          have HE : Hid ((cutM 0 (s.data.toList.drop (k + 1))).map (· + (k + 1)) = o0) := by
            show _ = _
            rw [← Hk.out, cut_plain s k hkk h59 h39 h34, map_plus, Nat.add_comm]
          have d39 : (sb s k == 39) = false := by simpa using h39
          have d34 : (sb s k == 34) = false := by simpa using h34
          clear h59 h39 h34 hq
          go_wp2_with fail
          go_round
          case rel => exact ⟨k + 1, by go_num, by omega, HE.out⟩
          case measure => simp [intOf]; omega
    · have HE : Hid (cutV s = .tuple #[.string s, .string ⟨#[]⟩, .bool false]) := by
        refine cutV_none s ?_
        rw [HO.out, ← Hk.out, drop_none s k (by omega)]; rfl
      have hki : ¬ (k : Int) < (s.size : Int) := by omega
      go_wp2_with fail
      go_returns
      exact ⟨by rw [HE.out]; rfl, Below.refl _ _⟩
end Go.Proofs.YtmmfipkdkofdkaaDoor
