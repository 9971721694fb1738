/-
  Find, of the program and of the reference. No condition.
-/
import Derived.Test.YtlcflajkpkgejaaRepE
namespace Go.Proofs.Ytlcflajkpkgejaa
open Go.RowKit
set_option linter.unusedVariables false
set_option linter.unusedSimpArgs false

/-- Texts that lie in a row. -/
def StrsAt (w : World) (a : Option Addr) (L : List ByteArray) : Prop :=
  L = [] ∨ ∃ b off, a = some ⟨b, off, none⟩ ∧ b < w.heap.size ∧ ∀ j, j < L.length → w.cell? ⟨b, off + j, none⟩ = some (.string (L.getD j default))
theorem StrsAt.below {w w' : World} {a : Option Addr} {L : List ByteArray} (h : StrsAt w a L) (hb : Below w.heap.size w w') : StrsAt w' a L := by
  rcases h with h | ⟨b, off, e, hlt, hc⟩
  · exact .inl h
  · exact .inr ⟨b, off, e, Nat.lt_of_lt_of_le hlt hb.size, fun j hj => (hb.cell (p := ⟨b, off + j, none⟩) hlt).trans (hc j hj)⟩
theorem StrsAt.of_own {w : World} {base e : Nat} {a : Option Addr} {n cap : Nat} {L : List ByteArray} (h : w.ownsRow base e 1 (.slice a n cap) n (strs L)) : StrsAt w a L := by
  have hl : L.length = n := by have := h.1; simpa [strs] using this
  by_cases h0 : n = 0
  · left; exact List.length_eq_zero_iff.1 (by omega)
  · obtain ⟨g, c, hv, _, hlt, _, _, _, hc⟩ := own_form h (by omega)
    injection hv with hv _ _
    refine .inr ⟨g, 0, hv, hlt, fun j hj => ?_⟩
    rw [Nat.zero_add, hc j (by omega), strs, List.getElem?_map, List.getElem?_eq_getElem hj, List.getD_eq_getElem?_getD, List.getElem?_eq_getElem hj]; rfl

/-- What is left behind a word. -/
def restB (s w : ByteArray) : ByteArray := ⟨(Lib.trimPrefix s.data.toList w.data.toList).toArray⟩

theorem findL_drop (w : ByteArray) (l : List ByteArray) (k j : Nat) (h : j < l.length) : findL w k (l.drop j) = if hit (l.getD j default) w = true then (k : Int) else findL w (k + 1) (l.drop (j + 1)) := by
  rw [List.drop_eq_getElem_cons h, List.getD_eq_getElem?_getD, List.getElem?_eq_getElem h]
  rfl

theorem rest_data (s w : ByteArray) (hp : Lib.hasPrefix s.data.toList w.data.toList = true) : (restB s w).data.toList = s.data.toList.drop w.data.toList.length := by
  unfold restB Lib.trimPrefix
  rw [if_pos hp]
theorem hit_rest (s w : ByteArray) (hp : Lib.hasPrefix s.data.toList w.data.toList = true) : hit s w = ((restB s w).data.toList.length == 0 || (restB s w).data.toList.getD 0 0 == 32) := by
  have h1 : w.data.toList.isPrefixOf s.data.toList = true := hp
  have h2 : w.data.toList.length ≤ s.data.toList.length := (List.isPrefixOf_iff_prefix.1 h1).length_le
  unfold hit hitL
  rw [rest_data s w hp, h1, Bool.true_and, List.length_drop]
  congr 1
  rw [Bool.eq_iff_iff]
  simp only [beq_iff_eq]
  omega
theorem hit_empty (s w : ByteArray) (hp : Lib.hasPrefix s.data.toList w.data.toList = true) (h : (restB s w).size = 0) : hit s w = true := by
  rw [hit_rest s w hp]
  have : (restB s w).data.toList.length = 0 := by simpa using h
  rw [this]; rfl
theorem getD_byte (s : ByteArray) (i : Nat) (h : i < s.size) : s.data.toList.getD i 0 = s[i]'h := by
  rw [List.getD_eq_getElem?_getD, List.getElem?_eq_getElem (by simpa using h)]; rfl
theorem byte_is (c : UInt8) : ((c.toNat : Int) == 32) = (c == 32) := by
  rw [Bool.eq_iff_iff]
  simp only [beq_iff_eq]
  constructor
  · intro h
    apply UInt8.toNat_inj.1
    have : (32 : UInt8).toNat = 32 := rfl
    omega
  · rintro rfl; rfl
theorem hit_first (s w : ByteArray) (hp : Lib.hasPrefix s.data.toList w.data.toList = true) (h : 0 < (restB s w).size) : hit s w = ((((restB s w)[0]'h).toNat : Int) == 32) := by
  rw [hit_rest s w hp, getD_byte _ 0 h, byte_is]
  have : ((restB s w).data.toList.length == 0) = false := by
    have : (restB s w).data.toList.length = (restB s w).size := by simp
    simp only [beq_eq_false_iff_ne, ne_eq]; omega
  rw [this, Bool.false_or]
theorem toList_eq (a : ByteArray) : a.toList = a.data.toList := by
  exact ByteArray.toList_eq a
/-- The reference's own test. -/
theorem hit_same (s w : ByteArray) (h : s.toList = w.toList) : hit s w = true := by
  rw [toList_eq, toList_eq] at h
  unfold hit hitL
  rw [h]
  have := prefix_self w.data.toList []
  rw [List.append_nil] at this
  rw [this]; simp
theorem hit_short (s w : ByteArray) (h : s.toList ≠ w.toList) (h2 : ¬ w.size < s.size) : hit s w = false := by
  rw [toList_eq, toList_eq] at h
  unfold hit hitL
  rcases hp : w.data.toList.isPrefixOf s.data.toList with _ | _
  · rfl
  · have h3 := List.isPrefixOf_iff_prefix.1 hp
    have h4 : w.data.toList.length = w.size := by simp
    have h5 : s.data.toList.length = s.size := by simp
    exact absurd (h3.eq_of_length (by have := h3.length_le; omega)).symm h
theorem hit_long (s w : ByteArray) (h : w.size < s.size) : hit s w = (((s.extract 0 w.size).toList == w.toList) && (((s[w.size]'h).toNat : Int) == 32)) := by
  have h4 : w.data.toList.length = w.size := by simp
  have h5 : s.data.toList.length = s.size := by simp
  have e1 : (s.extract 0 w.size).toList = s.data.toList.take w.size := by
    rw [toList_eq, ByteArray.data_extract]; simp
  rw [e1, toList_eq, byte_is, ← getD_byte s w.size h]
  unfold hit hitL
  have e2 : (s.data.toList.length == w.data.toList.length) = false := by simp only [beq_eq_false_iff_ne, ne_eq]; omega
  rw [e2, Bool.false_or]
  have e3 : w.data.toList.isPrefixOf s.data.toList = (s.data.toList.take w.size == w.data.toList) := by
    rw [Bool.eq_iff_iff, List.isPrefixOf_iff_prefix, beq_iff_eq, List.prefix_iff_eq_take, h4]
    exact eq_comm
  rw [e3]
  congr 1
  rw [List.getD_eq_getElem?_getD, List.getD_eq_getElem?_getD, List.getElem?_drop, h4, Nat.add_zero]

theorem find_any (a : Option Addr) (L : List ByteArray) (cap : Nat) (word : ByteArray) (w : World) (h : StrsAt w a L) (hn : L.length ≤ 100) :
    Calls Try.prog 12 #[.slice a L.length cap, .string word] w fun e w' => w = w' ∧ e = .returned (.int .i64 (findL word 0 L)) := by
  have H := hide h
  clear h
  go_enter Try.func12, Try.ntmps12
  go_wp2_with fail
  go_loop [11] (fun i => ∃ j : Nat, j ≤ L.length ∧ i = .int .i64 j ∧ Hid (findL word j (L.drop j) = findL word 0 L)) (fun i => 128 - (intOf i).toNat)
  case atStart => exact ⟨0, Nat.zero_le _, rfl, rfl⟩
  case round =>
    obtain ⟨j, hj, rfl, Hf⟩ := hrel
    by_cases hlt : j < L.length
    · rcases H.out with h0 | ⟨b, off, rfl, hbl, hc⟩
      · subst h0; simp at hlt
      have hcj := hc j hlt
      have hstep := findL_drop word L j j hlt
      have k0 : (0 : Int) ≤ (j : Int) := by omega
      have k1 : (j : Int) < (L.length : Int) := by omega
      generalize L.getD j default = s at hcj hstep
      have Hstep := hide hstep
      clear hc hstep
      go_wp2_with fail
      refine (Try.strings_CutPrefix s word _).mono ?_
      rintro e w1 ⟨rfl, rfl⟩
      by_cases hp : Lib.hasPrefix s.data.toList word.data.toList = true
      · rw [hp, show (⟨(Lib.trimPrefix s.data.toList word.data.toList).toArray⟩ : ByteArray) = restB s word from rfl]
        by_cases h0 : (restB s word).size = 0
        · have hh := hit_empty s word hp h0
          have hf2 : findL word 0 L = j := by rw [← Hf.out, Hstep.out, hh]; rfl
          have Hf2 := hide hf2
          have h1 : (restB s word).toList = [] := by rw [toList_eq]; exact List.length_eq_zero_iff.1 (by simpa using h0)
          generalize restB s word = R at h1 ⊢
          clear hp h0 hh hf2
          go_wp2_with fail
          go_returns
          exact ⟨rfl, by rw [Hf2.out]; rfl⟩
        · have h0p : 0 < (restB s word).size := by omega
          have hh := hit_first s word hp h0p
          have h1 : ¬ (restB s word).toList = [] := by
            rw [toList_eq]; intro h
            have h9 : (restB s word).data.toList.length = 0 := by rw [h]; rfl
            have h8 : (restB s word).data.toList.length = (restB s word).size := by simp
            omega
          have h2 : (restB s word).toList.isEmpty = false := by simpa using h1
          have Hh := hide hh
          generalize restB s word = R at h0p h1 h2 Hh ⊢
          obtain ⟨c, hc⟩ : ∃ c : Int, ((R[0]'h0p).toNat : Int) = c := ⟨_, rfl⟩
          rw [hc] at Hh
          clear hp h0 hh
          rcases h3 : (c == 32) with _ | _
          · have hf2 : findL word (j + 1) (L.drop (j + 1)) = findL word 0 L := by rw [← Hf.out, Hstep.out, Hh.out, h3]; rfl
            have Hf2 := hide hf2
            clear hf2
            go_wp2_with fail
            go_round
            case rel => exact ⟨j + 1, by omega, by go_num, Hf2⟩
            case measure => simp [intOf]; omega
          · have hf2 : findL word 0 L = j := by rw [← Hf.out, Hstep.out, Hh.out, h3]; rfl
            have Hf2 := hide hf2
            clear hf2
            go_wp2_with fail
            go_returns
            exact ⟨rfl, by rw [Hf2.out]; rfl⟩
      · have hp2 : Lib.hasPrefix s.data.toList word.data.toList = false := by simpa using hp
        have hh : hit s word = false := by
          unfold hit hitL
          have : word.data.toList.isPrefixOf s.data.toList = false := hp2
          rw [this]; rfl
        have hf2 : findL word (j + 1) (L.drop (j + 1)) = findL word 0 L := by rw [← Hf.out, Hstep.out, hh]; rfl
        have Hf2 := hide hf2
        rw [hp2]
        clear hp hp2 hh hf2
        go_wp2_with fail
        go_round
        case rel => exact ⟨j + 1, by omega, by go_num, Hf2⟩
        case measure => simp [intOf]; omega
    · have hd : L.drop j = [] := List.drop_eq_nil_of_le (by omega)
      have hr : findL word 0 L = -1 := by rw [← Hf.out, hd]; rfl
      have Hr := hide hr
      have hge : ¬ ((j : Int) < (L.length : Int)) := by omega
      clear hd hr
      go_wp2_with fail
      go_returns
      exact ⟨rfl, by rw [Hr.out]; rfl⟩

theorem rfind_any (a : Option Addr) (L : List ByteArray) (cap : Nat) (word : ByteArray) (w : World) (h : StrsAt w a L) (hn : L.length ≤ 100) :
    Calls Try.prog 13 #[.slice a L.length cap, .string word] w fun e w' => w = w' ∧ e = .returned (.int .i64 (findL word 0 L)) := by
  have H := hide h
  clear h
  go_enter Try.func13, Try.ntmps13
  go_wp2_with fail
  go_loop [5] (fun i => ∃ j : Nat, j ≤ L.length ∧ i = .int .i64 j ∧ Hid (findL word j (L.drop j) = findL word 0 L)) (fun i => 128 - (intOf i).toNat)
  case atStart => exact ⟨0, Nat.zero_le _, rfl, rfl⟩
  case round =>
    obtain ⟨j, hj, rfl, Hf⟩ := hrel
    by_cases hlt : j < L.length
    · rcases H.out with h0 | ⟨b, off, rfl, hbl, hc⟩
      · subst h0; simp at hlt
      have hcj := hc j hlt
      have hstep := findL_drop word L j j hlt
      have k0 : (0 : Int) ≤ (j : Int) := by omega
      have k1 : (j : Int) < (L.length : Int) := by omega
      generalize L.getD j default = s at hcj hstep
      have Hstep := hide hstep
      clear hc hstep
      rcases h1 : (s.toList == word.toList) with _ | _
      · have hne : s.toList ≠ word.toList := by simpa using h1
        by_cases hgt : word.size < s.size
        · have hgt2 : (word.size : Int) < (s.size : Int) := by omega
          have hk0 : (0 : Int) ≤ (word.size : Int) := by omega
          have hh := hit_long s word hgt
          obtain ⟨c, hc⟩ : ∃ c : Int, ((s[word.size]'hgt).toNat : Int) = c := ⟨_, rfl⟩
          rw [hc] at hh
          rcases h2 : ((s.extract 0 word.size).toList == word.toList) with _ | _
          · have hh2 : hit s word = false := by rw [hh, h2]; rfl
            have Hh := hide hh2
            clear hh hh2 hne
            have hf2 : findL word (j + 1) (L.drop (j + 1)) = findL word 0 L := by rw [← Hf.out, Hstep.out, Hh.out]; rfl
            have Hf2 := hide hf2
            clear hf2
            go_wp2_with fail
            go_round
            case rel => exact ⟨j + 1, by omega, by go_num, Hf2⟩
            case measure => simp [intOf]; omega
          · rcases h3 : (c == 32) with _ | _
            · have hh2 : hit s word = false := by rw [hh, h2, h3]; rfl
              have Hh := hide hh2
              clear hh hh2 hne
              have hf2 : findL word (j + 1) (L.drop (j + 1)) = findL word 0 L := by rw [← Hf.out, Hstep.out, Hh.out]; rfl
              have Hf2 := hide hf2
              clear hf2
              go_wp2_with fail
              go_round
              case rel => exact ⟨j + 1, by omega, by go_num, Hf2⟩
              case measure => simp [intOf]; omega
            · have hh2 : hit s word = true := by rw [hh, h2, h3]; rfl
              have Hh := hide hh2
              clear hh hh2 hne
              have hf2 : findL word 0 L = j := by rw [← Hf.out, Hstep.out, Hh.out]; rfl
              have Hf2 := hide hf2
              clear hf2
              go_wp2_with fail
              go_returns
              exact ⟨rfl, by rw [Hf2.out]; rfl⟩
        · have hgt2 : ¬ (word.size : Int) < (s.size : Int) := by omega
          have Hh := hide (hit_short s word hne hgt)
          clear hne hgt
          have hf2 : findL word (j + 1) (L.drop (j + 1)) = findL word 0 L := by rw [← Hf.out, Hstep.out, Hh.out]; rfl
          have Hf2 := hide hf2
          clear hf2
          go_wp2_with fail
          go_round
          case rel => exact ⟨j + 1, by omega, by go_num, Hf2⟩
          case measure => simp [intOf]; omega
      · have hne : s.toList = word.toList := by simpa using h1
        have Hh := hide (hit_same s word hne)
        clear hne
        have hf2 : findL word 0 L = j := by rw [← Hf.out, Hstep.out, Hh.out]; rfl
        have Hf2 := hide hf2
        clear hf2
        go_wp2_with fail
        go_returns
        exact ⟨rfl, by rw [Hf2.out]; rfl⟩
    · have hd : L.drop j = [] := List.drop_eq_nil_of_le (by omega)
      have hr : findL word 0 L = -1 := by rw [← Hf.out, hd]; rfl
      have Hr := hide hr
      have hge : ¬ ((j : Int) < (L.length : Int)) := by omega
      clear hd hr
      go_wp2_with fail
      go_returns
      exact ⟨rfl, by rw [Hr.out]; rfl⟩
end Go.Proofs.Ytlcflajkpkgejaa
