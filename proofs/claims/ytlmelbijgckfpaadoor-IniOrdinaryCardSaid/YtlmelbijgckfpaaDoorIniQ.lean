/-
  What settings' text is; the program's writer and names. No condition but on lengths.
-/
import Derived.Test.YtlmelbijgckfpaaDoorIniO
import Derived.Test.YtlmelbijgckfpaaDoorBuilder
import Derived.Lib.OthersKept
import Derived.Lib.UnsafeStr
namespace Go.Proofs.YtlmelbijgckfpaaDoor
open Go.RowKit
set_option linter.unusedVariables false
set_option linter.unusedSimpArgs false
set_option maxRecDepth 100000

def sepB : ByteArray := ⟨#[32, 61, 32]⟩
def nlB : ByteArray := ⟨#[10]⟩
def nmL : List ByteArray := [nServers, nCache, nTable, nMessage, nBuffer, nQueue]
def nm (k : Nat) : ByteArray := nmL.getD k default
def lineB (name value : ByteArray) : ByteArray := name ++ sepB ++ value ++ nlB
/-- The lines of the first k numbers. -/
def numB (n : List Int) : Nat → ByteArray
  | 0 => ⟨#[]⟩
  | k + 1 => numB n k ++ nm k ++ sepB ++ text (n.getD k 0) ++ nlB
/-- .. and of the first k parameters. -/
def parB (b : ByteArray) (ps : List (ByteArray × ByteArray)) : Nat → ByteArray
  | 0 => b
  | k + 1 => parB b ps k ++ nParam ++ (pj ps k).1 ++ sepB ++ (pj ps k).2 ++ nlB
def textC (c : Cfg) : ByteArray := parB (numB c.n 6) c.ps c.ps.length
/-- What Print answers: a text, an error. -/
def printC (c : Cfg) : ByteArray × Int := if (parseC (textC c)).1 = 0 ∧ cEq c (parseC (textC c)).2.2 = true then (textC c, 0) else (⟨#[]⟩, 1)

theorem toL_append (a b : ByteArray) : (a ++ b).data.toList = a.data.toList ++ b.data.toList := by simp [ByteArray.data_append]
theorem numB_step (n : List Int) (k : Nat) : (numB n (k + 1)).data.toList = (numB n k).data.toList ++ (lineB (nm k) (text (n.getD k 0))).data.toList := by
  rw [numB]; unfold lineB
  simp only [toL_append, List.append_assoc]
theorem parB_step (b : ByteArray) (ps : List (ByteArray × ByteArray)) (k : Nat) : (parB b ps (k + 1)).data.toList = (parB b ps k).data.toList ++ (lineB (nParam ++ (pj ps k).1) (pj ps k).2).data.toList := by
  rw [parB]; unfold lineB
  simp only [toL_append, List.append_assoc]
theorem text_le (x : Int) : (text x).size ≤ 21 := by show (textL x).toArray.size ≤ 21; rw [List.size_toArray]; exact textL_length x
theorem nm_size (k : Nat) : (nm k).size ≤ 7 := by
  match k with
  | 0 => decide
  | 1 => decide
  | 2 => decide
  | 3 => decide
  | 4 => decide
  | 5 => decide
  | k + 6 => exact Nat.zero_le _
theorem sz_sep : sepB.size = 3 := rfl
theorem sz_nl : nlB.size = 1 := rfl
theorem sz_par : nParam.size = 6 := rfl
theorem lineB_size (a b : ByteArray) : (lineB a b).size = a.size + b.size + 4 := by
  unfold lineB
  rw [ByteArray.size_append, ByteArray.size_append, ByteArray.size_append, sz_sep, sz_nl]; omega
theorem numB_size (n : List Int) (k : Nat) : (numB n k).size ≤ 32 * k := by
  induction k with
  | zero => exact Nat.le_refl _
  | succ k ih =>
    have h1 := text_le (n.getD k 0)
    have h2 := nm_size k
    rw [numB, ByteArray.size_append, ByteArray.size_append, ByteArray.size_append, ByteArray.size_append, sz_sep, sz_nl]; omega
theorem parB_size (b : ByteArray) (ps : List (ByteArray × ByteArray)) (m : Nat) (h : ∀ j, j < ps.length → (pj ps j).1.size ≤ m ∧ (pj ps j).2.size ≤ m) (k : Nat) (hk : k ≤ ps.length) : (parB b ps k).size ≤ b.size + (2 * m + 10) * k := by
  induction k with
  | zero => exact Nat.le_refl _
  | succ k ih =>
    obtain ⟨h1, h2⟩ := h k (by omega)
    have := ih (by omega)
    rw [parB, ByteArray.size_append, ByteArray.size_append, ByteArray.size_append, ByteArray.size_append, ByteArray.size_append, sz_sep, sz_nl, sz_par, Nat.mul_succ]; omega
theorem atV_nm (T k : Nat) (h : k < 6) : atV T (nm k) = .pointer (some ⟨T, k, none⟩) := by
  match k, h with
  | 0, _ => rfl
  | 1, _ => rfl
  | 2, _ => rfl
  | 3, _ => rfl
  | 4, _ => rfl
  | 5, _ => rfl
def nmV : Array Value := #[.string nServers, .string nCache, .string nTable, .string nMessage, .string nBuffer, .string nQueue]
theorem nmV_at (k : Nat) (h : k < 6) : nmV[k]? = some (.string (nm k)) := by
  match k, h with
  | 0, _ => rfl
  | 1, _ => rfl
  | 2, _ => rfl
  | 3, _ => rfl
  | 4, _ => rfl
  | 5, _ => rfl
theorem settings_any (w : World) : Calls Tryd.prog 26 #[] w fun e w' => e = .returned (.slice (some ⟨w.heap.size, 0, none⟩) 6 6) ∧ w' = w.alloc (.cells nmV 9) := by
  go_enter Tryd.func26, Tryd.ntmps26
  go_wp2_with fail
  go_returns
  exact ⟨rfl, rfl⟩

theorem blk_kept {g b : Nat} {t : TypeId} {cs : Array Value} {w w' : World} (h : Blk w g t cs) (hk : Lib.OthersKept 5 (some b) w w') (hg : g ≠ b) (ht : t ≠ 5) : Blk w' g t cs :=
  hk g _ h (fun e => hg (by cases e; rfl)) (fun c fz e => ht (by cases e; rfl))
theorem builder_below {T e B b : Nat} {bs : List Value} {w w' : World} (h : Lib.IsBuilder T e B b bs w) (hb : Below w.heap.size w w') : Lib.IsBuilder T e B b bs w' := by
  have one : ∀ q, Lib.BuilderAt T e B b q bs w → Lib.BuilderAt T e B b q bs w' := by
    rintro q ⟨hB, x, h1, h2, h3⟩
    exact ⟨hB, x, (hb.block b (Array.getElem?_eq_some_iff.1 h1).1).trans h1, own_below h2 hb, h3⟩
  exact h.imp (one _) (one _)
theorem builderF_below {T e B b : Nat} {bs : List Value} {w w' : World} (h : Lib.IsBuilderF T e B b bs w) (hb : Below w.heap.size w w') : Lib.IsBuilderF T e B b bs w' := by
  have one : ∀ q, Lib.BuilderAtF T e B b q bs w → Lib.BuilderAtF T e B b q bs w' := by
    rintro q ⟨hB, x, h1, h2, h3⟩
    refine ⟨hB, x, (hb.block b (Array.getElem?_eq_some_iff.1 h1).1).trans h1, ⟨h2.1, ?_⟩, h3⟩
    rcases h2.2 with hn | ⟨g, cap, cur, fz, hv, hbg, hg, rest⟩
    · exact .inl hn
    · exact .inr ⟨g, cap, cur, fz, hv, hbg, (hb.block g (Array.getElem?_eq_some_iff.1 hg).1).trans hg, rest⟩
  exact h.imp (one _) (one _)

theorem own_kind {w : World} {B : Nat} {e : TypeId} {v : Value} {n : Nat} {xs : List Value} (h : w.ownsRow B e 1 v n xs) : ∀ g, v.ownBlock = some g → ∃ c fz, w.heap[g]? = some (.cells c e fz) := by
  intro g hg
  rcases h.2 with ⟨rfl, _⟩ | ⟨g', cap, cur, rfl, _, hgg, _⟩
  · simp [Value.ownBlock] at hg
  · simp [Value.ownBlock] at hg
    subst hg
    exact ⟨cur, _, hgg⟩
theorem copyCheck_kept (B b : Nat) (bs : List Value) (w : World) (h : Lib.IsBuilder 59 5 B b bs w) :
    Calls Tryd.prog 46 #[.pointer (some ⟨b, 0, none⟩)] w fun e w' => e = .returned (.tuple #[]) ∧ (Lib.BuilderAt 59 5 B b (.pointer (some ⟨b, 0, none⟩)) bs w' ∧ Below B w w' ∧ Lib.OthersKept 5 (some b) w w') := by
  rcases h with h | h
  · refine (copyCheck_fresh b w h.cell0 h.shape h.frozen0).mono ?_
    rintro e w' ⟨rfl, rfl⟩
    exact ⟨rfl, h.used _, (Below.refl B w).setCell (p := ⟨b, 0, none⟩) h.1 _, (Lib.OthersKept.refl _ (some b) w).setCell ⟨b, 0, none⟩ rfl _⟩
  · refine (copyCheck_used b w h.cell0).mono ?_
    rintro e w' ⟨rfl, rfl⟩
    exact ⟨rfl, h, Below.refl B _, Lib.OthersKept.refl _ _ _⟩
set_option maxHeartbeats 1000000 in
theorem writeString_kept (B b : Nat) (bs : List Value) (s : ByteArray) (w : World) (h : Lib.IsBuilder 59 5 B b bs w) (hlen : bs.length + s.size ≤ 140737488355328) (hBw : B ≤ w.heap.size) :
    Calls Tryd.prog 25 #[.pointer (some ⟨b, 0, none⟩), .string s] w fun e w' => e = .returned (.tuple #[.int .i64 s.size, .nilIface]) ∧ (Lib.BuilderAt 59 5 B b (.pointer (some ⟨b, 0, none⟩)) (bs ++ Lib.strCells s) w' ∧ Below B w w' ∧ Lib.OthersKept 5 (some b) w w') := by
  obtain ⟨i0, hi, hz0, hz1, hz2⟩ := info_parts infoByte
  go_enter Tryd.func25, Tryd.ntmps25
  go_wp2_with (go_at_call 46; refine (copyCheck_kept B b bs _ h).mono ?_)
  rintro e w1 ⟨rfl, h1, hb1, hk1⟩
  obtain ⟨hB, v, hbk, hown, hne⟩ := h1
  have c0 : w1.cell? ⟨b, 0, none⟩ = some (.pointer (some ⟨b, 0, none⟩)) := by rw [Lib.cell_of_heap hbk]; rfl
  have c1 : w1.cell? ⟨b, 1, none⟩ = some v := by rw [Lib.cell_of_heap hbk]; rfl
  go_wp2_with (at_builtin; refine Lib.wpList_append_own_string _ rfl _ _ 57 9 rfl B 5 i0 Tryd.underlying57 Tryd.underlying9 hi hz0 hz1 hz2 _ _ _ rfl hown s rfl ?c3 ?c4 ?c5 ?_)
  case c3 => unfold maxLen; omega
  case c4 => omega
  case c5 => have := hb1.size; omega
  intro v' w2 hown' hgrow _
  have hlt : b < w1.heap.size := by
    rcases Nat.lt_or_ge b w1.heap.size with h' | h'
    · exact h'
    · simp [Array.getElem?_eq_none h'] at hbk
  have hb2 : w2.heap[b]? = some (.cells #[.pointer (some ⟨b, 0, none⟩), v] 59 (0, 0)) := by
    rw [hgrow.block b hlt (fun e => hne e.symm)]
    exact hbk
  have d0 : w2.cell? ⟨b, 0, none⟩ = some (.pointer (some ⟨b, 0, none⟩)) := by rw [Lib.cell_of_heap hb2]; rfl
  have d1 : w2.cell? ⟨b, 1, none⟩ = some v := by rw [Lib.cell_of_heap hb2]; rfl
  have f1 : w2.frozen? ⟨b, 1, none⟩ = false := Lib.frozen_of_heap hb2 1
  obtain ⟨ao, n', cap, rfl⟩ : ∃ ao n' cap, v' = .slice ao n' cap := by
    rcases hown'.2 with ⟨hv, _⟩ | ⟨g, cap, cur, hv, _⟩
    · exact ⟨_, _, _, hv⟩
    · exact ⟨_, _, _, hv⟩
  go_wp2
  go_ret2
  refine ⟨rfl, ?_, ?_, ?_⟩
  · exact Lib.BuilderAt.put (T := 59) (e := 5) hB hb2 (bs' := bs ++ Lib.strCells s) (by simpa [Lib.strCells_length] using hown') (by decide)
  · exact (hb1.grown hgrow (by have := hb1.size; omega) (fun k hk => (hown.lt k hk).1)).setCell (p := ⟨b, 1, none⟩) hB _
  · exact (hk1.grown hgrow (own_kind hown)).setCell ⟨b, 1, none⟩ rfl _

set_option maxHeartbeats 1000000 in
theorem write_any (B b : Nat) (l : List UInt8) (name value : ByteArray) (w : World) (h : Lib.IsBuilder 59 5 B b (Lib.byteCells l) w) (hn : name.size ≤ 1000000) (hv : value.size ≤ 1000000) (hl : l.length ≤ 100000000000000) (hBw : B ≤ w.heap.size) :
    Calls Tryd.prog 24 #[.string name, .string value, .pointer (some ⟨b, 0, none⟩)] w fun e w' => e = .returned (.tuple #[]) ∧ Lib.IsBuilder 59 5 B b (Lib.byteCells (l ++ (lineB name value).data.toList)) w' ∧ Below B w w' ∧ Lib.OthersKept 5 (some b) w w' := by
  have H := hide h
  have z0 : (⟨#[32, 61, 32]⟩ : ByteArray).size = 3 := rfl
  have z1 : (⟨#[10]⟩ : ByteArray).size = 1 := rfl
  have z2 : (name ++ ⟨#[32, 61, 32]⟩).size = name.size + 3 := by rw [ByteArray.size_append]; rfl
  have z3 : (name ++ ⟨#[32, 61, 32]⟩ ++ value).size = name.size + 3 + value.size := by rw [ByteArray.size_append, z2]
  have HL : Hid (name ++ ⟨#[32, 61, 32]⟩ ++ value ++ ⟨#[10]⟩ = lineB name value) := rfl
  have HZ := hide (lineB_size name value)
  clear h
  go_enter Tryd.func24, Tryd.ntmps24
  go_wp2_with fail
  rw [HL.out]
  refine (writeString_kept B b _ (lineB name value) _ H.out (by rw [HZ.out, Lib.byteCells_length]; omega) hBw).mono ?_
  rintro e w1 ⟨rfl, h1, h2, h3⟩
  rw [Lib.strCells_eq, ← Lib.byteCells_append] at h1
  have H1 := hide h1
  have H2 := hide h2
  have H3 := hide h3
  clear h1 h2 h3
  go_wp2_with fail
  go_returns
  exact ⟨rfl, .inr H1.out, H2.out, H3.out⟩
end Go.Proofs.YtlmelbijgckfpaaDoor
