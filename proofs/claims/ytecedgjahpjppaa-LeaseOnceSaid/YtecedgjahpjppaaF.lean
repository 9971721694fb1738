/-
  Leases that were made: a client is given a server. No condition.
-/
import Derived.Test.YtecedgjahpjppaaE
namespace Go.Proofs.Ytecedgjahpjppaa
open Go.RowKit Go.Maps
set_option linter.unusedVariables false
set_option linter.unusedSimpArgs false

theorem twice_live (a g m k : Nat) (st : List (Int × Int)) (D : DataW Unit) (c p : Int) (w : World) (h : Live w a g m k st D) (hc : (Lit.int .i64 c).wf = true) (hh : has D (.int .i64 c) = true) :
    Calls Try.prog 25 #[.pointer (some ⟨a, 0, none⟩), .int .i64 c, .int .i64 p] w fun e w' => w = w' ∧ e = .returned (.tuple #[.int .i64 0, .int .i64 8]) := by
  have qm := map_nil
  have hkey := keyOf_int_mk Try.underlying3 hc
  have c0 := h.c0
  have c1 := h.c1
  have hown := h.map
  clear h
  go_enter Try.func25, Try.ntmps25
  go_wp2_with (at_lookup; refine wpList_lookup_own_ok_int _ rfl _ _ 26 rfl 3 3 .i64 law3 Try.underlying26 Try.underlying3 (zero3 _) m k D rfl hown _ _ rfl hkey ?_; intro n hat hwc; have Hat := hide hat; clear hat)
  go_returns
  exact ⟨rfl, rfl⟩
theorem none_live (a g m k : Nat) (st : List (Int × Int)) (D : DataW Unit) (c p : Int) (w : World) (h : Live w a g m k st D) (hc : (Lit.int .i64 c).wf = true) (hh : has D (.int .i64 c) = false) (hn : idleN st st.length = []) :
    Calls Try.prog 25 #[.pointer (some ⟨a, 0, none⟩), .int .i64 c, .int .i64 p] w fun e w' => Below w.heap.size w w' ∧ e = .returned (.tuple #[.int .i64 0, .int .i64 7]) := by
  have qm := map_nil
  have hkey := keyOf_int_mk Try.underlying3 hc
  have c0 := h.c0
  have c1 := h.c1
  have hown := h.map
  have Hn := hide hn
  have Hl := hide h
  clear h hn
  go_enter Try.func25, Try.ntmps25
  go_wp2_with (first | (at_lookup; refine wpList_lookup_own_ok_int _ rfl _ _ 26 rfl 3 3 .i64 law3 Try.underlying26 Try.underlying3 (zero3 _) m k D rfl hown _ _ rfl hkey ?_; intro n hat hwc; have Hat := hide hat; clear hat) | fail)
  refine (idle_live a g m k st D _ Hl.out).mono ?_
  rintro e w1 ⟨v, rfl, hv, hB⟩
  rw [Hn.out] at hv
  obtain ⟨b, cap, rfl, _⟩ := own_empty hv
  have HB := hide hB
  clear hB hv
  go_wp2_with fail
  go_returns
  exact ⟨HB.out, rfl⟩

end Go.Proofs.Ytecedgjahpjppaa
