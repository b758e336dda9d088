/- What the step from a law's walk to its given statement uses: slices of slices of integers that came in. -/
import Derived.Test.YtojkiajempdmfaaFrame
import Derived.Test.YtojkiajempdmfaaRw
import Derived.Deep.Matrix
namespace Go.Proofs.Ytojkiajempdmfaa
open Go.ChangeShapes Go.WideShapes Go.ChangeAt Go.RowKit

theorem rows_of {P : Program} {H : Type} {enc : TypeId × Value → H} {w : World} {base : Nat} {held : Bool} {t r e : TypeId} {ao : Option Addr} {l c : Nat} {d : DataW H} {p : List MemPlace}
    (ht : P.underlying t = some (.slice r)) (hr : P.underlying r = some (.slice e)) (he : P.underlying e = some (.int .i64)) (cr : P.cellsOf r = 1) (ce : P.cellsOf e = 1)
    (h : DataW.Trod enc P w base (fun _ => true) held t (.slice ao l c) d p) : ∃ rs : List (List Int), rs.length = l ∧ l ≤ 9223372036854775807 ∧ RowsAt w ao rs := by
  obtain ⟨fuel, hf⟩ := h
  rcases Deep.open_int_rows ht hr he cr ce hf with ⟨hcs, _⟩ | ⟨a, len, cap, A, L, C, Z, hcs, _, hl, hm, _, hrows⟩
  · simp [Value.cells] at hcs
    obtain ⟨rfl, rfl, rfl⟩ := hcs
    exact ⟨[], rfl, by omega, fun h => absurd h (by simp)⟩
  · simp [Value.cells] at hcs
    obtain ⟨rfl, rfl, rfl⟩ := hcs
    have hm2 : c ≤ 9223372036854775807 := by simpa [maxLen] using hm
    refine ⟨(List.range l).map fun r => (Z r).take (L r), by simp, by omega, fun h0 => ?_⟩
    have h0' : 0 < l := by simpa using h0
    obtain ⟨bm, om, spot⟩ := a
    have hspot : spot = none := by simpa [Addr.add] using World.cell?_spot (hrows 0 (by omega)).1
    subst hspot
    refine ⟨bm, om, rfl, fun j hj => ?_⟩
    have hj' : j < l := by simpa using hj
    obtain ⟨h1, h2, h3, h4, h5, h6, h7⟩ := hrows j (by omega)
    have hn : nthR ((List.range l).map fun r => (Z r).take (L r)) j = (Z j).take (L j) := by simp [nthR, hj']
    have hlen : (nthR ((List.range l).map fun r => (Z r).take (L r)) j).length = L j := by rw [hn]; simp; omega
    rw [hlen, hn]
    refine ⟨A j, C j, by rw [← Addr.add_lit]; exact h1, h2, by simpa [maxLen] using h3, fun hz => ?_⟩
    have hz' : 0 < L j := by
      have hz2 : 0 < ((Z j).take (L j)).length := hz
      rw [List.length_take] at hz2; omega
    cases hA : A j with
    | none => have := h6 hA; omega
    | some a' =>
      obtain ⟨_, hc⟩ := h7 a' hA
      obtain ⟨b2, o2, s2⟩ := a'
      have hs2 : s2 = none := by simpa [Addr.add] using World.cell?_spot (hc 0 (by omega))
      subst hs2
      refine ⟨b2, o2, rfl, fun i hi => ?_⟩
      have hi' : i < L j := by simp at hi; omega
      have := hc i (by omega)
      rw [Addr.add_lit] at this
      rw [this, nth_take hi']
      rfl

end Go.Proofs.Ytojkiajempdmfaa
