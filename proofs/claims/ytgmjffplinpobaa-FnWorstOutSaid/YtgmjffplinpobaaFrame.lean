/- What the step from a law's walk to its given statement uses: slices of integers that came in. -/
import Derived.Test.YtgmjffplinpobaaBase
import Derived.ProofKit
import Derived.OpenShut
import Derived.ShutString
import Derived.ChangeOld
import Derived.Lib.SmallJoins
namespace Go.Proofs.Ytgmjffplinpobaa
open Go.ChangeShapes Go.WideShapes Go.ChangeAt Go.RowKit

theorem i64_of {a : Int} (h : (Lit.int .i64 a).wf = true) : -9223372036854775808 ≤ a ∧ a ≤ 9223372036854775807 := by
  simpa [Lit.wf, IntKind.min, IntKind.max, IntKind.signed, IntKind.bits] using h

theorem u8_of {a : Int} (h : (Lit.int .u8 a).wf = true) : 0 ≤ a ∧ a ≤ 255 := by
  simpa [Lit.wf, IntKind.min, IntKind.max, IntKind.signed, IntKind.bits] using h

/-- A slice of integers that came in: nil, or a row of c cells, the numbers zs. -/
def IsRow (k : IntKind) (w : World) (a : Option Addr) (l c : Nat) (zs : List Int) : Prop :=
  (a = none ∧ l = 0 ∧ c = 0 ∧ zs = []) ∨
  ∃ x, a = some x ∧ l ≤ c ∧ c ≤ maxLen ∧ zs.length = c ∧ (∀ i, i < zs.length → w.cell? (x.add i) = some (.int k (zs.getD i 0))) ∧ ∀ n ∈ zs, (Lit.int k n).wf = true

theorem isRow_of {P : Program} {H : Type} {enc : TypeId × Value → H} {w : World} {base : Nat} {held : Bool} {t e : TypeId} {k : IntKind} {fuel : Nat} {ao : Option Addr} {l c : Nat} {x : DataW H × List MemPlace}
    (ht : P.underlying t = some (.slice e)) (he : P.underlying e = some (.int k)) (hc : P.cellsOf e = 1)
    (h : DataW.trod enc P w base (fun _ => true) held fuel t [.slice ao l c] = some x) : ∃ zs, IsRow k w ao l c zs := by
  rcases open_ints ht he hc h with ⟨hcs, _⟩ | ⟨x, l', c', zs, hcs, _, hl, hm, hz, _, hcell, hwz⟩
  · simp at hcs
    obtain ⟨rfl, rfl, rfl⟩ := hcs
    exact ⟨[], .inl ⟨rfl, rfl, rfl, rfl⟩⟩
  · simp at hcs
    obtain ⟨rfl, rfl, rfl⟩ := hcs
    exact ⟨zs, .inr ⟨_, rfl, hl, hm, by simpa using hz, hcell, hwz⟩⟩

variable {k : IntKind} {w : World} {a : Option Addr} {l c : Nat} {zs : List Int}

theorem IsRow.le (h : IsRow k w a l c zs) : l ≤ c := by
  rcases h with ⟨_, rfl, rfl, _⟩ | ⟨_, _, h, _⟩
  · exact Nat.le_refl _
  · exact h
theorem IsRow.max (h : IsRow k w a l c zs) : c ≤ 9223372036854775807 := by
  rcases h with ⟨_, rfl, rfl, _⟩ | ⟨_, _, _, h, _⟩
  · omega
  · simpa [maxLen] using h
theorem IsRow.len (h : IsRow k w a l c zs) : (zs.take l).length = l := by
  rcases h with ⟨_, rfl, rfl, rfl⟩ | ⟨_, _, h, _, h2, _⟩
  · rfl
  · simp; omega
theorem IsRow.i64 (h : IsRow .i64 w a l c zs) : I64 (zs.take l) := by
  intro x hx
  rcases h with ⟨_, rfl, rfl, rfl⟩ | ⟨_, _, _, _, _, _, h⟩
  · simp at hx
  · exact i64_of (h x (List.mem_of_mem_take hx))
theorem IsRow.u8 (h : IsRow .u8 w a l c zs) : ∀ x ∈ zs.take l, 0 ≤ x ∧ x ≤ 255 := by
  intro x hx
  rcases h with ⟨_, rfl, rfl, rfl⟩ | ⟨_, _, _, _, _, _, h⟩
  · simp at hx
  · exact u8_of (h x (List.mem_of_mem_take hx))
theorem IsRow.ints (h : IsRow .i64 w a l c zs) : IntsAt w a (zs.take l) := by
  intro h0
  rcases h with ⟨_, rfl, rfl, rfl⟩ | ⟨x, rfl, h1, _, h2, h3, _⟩
  · simp at h0
  · simp only [List.length_take] at h0
    obtain ⟨b, off, rfl, hc⟩ := ints_at h3 (by omega)
    refine ⟨b, off, rfl, fun j hj => ?_⟩
    simp only [List.length_take] at hj
    rw [hc j (by omega), nth_take (by omega)]
    rfl

end Go.Proofs.Ytgmjffplinpobaa
