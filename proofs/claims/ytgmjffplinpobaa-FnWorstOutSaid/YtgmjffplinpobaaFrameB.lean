/- Slices of bytes that came in. -/
import Derived.Test.YtgmjffplinpobaaFrame
import Derived.Test.YtgmjffplinpobaaRd
namespace Go.Proofs.Ytgmjffplinpobaa
open Go Go.RowKit

theorem IsRow.bytes {w : World} {a : Option Addr} {l c : Nat} {zs : List Int} (h : IsRow .u8 w a l c zs) : BytesAt w a (zs.take l) := by
  intro h0
  rcases h with ⟨_, rfl, rfl, _⟩ | ⟨x, rfl, h1, _, h2, h3, _⟩
  · simp at h0
  · simp only [List.length_take] at h0
    obtain ⟨b, off, rfl, hc⟩ := ints_at h3 (by omega)
    refine ⟨b, off, rfl, fun j hj => ?_⟩
    simp only [List.length_take] at hj
    rw [hc j (by omega), nth_take (by omega)]
    rfl

end Go.Proofs.Ytgmjffplinpobaa
