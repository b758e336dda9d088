/- DrawMovesValid. -/
import Derived.Test.YthcghpcmmjnijaaMs
namespace Go.Proofs.Ythcghpcmmjnijaa
open Go Go.RowKit

/-- A number of places and generators that a law has drawn. -/
def DrawPM (w : World) (e : Ending) (w' : World) : Prop :=
  ∃ p g c rs k, e = .returned (.tuple #[.int .i64 p, .slice (some ⟨g, 0, none⟩) k c]) ∧ rs.length = k ∧ k ≤ c ∧ c ≤ 9223372036854775807 ∧ k ≤ 8 ∧ (∀ r ∈ rs, r.length ≤ 1048576) ∧ RowsAt w' (some ⟨g, 0, none⟩) rs ∧ Below w.heap.size w w'

theorem drawMovesValid_any (ao : Option Addr) (bs : List Int) (l c : Nat) (w : World) (hn : bs.length = l) (hlc : l ≤ c) (hcm : c ≤ 9223372036854775807) (hx : BytesAt w ao bs) (h8 : B8 bs) :
    Calls Try.prog 28 #[.slice ao l c] w (DrawPM w) := by
  go_enter Try.func28, Try.ntmps28
  go_wp2_with fail
  refine (l20Open_any ao bs l c w hn hlc hcm hx h8).mono fun e w1 h => ?_
  obtain ⟨r, rfl, hr, B⟩ := h
  clear hx h8 hn
  go_wp2_with fail
  refine (l20Moves_any r w.heap.size 0 2 w1 hr (by omega) (by omega)).mono fun e w2 h => ?_
  obtain ⟨p, k, v, rfl, hp, hk, hst⟩ := h
  have hrl := hr.lt
  have B2 : Below w.heap.size w w2 := by
    obtain ⟨_, _, _, _, _, _, _, hg, _⟩ := hst
    exact below_grown B hg hrl.1
  obtain ⟨g, cc, rs, rfl, hkc, hcc, hl, hls, hrows⟩ := hst.rows
  clear hst hr B
  go_wp2
  exact bodyPost_ret (v := .tuple #[.int .i64 p, .slice (some ⟨g, 0, none⟩) k cc]) (by simp [results, Try.results28, go_sem]) rfl ⟨p, g, cc, rs, k, rfl, hl, hkc, hcc, hk, hls, hrows, B2⟩

end Go.Proofs.Ythcghpcmmjnijaa
