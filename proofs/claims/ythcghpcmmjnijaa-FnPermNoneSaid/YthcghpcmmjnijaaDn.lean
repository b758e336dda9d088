/- DrawPermNone. -/
import Derived.Test.YthcghpcmmjnijaaRd
namespace Go.Proofs.Ythcghpcmmjnijaa
open Go Go.RowKit

theorem drawPermNone_any (ao : Option Addr) (bs : List Int) (l c : Nat) (w : World) (hn : bs.length = l) (hlc : l ≤ c) (hcm : c ≤ 9223372036854775807) (hx : BytesAt w ao bs) (h8 : B8 bs) :
    Calls Try.prog 14 #[.slice ao l c] w fun e w' => ∃ v : Int, e = .returned (.int .i64 v) ∧ -1 ≤ v ∧ v ≤ 6 ∧ Below w.heap.size w w' := by
  go_enter Try.func14, Try.ntmps14
  go_wp2_with fail
  refine (l20Open_any ao bs l c w hn hlc hcm hx h8).mono fun e w1 h => ?_
  obtain ⟨r, rfl, hr, B⟩ := h
  clear hx h8 hn
  go_wp2_with fail
  refine (pick_rdr r 8 w.heap.size 0 w1 hr (by omega)).mono fun e w2 h => ?_
  obtain ⟨v, rfl, v0, v1, _, v2, hg, hr2⟩ := h
  have v3 := v1 (by omega)
  have B2 := below_grown B hg hr2.lt.1
  clear v1 hr hr2 hg B
  go_wp2
  go_ret
  exact ⟨v - 1, by go_num, by omega, by omega, B2⟩

end Go.Proofs.Ythcghpcmmjnijaa
