/- A copy of a board in a new variable: impl.Board{Wide: b.Wide, Tiles: append([]int{}, b.Tiles...)}. -/
import Derived.Test.YtncebcgiljkbnaaTd
import Derived.Test.YtncebcgiljkbnaaDr
import Derived.Deep.DeepCutAuto
import Derived.Deep.RegionHeld3
import Derived.Deep.AppendLies
namespace Go.Proofs.Ytncebcgiljkbnaa
open Go Go.RowKit

def CopyB (W : World) (wide : Int) (m : Nat) (ys : List Int) (x : Value) (wx : World) : Prop :=
  ∃ gx gy cy, x = .pointer (some ⟨gx, 0, none⟩) ∧ Blk wx gx #[.int .i64 wide, .slice (some ⟨gy, 0, none⟩) m cy] 26 ∧ m ≤ cy ∧ Own wx W.heap.size (.slice (some ⟨gy, 0, none⟩) m cy) ys ∧ Below W.heap.size W wx ∧ W.heap.size ≤ gx ∧ gx ≠ gy

theorem IntsAt.cellAt' {w : World} {g : Nat} {xs : List Int} (h : IntsAt w (some ⟨g, 0, none⟩) xs) {j : Nat} (hj : j < xs.length) : w.cell? ⟨g, j, none⟩ = some (.int .i64 (nth xs j)) := by
  have := ints_at h hj
  rwa [Nat.zero_add] at this

theorem Own.belowLt {w w' : World} {B L g n c : Nat} {xs : List Int} (h : Own w B (.slice (some ⟨g, 0, none⟩) n c) xs) (hb : Below L w w') (hg : g < L) : Own w' B (.slice (some ⟨g, 0, none⟩) n c) xs := by
  refine ⟨h.1, ?_⟩
  rcases h.2 with h2 | ⟨g', cap, cur, hv, h1, h3, r⟩
  · exact .inl h2
  · refine .inr ⟨g', cap, cur, hv, h1, ?_, r⟩
    have e : g = g' := by simp at hv; exact hv.1
    subst e
    rw [hb.block g hg]; exact h3

theorem Own.addrOf' {w : World} {B n : Nat} {v : Value} {xs : List Int} (h : Own w B v xs) (hn : xs.length = n) (h0 : 0 < n) : ∃ g c, v = .slice (some ⟨g, 0, none⟩) n c ∧ n ≤ c :=
  h.addrOf (by
    intro e
    have := h.shapeN hn
    obtain ⟨ao, c, e2, _, hc⟩ := this
    rw [e] at e2
    simp at e2
    omega) hn

end Go.Proofs.Ytncebcgiljkbnaa
