/- PressSet. -/
import Derived.Test.YtgmjffplinpobaaLj
namespace Go.Proofs.Ytgmjffplinpobaa
open Go Go.RowKit

set_option maxRecDepth 100000 in
theorem implPressSet_any (ao : Option Addr) (xs : List Int) (n c s : Nat) (w : World) (hn : xs.length = n) (hl : n ≤ 17592186044416) (hg : setB xs s = true) (hs : s < 2 ^ 62) (hx : IntsAt w ao xs) :
    Calls Try.prog 18 #[.agg #[.slice ao n c], .int .i64 s] w fun e w' => e = .returned (.int .i64 (press xs s : Nat)) ∧ Below w.heap.size w w' := by
  have HN := hid hn
  have HG := hid hg
  have hok := hid (setB_iff.1 hg).1
  have B := (Below.refl w.heap.size w).alloc (Nat.le_refl _) (.cells #[.slice ao n c] 25)
  have bk := Blk.new w #[.slice ao n c] 25
  have hx := hx.below B (Nat.le_refl _)
  have e0 := bk.at 0 rfl
  clear hn hg
  go_enter Try.func18, Try.ntmps18
  go_wp2_with fail
  generalize (w.alloc (.cells #[.slice ao n c] 25)) = w0 at *
  refine (implSetValid_any ao xs n c s w0 HN.out hl hx).mono fun e w1 h => ?_
  rw [HG.out] at h
  obtain ⟨rfl, b⟩ := h
  have B := B.trans (b.mono B.size)
  have bk := bk.below b (Nat.le_refl _)
  have hx := hx.below b (Nat.le_refl _)
  clear b e0
  have e0 := bk.at 0 rfl
  go_wp2_with fail
  refine (pressesChange_any ao xs n c s w1 HN.out hok.out hs hx).mono fun e w2 h => ?_
  obtain ⟨rfl, b⟩ := h
  go_wp2
  go_ret
  exact ⟨rfl, B.trans (b.mono B.size)⟩

end Go.Proofs.Ytgmjffplinpobaa
