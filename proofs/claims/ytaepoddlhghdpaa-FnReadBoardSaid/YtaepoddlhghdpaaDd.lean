/- The draws of boards: DrawBoardValid and its like. -/
import Derived.Test.YtaepoddlhghdpaaDb
namespace Go.Proofs.Ytaepoddlhghdpaa
open Go Go.RowKit

/-- A board that a law has drawn. -/
def DrawBd (w : World) (e : Ending) (w' : World) : Prop :=
  ∃ wide ao m c ys, e = .returned (.agg #[.int .i64 wide, .slice ao m c]) ∧ ys.length = m ∧ m ≤ c ∧ m ≤ 9 ∧ (0 ≤ wide ∧ wide ≤ 10) ∧ Own w' w.heap.size (.slice ao m c) ys ∧ Below w.heap.size w w'

theorem DrawBd.of {w w1 w2 : World} {r N m c : Nat} {wide : Int} {ao : Option Addr} {ys : List Int} (hl : ys.length = m) (hmc : m ≤ c) (hm : m ≤ 9) (hw : 0 ≤ wide ∧ wide ≤ 10) (hsz : w.heap.size + 1 ≤ w1.heap.size) (ho : Own w2 w1.heap.size (.slice ao m c) ys) (hB : Below w.heap.size w w1) (hg : w1.grownBy w2 (some r)) (_hr : Rdr w2 (w.heap.size + 1) r N) (hrr : w.heap.size + 1 ≤ r) :
    DrawBd w (.returned (.agg #[.int .i64 wide, .slice ao m c])) ((w2.setCell ⟨w.heap.size, 0, none⟩ (.int .i64 wide)).setCell ⟨w.heap.size, 1, none⟩ (.slice ao m c)) := by
  have h1 : Below w.heap.size w w2 := below_grown hB hg (by omega)
  refine ⟨wide, ao, m, c, ys, rfl, hl, hmc, hm, hw, ?_, ?_⟩
  · exact ((ho.setOther w.heap.size 0 _ (ho.ne_of_lt (by omega))).setOther w.heap.size 1 _ (ho.ne_of_lt (by omega))).lower (by omega)
  · exact (h1.setCell (p := ⟨w.heap.size, 0, none⟩) (Nat.le_refl _) _).setCell (p := ⟨w.heap.size, 1, none⟩) (Nat.le_refl _) _

theorem drawBoardText_any (ao : Option Addr) (bs : List Int) (l c : Nat) (w : World) (hn : bs.length = l) (hlc : l ≤ c) (hcm : c ≤ 9223372036854775807) (hx : BytesAt w ao bs) (h8 : B8 bs) :
    Calls Try.prog 16 #[.slice ao l c] w (DrawBd w) := by
  have bk := Blk.new w #[.int .i64 0, .slice none 0 0] 27
  have hx1 := hx.alloc (.cells #[.int .i64 0, .slice none 0 0] 27)
  have bel := (Below.refl w.heap.size w).alloc (Nat.le_refl _) (.cells #[.int .i64 0, .slice none 0 0] 27)
  have hsz : (w.alloc (.cells #[.int .i64 0, .slice none 0 0] 27)).heap.size = w.heap.size + 1 := by simp
  clear hx
  go_enter Try.func16, Try.ntmps16
  go_wp2_with fail
  generalize (w.alloc (.cells #[.int .i64 0, .slice none 0 0] 27)) = W at *
  refine (l20Open_any ao bs l c W hn hlc hcm hx1 h8).mono fun e w1 h => ?_
  obtain ⟨r, rfl, hr, B⟩ := h
  clear hx1 h8 hn
  rw [hsz] at hr B
  have bk1 := bk.below B (by omega)
  have bel1 := bel.trans (B.mono (by omega))
  have hsz1 := B.size
  rw [hsz] at hsz1
  go_wp2_with fail
  refine (l20Board_any r (w.heap.size + 1) 0 6 w1 hr (by omega) (by omega)).mono fun e w2 h => ?_
  obtain ⟨wide, ao', m, cc, ys, rfl, hl, hmc, hm, hw, ho, hg, hr2⟩ := h
  have hrl := hr2.lt
  have bk2 := bk1.kept hg (fun e => by have := Option.some.inj e; omega)
  have hfin := DrawBd.of hl hmc hm hw hsz1 ho bel1 hg hr2 hrl.1
  have f0 := bk2.free 0
  have f1 := bk2.free 1
  have g0 := bk2.at 0 rfl
  have g1 := bk2.at 1 rfl
  clear hr hr2 ho hg bk bk1 bk2 bel bel1 B
  go_wp2
  exact bodyPost_ret (v := .agg #[.int .i64 wide, .slice ao' m cc]) (by simp [results, Try.results16, go_sem, g0, g1]) rfl hfin

end Go.Proofs.Ytaepoddlhghdpaa
