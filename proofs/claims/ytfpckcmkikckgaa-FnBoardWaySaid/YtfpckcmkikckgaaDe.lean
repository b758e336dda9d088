/- The draws of boards of few places. -/
import Derived.Test.YtfpckcmkikckgaaDc
import Derived.Test.YtfpckcmkikckgaaDd
namespace Go.Proofs.Ytfpckcmkikckgaa
open Go Go.RowKit

theorem drawBoardLeast_any (ao : Option Addr) (bs : List Int) (l c : Nat) (w : World) (hn : bs.length = l) (hlc : l ≤ c) (hcm : c ≤ 9223372036854775807) (hx : BytesAt w ao bs) (h8 : B8 bs) :
    Calls Try.prog 8 #[.slice ao l c] w (DrawBd w) := by
  have bk := Blk.new w #[.int .i64 0, .slice none 0 0] 25
  have hx1 := hx.alloc (.cells #[.int .i64 0, .slice none 0 0] 25)
  have bel := (Below.refl w.heap.size w).alloc (Nat.le_refl _) (.cells #[.int .i64 0, .slice none 0 0] 25)
  have hsz : (w.alloc (.cells #[.int .i64 0, .slice none 0 0] 25)).heap.size = w.heap.size + 1 := by simp
  clear hx
  go_enter Try.func8, Try.ntmps8
  go_wp2_with fail
  generalize (w.alloc (.cells #[.int .i64 0, .slice none 0 0] 25)) = W at *
  refine (l20Open_any ao bs l c W hn hlc hcm hx1 h8).mono fun e w1 h => ?_
  obtain ⟨r, rfl, hr, B⟩ := h
  clear hx1 h8 hn
  rw [hsz] at hr B
  have bk1 := bk.below B (by omega)
  have bel1 := bel.trans (B.mono (by omega))
  have hsz1 := B.size
  rw [hsz] at hsz1
  go_wp2_with fail
  refine (pick_rdr r 5 (w.heap.size + 1) 0 w1 hr (by omega)).mono fun e wp h1 => ?_
  obtain ⟨v, rfl, v0, v1, _, v2, hg1, hr1⟩ := h1
  have v3 := v1 (by omega)
  have bkp := bk1.kept hg1 (fun e => by have := Option.some.inj e; have := hr.lt; omega)
  have belp : Below w.heap.size w wp := below_grown bel1 hg1 (by have := hr.lt; omega)
  have hszp : w.heap.size + 1 ≤ wp.heap.size := Nat.le_trans hsz1 hg1.size
  clear hr hg1 v1 bk1 bel1 hsz1
  go_wp2_with fail
  refine (l20BoardM_any r (w.heap.size + 1) _ _ 9 wp hr1 (by omega) (by omega)).mono fun e w2 h => ?_
  obtain ⟨wide, ao', m, cc, ys, rfl, hl, hmc, hm, hw, ho, hg, hr2⟩ := h
  have hrl := hr2.lt
  have bk2 := bkp.kept hg (fun e => by have := Option.some.inj e; omega)
  have hfin := DrawBd.of hl hmc hm hw hszp ho belp hg hr2 hrl.1
  have f0 := bk2.free 0
  have f1 := bk2.free 1
  have g0 := bk2.at 0 rfl
  have g1 := bk2.at 1 rfl
  clear hr1 hr2 ho hg bk bkp bk2 bel belp B
  go_wp2
  exact bodyPost_ret (v := .agg #[.int .i64 wide, .slice ao' m cc]) (by simp [results, Try.results8, go_sem, g0, g1]) rfl hfin

theorem drawBoardWay_any (ao : Option Addr) (bs : List Int) (l c : Nat) (w : World) (hn : bs.length = l) (hlc : l ≤ c) (hcm : c ≤ 9223372036854775807) (hx : BytesAt w ao bs) (h8 : B8 bs) :
    Calls Try.prog 14 #[.slice ao l c] w (DrawBd w) := by
  have bk := Blk.new w #[.int .i64 0, .slice none 0 0] 25
  have hx1 := hx.alloc (.cells #[.int .i64 0, .slice none 0 0] 25)
  have bel := (Below.refl w.heap.size w).alloc (Nat.le_refl _) (.cells #[.int .i64 0, .slice none 0 0] 25)
  have hsz : (w.alloc (.cells #[.int .i64 0, .slice none 0 0] 25)).heap.size = w.heap.size + 1 := by simp
  clear hx
  go_enter Try.func14, Try.ntmps14
  go_wp2_with fail
  generalize (w.alloc (.cells #[.int .i64 0, .slice none 0 0] 25)) = W at *
  refine (l20Open_any ao bs l c W hn hlc hcm hx1 h8).mono fun e w1 h => ?_
  obtain ⟨r, rfl, hr, B⟩ := h
  clear hx1 h8 hn
  rw [hsz] at hr B
  have bk1 := bk.below B (by omega)
  have bel1 := bel.trans (B.mono (by omega))
  have hsz1 := B.size
  rw [hsz] at hsz1
  go_wp2_with fail
  refine (pick_rdr r 5 (w.heap.size + 1) 0 w1 hr (by omega)).mono fun e wp h1 => ?_
  obtain ⟨v, rfl, v0, v1, _, v2, hg1, hr1⟩ := h1
  have v3 := v1 (by omega)
  have bkp := bk1.kept hg1 (fun e => by have := Option.some.inj e; have := hr.lt; omega)
  have belp : Below w.heap.size w wp := below_grown bel1 hg1 (by have := hr.lt; omega)
  have hszp : w.heap.size + 1 ≤ wp.heap.size := Nat.le_trans hsz1 hg1.size
  clear hr hg1 v1 bk1 bel1 hsz1
  go_wp2_with fail
  refine (l20BoardM_any r (w.heap.size + 1) _ _ 9 wp hr1 (by omega) (by omega)).mono fun e w2 h => ?_
  obtain ⟨wide, ao', m, cc, ys, rfl, hl, hmc, hm, hw, ho, hg, hr2⟩ := h
  have hrl := hr2.lt
  have bk2 := bkp.kept hg (fun e => by have := Option.some.inj e; omega)
  have hfin := DrawBd.of hl hmc hm hw hszp ho belp hg hr2 hrl.1
  have f0 := bk2.free 0
  have f1 := bk2.free 1
  have g0 := bk2.at 0 rfl
  have g1 := bk2.at 1 rfl
  clear hr1 hr2 ho hg bk bkp bk2 bel belp B
  go_wp2
  exact bodyPost_ret (v := .agg #[.int .i64 wide, .slice ao' m cc]) (by simp [results, Try.results14, go_sem, g0, g1]) rfl hfin

end Go.Proofs.Ytfpckcmkikckgaa
