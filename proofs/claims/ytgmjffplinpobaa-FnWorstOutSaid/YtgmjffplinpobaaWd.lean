/- The draw of the law of the worst lights: l20Few, DrawWorstOut. -/
import Derived.Test.YtgmjffplinpobaaHa
namespace Go.Proofs.Ytgmjffplinpobaa
open Go Go.RowKit

set_option maxRecDepth 100000 in
set_option maxHeartbeats 2000000 in
theorem l20Few_any (r B N : Nat) (n : Int) (w : World) (h : Rdr w B r N) (hN : N ≤ 900000) (hn : n ≤ 1000) :
    Calls Try.prog 47 #[.pointer (some ⟨r, 0, none⟩), .int .i64 n] w (DrawGr w B r (N + 100)) := by
  obtain ⟨hBr, hrw⟩ := h.lt
  have b1 := Blk.new w #[.slice none 0 0] 25
  have B1 := (Below.refl w.heap.size w).alloc (Nat.le_refl _) (.cells #[.slice none 0 0] 25)
  have hg0 := grown_alloc w (.cells #[.slice none 0 0] 25) (some r)
  have hr0 := h.below B1 (Nat.le_refl _)
  have hsz : (w.alloc (.cells #[.slice none 0 0] 25)).heap.size = w.heap.size + 1 := by simp
  clear h
  go_enter Try.func47, Try.ntmps47
  go_wp2_with fail
  generalize (w.alloc (.cells #[.slice none 0 0] 25)) = W at *
  refine (l20Graph_any r B N n W hr0 (by omega) hn).mono fun e w1 hp => ?_
  obtain ⟨ao, m, c, ys, rfl, hl, hmc, hm, ho, hg1, hr1⟩ := hp
  have b1 := b1.kept hg1 (fun e => by have := Option.some.inj e; omega)
  have hg1 := grownBy_trans hg0 hg1
  rw [hsz] at ho
  have hlt1 := b1.lt
  clear hr0 hg0 B1
  have bb := Blk.new w1 #[.slice ao m c] 25
  have ba := (Below.refl w1.heap.size w1).alloc (Nat.le_refl _) (.cells #[.slice ao m c] 25)
  have ho := ho.alloc (.cells #[.slice ao m c] 25)
  have b1 := b1.alloc (.cells #[.slice ao m c] 25)
  have hg1 := grown_new hg1 (grown_alloc w1 (.cells #[.slice ao m c] 25) none) (fun g e => by cases e)
  have hr1 := hr1.below ba (Nat.le_refl _)
  by_cases h7 : 7 < m
  · have hd : decide ((7 : Int) < m) = true := decide_eq_true (by omega)
    clear ho hl
    go_wp2_with fail
    generalize (w1.alloc (.cells #[.slice ao m c] 25)) = w2 at *
    have hGr : Calls Try.prog 52 #[.int .i64 3, .int .i64 2] w2 (RetGraph w2) := specGridOf_any 3 2 w2 (by omega) (by omega)
    refine hGr.mono fun e w3 h => ?_
    obtain ⟨a2, k, c2, zs, rfl, hl2, hkc, ⟨_, hk⟩, o2, b⟩ := h
    have b1 := b1.below b (Nat.le_refl _)
    have hr1 := hr1.below b (Nat.le_refl _)
    have hg1 := grown_new hg1 ⟨b.os, b.tape, b.output, b.size, fun k hk _ => b.block k hk⟩ (row := none) (fun g e => by cases e)
    have hsz2 := bb.lt
    have hfin := DrawGr.mk (M := N + 100) (o2.lower (B' := w.heap.size + 1) (by omega)) hl2 hkc hk hg1 hr1 (by omega) hrw hBr
    have f1 := b1.free 0
    have g1 := b1.at 0 rfl
    clear b o2 b1 bb hr1 hg1 ba hGr
    go_wp2
    exact bodyPost_ret (v := .agg #[.slice a2 k c2]) (by simp [results, Try.results47, go_sem, g1]) rfl hfin
  · have hd : decide ((7 : Int) < m) = false := decide_eq_false (by omega)
    have hfin := DrawGr.mk (M := N + 100) ho hl hmc hm hg1 hr1 (by omega) hrw hBr
    have e0 := bb.at 0 rfl
    have f1 := b1.free 0
    have g1 := b1.at 0 rfl
    have hpast := World.setCell_alloc_past (w := w1) (.cells #[.slice ao m c] 25) w.heap.size 0 (.slice ao m c) hlt1
    have g2 := (b1.set 0 (.slice ao m c)).at 0 rfl
    rw [hpast] at hfin g2
    clear ho b1 bb hg1 hr1 ba hl hpast
    go_wp2
    exact bodyPost_ret (v := .agg #[.slice ao m c]) (by simp [results, Try.results47, go_sem, g2]) rfl hfin

set_option maxRecDepth 100000 in
theorem drawWorstOut_any (ao : Option Addr) (bs : List Int) (l c : Nat) (w : World) (hn : bs.length = l) (hlc : l ≤ c) (hcm : c ≤ 9223372036854775807) (hx : BytesAt w ao bs) (h8 : B8 bs) :
    Calls Try.prog 27 #[.slice ao l c] w (DrawnG w) := by
  have bk := Blk.new w #[.slice none 0 0] 25
  have hx1 := hx.alloc (.cells #[.slice none 0 0] 25)
  have bel := (Below.refl w.heap.size w).alloc (Nat.le_refl _) (.cells #[.slice none 0 0] 25)
  have hsz : (w.alloc (.cells #[.slice none 0 0] 25)).heap.size = w.heap.size + 1 := by simp
  clear hx
  go_enter Try.func27, Try.ntmps27
  go_wp2_with fail
  generalize (w.alloc (.cells #[.slice none 0 0] 25)) = W at *
  refine (l20Open_any ao bs l c W hn hlc hcm hx1 h8).mono fun e w1 h => ?_
  obtain ⟨r, rfl, hr, B⟩ := h
  clear hx1 h8 hn
  rw [hsz] at hr B
  have bk1 := bk.below B (by omega)
  have bel1 := bel.trans (B.mono (by omega))
  have hsz1 := B.size
  rw [hsz] at hsz1
  go_wp2_with fail
  refine (l20Few_any r (w.heap.size + 1) 0 9 w1 hr (by omega) (by omega)).mono fun e w2 h => ?_
  obtain ⟨ao', m, cc, ys, rfl, hl, hmc, hm, ho, hg, hr2⟩ := h
  have hrl := hr2.lt
  have bk2 := bk1.kept hg (fun e => by have := Option.some.inj e; omega)
  have hfin := DrawnG.mk hl hmc hm hsz1 ho bel1 hg hr2 hrl.1
  have f0 := bk2.free 0
  have g0 := bk2.at 0 rfl
  clear hr hr2 ho hg bk bk1 bk2 bel bel1 B
  go_wp2
  exact bodyPost_ret (v := .agg #[.slice ao' m cc]) (by simp [results, Try.results27, go_sem, g0]) rfl hfin

end Go.Proofs.Ytgmjffplinpobaa
