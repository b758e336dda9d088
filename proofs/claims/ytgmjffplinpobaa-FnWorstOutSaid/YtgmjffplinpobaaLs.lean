/- The draws of the laws of lights: DrawOutMay, DrawOutBy. -/
import Derived.Test.YtgmjffplinpobaaLr
namespace Go.Proofs.Ytgmjffplinpobaa
open Go Go.RowKit

/-- What a law has drawn. -/
def DrawnGL (w : World) (e : Ending) (w' : World) : Prop :=
  ∃ ao m c ys s, e = .returned (.tuple #[.agg #[.slice ao m c], .int .i64 s]) ∧ ys.length = m ∧ m ≤ c ∧ m ≤ 10 ∧ Own w' w.heap.size (.slice ao m c) ys ∧ Below w.heap.size w w'

theorem DrawnGL.mk {w w1 w2 : World} {r N m c : Nat} {ao : Option Addr} {ys : List Int} (s : Int) (hl : ys.length = m) (hmc : m ≤ c) (hm : m ≤ 10) (hsz : w.heap.size + 1 ≤ w1.heap.size) (ho : Own w2 w1.heap.size (.slice ao m c) ys) (hB : Below w.heap.size w w1) (hg : w1.grownBy w2 (some r)) (_hr : Rdr w2 (w.heap.size + 1) r N) (hrr : w.heap.size + 1 ≤ r) :
    DrawnGL w (.returned (.tuple #[.agg #[.slice ao m c], .int .i64 s])) (w2.setCell ⟨w.heap.size, 0, none⟩ (.slice ao m c)) := by
  have h1 : Below w.heap.size w w2 := below_grown hB hg (by omega)
  exact ⟨ao, m, c, ys, s, rfl, hl, hmc, hm, (ho.setOther w.heap.size 0 _ (ho.ne_of_lt (by omega))).lower (by omega), h1.setCell (p := ⟨w.heap.size, 0, none⟩) (Nat.le_refl _) _⟩

theorem drawOutMay_any (ao : Option Addr) (bs : List Int) (l c : Nat) (w : World) (hn : bs.length = l) (hlc : l ≤ c) (hcm : c ≤ 9223372036854775807) (hx : BytesAt w ao bs) (h8 : B8 bs) :
    Calls Try.prog 7 #[.slice ao l c] w (DrawnGL w) := by
  have bk := Blk.new w #[.slice none 0 0] 25
  have hx1 := hx.alloc (.cells #[.slice none 0 0] 25)
  have bel := (Below.refl w.heap.size w).alloc (Nat.le_refl _) (.cells #[.slice none 0 0] 25)
  have hsz : (w.alloc (.cells #[.slice none 0 0] 25)).heap.size = w.heap.size + 1 := by simp
  clear hx
  go_enter Try.func7, Try.ntmps7
  go_wp2_with fail
  generalize (w.alloc (.cells #[.slice none 0 0] 25)) = W at *
  refine (l20Open_any ao bs l c W hn hlc hcm hx1 h8).mono fun e w1 h => ?_
  obtain ⟨r, rfl, hr, B⟩ := h
  clear hx1 h8 hn
  rw [hsz] at hr B
  have bk1 := bk.below B (by omega)
  have bel1 := bel.trans (B.mono (by omega))
  have hsz1 := B.size
  rw [hsz] at hsz1
  go_wp2_with fail
  refine (l20Lit_any r (w.heap.size + 1) 0 9 w1 hr (by omega) (by omega)).mono fun e w2 h => ?_
  obtain ⟨ao', m, cc, ys, s, rfl, hl, hmc, hm, ho, hg, hr2⟩ := h
  have hrl := hr2.lt
  have bk2 := bk1.kept hg (fun e => by have := Option.some.inj e; omega)
  have hfin := DrawnGL.mk s hl hmc hm hsz1 ho bel1 hg hr2 hrl.1
  have f0 := bk2.free 0
  have g0 := bk2.at 0 rfl
  clear hr hr2 ho hg bk bk1 bk2 bel bel1 B
  go_wp2
  exact bodyPost_ret (v := .tuple #[.agg #[.slice ao' m cc], .int .i64 s]) (by simp [results, Try.results7, go_sem, g0]) rfl hfin

theorem drawOutBy_any (ao : Option Addr) (bs : List Int) (l c : Nat) (w : World) (hn : bs.length = l) (hlc : l ≤ c) (hcm : c ≤ 9223372036854775807) (hx : BytesAt w ao bs) (h8 : B8 bs) :
    Calls Try.prog 12 #[.slice ao l c] w (DrawnGL w) := by
  have bk := Blk.new w #[.slice none 0 0] 25
  have hx1 := hx.alloc (.cells #[.slice none 0 0] 25)
  have bel := (Below.refl w.heap.size w).alloc (Nat.le_refl _) (.cells #[.slice none 0 0] 25)
  have hsz : (w.alloc (.cells #[.slice none 0 0] 25)).heap.size = w.heap.size + 1 := by simp
  clear hx
  go_enter Try.func12, Try.ntmps12
  go_wp2_with fail
  generalize (w.alloc (.cells #[.slice none 0 0] 25)) = W at *
  refine (l20Open_any ao bs l c W hn hlc hcm hx1 h8).mono fun e w1 h => ?_
  obtain ⟨r, rfl, hr, B⟩ := h
  clear hx1 h8 hn
  rw [hsz] at hr B
  have bk1 := bk.below B (by omega)
  have bel1 := bel.trans (B.mono (by omega))
  have hsz1 := B.size
  rw [hsz] at hsz1
  go_wp2_with fail
  refine (l20Lit_any r (w.heap.size + 1) 0 9 w1 hr (by omega) (by omega)).mono fun e w2 h => ?_
  obtain ⟨ao', m, cc, ys, s, rfl, hl, hmc, hm, ho, hg, hr2⟩ := h
  have hrl := hr2.lt
  have bk2 := bk1.kept hg (fun e => by have := Option.some.inj e; omega)
  have hfin := DrawnGL.mk s hl hmc hm hsz1 ho bel1 hg hr2 hrl.1
  have f0 := bk2.free 0
  have g0 := bk2.at 0 rfl
  clear hr hr2 ho hg bk bk1 bk2 bel bel1 B
  go_wp2
  exact bodyPost_ret (v := .tuple #[.agg #[.slice ao' m cc], .int .i64 s]) (by simp [results, Try.results12, go_sem, g0]) rfl hfin

end Go.Proofs.Ytgmjffplinpobaa
