/- The walks of boardCopy and TileMove, the program's and the reference's. -/
import Derived.Test.YtaepoddlhghdpaaTv
import Derived.Laws.CopyOwn
namespace Go.Proofs.Ytaepoddlhghdpaa
open Go Go.RowKit

theorem Try.sizeInt : (Try.prog.info? 3).map (·.size) = some 1 := by kernel_rfl

theorem Blk.belowLt {w w' : World} {g : Nat} {cs : Array Value} {t : TypeId} {B : Nat} (h : Blk w g cs t) (hb : Below B w w') (hB : g < B) : Blk w' g cs t := by
  unfold Blk at *
  rw [hb.block g hB]
  exact h

theorem Own.capm {w : World} {B n c : Nat} {ao : Option Addr} {xs : List Int} (h : Own w B (.slice ao n c) xs) : c ≤ maxLen := by
  rcases h.2 with ⟨e, _⟩ | ⟨g', cap, cur, e, hb, hg, hnc, hm, hs, ht⟩
  · simp at e; unfold maxLen; omega
  · simp only [Value.slice.injEq] at e
    obtain ⟨_, _, rfl⟩ := e
    exact hm

set_option maxRecDepth 100000 in
set_option maxHeartbeats 1000000 in
theorem boardCopy_any (wide : Int) (ao : Option Addr) (xs : List Int) (n c : Nat) (w : World) (hn : xs.length = n) (hl : n ≤ 1048576) (hx : IntsAt w ao xs) :
    Calls Try.prog 30 #[.agg #[.int .i64 wide, .slice ao n c]] w (RetBoard w wide xs) := by
  have HN := hid hn
  clear hn
  obtain ⟨i0, hi, hz0, hz1, hz2⟩ := info_parts Try.infoInt
  have b1 := Blk.new' (w.alloc (.cells #[.int .i64 wide, .slice ao n c] 27)) #[.int .i64 0, .slice none 0 0] 27 (g := w.heap.size + 1) (by simp)
  have b0 := (Blk.new w #[.int .i64 wide, .slice ao n c] 27).alloc (.cells #[.int .i64 0, .slice none 0 0] 27)
  have B := ((Below.refl w.heap.size w).alloc (Nat.le_refl _) (.cells #[.int .i64 wide, .slice ao n c] 27)).alloc (by simp) (.cells #[.int .i64 0, .slice none 0 0] 27)
  go_enter Try.func30, Try.ntmps30
  go_wp2_with (at_make; refine wpList_make_full _ rfl _ _ 22 rfl (w.heap.size + 1 + 1) 3 i0 (.int .i64 0) 1 Try.underlying22 hi hz0 hz1 _ _ _ _ n rfl rfl rfl rfl ?m1 ?m2 ?m3 ?_)
  case m1 => rw [hz2]; omega
  case m2 => unfold maxLen; omega
  case m3 => simp
  generalize hW : ((w.alloc (.cells #[.int .i64 wide, .slice ao n c] 27)).alloc (.cells #[.int .i64 0, .slice none 0 0] 27)) = W at *
  have hWs : W.heap.size = w.heap.size + 1 + 1 := by rw [← hW]; simp
  have HWs := hid hWs
  clear hWs hW
  intro w1 hown hgrow
  have hb : Below w.heap.size w w1 := B.grown hgrow B.size (by simp)
  have b1' := b1.kept hgrow (by simp)
  have b0' := b0.kept hgrow (by simp)
  obtain ⟨cur, hcur, hsz, _⟩ := (Own.made hown).row
  have hx1 := hx.below hb (Nat.le_refl _)
  have e01 := b0'.at 1 rfl
  have e00 := b0'.at 0 rfl
  have hcs : Hid ((xs.map (Value.int .i64)).length = n) := by have := HN.out; simpa [Hid] using this
  have HC := hid hcur
  have hszl : Hid (cur.toList.length = n) := by simpa [Hid] using hsz
  clear hown hgrow hi hz0 hz1 hz2 i0 B b1 b0 hcur hsz
  go_wp2_with (with_reducible refine wpList_copy_splice rfl (.tmp 8) (.tmp 10) 22 22 rfl 3 Try.underlying22 Try.sizeInt _ _ n n n c rfl rfl (w.heap.size + 1 + 1) 0 cur.toList 3 (by have h := HC.out; unfold Blk at h; simpa using h) (xs.map (Value.int .i64)) ?h1 ?h2 ?h3 ?h4 (w.heap.size + 1 + 1) w1 (Below.refl _ _) (by omega) ?_)
  case h1 => have h := HN.out; simp [h]
  case h2 =>
    intro h0
    obtain ⟨b, off, rfl, hc⟩ := hx1 h0
    refine ⟨⟨b, off, none⟩, rfl, fun j v hj => ?_⟩
    have hjl : j < xs.length := by
      by_cases h : j < xs.length
      · exact h
      · simp [Nat.not_lt.1 h] at hj
    rw [Addr.add_lit, hc j hjl, nth_eq hjl]
    simpa [hjl] using hj
  case h3 => have h := HN.out; have h2 := hszl.out; simp [h] at h2 ⊢; omega
  case h4 => exact ints_oneCell _ _
  intro w2 hrow hB2
  have HB2 := hid hB2
  have c1 := b1'.belowLt hB2 (by omega)
  have c0 := b0'.belowLt hB2 (by omega)
  have hO : Own w2 w.heap.size (.slice (some ⟨w.heap.size + 1 + 1, 0, none⟩) n n) xs := by
    have hx := HN.out
    have hy := hszl.out
    refine Own.ofBlk (cur := (splice cur.toList 0 (xs.map (Value.int .i64))).toArray) (by unfold Blk; exact hrow.out) (by omega) hx (by simp [splice]; simp at hy; omega) (Nat.le_refl _) (by unfold maxLen; omega) fun j hj => ?_
    simp [splice, List.getElem?_append, hj, nth_eq hj]
  have e10 := c0.at 0 rfl
  have f10 := c1.free 0
  have f11 := c1.free 1
  have g10 := c1.cell 0
  have g11 := c1.cell 1
  have hlt := c1.lt
  have B2 := hid (((hb.trans (hB2.mono (by omega))).setCell (p := ⟨w.heap.size + 1, 0, none⟩) (by simp) (.int .i64 wide)).setCell (p := ⟨w.heap.size + 1, 1, none⟩) (by simp) (.slice (some ⟨w.heap.size + 1 + 1, 0, none⟩) n n))
  have o2 := (hO.setOther (w.heap.size + 1) 0 (.int .i64 wide) (by right; simp [Value.ownBlock])).setOther (w.heap.size + 1) 1 (.slice (some ⟨w.heap.size + 1 + 1, 0, none⟩) n n) (by right; simp [Value.ownBlock])
  clear c1 c0 hO hB2 HB2 hrow hb HC hszl e01 e00 hx1 b1' b0'
  go_wp2
  exact bodyPost_ret (v := .agg #[.int .i64 wide, .slice (some ⟨w.heap.size + 1 + 1, 0, none⟩) n n]) (by simp [results, Try.results30, go_sem, g10, g11]) rfl (RetBoard.mk HN.out (Nat.le_refl _) o2 B2.out)

/-- A call that hands back a board of its own make, and a bool. -/
def RetBB (w : World) (wide : Int) (xs : List Int) (ok : Bool) (e : Ending) (w' : World) : Prop :=
  ∃ ao c, e = .returned (.tuple #[.agg #[.int .i64 wide, .slice ao xs.length c], .bool ok]) ∧ xs.length ≤ c ∧ Own w' w.heap.size (.slice ao xs.length c) xs ∧ Below w.heap.size w w'

theorem RetBB.mk {w w' : World} {wide : Int} {xs : List Int} {ok : Bool} {ao : Option Addr} {n c : Nat} (hn : xs.length = n) (hnc : n ≤ c) (ho : Own w' w.heap.size (.slice ao n c) xs) (hb : Below w.heap.size w w') :
    RetBB w wide xs ok (.returned (.tuple #[.agg #[.int .i64 wide, .slice ao n c], .bool ok])) w' := by
  subst hn; exact ⟨ao, c, rfl, hnc, ho, hb⟩

theorem RetBB.to {w w' : World} {wide : Int} {xs : List Int} {ok : Bool} {e : Ending} {n : Nat} (h : RetBB w wide xs ok e w') (hn : xs.length = n) :
    ∃ ao c, e = .returned (.tuple #[.agg #[.int .i64 wide, .slice ao n c], .bool ok]) ∧ n ≤ c ∧ Own w' w.heap.size (.slice ao n c) xs ∧ Below w.heap.size w w' := by
  subst hn; exact h

theorem cell2_set {W : World} {g h : Nat} {a b : Value} (hc : W.cell? ⟨h, 0, none⟩ = some a ∧ W.cell? ⟨h, 1, none⟩ = some b) (hne : h ≠ g) (j : Nat) (u : Value) :
    (W.setCell ⟨g, j, none⟩ u).cell? ⟨h, 0, none⟩ = some a ∧ (W.setCell ⟨g, j, none⟩ u).cell? ⟨h, 1, none⟩ = some b := by
  have hx : ∀ o, (W.setCell ⟨g, j, none⟩ u).cell? ⟨h, o, none⟩ = W.cell? ⟨h, o, none⟩ := fun o => by
    simp only [World.cell?]
    rw [Below.heap_setCell _ _ _ _ hne]
  rw [hx, hx]; exact hc

/-- TileMove's answer. -/
def tmW (wide : Int) (xs : List Int) : Int := if BoardOk wide xs then wide else 0
def tmL (wide : Int) (xs : List Int) (t : Int) : List Int := if BoardOk wide xs then movedL wide xs t else []
theorem tmW_in {wide : Int} {xs : List Int} (h : BoardOk wide xs) : tmW wide xs = wide := if_pos h
theorem tmW_out {wide : Int} {xs : List Int} (h : ¬ BoardOk wide xs) : tmW wide xs = 0 := if_neg h
theorem tmL_in {wide : Int} {xs : List Int} {t : Int} (h : BoardOk wide xs) : tmL wide xs t = movedL wide xs t := if_pos h
theorem tmL_out {wide : Int} {xs : List Int} {t : Int} (h : ¬ BoardOk wide xs) : tmL wide xs t = [] := if_neg h
theorem canB_out {wide : Int} {xs : List Int} {t : Int} (h : ¬ BoardOk wide xs) : canB wide xs t = false := by unfold canB; rw [mayL_out h]; rfl

end Go.Proofs.Ytaepoddlhghdpaa
