/- The walks of TilesRun, the program's and the reference's. -/
import Derived.Test.YtfpckcmkikckgaaTd
namespace Go.Proofs.Ytfpckcmkikckgaa
open Go Go.RowKit

theorem sw1_inj {t a b : Int} (h : sw1 t a = sw1 t b) : a = b := by
  unfold sw1 at h
  by_cases h1 : a = t <;> by_cases h2 : a = 0 <;> by_cases h3 : b = t <;> by_cases h4 : b = 0 <;> simp [h1, h2, h3, h4] at h ⊢ <;> omega

theorem boardOk_moved {wide : Int} {xs : List Int} {t : Int} (h : BoardOk wide xs) : BoardOk wide (movedL wide xs t) := by
  cases hc : canB wide xs t with
  | false => rw [movedL_no hc]; exact h
  | true =>
    rw [movedL_yes hc]
    have ht := ((canB_iff h).1 hc).1
    have hl : (swapL xs t).length = xs.length := by rw [swapL, List.length_map]
    refine ⟨by rw [hl]; exact h.1, by rw [hl]; exact h.2.1, h.2.2.1, by rw [hl]; exact h.2.2.2.1, ?_⟩
    rw [hl]
    refine ⟨fun x hx => ?_, ?_⟩
    · obtain ⟨y, hy, rfl⟩ := List.mem_map.1 hx
      have := h.2.2.2.2.1 y hy
      have h2 := h.1
      split
      · omega
      · split <;> omega
    · exact List.Pairwise.map _ (fun a b hab e => hab (sw1_inj (t := t) e)) h.2.2.2.2.2

/-- Some tiles moved one after the other: none if one may not be moved. -/
def runOpt (wide : Int) : List Int → List Int → Option (List Int)
  | xs, [] => some xs
  | xs, t :: ts => if canB wide xs t = true then runOpt wide (movedL wide xs t) ts else none

theorem runOpt_nil (wide : Int) (xs : List Int) : runOpt wide xs [] = some xs := rfl
theorem runOpt_yes {wide : Int} {xs ts : List Int} {k : Nat} (hk : k < ts.length) (h : canB wide xs (nth ts k) = true) : runOpt wide xs (ts.drop k) = runOpt wide (movedL wide xs (nth ts k)) (ts.drop (k + 1)) := by
  rw [List.drop_eq_getElem_cons hk, ← nth_eq hk, runOpt, if_pos h]
theorem runOpt_no {wide : Int} {xs ts : List Int} {k : Nat} (hk : k < ts.length) (h : canB wide xs (nth ts k) = false) : runOpt wide xs (ts.drop k) = none := by
  rw [List.drop_eq_getElem_cons hk, ← nth_eq hk, runOpt, if_neg (by rw [h]; simp)]

theorem runOpt_len (wide : Int) : ∀ (ts xs ys : List Int), runOpt wide xs ts = some ys → ys.length = xs.length
  | [], xs, ys, h => by rw [runOpt_nil] at h; cases h; rfl
  | t :: ts, xs, ys, h => by
    rw [runOpt] at h
    split at h
    · rw [runOpt_len wide ts _ _ h, length_movedL]
    · cases h

/-- TilesRun's answer. -/
def trO (wide : Int) (xs ts : List Int) : Option (List Int) := if BoardOk wide xs ∧ ts.length ≤ 99 then runOpt wide xs ts else none
def trW (wide : Int) (xs ts : List Int) : Int := match trO wide xs ts with | some _ => wide | none => 0
def trL (wide : Int) (xs ts : List Int) : List Int := match trO wide xs ts with | some ys => ys | none => []
def trB (wide : Int) (xs ts : List Int) : Bool := match trO wide xs ts with | some _ => true | none => false
theorem trO_out {wide : Int} {xs ts : List Int} (h : ¬ (BoardOk wide xs ∧ ts.length ≤ 99)) : trO wide xs ts = none := if_neg h
theorem trO_in {wide : Int} {xs ts : List Int} (h : BoardOk wide xs) (h2 : ts.length ≤ 99) : trO wide xs ts = runOpt wide xs ts := if_pos ⟨h, h2⟩
theorem tr_none {wide : Int} {xs ts : List Int} (h : trO wide xs ts = none) : trW wide xs ts = 0 ∧ trL wide xs ts = [] ∧ trB wide xs ts = false := by unfold trW trL trB; rw [h]; exact ⟨rfl, rfl, rfl⟩
theorem tr_some {wide : Int} {xs ts ys : List Int} (h : trO wide xs ts = some ys) : trW wide xs ts = wide ∧ trL wide xs ts = ys ∧ trB wide xs ts = true := by unfold trW trL trB; rw [h]; exact ⟨rfl, rfl, rfl⟩
theorem length_trL (wide : Int) (xs ts : List Int) : (trL wide xs ts).length ≤ 17592186044416 - 1048576 := by
  cases h : trO wide xs ts with
  | none => rw [(tr_none h).2.1]; simp
  | some ys =>
    rw [(tr_some h).2.1]
    by_cases h2 : BoardOk wide xs ∧ ts.length ≤ 99
    · rw [trO_in h2.1 h2.2] at h
      have := runOpt_len wide ts xs ys h
      have := h2.1.2.1
      omega
    · rw [trO_out h2] at h; cases h

theorem grown_below {w w' : World} {g L : Nat} (hg : w.grownBy w' (some g)) (hL : L ≤ g) (hw : L ≤ w.heap.size := by omega) : Below L w w' :=
  ⟨hg.os, hg.tape, hg.output, hg.size, fun k hk => hg.block k (by omega) (fun e => by have := Option.some.inj e; omega)⟩

/-- The zero board, with false. -/
theorem RetBB.zero {w w' : World} {wide : Int} {xs ts : List Int} (h : trO wide xs ts = none) (hb : Below w.heap.size w w') :
    RetBB w (trW wide xs ts) (trL wide xs ts) (trB wide xs ts) (.returned (.tuple #[.agg #[.int .i64 0, .slice none 0 0], .bool false])) w' := by
  obtain ⟨h1, h2, h3⟩ := tr_none h
  rw [h1, h2, h3]
  exact RetBB.mk (xs := []) rfl (Nat.le_refl _) (Own.nil _ _) hb

set_option maxRecDepth 100000 in
set_option maxHeartbeats 2000000 in
theorem implTilesRun_any (wide : Int) (ao : Option Addr) (xs : List Int) (n c : Nat) (to : Option Addr) (ts : List Int) (m d : Nat) (w : World) (hn : xs.length = n) (hl : n ≤ 17592186044416) (hx : IntsAt w ao xs) (hm : ts.length = m) (hlm : m ≤ 17592186044416) (ht : IntsAt w to ts) :
    Calls Try.prog 18 #[.agg #[.int .i64 wide, .slice ao n c], .slice to m d] w (RetBB w (trW wide xs ts) (trL wide xs ts) (trB wide xs ts)) := by
  have HN := hid hn
  have HM := hid hm
  clear hn hm
  have B := ((Below.refl w.heap.size w).alloc (Nat.le_refl _) (.cells #[.int .i64 wide, .slice ao n c] 25)).alloc (by simp) (.cells #[.int .i64 0, .slice none 0 0] 25)
  have bk := (Blk.new w #[.int .i64 wide, .slice ao n c] 25).alloc (.cells #[.int .i64 0, .slice none 0 0] 25)
  have br := Blk.new' (w.alloc (.cells #[.int .i64 wide, .slice ao n c] 25)) #[.int .i64 0, .slice none 0 0] 25 (g := w.heap.size + 1) (by simp)
  by_cases h99 : BoardOk wide xs ∧ m ≤ 99
  rotate_left
  · have hO : Hid (trO wide xs ts = none) := trO_out (by rw [HM.out]; exact h99)
    by_cases hm9 : m ≤ 99
    · have hd : decide ((99 : Int) < m) = false := decide_eq_false (by omega)
      have h1 : boardB wide xs = false := boardB_not.2 fun h => h99 ⟨h, hm9⟩
      go_enter Try.func18, Try.ntmps18
      go_wp2_with fail
      generalize ((w.alloc (.cells #[.int .i64 wide, .slice ao n c] 25)).alloc (.cells #[.int .i64 0, .slice none 0 0] 25)) = w0 at *
      have e0 := bk.at 0 rfl
      have e1 := bk.at 1 rfl
      go_wp2_with fail
      refine (implBoardValid_any wide ao xs n c w0 HN.out hl (hx.below B (Nat.le_refl _))).mono fun e w1 h => ?_
      rw [h1] at h
      obtain ⟨rfl, b⟩ := h
      have B := B.trans (b.mono B.size)
      have br := br.below b (Nat.le_refl _)
      have f0 := br.free 0
      have f1 := br.free 1
      have g0 := br.cell 0
      have g1 := br.cell 1
      have B2 := hid ((B.setCell (p := ⟨w.heap.size + 1, 0, none⟩) (by simp) (.int .i64 0)).setCell (p := ⟨w.heap.size + 1, 1, none⟩) (by simp) (.slice none 0 0))
      clear b h1 e0 e1 h99
      go_wp2_with fail
      exact bodyPost_ret (v := .tuple #[.agg #[.int .i64 0, .slice none 0 0], .bool false]) (by simp [results, Try.results18, go_sem, g0, g1]) rfl (RetBB.zero hO.out B2.out)
    · have hd : decide ((99 : Int) < m) = true := decide_eq_true (by omega)
      cases h1 : boardB wide xs with
      | false =>
        go_enter Try.func18, Try.ntmps18
        go_wp2_with fail
        generalize ((w.alloc (.cells #[.int .i64 wide, .slice ao n c] 25)).alloc (.cells #[.int .i64 0, .slice none 0 0] 25)) = w0 at *
        have e0 := bk.at 0 rfl
        have e1 := bk.at 1 rfl
        go_wp2_with fail
        refine (implBoardValid_any wide ao xs n c w0 HN.out hl (hx.below B (Nat.le_refl _))).mono fun e w1 h => ?_
        rw [h1] at h
        obtain ⟨rfl, b⟩ := h
        have B := B.trans (b.mono B.size)
        have br := br.below b (Nat.le_refl _)
        have f0 := br.free 0
        have f1 := br.free 1
        have g0 := br.cell 0
        have g1 := br.cell 1
        have B2 := hid ((B.setCell (p := ⟨w.heap.size + 1, 0, none⟩) (by simp) (.int .i64 0)).setCell (p := ⟨w.heap.size + 1, 1, none⟩) (by simp) (.slice none 0 0))
        clear b h1 e0 e1 h99
        go_wp2_with fail
        exact bodyPost_ret (v := .tuple #[.agg #[.int .i64 0, .slice none 0 0], .bool false]) (by simp [results, Try.results18, go_sem, g0, g1]) rfl (RetBB.zero hO.out B2.out)
      | true =>
        go_enter Try.func18, Try.ntmps18
        go_wp2_with fail
        generalize ((w.alloc (.cells #[.int .i64 wide, .slice ao n c] 25)).alloc (.cells #[.int .i64 0, .slice none 0 0] 25)) = w0 at *
        have e0 := bk.at 0 rfl
        have e1 := bk.at 1 rfl
        go_wp2_with fail
        refine (implBoardValid_any wide ao xs n c w0 HN.out hl (hx.below B (Nat.le_refl _))).mono fun e w1 h => ?_
        rw [h1] at h
        obtain ⟨rfl, b⟩ := h
        have B := B.trans (b.mono B.size)
        have br := br.below b (Nat.le_refl _)
        have f0 := br.free 0
        have f1 := br.free 1
        have g0 := br.cell 0
        have g1 := br.cell 1
        have B2 := hid ((B.setCell (p := ⟨w.heap.size + 1, 0, none⟩) (by simp) (.int .i64 0)).setCell (p := ⟨w.heap.size + 1, 1, none⟩) (by simp) (.slice none 0 0))
        clear b h1 e0 e1 h99
        go_wp2_with fail
        exact bodyPost_ret (v := .tuple #[.agg #[.int .i64 0, .slice none 0 0], .bool false]) (by simp [results, Try.results18, go_sem, g0, g1]) rfl (RetBB.zero hO.out B2.out)
  have hok := hid h99.1
  have hm9 := h99.2
  have h1 : boardB wide xs = true := boardB_iff.2 h99.1
  have hO : Hid (trO wide xs ts = runOpt wide xs ts) := trO_in h99.1 (by rw [HM.out]; exact h99.2)
  clear h99
  have hd : decide ((99 : Int) < m) = false := decide_eq_false (by omega)
  have hn2 : 2 ≤ n := by have := hok.out.1; rwa [HN.out] at this
  have hn9 : n ≤ 9 := by have := hok.out.2.1; rwa [HN.out] at this
  have hn0 : 0 < xs.length := by have := HN.out; omega
  go_enter Try.func18, Try.ntmps18
  go_wp2_with fail
  generalize ((w.alloc (.cells #[.int .i64 wide, .slice ao n c] 25)).alloc (.cells #[.int .i64 0, .slice none 0 0] 25)) = w0 at *
  have e0 := bk.at 0 rfl
  have e1 := bk.at 1 rfl
  go_wp2_with fail
  refine (implBoardValid_any wide ao xs n c w0 HN.out hl (hx.below B (Nat.le_refl _))).mono fun e w1 h => ?_
  rw [h1] at h
  obtain ⟨rfl, b⟩ := h
  have B := B.trans (b.mono B.size)
  have br := br.below b (Nat.le_refl _)
  have bk := bk.below b (Nat.le_refl _)
  clear e0 e1
  have e0 := bk.at 0 rfl
  have e1 := bk.at 1 rfl
  clear b h1
  go_wp2_with fail
  refine (boardCopy_any wide ao xs n c w1 HN.out (by omega) (hx.below B (Nat.le_refl _))).mono fun e w2 h => ?_
  obtain ⟨ao2, c2, rfl, hc2, ho, b⟩ := h.to HN.out
  clear h e0 e1
  obtain ⟨g, rfl⟩ := ho.addr hn0
  have hL1 : w.heap.size + 1 < w1.heap.size := br.lt
  have br := (br.below b (Nat.le_refl _)).alloc (.cells #[.int .i64 wide, .slice (some ⟨g, 0, none⟩) n c2] 25)
  have bh := Blk.new w2 #[.int .i64 wide, .slice (some ⟨g, 0, none⟩) n c2] 25
  have hHg : w2.heap.size ≠ g := by have := ho.base.2; omega
  have hHL : w1.heap.size ≤ w2.heap.size := b.size
  have ho := ho.alloc (.cells #[.int .i64 wide, .slice (some ⟨g, 0, none⟩) n c2] 25)
  have B := (B.trans (b.mono B.size)).alloc (Nat.le_trans B.size b.size) (.cells #[.int .i64 wide, .slice (some ⟨g, 0, none⟩) n c2] 25)
  clear b bk
  go_wp2_with fail
  generalize w2.alloc (.cells #[.int .i64 wide, .slice (some ⟨g, 0, none⟩) n c2] 25) = W at *
  generalize w2.heap.size = H at *
  generalize w1.heap.size = L at *
  go_wp2_with fail
  obtain ⟨wo, hwo⟩ : ∃ wo : World, wo = W := ⟨_, rfl⟩
  subst hwo
  go_loopw [8, 22] (fun _ i wr => ∃ (k : Nat) (ys : List Int), k ≤ m ∧ i = .int .i64 k ∧ Own wr L (.slice (some ⟨g, 0, none⟩) n c2) ys ∧ Hid (ys.length = n) ∧ Hid (BoardOk wide ys) ∧ Hid (runOpt wide xs ts = runOpt wide ys (ts.drop k)) ∧ Blk wr H #[.int .i64 wide, .slice (some ⟨g, 0, none⟩) n c2] 25 ∧ Below L wo wr) (fun _ i _ => m - (intOf i).toNat)
  case atStart => exact ⟨0, xs, Nat.zero_le _, rfl, ho, HN, hok, by rw [List.drop_zero]; rfl, bh, Below.refl _ _⟩
  case round =>
    obtain ⟨k, ys, hk, rfl, hor, hyl, hyo, hrun, hhr, hBr⟩ := hrel
    clear ho bh
    have hbr := br.belowLt hBr hL1
    have hB := B.trans (hBr.mono (by omega))
    have htr := ht.below hB (Nat.le_refl _)
    have c0 := hhr.at 0 rfl
    have c1 := hhr.at 1 rfl
    have f0 := hbr.free 0
    have f1 := hbr.free 1
    have g0 := hbr.cell 0
    have g1 := hbr.cell 1
    by_cases hkm : k < m
    · have hkl : k < ts.length := by rw [HM.out]; exact hkm
      obtain ⟨tb, toff, rfl, htc⟩ := htr (by omega)
      have hck := htc k hkl
      obtain ⟨cur, hcur, hcs, hce⟩ := hor.row
      have HE : Hid (∀ j, j < ys.length → cur[0 + j]? = some (.int .i64 (nth ys j))) := fun j hj => by rw [Nat.zero_add]; exact hce j hj
      have HS := hid hcs
      have hcm := hor.capm
      have hgb := hor.base
      cases hcan : canB wide ys (nth ts k) with
      | true =>
        have hr2 := hid (hrun.out.trans (runOpt_yes hkl hcan))
        have hok2 := hid (boardOk_moved (t := nth ts k) hyo.out)
        have hyl2 := hid ((length_movedL wide ys (nth ts k)).trans hyl.out)
        clear htc hor hce hcs htr
        go_wp2_with fail
        refine (moveTile_any wide g 0 n c2 ys (nth ts k) cur 3 _ hyl.out hyo.out hcur HE.out).mono fun e w4 h => ?_
        unfold MoveRet at h
        rw [hcan] at h
        obtain ⟨rfl, hgr, cur', hb', hs', hc', _⟩ := h
        have ho2 : Own w4 L (.slice (some ⟨g, 0, none⟩) n c2) (movedL wide ys (nth ts k)) := Own.ofBlk hb' hgb.1 hyl2.out (hs'.trans HS.out) hc2 hcm fun j hj => by
          have h3 := hc' j (by rwa [length_movedL] at hj)
          rwa [Nat.zero_add] at h3
        have hh2 := hhr.kept hgr (fun e => hHg (Option.some.inj e))
        have hB2 := hBr.trans (grown_below hgr hgb.1)
        clear hc' hs' hb' hcur hck c0 c1 hgr hcan
        go_wp2
        go_roundw
        case rel => exact ⟨k + 1, movedL wide ys (nth ts k), by omega, by go_num, ho2, hyl2, hok2, hr2, hh2, hB2⟩
        case measure => simp [intOf]; omega
      | false =>
        have hr2 : Hid (trO wide xs ts = none) := hO.out.trans (hrun.out.trans (runOpt_no hkl hcan))
        clear htc hor hce hcs htr
        go_wp2_with fail
        refine (moveTile_any wide g 0 n c2 ys (nth ts k) cur 3 _ hyl.out hyo.out hcur HE.out).mono fun e w4 h => ?_
        unfold MoveRet at h
        rw [hcan] at h
        obtain ⟨rfl, hgr, _⟩ := h
        have hbr4 := hbr.kept hgr (fun e => by have := Option.some.inj e; omega)
        have B4 := hB.trans ((grown_below hgr hgb.1).mono (by omega))
        clear f0 f1 g0 g1
        have f0 := hbr4.free 0
        have f1 := hbr4.free 1
        have g0 := hbr4.cell 0
        have g1 := hbr4.cell 1
        have B2 := hid ((B4.setCell (p := ⟨w.heap.size + 1, 0, none⟩) (by simp) (.int .i64 0)).setCell (p := ⟨w.heap.size + 1, 1, none⟩) (by simp) (.slice none 0 0))
        clear hcur hck c0 c1 hcan hgr B4 hB
        go_wp2
        exact bodyPost_ret (v := .tuple #[.agg #[.int .i64 0, .slice none 0 0], .bool false]) (by simp [results, Try.results18, go_sem, g0, g1]) rfl (RetBB.zero hr2.out B2.out)
    · have hd2 : decide ((k : Int) < m) = false := decide_eq_false (by omega)
      have hr2 : Hid (trO wide xs ts = some ys) := hO.out.trans (hrun.out.trans (by rw [List.drop_eq_nil_of_le (by rw [HM.out]; omega)]; rfl))
      have B5 := (hB.setCell (p := ⟨w.heap.size + 1, 0, none⟩) (by simp) (.int .i64 wide)).setCell (p := ⟨w.heap.size + 1, 1, none⟩) (by simp) (.slice (some ⟨g, 0, none⟩) n c2)
      have o5 := (hor.setOther (w.heap.size + 1) 0 (.int .i64 wide) (hor.ne_of_lt hL1)).setOther (w.heap.size + 1) 1 (.slice (some ⟨g, 0, none⟩) n c2) (hor.ne_of_lt hL1)
      have o6 := o5.lower (B' := w.heap.size) (by omega)
      have hfin := hid (RetBB.mk (ok := true) (wide := wide) hyl.out hc2 o6 B5)
      have t1 := hid (tr_some hr2.out).1
      have t2 := hid (tr_some hr2.out).2.1
      have t3 := hid (tr_some hr2.out).2.2
      clear hor hhr hBr o5 o6 B5 hB htr
      go_wp2
      rw [t1.out, t2.out, t3.out]
      exact bodyPost_ret (v := .tuple #[.agg #[.int .i64 wide, .slice (some ⟨g, 0, none⟩) n c2], .bool true]) (by simp [results, Try.results18, go_sem, g0, g1]) rfl hfin.out

end Go.Proofs.Ytfpckcmkikckgaa
