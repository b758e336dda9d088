/- The walk of the reference's TilesRun. -/
import Derived.Test.YtncebcgiljkbnaaTg
import Derived.Deep.RegionLawGrows
import Derived.Deep.RegionHeld3
namespace Go.Proofs.Ytncebcgiljkbnaa
open Go Go.RowKit

theorem cell_lt {w : World} {b o : Nat} {v : Value} (h : w.cell? ⟨b, o, none⟩ = some v) : b < w.heap.size := by
  by_cases hb : b < w.heap.size
  · exact hb
  · simp [World.cell?, Array.getElem?_eq_none (Nat.not_lt.1 hb)] at h

set_option maxRecDepth 100000 in
set_option maxHeartbeats 2000000 in
theorem specTilesRun_any (wide : Int) (ao : Option Addr) (xs : List Int) (n c : Nat) (to : Option Addr) (ts : List Int) (m d : Nat) (w : World) (hn : xs.length = n) (hl : n ≤ 17592186044416) (hnc : n ≤ c) (hx : IntsAt w ao xs) (hm : ts.length = m) (hlm : m ≤ 17592186044416) (ht : IntsAt w to ts) :
    Calls Try.prog 26 #[.agg #[.int .i64 wide, .slice ao n c], .slice to m d] w (RetBB w (trW wide xs ts) (trL wide xs ts) (trB wide xs ts)) := by
  have HN := hid hn
  have HM := hid hm
  clear hn hm
  have B := ((Below.refl w.heap.size w).alloc (Nat.le_refl _) (.cells #[.int .i64 wide, .slice ao n c] 26)).alloc (by simp) (.cells #[.int .i64 0, .slice none 0 0] 26)
  have bk := (Blk.new w #[.int .i64 wide, .slice ao n c] 26).alloc (.cells #[.int .i64 0, .slice none 0 0] 26)
  have br := Blk.new' (w.alloc (.cells #[.int .i64 wide, .slice ao n c] 26)) #[.int .i64 0, .slice none 0 0] 26 (g := w.heap.size + 1) (by simp)
  by_cases h99 : BoardOk wide xs ∧ m ≤ 99
  rotate_left
  · have hO : Hid (trO wide xs ts = none) := trO_out (by rw [HM.out]; exact h99)
    by_cases hm9 : m ≤ 99
    · have hd : decide ((99 : Int) < m) = false := decide_eq_false (by omega)
      have h1 : boardB wide xs = false := boardB_not.2 fun h => h99 ⟨h, hm9⟩
      go_enter Try.func26, Try.ntmps26
      go_wp2_with fail
      generalize ((w.alloc (.cells #[.int .i64 wide, .slice ao n c] 26)).alloc (.cells #[.int .i64 0, .slice none 0 0] 26)) = w0 at *
      have e0 := bk.at 0 rfl
      have e1 := bk.at 1 rfl
      go_wp2_with fail
      refine (specBoardValid_any wide ao xs n c w0 HN.out hl hnc (hx.below B (Nat.le_refl _))).mono fun e w1 h => ?_
      rw [h1] at h
      obtain ⟨rfl, b⟩ := h
      have B := B.trans (b.mono B.size)
      have br := br.below b (Nat.le_refl _)
      have f0 := br.free 0
      have f1 := br.free 1
      have g0 := br.cell 0
      have g1 := br.cell 1
      have B2 := hid ((B.setCell (p := ⟨w.heap.size + 1, 0, none⟩) (by simp) (.int .i64 0)).setCell (p := ⟨w.heap.size + 1, 1, none⟩) (by simp) (.slice none 0 0))
      clear b h1 e0 e1 h99
      go_wp2_with fail
      exact bodyPost_ret (v := .tuple #[.agg #[.int .i64 0, .slice none 0 0], .bool false]) (by simp [results, Try.results26, go_sem, g0, g1]) rfl (RetBB.zero hO.out B2.out)
    · have hd : decide ((99 : Int) < m) = true := decide_eq_true (by omega)
      cases h1 : boardB wide xs with
      | false =>
        go_enter Try.func26, Try.ntmps26
        go_wp2_with fail
        generalize ((w.alloc (.cells #[.int .i64 wide, .slice ao n c] 26)).alloc (.cells #[.int .i64 0, .slice none 0 0] 26)) = w0 at *
        have e0 := bk.at 0 rfl
        have e1 := bk.at 1 rfl
        go_wp2_with fail
        refine (specBoardValid_any wide ao xs n c w0 HN.out hl hnc (hx.below B (Nat.le_refl _))).mono fun e w1 h => ?_
        rw [h1] at h
        obtain ⟨rfl, b⟩ := h
        have B := B.trans (b.mono B.size)
        have br := br.below b (Nat.le_refl _)
        have f0 := br.free 0
        have f1 := br.free 1
        have g0 := br.cell 0
        have g1 := br.cell 1
        have B2 := hid ((B.setCell (p := ⟨w.heap.size + 1, 0, none⟩) (by simp) (.int .i64 0)).setCell (p := ⟨w.heap.size + 1, 1, none⟩) (by simp) (.slice none 0 0))
        clear b h1 e0 e1 h99
        go_wp2_with fail
        exact bodyPost_ret (v := .tuple #[.agg #[.int .i64 0, .slice none 0 0], .bool false]) (by simp [results, Try.results26, go_sem, g0, g1]) rfl (RetBB.zero hO.out B2.out)
      | true =>
        go_enter Try.func26, Try.ntmps26
        go_wp2_with fail
        generalize ((w.alloc (.cells #[.int .i64 wide, .slice ao n c] 26)).alloc (.cells #[.int .i64 0, .slice none 0 0] 26)) = w0 at *
        have e0 := bk.at 0 rfl
        have e1 := bk.at 1 rfl
        go_wp2_with fail
        refine (specBoardValid_any wide ao xs n c w0 HN.out hl hnc (hx.below B (Nat.le_refl _))).mono fun e w1 h => ?_
        rw [h1] at h
        obtain ⟨rfl, b⟩ := h
        have B := B.trans (b.mono B.size)
        have br := br.below b (Nat.le_refl _)
        have f0 := br.free 0
        have f1 := br.free 1
        have g0 := br.cell 0
        have g1 := br.cell 1
        have B2 := hid ((B.setCell (p := ⟨w.heap.size + 1, 0, none⟩) (by simp) (.int .i64 0)).setCell (p := ⟨w.heap.size + 1, 1, none⟩) (by simp) (.slice none 0 0))
        clear b h1 e0 e1 h99
        go_wp2_with fail
        exact bodyPost_ret (v := .tuple #[.agg #[.int .i64 0, .slice none 0 0], .bool false]) (by simp [results, Try.results26, go_sem, g0, g1]) rfl (RetBB.zero hO.out B2.out)
  have hok := hid h99.1
  have hm9 := h99.2
  have h1 : boardB wide xs = true := boardB_iff.2 h99.1
  have hO : Hid (trO wide xs ts = runOpt wide xs ts) := trO_in h99.1 (by rw [HM.out]; exact h99.2)
  clear h99
  have hd : decide ((99 : Int) < m) = false := decide_eq_false (by omega)
  have hn2 : 2 ≤ n := by have := hok.out.1; rwa [HN.out] at this
  have hn9 : n ≤ 9 := by have := hok.out.2.1; rwa [HN.out] at this
  have hn0 : 0 < xs.length := by have := HN.out; omega
  obtain ⟨i0, hi, hi0, hi1, hi2⟩ := info_parts Try.infoInt
  go_enter Try.func26, Try.ntmps26
  go_wp2_with fail
  generalize ((w.alloc (.cells #[.int .i64 wide, .slice ao n c] 26)).alloc (.cells #[.int .i64 0, .slice none 0 0] 26)) = w0 at *
  have e0 := bk.at 0 rfl
  have e1 := bk.at 1 rfl
  go_wp2_with fail
  refine (specBoardValid_any wide ao xs n c w0 HN.out hl hnc (hx.below B (Nat.le_refl _))).mono fun e w1 h => ?_
  rw [h1] at h
  obtain ⟨rfl, b⟩ := h
  have B := B.trans (b.mono B.size)
  have br := br.below b (Nat.le_refl _)
  have bk := bk.below b (Nat.le_refl _)
  clear e0 e1
  have e0 := bk.at 0 rfl
  have e1 := bk.at 1 rfl
  clear b h1
  obtain ⟨ab, aoff, rfl, _⟩ := (hx.below B (Nat.le_refl _)) (by rw [HN.out]; omega)
  have hx1 : IntsAt w1 (some ⟨ab, aoff, none⟩) xs := hx.below B (Nat.le_refl _)
  have lt := bk.lt
  have hml : Hid ((xs.map (Value.int .i64)).length = n * 1) := by have := HN.out; simpa [Hid] using this
  have q7 : 0 < 0 + n := by omega
  have q8 : 0 + n ≤ maxLen := by unfold maxLen; omega
  have q9 : (0 + n) * 8 ≤ 140737488355328 := by omega
  have bb0 : Blk (((w1.alloc (.cells #[] 3)).alloc (.cells #[.int .i64 0, .slice none 0 0] 26)).drew) (w1.heap.size + 1) #[.int .i64 0, .slice none 0 0] 26 := Blk.new' (w1.alloc (.cells #[] 3)) _ _ (by simp)
  have bc0 : Blk (((w1.alloc (.cells #[.int .i64 0, .slice none 0 0] 26)).alloc (.cells #[] 3)).drew) w1.heap.size #[.int .i64 0, .slice none 0 0] 26 := (Blk.new w1 _ _).alloc _
  go_wp2_with fail
  go_region_held3 (fun w' => (∀ b o, b < w1.heap.size → w'.cell? ⟨b, o, none⟩ = w1.cell? ⟨b, o, none⟩) ∧ Below w1.heap.size w1 w')
    (first | with_reducible exact sb_drew _ | with_reducible exact sb_ad _ _ | with_reducible exact sb_aad _ _ _ | with_reducible exact sb_of ‹_› | with_reducible exact sb_alloc ‹_› _ | with_reducible exact sb_alloc (sb_of ‹_›) _ | with_reducible exact sb_set (sb_set ‹_› (Nat.le_succ _) _ _) (Nat.le_succ _) _ _ | with_reducible exact sb_set (sb_set ‹_› (Nat.le_refl _) _ _) (Nat.le_refl _) _ _)
    (first | (refine step_append_grows rfl (.tmp 21) (.tmp 23) 24 rfl 3 i0 (.int .i64 0) 1 8 Try.underlying24 hi hi0 hi1 hi2 rfl (by decide) (some ⟨w1.heap.size, 0, none⟩) 0 0 [] (by simp [Act.eval]; done) (by intro h; cases h) rfl (by intro b _ j u hj; simp at hj) ⟨ab, aoff, none⟩ n c (xs.map (Value.int .i64)) (by simp [Act.eval]) hml.out (cells_of (hx1.below (sb_below ‹_›) (Nat.le_refl _))) (ints_oneCell _ _) q7 q8 q9 ?_
              intro v' w2 hown hgrow
              have bw : Below w1.heap.size w1 w2 := sb_grown ‹_› hgrow
              have hoq : ∃ v0 c2 g, v' = v0 ∧ v0 = .slice (some ⟨g, 0, none⟩) n c2 ∧ n ≤ c2 ∧ Own w2 w1.heap.size v0 xs := Own.grown4 (Own.fresh hown HN.out (sb_size ‹_›)) HN.out hn0
              obtain ⟨v0, c2, g, rfl, rfl, hc2, ho⟩ := hoq
              have bb := bb0.kept hgrow (Option.some_ne_none _)
              have fb0 := bb.free 0
              have fb1 := bb.free 1
              have gb0 := bb.cell 0
              have gb1 := bb.cell 1
              have hne := own_ne bb0 hown hgrow
              clear hown hgrow)
           | (refine step_append_grows rfl (.tmp 21) (.tmp 23) 24 rfl 3 i0 (.int .i64 0) 1 8 Try.underlying24 hi hi0 hi1 hi2 rfl (by decide) (some ⟨w1.heap.size + 1, 0, none⟩) 0 0 [] (by simp [Act.eval]; done) (by intro h; cases h) rfl (by intro b _ j u hj; simp at hj) ⟨ab, aoff, none⟩ n c (xs.map (Value.int .i64)) (by simp [Act.eval]) hml.out (cells_of (hx1.below (sb_below ‹_›) (Nat.le_refl _))) (ints_oneCell _ _) q7 q8 q9 ?_
              intro v' w2 hown hgrow
              have bw : Below w1.heap.size w1 w2 := sb_grown ‹_› hgrow
              have hoq : ∃ v0 c2 g, v' = v0 ∧ v0 = .slice (some ⟨g, 0, none⟩) n c2 ∧ n ≤ c2 ∧ Own w2 w1.heap.size v0 xs := Own.grown4 (Own.fresh hown HN.out (sb_size ‹_›)) HN.out hn0
              obtain ⟨v0, c2, g, rfl, rfl, hc2, ho⟩ := hoq
              have bb := bc0.kept hgrow (Option.some_ne_none _)
              have fb0 := bb.free 0
              have fb1 := bb.free 1
              have gb0 := bb.cell 0
              have gb1 := bb.cell 1
              have hne := own_ne bc0 hown hgrow
              clear hown hgrow)
           | (refine step_append_grows rfl (.tmp 21) (.tmp 23) 24 rfl 3 i0 (.int .i64 0) 1 8 Try.underlying24 hi hi0 hi1 hi2 rfl (by decide) (some ⟨w1.heap.size, 0, none⟩) 0 0 [] (by simp [Act.eval]; done) (by intro h; cases h) rfl (by intro b _ j u hj; simp at hj) ⟨ab, aoff, none⟩ n c (xs.map (Value.int .i64)) (by simp [Act.eval]) hml.out (cells_of (hx1.below (sb_below ‹_›) (Nat.le_refl _))) (ints_oneCell _ _) q7 q8 q9 ?_
              intro v' w2 hown hgrow
              have bw : Below w1.heap.size w1 w2 := sb_grown ‹_› hgrow
              have hoq : ∃ v0 c2 g, v' = v0 ∧ v0 = .slice (some ⟨g, 0, none⟩) n c2 ∧ n ≤ c2 ∧ Own w2 w1.heap.size v0 xs := Own.grown4 (Own.fresh hown HN.out (sb_size ‹_›)) HN.out hn0
              obtain ⟨v0, c2, g, rfl, rfl, hc2, ho⟩ := hoq
              clear hown hgrow))
  all_goals rename_i hH
  · have hne : w2.heap.size ≠ g := by have := ho.base.2; omega
    have bkd := Blk.new w2 #[.int .i64 wide, .slice (some ⟨g, 0, none⟩) n c2] 26
    have od := ho.alloc (.cells #[.int .i64 wide, .slice (some ⟨g, 0, none⟩) n c2] 26)
    have hb := hH.2
    have hHg : w1.heap.size ≤ w2.heap.size := bw.size
    clear hH bw ho bb0 bc0
    generalize (w2.alloc (.cells #[.int .i64 wide, .slice (some ⟨g, 0, none⟩) n c2] 26)) = W at *
    generalize w2.heap.size = H at *
    have brW := br.below hb (Nat.le_refl _)
    have BW := B.trans (hb.mono B.size)
    have hL1 : w.heap.size + 1 < w1.heap.size := br.lt
    clear bk br B hx1 hb e0 e1 lt
    generalize w1.heap.size = L at *
    go_wp2_with fail
    obtain ⟨wo, hwo⟩ : ∃ wo : World, wo = W := ⟨_, rfl⟩
    subst hwo
    go_loopw [7, 8, 9, 26] (fun i _ _ _ wr => ∃ (k : Nat) (ys : List Int) (ao' : Option Addr) (c' : Nat), k ≤ m ∧ i = .int .i64 k ∧ n ≤ c' ∧ Own wr L (.slice ao' n c') ys ∧ Hid (ys.length = n) ∧ Hid (BoardOk wide ys) ∧ Hid (runOpt wide xs ts = runOpt wide ys (ts.drop k)) ∧ Blk wr H #[.int .i64 wide, .slice ao' n c'] 26 ∧ Below L wo wr) (fun i _ _ _ _ => m - (intOf i).toNat)
    case atStart => exact ⟨0, xs, _, c2, Nat.zero_le _, rfl, hc2, od, HN, hok, by rw [List.drop_zero]; rfl, bkd, Below.refl _ _⟩
    case round =>
      obtain ⟨k, ys, ao', c', hk, rfl, hc', hor, hyl, hyo, hrun, hhr, hBr⟩ := hrel
      clear od bkd
      have hbr := brW.belowLt hBr hL1
      have hB := BW.trans (hBr.mono (by omega))
      have htr := ht.below hB (Nat.le_refl _)
      by_cases hkm : k < m
      · have hkl : k < ts.length := by rw [HM.out]; exact hkm
        obtain ⟨tb, toff, rfl, htc⟩ := htr (by omega)
        have hck := htc k hkl
        have htl : tb < wr.heap.size := cell_lt hck
        have hhl := hhr.lt
        have c0 := hhr.at 0 rfl
        have c1 := hhr.at 1 rfl
        have hyi := hor.ints
        have hW2 := hid (tmW_in hyo.out)
        have hL2 := hid (tmL_in (t := nth ts k) hyo.out)
        have hok2 := hid (boardOk_moved (t := nth ts k) hyo.out)
        have hyl2 := hid ((length_movedL wide ys (nth ts k)).trans hyl.out)
        cases hcan : canB wide ys (nth ts k) with
        | true =>
          have hr2 := hid (hrun.out.trans (runOpt_yes hkl hcan))
          clear htc htr
          go_wp2_with fail
          go_region_held3 (fun w' => (∀ b o, b < wr.heap.size → w'.cell? ⟨b, o, none⟩ = wr.cell? ⟨b, o, none⟩) ∧ Below wr.heap.size wr w')
            (first | with_reducible exact sb_drew _ | with_reducible exact sb_ad _ _ | with_reducible exact sb_call ‹_› bt | with_reducible exact sb_alloc (sb_call (sb_drew _) bt) _ | with_reducible exact sb_set (sb_set ‹_› (Nat.le_refl _) _ _) (Nat.le_refl _) _ _ | with_reducible exact sb_alloc ‹_› _)
            (first | (go_at_call 20; refine (specTileMove_any wide ao' ys n c' (nth ts k) _ hyl.out (by omega) hc' (hyi.below (sb_below ‹_›) (Nat.le_refl _))).mono fun e wt h => ?_; rw [hW2.out, hL2.out, hcan] at h; obtain ⟨ao_t, c_t, rfl, hc_t, t, bt⟩ := h.to hyl2.out; clear h; obtain ⟨hct, hft⟩ := bcell bt))
          all_goals rename_i hV
          · have b1 := hV.2
            have tw := Nat.le_refl wr.heap.size
            have bkt := Blk.new wt #[.int .i64 wide, .slice ao_t n c_t] 26
            have ot := (t.alloc (.cells #[.int .i64 wide, .slice ao_t n c_t] 26)).lower (B' := wr.heap.size) (Nat.le_refl _)
            have hGl : wr.heap.size ≤ wt.heap.size := bt.size
            clear hV t bt hct hft tw
            generalize (wt.alloc (.cells #[.int .i64 wide, .slice ao_t n c_t] 26)) = V at *
            generalize wt.heap.size = G at *
            have hhV := hhr.below b1 (Nat.le_refl _)
            have hBV := hBr.trans (b1.mono (by omega))
            have fH0 := hhV.free 0
            have fH1 := hhV.free 1
            have gH0 := hhV.cell 0
            have gH1 := hhV.cell 1
            have cG0 := bkt.at 0 rfl
            have cG1 := bkt.at 1 rfl
            have hh2 : Blk _ H #[.int .i64 wide, .slice ao_t n c_t] 26 := (hhV.set 0 (.int .i64 wide)).set 1 (.slice ao_t n c_t)
            have o2 := ((ot.setOther H 0 (.int .i64 wide) (ot.ne_of_lt hhl)).setOther H 1 (.slice ao_t n c_t) (ot.ne_of_lt hhl)).lower (B' := L) (by omega)
            have hB2 := (hBV.setCell (p := ⟨H, 0, none⟩) (by exact hHg) (.int .i64 wide)).setCell (p := ⟨H, 1, none⟩) (by exact hHg) (.slice ao_t n c_t)
            clear hcan hck c0 c1 hyi hhV hBV ot bkt b1 hhr hBr hbr hB hor
            go_wp2
            go_roundw
            case rel => exact ⟨k + 1, movedL wide ys (nth ts k), ao_t, c_t, by omega, by go_num, hc_t, o2, hyl2, hok2, hr2, hh2, hB2⟩
            case measure => simp [intOf]; omega
          · have b1 := hV.2
            have k0 : Blk ((wr.alloc (.cells #[.int .i64 0, .slice none 0 0] 26)).drew) wr.heap.size #[.int .i64 0, .slice none 0 0] 26 := Blk.new wr _ _
            have bkt : Blk _ wr.heap.size #[.int .i64 wide, .slice ao_t n c_t] 26 := ((k0.below bt (Nat.le_refl _)).set 0 (.int .i64 wide)).set 1 (.slice ao_t n c_t)
            have ot := ((t.setOther wr.heap.size 0 (.int .i64 wide) (t.ne_of_lt (by simp))).setOther wr.heap.size 1 (.slice ao_t n c_t) (t.ne_of_lt (by simp))).lower (B' := wr.heap.size) (by simp)
            have hGl : wr.heap.size ≤ wr.heap.size := Nat.le_refl _
            clear hV t bt hct hft k0
            generalize ((wt.setCell ⟨wr.heap.size, 0, none⟩ (.int .i64 wide)).setCell ⟨wr.heap.size, 1, none⟩ (.slice ao_t n c_t)) = V at *
            obtain ⟨G, hGe⟩ : ∃ G, wr.heap.size = G := ⟨_, rfl⟩
            rw [hGe] at bkt
            simp only [hGe]
            have hGl : wr.heap.size ≤ G := by omega
            have hhV := hhr.below b1 (Nat.le_refl _)
            have hBV := hBr.trans (b1.mono (by omega))
            have fH0 := hhV.free 0
            have fH1 := hhV.free 1
            have gH0 := hhV.cell 0
            have gH1 := hhV.cell 1
            have cG0 := bkt.at 0 rfl
            have cG1 := bkt.at 1 rfl
            have hh2 : Blk _ H #[.int .i64 wide, .slice ao_t n c_t] 26 := (hhV.set 0 (.int .i64 wide)).set 1 (.slice ao_t n c_t)
            have o2 := ((ot.setOther H 0 (.int .i64 wide) (ot.ne_of_lt hhl)).setOther H 1 (.slice ao_t n c_t) (ot.ne_of_lt hhl)).lower (B' := L) (by omega)
            have hB2 := (hBV.setCell (p := ⟨H, 0, none⟩) (by exact hHg) (.int .i64 wide)).setCell (p := ⟨H, 1, none⟩) (by exact hHg) (.slice ao_t n c_t)
            clear hcan hck c0 c1 hyi hhV hBV ot bkt b1 hhr hBr hbr hB hor
            go_wp2
            go_roundw
            case rel => exact ⟨k + 1, movedL wide ys (nth ts k), ao_t, c_t, by omega, by go_num, hc_t, o2, hyl2, hok2, hr2, hh2, hB2⟩
            case measure => simp [intOf]; omega
        | false =>
          have hr2 : Hid (trO wide xs ts = none) := hO.out.trans (hrun.out.trans (runOpt_no hkl hcan))
          clear htc htr
          go_wp2_with fail
          go_region_held3 (fun w' => (∀ b o, b < wr.heap.size → w'.cell? ⟨b, o, none⟩ = wr.cell? ⟨b, o, none⟩) ∧ Below wr.heap.size wr w')
            (first | with_reducible exact sb_drew _ | with_reducible exact sb_ad _ _ | with_reducible exact sb_call ‹_› bt | with_reducible exact sb_alloc (sb_call (sb_drew _) bt) _ | with_reducible exact sb_set (sb_set ‹_› (Nat.le_refl _) _ _) (Nat.le_refl _) _ _ | with_reducible exact sb_alloc ‹_› _)
            (first | (go_at_call 20; refine (specTileMove_any wide ao' ys n c' (nth ts k) _ hyl.out (by omega) hc' (hyi.below (sb_below ‹_›) (Nat.le_refl _))).mono fun e wt h => ?_; rw [hW2.out, hL2.out, hcan] at h; obtain ⟨ao_t, c_t, rfl, hc_t, t, bt⟩ := h.to hyl2.out; clear h; obtain ⟨hct, hft⟩ := bcell bt))
          all_goals rename_i hV
          · have b1 := hV.2
            have tw := Nat.le_refl wr.heap.size
            have bkt := Blk.new wt #[.int .i64 wide, .slice ao_t n c_t] 26
            have ot := (t.alloc (.cells #[.int .i64 wide, .slice ao_t n c_t] 26)).lower (B' := wr.heap.size) (Nat.le_refl _)
            have hGl : wr.heap.size ≤ wt.heap.size := bt.size
            clear hV t bt hct hft tw
            generalize (wt.alloc (.cells #[.int .i64 wide, .slice ao_t n c_t] 26)) = V at *
            generalize wt.heap.size = G at *
            have hbV := hbr.below b1 (Nat.le_refl _)
            have hBV := hB.trans (b1.mono hB.size)
            have f0 := hbV.free 0
            have f1 := hbV.free 1
            have g0 := hbV.cell 0
            have g1 := hbV.cell 1
            have B2 := hid ((hBV.setCell (p := ⟨w.heap.size + 1, 0, none⟩) (by simp) (.int .i64 0)).setCell (p := ⟨w.heap.size + 1, 1, none⟩) (by simp) (.slice none 0 0))
            clear hcan hck c0 c1 hyi hbV hBV ot bkt b1 hhr hBr hbr hB hor
            go_wp2
            exact bodyPost_ret (v := .tuple #[.agg #[.int .i64 0, .slice none 0 0], .bool false]) (by simp [results, Try.results26, go_sem, g0, g1]) rfl (RetBB.zero hr2.out B2.out)
          · have b1 := hV.2
            have k0 : Blk ((wr.alloc (.cells #[.int .i64 0, .slice none 0 0] 26)).drew) wr.heap.size #[.int .i64 0, .slice none 0 0] 26 := Blk.new wr _ _
            have bkt : Blk _ wr.heap.size #[.int .i64 wide, .slice ao_t n c_t] 26 := ((k0.below bt (Nat.le_refl _)).set 0 (.int .i64 wide)).set 1 (.slice ao_t n c_t)
            have ot := ((t.setOther wr.heap.size 0 (.int .i64 wide) (t.ne_of_lt (by simp))).setOther wr.heap.size 1 (.slice ao_t n c_t) (t.ne_of_lt (by simp))).lower (B' := wr.heap.size) (by simp)
            have hGl : wr.heap.size ≤ wr.heap.size := Nat.le_refl _
            clear hV t bt hct hft k0
            generalize ((wt.setCell ⟨wr.heap.size, 0, none⟩ (.int .i64 wide)).setCell ⟨wr.heap.size, 1, none⟩ (.slice ao_t n c_t)) = V at *
            obtain ⟨G, hGe⟩ : ∃ G, wr.heap.size = G := ⟨_, rfl⟩
            rw [hGe] at bkt
            simp only [hGe]
            have hGl : wr.heap.size ≤ G := by omega
            have hbV := hbr.below b1 (Nat.le_refl _)
            have hBV := hB.trans (b1.mono hB.size)
            have f0 := hbV.free 0
            have f1 := hbV.free 1
            have g0 := hbV.cell 0
            have g1 := hbV.cell 1
            have B2 := hid ((hBV.setCell (p := ⟨w.heap.size + 1, 0, none⟩) (by simp) (.int .i64 0)).setCell (p := ⟨w.heap.size + 1, 1, none⟩) (by simp) (.slice none 0 0))
            clear hcan hck c0 c1 hyi hbV hBV ot bkt b1 hhr hBr hbr hB hor
            go_wp2
            exact bodyPost_ret (v := .tuple #[.agg #[.int .i64 0, .slice none 0 0], .bool false]) (by simp [results, Try.results26, go_sem, g0, g1]) rfl (RetBB.zero hr2.out B2.out)
      · have hd2 : decide ((k : Int) < m) = false := decide_eq_false (by omega)
        have hr2 : Hid (trO wide xs ts = some ys) := hO.out.trans (hrun.out.trans (by rw [List.drop_eq_nil_of_le (by rw [HM.out]; omega)]; rfl))
        have c0 := hhr.at 0 rfl
        have c1 := hhr.at 1 rfl
        have f0 := hbr.free 0
        have f1 := hbr.free 1
        have g0 := hbr.cell 0
        have g1 := hbr.cell 1
        have B5 := (hB.setCell (p := ⟨w.heap.size + 1, 0, none⟩) (by simp) (.int .i64 wide)).setCell (p := ⟨w.heap.size + 1, 1, none⟩) (by simp) (.slice ao' n c')
        have o5 := (hor.setOther (w.heap.size + 1) 0 (.int .i64 wide) (hor.ne_of_lt hL1)).setOther (w.heap.size + 1) 1 (.slice ao' n c') (hor.ne_of_lt hL1)
        have o6 := o5.lower (B' := w.heap.size) (by omega)
        have hfin := hid (RetBB.mk (ok := true) (wide := wide) hyl.out hc' o6 B5)
        have t1 := hid (tr_some hr2.out).1
        have t2 := hid (tr_some hr2.out).2.1
        have t3 := hid (tr_some hr2.out).2.2
        clear hor hhr hBr hbr o5 o6 B5 hB htr
        go_wp2
        rw [t1.out, t2.out, t3.out]
        exact bodyPost_ret (v := .tuple #[.agg #[.int .i64 wide, .slice ao' n c'], .bool true]) (by simp [results, Try.results26, go_sem, g0, g1]) rfl hfin.out
  · have bkd : Blk _ (w1.heap.size + 1) #[.int .i64 wide, .slice (some ⟨g, 0, none⟩) n c2] 26 := (bb.set 0 (.int .i64 wide)).set 1 (.slice (some ⟨g, 0, none⟩) n c2)
    have od := (ho.setOther (w1.heap.size + 1) 0 (.int .i64 wide) (by right; simp [Value.ownBlock]; intro e; exact hne e.symm)).setOther (w1.heap.size + 1) 1 (.slice (some ⟨g, 0, none⟩) n c2) (by right; simp [Value.ownBlock]; intro e; exact hne e.symm)
    have hb := hH.2
    have hHg : w1.heap.size ≤ w1.heap.size + 1 := Nat.le_succ _
    clear hH bw ho bb fb0 fb1 gb0 gb1 bb0 bc0
    generalize ((w2.setCell ⟨w1.heap.size + 1, 0, none⟩ (.int .i64 wide)).setCell ⟨w1.heap.size + 1, 1, none⟩ (.slice (some ⟨g, 0, none⟩) n c2)) = W at *
    generalize w1.heap.size + 1 = H at *
    have brW := br.below hb (Nat.le_refl _)
    have BW := B.trans (hb.mono B.size)
    have hL1 : w.heap.size + 1 < w1.heap.size := br.lt
    clear bk br B hx1 hb e0 e1 lt
    generalize w1.heap.size = L at *
    go_wp2_with fail
    obtain ⟨wo, hwo⟩ : ∃ wo : World, wo = W := ⟨_, rfl⟩
    subst hwo
    go_loopw [7, 8, 9, 26] (fun i _ _ _ wr => ∃ (k : Nat) (ys : List Int) (ao' : Option Addr) (c' : Nat), k ≤ m ∧ i = .int .i64 k ∧ n ≤ c' ∧ Own wr L (.slice ao' n c') ys ∧ Hid (ys.length = n) ∧ Hid (BoardOk wide ys) ∧ Hid (runOpt wide xs ts = runOpt wide ys (ts.drop k)) ∧ Blk wr H #[.int .i64 wide, .slice ao' n c'] 26 ∧ Below L wo wr) (fun i _ _ _ _ => m - (intOf i).toNat)
    case atStart => exact ⟨0, xs, _, c2, Nat.zero_le _, rfl, hc2, od, HN, hok, by rw [List.drop_zero]; rfl, bkd, Below.refl _ _⟩
    case round =>
      obtain ⟨k, ys, ao', c', hk, rfl, hc', hor, hyl, hyo, hrun, hhr, hBr⟩ := hrel
      clear od bkd
      have hbr := brW.belowLt hBr hL1
      have hB := BW.trans (hBr.mono (by omega))
      have htr := ht.below hB (Nat.le_refl _)
      by_cases hkm : k < m
      · have hkl : k < ts.length := by rw [HM.out]; exact hkm
        obtain ⟨tb, toff, rfl, htc⟩ := htr (by omega)
        have hck := htc k hkl
        have htl : tb < wr.heap.size := cell_lt hck
        have hhl := hhr.lt
        have c0 := hhr.at 0 rfl
        have c1 := hhr.at 1 rfl
        have hyi := hor.ints
        have hW2 := hid (tmW_in hyo.out)
        have hL2 := hid (tmL_in (t := nth ts k) hyo.out)
        have hok2 := hid (boardOk_moved (t := nth ts k) hyo.out)
        have hyl2 := hid ((length_movedL wide ys (nth ts k)).trans hyl.out)
        cases hcan : canB wide ys (nth ts k) with
        | true =>
          have hr2 := hid (hrun.out.trans (runOpt_yes hkl hcan))
          clear htc htr
          go_wp2_with fail
          go_region_held3 (fun w' => (∀ b o, b < wr.heap.size → w'.cell? ⟨b, o, none⟩ = wr.cell? ⟨b, o, none⟩) ∧ Below wr.heap.size wr w')
            (first | with_reducible exact sb_drew _ | with_reducible exact sb_ad _ _ | with_reducible exact sb_call ‹_› bt | with_reducible exact sb_alloc (sb_call (sb_drew _) bt) _ | with_reducible exact sb_set (sb_set ‹_› (Nat.le_refl _) _ _) (Nat.le_refl _) _ _ | with_reducible exact sb_alloc ‹_› _)
            (first | (go_at_call 20; refine (specTileMove_any wide ao' ys n c' (nth ts k) _ hyl.out (by omega) hc' (hyi.below (sb_below ‹_›) (Nat.le_refl _))).mono fun e wt h => ?_; rw [hW2.out, hL2.out, hcan] at h; obtain ⟨ao_t, c_t, rfl, hc_t, t, bt⟩ := h.to hyl2.out; clear h; obtain ⟨hct, hft⟩ := bcell bt))
          all_goals rename_i hV
          · have b1 := hV.2
            have tw := Nat.le_refl wr.heap.size
            have bkt := Blk.new wt #[.int .i64 wide, .slice ao_t n c_t] 26
            have ot := (t.alloc (.cells #[.int .i64 wide, .slice ao_t n c_t] 26)).lower (B' := wr.heap.size) (Nat.le_refl _)
            have hGl : wr.heap.size ≤ wt.heap.size := bt.size
            clear hV t bt hct hft tw
            generalize (wt.alloc (.cells #[.int .i64 wide, .slice ao_t n c_t] 26)) = V at *
            generalize wt.heap.size = G at *
            have hhV := hhr.below b1 (Nat.le_refl _)
            have hBV := hBr.trans (b1.mono (by omega))
            have fH0 := hhV.free 0
            have fH1 := hhV.free 1
            have gH0 := hhV.cell 0
            have gH1 := hhV.cell 1
            have cG0 := bkt.at 0 rfl
            have cG1 := bkt.at 1 rfl
            have hh2 : Blk _ H #[.int .i64 wide, .slice ao_t n c_t] 26 := (hhV.set 0 (.int .i64 wide)).set 1 (.slice ao_t n c_t)
            have o2 := ((ot.setOther H 0 (.int .i64 wide) (ot.ne_of_lt hhl)).setOther H 1 (.slice ao_t n c_t) (ot.ne_of_lt hhl)).lower (B' := L) (by omega)
            have hB2 := (hBV.setCell (p := ⟨H, 0, none⟩) (by exact hHg) (.int .i64 wide)).setCell (p := ⟨H, 1, none⟩) (by exact hHg) (.slice ao_t n c_t)
            clear hcan hck c0 c1 hyi hhV hBV ot bkt b1 hhr hBr hbr hB hor
            go_wp2
            go_roundw
            case rel => exact ⟨k + 1, movedL wide ys (nth ts k), ao_t, c_t, by omega, by go_num, hc_t, o2, hyl2, hok2, hr2, hh2, hB2⟩
            case measure => simp [intOf]; omega
          · have b1 := hV.2
            have k0 : Blk ((wr.alloc (.cells #[.int .i64 0, .slice none 0 0] 26)).drew) wr.heap.size #[.int .i64 0, .slice none 0 0] 26 := Blk.new wr _ _
            have bkt : Blk _ wr.heap.size #[.int .i64 wide, .slice ao_t n c_t] 26 := ((k0.below bt (Nat.le_refl _)).set 0 (.int .i64 wide)).set 1 (.slice ao_t n c_t)
            have ot := ((t.setOther wr.heap.size 0 (.int .i64 wide) (t.ne_of_lt (by simp))).setOther wr.heap.size 1 (.slice ao_t n c_t) (t.ne_of_lt (by simp))).lower (B' := wr.heap.size) (by simp)
            have hGl : wr.heap.size ≤ wr.heap.size := Nat.le_refl _
            clear hV t bt hct hft k0
            generalize ((wt.setCell ⟨wr.heap.size, 0, none⟩ (.int .i64 wide)).setCell ⟨wr.heap.size, 1, none⟩ (.slice ao_t n c_t)) = V at *
            obtain ⟨G, hGe⟩ : ∃ G, wr.heap.size = G := ⟨_, rfl⟩
            rw [hGe] at bkt
            simp only [hGe]
            have hGl : wr.heap.size ≤ G := by omega
            have hhV := hhr.below b1 (Nat.le_refl _)
            have hBV := hBr.trans (b1.mono (by omega))
            have fH0 := hhV.free 0
            have fH1 := hhV.free 1
            have gH0 := hhV.cell 0
            have gH1 := hhV.cell 1
            have cG0 := bkt.at 0 rfl
            have cG1 := bkt.at 1 rfl
            have hh2 : Blk _ H #[.int .i64 wide, .slice ao_t n c_t] 26 := (hhV.set 0 (.int .i64 wide)).set 1 (.slice ao_t n c_t)
            have o2 := ((ot.setOther H 0 (.int .i64 wide) (ot.ne_of_lt hhl)).setOther H 1 (.slice ao_t n c_t) (ot.ne_of_lt hhl)).lower (B' := L) (by omega)
            have hB2 := (hBV.setCell (p := ⟨H, 0, none⟩) (by exact hHg) (.int .i64 wide)).setCell (p := ⟨H, 1, none⟩) (by exact hHg) (.slice ao_t n c_t)
            clear hcan hck c0 c1 hyi hhV hBV ot bkt b1 hhr hBr hbr hB hor
            go_wp2
            go_roundw
            case rel => exact ⟨k + 1, movedL wide ys (nth ts k), ao_t, c_t, by omega, by go_num, hc_t, o2, hyl2, hok2, hr2, hh2, hB2⟩
            case measure => simp [intOf]; omega
        | false =>
          have hr2 : Hid (trO wide xs ts = none) := hO.out.trans (hrun.out.trans (runOpt_no hkl hcan))
          clear htc htr
          go_wp2_with fail
          go_region_held3 (fun w' => (∀ b o, b < wr.heap.size → w'.cell? ⟨b, o, none⟩ = wr.cell? ⟨b, o, none⟩) ∧ Below wr.heap.size wr w')
            (first | with_reducible exact sb_drew _ | with_reducible exact sb_ad _ _ | with_reducible exact sb_call ‹_› bt | with_reducible exact sb_alloc (sb_call (sb_drew _) bt) _ | with_reducible exact sb_set (sb_set ‹_› (Nat.le_refl _) _ _) (Nat.le_refl _) _ _ | with_reducible exact sb_alloc ‹_› _)
            (first | (go_at_call 20; refine (specTileMove_any wide ao' ys n c' (nth ts k) _ hyl.out (by omega) hc' (hyi.below (sb_below ‹_›) (Nat.le_refl _))).mono fun e wt h => ?_; rw [hW2.out, hL2.out, hcan] at h; obtain ⟨ao_t, c_t, rfl, hc_t, t, bt⟩ := h.to hyl2.out; clear h; obtain ⟨hct, hft⟩ := bcell bt))
          all_goals rename_i hV
          · have b1 := hV.2
            have tw := Nat.le_refl wr.heap.size
            have bkt := Blk.new wt #[.int .i64 wide, .slice ao_t n c_t] 26
            have ot := (t.alloc (.cells #[.int .i64 wide, .slice ao_t n c_t] 26)).lower (B' := wr.heap.size) (Nat.le_refl _)
            have hGl : wr.heap.size ≤ wt.heap.size := bt.size
            clear hV t bt hct hft tw
            generalize (wt.alloc (.cells #[.int .i64 wide, .slice ao_t n c_t] 26)) = V at *
            generalize wt.heap.size = G at *
            have hbV := hbr.below b1 (Nat.le_refl _)
            have hBV := hB.trans (b1.mono hB.size)
            have f0 := hbV.free 0
            have f1 := hbV.free 1
            have g0 := hbV.cell 0
            have g1 := hbV.cell 1
            have B2 := hid ((hBV.setCell (p := ⟨w.heap.size + 1, 0, none⟩) (by simp) (.int .i64 0)).setCell (p := ⟨w.heap.size + 1, 1, none⟩) (by simp) (.slice none 0 0))
            clear hcan hck c0 c1 hyi hbV hBV ot bkt b1 hhr hBr hbr hB hor
            go_wp2
            exact bodyPost_ret (v := .tuple #[.agg #[.int .i64 0, .slice none 0 0], .bool false]) (by simp [results, Try.results26, go_sem, g0, g1]) rfl (RetBB.zero hr2.out B2.out)
          · have b1 := hV.2
            have k0 : Blk ((wr.alloc (.cells #[.int .i64 0, .slice none 0 0] 26)).drew) wr.heap.size #[.int .i64 0, .slice none 0 0] 26 := Blk.new wr _ _
            have bkt : Blk _ wr.heap.size #[.int .i64 wide, .slice ao_t n c_t] 26 := ((k0.below bt (Nat.le_refl _)).set 0 (.int .i64 wide)).set 1 (.slice ao_t n c_t)
            have ot := ((t.setOther wr.heap.size 0 (.int .i64 wide) (t.ne_of_lt (by simp))).setOther wr.heap.size 1 (.slice ao_t n c_t) (t.ne_of_lt (by simp))).lower (B' := wr.heap.size) (by simp)
            have hGl : wr.heap.size ≤ wr.heap.size := Nat.le_refl _
            clear hV t bt hct hft k0
            generalize ((wt.setCell ⟨wr.heap.size, 0, none⟩ (.int .i64 wide)).setCell ⟨wr.heap.size, 1, none⟩ (.slice ao_t n c_t)) = V at *
            obtain ⟨G, hGe⟩ : ∃ G, wr.heap.size = G := ⟨_, rfl⟩
            rw [hGe] at bkt
            simp only [hGe]
            have hGl : wr.heap.size ≤ G := by omega
            have hbV := hbr.below b1 (Nat.le_refl _)
            have hBV := hB.trans (b1.mono hB.size)
            have f0 := hbV.free 0
            have f1 := hbV.free 1
            have g0 := hbV.cell 0
            have g1 := hbV.cell 1
            have B2 := hid ((hBV.setCell (p := ⟨w.heap.size + 1, 0, none⟩) (by simp) (.int .i64 0)).setCell (p := ⟨w.heap.size + 1, 1, none⟩) (by simp) (.slice none 0 0))
            clear hcan hck c0 c1 hyi hbV hBV ot bkt b1 hhr hBr hbr hB hor
            go_wp2
            exact bodyPost_ret (v := .tuple #[.agg #[.int .i64 0, .slice none 0 0], .bool false]) (by simp [results, Try.results26, go_sem, g0, g1]) rfl (RetBB.zero hr2.out B2.out)
      · have hd2 : decide ((k : Int) < m) = false := decide_eq_false (by omega)
        have hr2 : Hid (trO wide xs ts = some ys) := hO.out.trans (hrun.out.trans (by rw [List.drop_eq_nil_of_le (by rw [HM.out]; omega)]; rfl))
        have c0 := hhr.at 0 rfl
        have c1 := hhr.at 1 rfl
        have f0 := hbr.free 0
        have f1 := hbr.free 1
        have g0 := hbr.cell 0
        have g1 := hbr.cell 1
        have B5 := (hB.setCell (p := ⟨w.heap.size + 1, 0, none⟩) (by simp) (.int .i64 wide)).setCell (p := ⟨w.heap.size + 1, 1, none⟩) (by simp) (.slice ao' n c')
        have o5 := (hor.setOther (w.heap.size + 1) 0 (.int .i64 wide) (hor.ne_of_lt hL1)).setOther (w.heap.size + 1) 1 (.slice ao' n c') (hor.ne_of_lt hL1)
        have o6 := o5.lower (B' := w.heap.size) (by omega)
        have hfin := hid (RetBB.mk (ok := true) (wide := wide) hyl.out hc' o6 B5)
        have t1 := hid (tr_some hr2.out).1
        have t2 := hid (tr_some hr2.out).2.1
        have t3 := hid (tr_some hr2.out).2.2
        clear hor hhr hBr hbr o5 o6 B5 hB htr
        go_wp2
        rw [t1.out, t2.out, t3.out]
        exact bodyPost_ret (v := .tuple #[.agg #[.int .i64 wide, .slice ao' n c'], .bool true]) (by simp [results, Try.results26, go_sem, g0, g1]) rfl hfin.out
  · have bkd : Blk _ w1.heap.size #[.int .i64 wide, .slice (some ⟨g, 0, none⟩) n c2] 26 := (bb.set 0 (.int .i64 wide)).set 1 (.slice (some ⟨g, 0, none⟩) n c2)
    have od := (ho.setOther w1.heap.size 0 (.int .i64 wide) (by right; simp [Value.ownBlock]; intro e; exact hne e.symm)).setOther w1.heap.size 1 (.slice (some ⟨g, 0, none⟩) n c2) (by right; simp [Value.ownBlock]; intro e; exact hne e.symm)
    have hb := hH.2
    clear hH bw ho bb fb0 fb1 gb0 gb1 bb0 bc0
    generalize ((w2.setCell ⟨w1.heap.size, 0, none⟩ (.int .i64 wide)).setCell ⟨w1.heap.size, 1, none⟩ (.slice (some ⟨g, 0, none⟩) n c2)) = W at *
    have brW := br.below hb (Nat.le_refl _)
    have BW := B.trans (hb.mono B.size)
    have hL1 : w.heap.size + 1 < w1.heap.size := br.lt
    clear bk br B hx1 hb e0 e1 lt
    generalize w1.heap.size = H at *
    obtain ⟨L, hLH, hHg⟩ : ∃ L, L = H ∧ L ≤ H := ⟨H, rfl, Nat.le_refl _⟩
    rw [← hLH] at od
    have hL1 : w.heap.size + 1 < L := by omega
    clear hLH
    go_wp2_with fail
    obtain ⟨wo, hwo⟩ : ∃ wo : World, wo = W := ⟨_, rfl⟩
    subst hwo
    go_loopw [7, 8, 9, 26] (fun i _ _ _ wr => ∃ (k : Nat) (ys : List Int) (ao' : Option Addr) (c' : Nat), k ≤ m ∧ i = .int .i64 k ∧ n ≤ c' ∧ Own wr L (.slice ao' n c') ys ∧ Hid (ys.length = n) ∧ Hid (BoardOk wide ys) ∧ Hid (runOpt wide xs ts = runOpt wide ys (ts.drop k)) ∧ Blk wr H #[.int .i64 wide, .slice ao' n c'] 26 ∧ Below L wo wr) (fun i _ _ _ _ => m - (intOf i).toNat)
    case atStart => exact ⟨0, xs, _, c2, Nat.zero_le _, rfl, hc2, od, HN, hok, by rw [List.drop_zero]; rfl, bkd, Below.refl _ _⟩
    case round =>
      obtain ⟨k, ys, ao', c', hk, rfl, hc', hor, hyl, hyo, hrun, hhr, hBr⟩ := hrel
      clear od bkd
      have hbr := brW.belowLt hBr hL1
      have hB := BW.trans (hBr.mono (by omega))
      have htr := ht.below hB (Nat.le_refl _)
      by_cases hkm : k < m
      · have hkl : k < ts.length := by rw [HM.out]; exact hkm
        obtain ⟨tb, toff, rfl, htc⟩ := htr (by omega)
        have hck := htc k hkl
        have htl : tb < wr.heap.size := cell_lt hck
        have hhl := hhr.lt
        have c0 := hhr.at 0 rfl
        have c1 := hhr.at 1 rfl
        have hyi := hor.ints
        have hW2 := hid (tmW_in hyo.out)
        have hL2 := hid (tmL_in (t := nth ts k) hyo.out)
        have hok2 := hid (boardOk_moved (t := nth ts k) hyo.out)
        have hyl2 := hid ((length_movedL wide ys (nth ts k)).trans hyl.out)
        cases hcan : canB wide ys (nth ts k) with
        | true =>
          have hr2 := hid (hrun.out.trans (runOpt_yes hkl hcan))
          clear htc htr
          go_wp2_with fail
          go_region_held3 (fun w' => (∀ b o, b < wr.heap.size → w'.cell? ⟨b, o, none⟩ = wr.cell? ⟨b, o, none⟩) ∧ Below wr.heap.size wr w')
            (first | with_reducible exact sb_drew _ | with_reducible exact sb_ad _ _ | with_reducible exact sb_call ‹_› bt | with_reducible exact sb_alloc (sb_call (sb_drew _) bt) _ | with_reducible exact sb_set (sb_set ‹_› (Nat.le_refl _) _ _) (Nat.le_refl _) _ _ | with_reducible exact sb_alloc ‹_› _)
            (first | (go_at_call 20; refine (specTileMove_any wide ao' ys n c' (nth ts k) _ hyl.out (by omega) hc' (hyi.below (sb_below ‹_›) (Nat.le_refl _))).mono fun e wt h => ?_; rw [hW2.out, hL2.out, hcan] at h; obtain ⟨ao_t, c_t, rfl, hc_t, t, bt⟩ := h.to hyl2.out; clear h; obtain ⟨hct, hft⟩ := bcell bt))
          all_goals rename_i hV
          · have b1 := hV.2
            have tw := Nat.le_refl wr.heap.size
            have bkt := Blk.new wt #[.int .i64 wide, .slice ao_t n c_t] 26
            have ot := (t.alloc (.cells #[.int .i64 wide, .slice ao_t n c_t] 26)).lower (B' := wr.heap.size) (Nat.le_refl _)
            have hGl : wr.heap.size ≤ wt.heap.size := bt.size
            clear hV t bt hct hft tw
            generalize (wt.alloc (.cells #[.int .i64 wide, .slice ao_t n c_t] 26)) = V at *
            generalize wt.heap.size = G at *
            have hhV := hhr.below b1 (Nat.le_refl _)
            have hBV := hBr.trans (b1.mono (by omega))
            have fH0 := hhV.free 0
            have fH1 := hhV.free 1
            have gH0 := hhV.cell 0
            have gH1 := hhV.cell 1
            have cG0 := bkt.at 0 rfl
            have cG1 := bkt.at 1 rfl
            have hh2 : Blk _ H #[.int .i64 wide, .slice ao_t n c_t] 26 := (hhV.set 0 (.int .i64 wide)).set 1 (.slice ao_t n c_t)
            have o2 := ((ot.setOther H 0 (.int .i64 wide) (ot.ne_of_lt hhl)).setOther H 1 (.slice ao_t n c_t) (ot.ne_of_lt hhl)).lower (B' := L) (by omega)
            have hB2 := (hBV.setCell (p := ⟨H, 0, none⟩) (by exact hHg) (.int .i64 wide)).setCell (p := ⟨H, 1, none⟩) (by exact hHg) (.slice ao_t n c_t)
            clear hcan hck c0 c1 hyi hhV hBV ot bkt b1 hhr hBr hbr hB hor
            go_wp2
            go_roundw
            case rel => exact ⟨k + 1, movedL wide ys (nth ts k), ao_t, c_t, by omega, by go_num, hc_t, o2, hyl2, hok2, hr2, hh2, hB2⟩
            case measure => simp [intOf]; omega
          · have b1 := hV.2
            have k0 : Blk ((wr.alloc (.cells #[.int .i64 0, .slice none 0 0] 26)).drew) wr.heap.size #[.int .i64 0, .slice none 0 0] 26 := Blk.new wr _ _
            have bkt : Blk _ wr.heap.size #[.int .i64 wide, .slice ao_t n c_t] 26 := ((k0.below bt (Nat.le_refl _)).set 0 (.int .i64 wide)).set 1 (.slice ao_t n c_t)
            have ot := ((t.setOther wr.heap.size 0 (.int .i64 wide) (t.ne_of_lt (by simp))).setOther wr.heap.size 1 (.slice ao_t n c_t) (t.ne_of_lt (by simp))).lower (B' := wr.heap.size) (by simp)
            have hGl : wr.heap.size ≤ wr.heap.size := Nat.le_refl _
            clear hV t bt hct hft k0
            generalize ((wt.setCell ⟨wr.heap.size, 0, none⟩ (.int .i64 wide)).setCell ⟨wr.heap.size, 1, none⟩ (.slice ao_t n c_t)) = V at *
            obtain ⟨G, hGe⟩ : ∃ G, wr.heap.size = G := ⟨_, rfl⟩
            rw [hGe] at bkt
            simp only [hGe]
            have hGl : wr.heap.size ≤ G := by omega
            have hhV := hhr.below b1 (Nat.le_refl _)
            have hBV := hBr.trans (b1.mono (by omega))
            have fH0 := hhV.free 0
            have fH1 := hhV.free 1
            have gH0 := hhV.cell 0
            have gH1 := hhV.cell 1
            have cG0 := bkt.at 0 rfl
            have cG1 := bkt.at 1 rfl
            have hh2 : Blk _ H #[.int .i64 wide, .slice ao_t n c_t] 26 := (hhV.set 0 (.int .i64 wide)).set 1 (.slice ao_t n c_t)
            have o2 := ((ot.setOther H 0 (.int .i64 wide) (ot.ne_of_lt hhl)).setOther H 1 (.slice ao_t n c_t) (ot.ne_of_lt hhl)).lower (B' := L) (by omega)
            have hB2 := (hBV.setCell (p := ⟨H, 0, none⟩) (by exact hHg) (.int .i64 wide)).setCell (p := ⟨H, 1, none⟩) (by exact hHg) (.slice ao_t n c_t)
            clear hcan hck c0 c1 hyi hhV hBV ot bkt b1 hhr hBr hbr hB hor
            go_wp2
            go_roundw
            case rel => exact ⟨k + 1, movedL wide ys (nth ts k), ao_t, c_t, by omega, by go_num, hc_t, o2, hyl2, hok2, hr2, hh2, hB2⟩
            case measure => simp [intOf]; omega
        | false =>
          have hr2 : Hid (trO wide xs ts = none) := hO.out.trans (hrun.out.trans (runOpt_no hkl hcan))
          clear htc htr
          go_wp2_with fail
          go_region_held3 (fun w' => (∀ b o, b < wr.heap.size → w'.cell? ⟨b, o, none⟩ = wr.cell? ⟨b, o, none⟩) ∧ Below wr.heap.size wr w')
            (first | with_reducible exact sb_drew _ | with_reducible exact sb_ad _ _ | with_reducible exact sb_call ‹_› bt | with_reducible exact sb_alloc (sb_call (sb_drew _) bt) _ | with_reducible exact sb_set (sb_set ‹_› (Nat.le_refl _) _ _) (Nat.le_refl _) _ _ | with_reducible exact sb_alloc ‹_› _)
            (first | (go_at_call 20; refine (specTileMove_any wide ao' ys n c' (nth ts k) _ hyl.out (by omega) hc' (hyi.below (sb_below ‹_›) (Nat.le_refl _))).mono fun e wt h => ?_; rw [hW2.out, hL2.out, hcan] at h; obtain ⟨ao_t, c_t, rfl, hc_t, t, bt⟩ := h.to hyl2.out; clear h; obtain ⟨hct, hft⟩ := bcell bt))
          all_goals rename_i hV
          · have b1 := hV.2
            have tw := Nat.le_refl wr.heap.size
            have bkt := Blk.new wt #[.int .i64 wide, .slice ao_t n c_t] 26
            have ot := (t.alloc (.cells #[.int .i64 wide, .slice ao_t n c_t] 26)).lower (B' := wr.heap.size) (Nat.le_refl _)
            have hGl : wr.heap.size ≤ wt.heap.size := bt.size
            clear hV t bt hct hft tw
            generalize (wt.alloc (.cells #[.int .i64 wide, .slice ao_t n c_t] 26)) = V at *
            generalize wt.heap.size = G at *
            have hbV := hbr.below b1 (Nat.le_refl _)
            have hBV := hB.trans (b1.mono hB.size)
            have f0 := hbV.free 0
            have f1 := hbV.free 1
            have g0 := hbV.cell 0
            have g1 := hbV.cell 1
            have B2 := hid ((hBV.setCell (p := ⟨w.heap.size + 1, 0, none⟩) (by simp) (.int .i64 0)).setCell (p := ⟨w.heap.size + 1, 1, none⟩) (by simp) (.slice none 0 0))
            clear hcan hck c0 c1 hyi hbV hBV ot bkt b1 hhr hBr hbr hB hor
            go_wp2
            exact bodyPost_ret (v := .tuple #[.agg #[.int .i64 0, .slice none 0 0], .bool false]) (by simp [results, Try.results26, go_sem, g0, g1]) rfl (RetBB.zero hr2.out B2.out)
          · have b1 := hV.2
            have k0 : Blk ((wr.alloc (.cells #[.int .i64 0, .slice none 0 0] 26)).drew) wr.heap.size #[.int .i64 0, .slice none 0 0] 26 := Blk.new wr _ _
            have bkt : Blk _ wr.heap.size #[.int .i64 wide, .slice ao_t n c_t] 26 := ((k0.below bt (Nat.le_refl _)).set 0 (.int .i64 wide)).set 1 (.slice ao_t n c_t)
            have ot := ((t.setOther wr.heap.size 0 (.int .i64 wide) (t.ne_of_lt (by simp))).setOther wr.heap.size 1 (.slice ao_t n c_t) (t.ne_of_lt (by simp))).lower (B' := wr.heap.size) (by simp)
            have hGl : wr.heap.size ≤ wr.heap.size := Nat.le_refl _
            clear hV t bt hct hft k0
            generalize ((wt.setCell ⟨wr.heap.size, 0, none⟩ (.int .i64 wide)).setCell ⟨wr.heap.size, 1, none⟩ (.slice ao_t n c_t)) = V at *
            obtain ⟨G, hGe⟩ : ∃ G, wr.heap.size = G := ⟨_, rfl⟩
            rw [hGe] at bkt
            simp only [hGe]
            have hGl : wr.heap.size ≤ G := by omega
            have hbV := hbr.below b1 (Nat.le_refl _)
            have hBV := hB.trans (b1.mono hB.size)
            have f0 := hbV.free 0
            have f1 := hbV.free 1
            have g0 := hbV.cell 0
            have g1 := hbV.cell 1
            have B2 := hid ((hBV.setCell (p := ⟨w.heap.size + 1, 0, none⟩) (by simp) (.int .i64 0)).setCell (p := ⟨w.heap.size + 1, 1, none⟩) (by simp) (.slice none 0 0))
            clear hcan hck c0 c1 hyi hbV hBV ot bkt b1 hhr hBr hbr hB hor
            go_wp2
            exact bodyPost_ret (v := .tuple #[.agg #[.int .i64 0, .slice none 0 0], .bool false]) (by simp [results, Try.results26, go_sem, g0, g1]) rfl (RetBB.zero hr2.out B2.out)
      · have hd2 : decide ((k : Int) < m) = false := decide_eq_false (by omega)
        have hr2 : Hid (trO wide xs ts = some ys) := hO.out.trans (hrun.out.trans (by rw [List.drop_eq_nil_of_le (by rw [HM.out]; omega)]; rfl))
        have c0 := hhr.at 0 rfl
        have c1 := hhr.at 1 rfl
        have f0 := hbr.free 0
        have f1 := hbr.free 1
        have g0 := hbr.cell 0
        have g1 := hbr.cell 1
        have B5 := (hB.setCell (p := ⟨w.heap.size + 1, 0, none⟩) (by simp) (.int .i64 wide)).setCell (p := ⟨w.heap.size + 1, 1, none⟩) (by simp) (.slice ao' n c')
        have o5 := (hor.setOther (w.heap.size + 1) 0 (.int .i64 wide) (hor.ne_of_lt hL1)).setOther (w.heap.size + 1) 1 (.slice ao' n c') (hor.ne_of_lt hL1)
        have o6 := o5.lower (B' := w.heap.size) (by omega)
        have hfin := hid (RetBB.mk (ok := true) (wide := wide) hyl.out hc' o6 B5)
        have t1 := hid (tr_some hr2.out).1
        have t2 := hid (tr_some hr2.out).2.1
        have t3 := hid (tr_some hr2.out).2.2
        clear hor hhr hBr hbr o5 o6 B5 hB htr
        go_wp2
        rw [t1.out, t2.out, t3.out]
        exact bodyPost_ret (v := .tuple #[.agg #[.int .i64 wide, .slice ao' n c'], .bool true]) (by simp [results, Try.results26, go_sem, g0, g1]) rfl hfin.out

end Go.Proofs.Ytncebcgiljkbnaa
