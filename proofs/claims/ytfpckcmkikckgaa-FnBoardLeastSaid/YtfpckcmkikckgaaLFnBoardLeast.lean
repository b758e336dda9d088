/- The walk of the law FnBoardLeast. -/
import Derived.Test.YtfpckcmkikckgaaMn
import Derived.Test.YtfpckcmkikckgaaTm
import Derived.Test.YtfpckcmkikckgaaTc
import Derived.Test.YtfpckcmkikckgaaSl
import Derived.Test.YtfpckcmkikckgaaAl
import Derived.Test.YtfpckcmkikckgaaDe
import Derived.Deep.RegionHeld3
namespace Go.Proofs.Ytfpckcmkikckgaa
open Go Go.RowKit

set_option maxRecDepth 100000 in
set_option maxHeartbeats 4000000 in
theorem fnBoardLeast_walk (w : World) (ao : Option Addr) (bs : List Int) (l c : Nat) (hn : bs.length = l) (hlc : l ≤ c) (hcm : c ≤ 9223372036854775807) (hx : BytesAt w ao bs) (h8 : B8 bs) :
    Calls Try.prog 3 #[.slice ao l c] w fun e w' => e = .returned (.bool true) ∧ Below w.heap.size w w' := by
  by_cases hbig : 1048576 < l
  · have hd : decide ((1048576 : Int) < l) = true := decide_eq_true (by omega)
    clear hx hn h8
    go_enter Try.func3, Try.ntmps3
    go_wp2
    go_ret
    exact ⟨rfl, Below.refl _ _⟩
  have hd : decide ((1048576 : Int) < l) = false := decide_eq_false (by omega)
  go_enter Try.func3, Try.ntmps3
  go_wp2_with fail
  refine (drawBoardLeast_any ao bs l c w hn hlc hcm hx h8).mono fun e wd h => ?_
  obtain ⟨wide, ao1, m, c1, ys, rfl, hl, hmc, hm9, hwd, o, B⟩ := h
  clear hx h8 hn hd hbig
  have HL := hid hl
  clear hl
  have bk := Blk.new wd #[.int .i64 wide, .slice ao1 m c1] 25
  have o := o.alloc (.cells #[.int .i64 wide, .slice ao1 m c1] 25)
  have hgbw : w.heap.size ≤ wd.heap.size := B.size
  have B := B.alloc B.size (.cells #[.int .i64 wide, .slice ao1 m c1] 25)
  go_wp2_with fail
  generalize (wd.alloc (.cells #[.int .i64 wide, .slice ao1 m c1] 25)) = W at *
  generalize wd.heap.size = gb at *
  obtain ⟨f, hf⟩ : ∃ f, leastI wide ys = f := ⟨_, rfl⟩
  have HF := hid hf
  have hff : (f != f) = false := by simp
  refine (implBoardLeast_any wide ao1 ys m c1 W HL.out (by omega) o.ints).mono fun e wa h => ?_
  rw [HF.out] at h
  obtain ⟨rfl, b⟩ := h
  have o := o.below b (Nat.le_refl _)
  have bk := bk.below b (Nat.le_refl _)
  have B := B.trans (b.mono B.size)
  clear b
  have e0 := bk.at 0 rfl
  have e1 := bk.at 1 rfl
  go_wp2_with fail
  refine (specBoardLeast_any wide ao1 ys m c1 wa HL.out (by omega) hmc o.ints).mono fun e w1 h => ?_
  rw [HF.out] at h
  obtain ⟨rfl, b⟩ := h
  have o := o.below b (Nat.le_refl _)
  have bk := bk.below b (Nat.le_refl _)
  have B := B.trans (b.mono B.size)
  clear b e0 e1
  have e0 := bk.at 0 rfl
  have e1 := bk.at 1 rfl
  rcases least_cases wide ys with hm1 | ⟨hok, h6, _, _, _, _, h0, h7, _⟩
  · rw [hf] at hm1
    subst hm1
    clear hf e0 e1 o bk
    go_wp2_with fail
    refine (alive_any w1).mono fun e w4 h => ?_
    obtain ⟨rfl, b⟩ := h
    have B := B.trans (b.mono B.size)
    clear b
    go_wp2
    go_ret
    exact ⟨rfl, B⟩
  · have hlow := hid h0
    rw [hf] at h0 h7
    have hd0 : decide (f < 0) = false := decide_eq_false (by omega)
    have hms := may_some hok
    have hm9' := may_le9 hok
    have HOK := hid hok
    have hnz := hid (hasN_zero wide ys)
    rw [hf] at hnz
    have hful := hid (hasN_full hlow.out)
    obtain ⟨mm, hmm⟩ : ∃ mm, (mayL wide ys).length = mm := ⟨_, rfl⟩
    have HMM := hid hmm
    rw [hmm] at hms hm9' hful
    clear hmm hok hf h6
    go_wp2_with fail
    refine (implTilesMay_any wide ao1 ys m c1 w1 HL.out (by omega) o.ints).mono fun e w2 h => ?_
    obtain ⟨ao3, c3, rfl, om, b⟩ := h.to HMM.out
    clear h
    have hwl : w.heap.size ≤ w1.heap.size := B.size
    have hgl := bk.lt
    have o := o.below b (Nat.le_refl _)
    have bk := bk.below b (Nat.le_refl _)
    have B := B.trans (b.mono B.size)
    have hL2 := b.size
    clear b e0 e1
    obtain ⟨gm, rfl⟩ := om.addr (by rw [HMM.out]; exact hms)
    go_wp2_with fail
    go_loopw [5, 7, 8, 9, 10] (fun nv i _ _ _ wr => ∃ k : Nat, k ≤ mm ∧ i = .int .i64 k ∧ nv = .bool (hasN wide ys k) ∧ Own wr w1.heap.size (.slice (some ⟨gm, 0, none⟩) mm c3) (mayL wide ys) ∧ Own wr w.heap.size (.slice ao1 m c1) ys ∧ Blk wr gb #[.int .i64 wide, .slice ao1 m c1] 25 ∧ Below w.heap.size w wr) (fun _ i _ _ _ _ => mm - (intOf i).toNat)
    case atStart => exact ⟨0, Nat.zero_le _, rfl, by rw [hnz.out], om, o, bk, B⟩
    case round =>
      clear om o bk B
      obtain ⟨k, hk, rfl, rfl, om, o, bk, B⟩ := hrel
      have e0 := bk.at 0 rfl
      have e1 := bk.at 1 rfl
      by_cases hkm : k < mm
      · have hd : decide ((k : Int) < mm) = true := decide_eq_true (by omega)
        have hkl : k < (mayL wide ys).length := by rw [HMM.out]; exact hkm
        have hcell := om.cell (j := k) hkl
        have HCB := hid (may_can hkl)
        have hsu := hid (hasN_succ hkl)
        have hmv := hid (least_move hlow.out HCB.out)
        obtain ⟨u, hu⟩ : ∃ u, nth (mayL wide ys) k = u := ⟨_, rfl⟩
        rw [hu] at hcell HCB hsu hmv
        clear hu
        have hTW := hid (tmW_in HOK.out)
        have hTL := hid (tmL_in (t := u) HOK.out)
        have HML := hid ((length_movedL wide ys u).trans HL.out)
        obtain ⟨v, hv⟩ : ∃ v, hasN wide ys k = v := ⟨_, rfl⟩
        obtain ⟨q, hq⟩ : ∃ q, leastI wide (movedL wide ys u) = q := ⟨_, rfl⟩
        rw [hv] at hsu ⊢
        rw [hq, HF.out] at hsu hmv
        have HQ := hid hq
        clear hv hq
        have lt := bk.lt
        have ltm := om.base.2
        go_wp2_with fail
        refine wp_region_noPanic ?_
        refine wp_region_held_drew (S := fun w' => (∀ b o, b < wr.heap.size → w'.cell? ⟨b, o, none⟩ = wr.cell? ⟨b, o, none⟩) ∧ Below wr.heap.size wr w') (by kernel_rfl) (sb_drew _) (fun hHeld => ?_)
        refine wpAnyH_take (i := 0) (v := ?vq1) rfl (by kernel_rfl) (by kernel_rfl) (by kernel_rfl) (fun _ _ _ h => h) (Or.inl ⟨by rfl, ?hyq1⟩) (by assumption) ?restq1
        case hyq1 => (intro w hSw; (try dsimp only at hSw); go_simp; try with_reducible rfl)
        try simp only [Act.put, List.getElem_toArray, List.getElem_cons_zero, List.setIfInBounds_toArray, List.set_cons_zero, List.set_cons_succ]
        refine wpAnyH_take (i := 1) (v := ?vq2) rfl (by kernel_rfl) (by kernel_rfl) (by kernel_rfl) (fun _ _ _ h => h) (Or.inl ⟨by rfl, ?hyq2⟩) (by assumption) ?restq2
        case hyq2 => (intro w hSw; (try dsimp only at hSw); go_simp; try with_reducible rfl)
        try simp only [Act.put, List.getElem_toArray, List.getElem_cons_succ, List.getElem_cons_zero, List.setIfInBounds_toArray, List.set_cons_zero, List.set_cons_succ]
        refine wpAnyH_take (i := 2) (v := ?vq3) rfl (by kernel_rfl) (by kernel_rfl) (by kernel_rfl) (fun _ _ _ h => h) (Or.inl ⟨by rfl, ?hyq3⟩) (by assumption) ?restq3
        case hyq3 => (intro w hSw; (try dsimp only at hSw); go_simp; try with_reducible rfl)
        try simp only [Act.put, List.getElem_toArray, List.getElem_cons_succ, List.getElem_cons_zero, List.setIfInBounds_toArray, List.set_cons_zero, List.set_cons_succ]
        refine wpAnyH_take (i := 3) (v := ?vq4) rfl (by kernel_rfl) (by kernel_rfl) (by kernel_rfl) (fun _ _ _ h => h) (Or.inl ⟨by rfl, ?hyq4⟩) (by assumption) ?restq4
        case hyq4 => (intro w hSw; (try dsimp only at hSw); go_simp; try with_reducible rfl)
        try simp only [Act.put, List.getElem_toArray, List.getElem_cons_succ, List.getElem_cons_zero, List.setIfInBounds_toArray, List.set_cons_zero, List.set_cons_succ]
        refine wpAnyH_take (i := 4) (v := ?vq5) rfl (by kernel_rfl) (by kernel_rfl) (by kernel_rfl) (fun _ _ _ h => h) (Or.inl ⟨by rfl, ?hyq5⟩) (by assumption) ?restq5
        case hyq5 => (intro w hSw; (try dsimp only at hSw); go_simp; try with_reducible rfl)
        try simp only [Act.put, List.getElem_toArray, List.getElem_cons_succ, List.getElem_cons_zero, List.setIfInBounds_toArray, List.set_cons_zero, List.set_cons_succ]
        refine wpAnyH_ready (rs := [5, 9]) (by kernel_rfl) (by simp) ?rdq18
        refine AllReadyH.cons (i := 5) rfl (fun K hK => ?stepq18_0) ?moreq18_0
        case stepq18_0 =>
          go_simp
          refine (implTileMove_any wide ao1 ys m c1 u _ HL.out (by omega) (o.ints.below (sb_below ‹_›) (Nat.le_refl _))).mono fun e wt h => ?_
          rw [hTW.out, hTL.out, HCB.out] at h
          obtain ⟨ao_t, c_t, rfl, hc_t, t, bt⟩ := h.to HML.out
          clear h
          refine hK.out _ _ (sb_call ‹_› bt) (fun hHeld => ?_)
          clear hK K
          try simp only [Act.put, List.getElem_toArray, List.getElem_cons_succ, List.getElem_cons_zero, List.setIfInBounds_toArray, List.set_cons_zero, List.set_cons_succ]
          have hS1 := hHeld
          have bx := Blk.new wt #[.int .i64 0, .slice none 0 0] 25
          refine wpAnyH_take (i := 6) (v := ?vq6) rfl (by kernel_rfl) (by kernel_rfl) (by kernel_rfl) (fun _ _ _ h => h) (Or.inl ⟨by rfl, ?hyq6⟩) (by assumption) ?restq6
          case hyq6 => (intro w hSw; (try dsimp only at hSw); go_simp; try with_reducible rfl)
          try simp only [Act.put, List.getElem_toArray, List.getElem_cons_succ, List.getElem_cons_zero, List.setIfInBounds_toArray, List.set_cons_zero, List.set_cons_succ]
          refine wpAnyH_take (i := 7) (v := ?vq7) rfl (by kernel_rfl) (by kernel_rfl) (by kernel_rfl) (fun _ _ _ h => h) (Or.inl ⟨by rfl, ?hyq7⟩) (by assumption) ?restq7
          case hyq7 => (intro w hSw; (try dsimp only at hSw); go_simp; try with_reducible rfl)
          try simp only [Act.put, List.getElem_toArray, List.getElem_cons_succ, List.getElem_cons_zero, List.setIfInBounds_toArray, List.set_cons_zero, List.set_cons_succ]
          refine wpAnyH_take (i := 8) (v := ?vq8) rfl (by kernel_rfl) (by kernel_rfl) (by kernel_rfl) (fun _ _ _ h => h) (Or.inl ⟨by rfl, ?hyq8⟩) (by assumption) ?restq8
          case hyq8 => (intro w hSw; (try dsimp only at hSw); go_simp; try with_reducible rfl)
          try simp only [Act.put, List.getElem_toArray, List.getElem_cons_succ, List.getElem_cons_zero, List.setIfInBounds_toArray, List.set_cons_zero, List.set_cons_succ]
          refine wpAnyH_ready (rs := [9]) (by kernel_rfl) (by simp) ?rdq9
          refine AllReadyH.cons (i := 9) rfl (fun K hK => ?stepq9) ?moreq9
          case moreq9 => exact AllReadyH.nil
          go_simp
          refine hK.out _ _ (sb_alloc ‹_› _) (fun hHeld => ?_)
          clear hK K
          try simp only [Act.put, List.getElem_toArray, List.getElem_cons_succ, List.getElem_cons_zero, List.setIfInBounds_toArray, List.set_cons_zero, List.set_cons_succ]
          have x0 := bx.at 0 rfl
          have x1 := bx.at 1 rfl
          refine wpAnyH_ready (rs := [10]) (by kernel_rfl) (by simp) ?rdq10
          refine AllReadyH.cons (i := 10) rfl (fun K hK => ?stepq10) ?moreq10
          case moreq10 => exact AllReadyH.nil
          go_simp
          refine hK.out _ _ (sb_alloc hS1 _) (fun hHeld => ?_)
          clear hK K
          try simp only [Act.put, List.getElem_toArray, List.getElem_cons_succ, List.getElem_cons_zero, List.setIfInBounds_toArray, List.set_cons_zero, List.set_cons_succ]
          refine wpAnyH_take (i := 11) (v := ?vq11) rfl (by kernel_rfl) (by kernel_rfl) (by kernel_rfl) (fun _ _ _ h => h) (Or.inl ⟨by rfl, ?hyq11⟩) (by assumption) ?restq11
          case hyq11 => (intro w hSw; (try dsimp only at hSw); go_simp; try with_reducible rfl)
          try simp only [Act.put, List.getElem_toArray, List.getElem_cons_succ, List.getElem_cons_zero, List.setIfInBounds_toArray, List.set_cons_zero, List.set_cons_succ]
          refine wpAnyH_done (by kernel_rfl) ?_ _
          refine NoPanic.normal ?_
          have bx := Blk.new wt #[.int .i64 wide, .slice ao_t m c_t] 25
          have t := t.alloc (.cells #[.int .i64 wide, .slice ao_t m c_t] 25)
          have b1 := hHeld.2
          have o := o.below b1 (Nat.le_refl _)
          have om := om.below b1 (Nat.le_refl _)
          have bk := bk.below b1 (Nat.le_refl _)
          have B := B.trans (b1.mono B.size)
          clear hHeld hS1 bt x0 x1 e0 e1 b1 lt ltm hcell
          generalize (wt.alloc (.cells #[.int .i64 wide, .slice ao_t m c_t] 25)) = w5 at *
          generalize wt.heap.size = gx at *
          have x0 := bx.at 0 rfl
          have x1 := bx.at 1 rfl
          go_wp2_with fail
          refine (implBoardLeast_any wide ao_t (movedL wide ys u) m c_t w5 HML.out (by omega) t.ints).mono fun e w6 h => ?_
          rw [HQ.out] at h
          obtain ⟨rfl, b⟩ := h
          have o := o.below b (Nat.le_refl _)
          have om := om.below b (Nat.le_refl _)
          have bk := bk.below b (Nat.le_refl _)
          have B := B.trans (b.mono B.size)
          clear b x0 x1 bx t
          rcases hmv.out with h1 | h1
          · have q1 : (q == f - 1) = false := by simp; omega
            have q2 : (q != f - 1) = true := by simp; omega
            have q3 : (q != f + 1) = false := by simp; omega
            rw [q1, Bool.or_false] at hsu
            clear hmv h1
            cases v with
            | true =>
              go_wp2
              go_roundw
              case rel => exact ⟨k + 1, by omega, by go_num, by rw [hsu.out], om, o, bk, B⟩
              case measure => simp [intOf]; omega
            | false =>
              go_wp2
              go_roundw
              case rel => exact ⟨k + 1, by omega, by go_num, by rw [hsu.out], om, o, bk, B⟩
              case measure => simp [intOf]; omega
          · have q1 : (q == f - 1) = true := by simp; omega
            have q2 : (q != f - 1) = false := by simp; omega
            rw [q1, Bool.or_true] at hsu
            clear hmv h1
            cases v with
            | true =>
              go_wp2
              go_roundw
              case rel => exact ⟨k + 1, by omega, by go_num, by rw [hsu.out], om, o, bk, B⟩
              case measure => simp [intOf]; omega
            | false =>
              go_wp2
              go_roundw
              case rel => exact ⟨k + 1, by omega, by go_num, by rw [hsu.out], om, o, bk, B⟩
              case measure => simp [intOf]; omega
        refine AllReadyH.cons (i := 9) rfl (fun K hK => ?stepq18_1) ?moreq18_1
        case stepq18_1 =>
          go_simp
          refine hK.out _ _ (sb_alloc ‹_› _) (fun hHeld => ?_)
          clear hK K
          try simp only [Act.put, List.getElem_toArray, List.getElem_cons_succ, List.getElem_cons_zero, List.setIfInBounds_toArray, List.set_cons_zero, List.set_cons_succ]
          have bx : Blk ((wr.alloc (.cells #[.int .i64 0, .slice none 0 0] 25)).drew) wr.heap.size #[.int .i64 0, .slice none 0 0] 25 := Blk.new wr _ _
          have hz : wr.heap.size < ((wr.alloc (.cells #[.int .i64 0, .slice none 0 0] 25)).drew).heap.size := by simp
          refine wpAnyH_ready (rs := [5]) (by kernel_rfl) (by simp) ?rdq12
          refine AllReadyH.cons (i := 5) rfl (fun K hK => ?stepq12) ?moreq12
          case moreq12 => exact AllReadyH.nil
          go_simp
          refine (implTileMove_any wide ao1 ys m c1 u _ HL.out (by omega) (o.ints.below (sb_below ‹_›) (Nat.le_refl _))).mono fun e wt h => ?_
          rw [hTW.out, hTL.out, HCB.out] at h
          obtain ⟨ao_t, c_t, rfl, hc_t, t, bt⟩ := h.to HML.out
          clear h
          refine hK.out _ _ (sb_call ‹_› bt) (fun hHeld => ?_)
          clear hK K
          try simp only [Act.put, List.getElem_toArray, List.getElem_cons_succ, List.getElem_cons_zero, List.setIfInBounds_toArray, List.set_cons_zero, List.set_cons_succ]
          have bx := bx.below bt (Nat.le_refl _)
          have r0 := bx.free 0
          have r1 := bx.free 1
          have x0 := bx.at 0 rfl
          have x1 := bx.at 1 rfl
          have hS1 := hHeld
          refine wpAnyH_take (i := 6) (v := ?vq13) rfl (by kernel_rfl) (by kernel_rfl) (by kernel_rfl) (fun _ _ _ h => h) (Or.inl ⟨by rfl, ?hyq13⟩) (by assumption) ?restq13
          case hyq13 => (intro w hSw; (try dsimp only at hSw); go_simp; try with_reducible rfl)
          try simp only [Act.put, List.getElem_toArray, List.getElem_cons_succ, List.getElem_cons_zero, List.setIfInBounds_toArray, List.set_cons_zero, List.set_cons_succ]
          refine wpAnyH_take (i := 7) (v := ?vq14) rfl (by kernel_rfl) (by kernel_rfl) (by kernel_rfl) (fun _ _ _ h => h) (Or.inl ⟨by rfl, ?hyq14⟩) (by assumption) ?restq14
          case hyq14 => (intro w hSw; (try dsimp only at hSw); go_simp; try with_reducible rfl)
          try simp only [Act.put, List.getElem_toArray, List.getElem_cons_succ, List.getElem_cons_zero, List.setIfInBounds_toArray, List.set_cons_zero, List.set_cons_succ]
          refine wpAnyH_take (i := 8) (v := ?vq15) rfl (by kernel_rfl) (by kernel_rfl) (by kernel_rfl) (fun _ _ _ h => h) (Or.inl ⟨by rfl, ?hyq15⟩) (by assumption) ?restq15
          case hyq15 => (intro w hSw; (try dsimp only at hSw); go_simp; try with_reducible rfl)
          try simp only [Act.put, List.getElem_toArray, List.getElem_cons_succ, List.getElem_cons_zero, List.setIfInBounds_toArray, List.set_cons_zero, List.set_cons_succ]
          refine wpAnyH_ready (rs := [10]) (by kernel_rfl) (by simp) ?rdq16
          refine AllReadyH.cons (i := 10) rfl (fun K hK => ?stepq16) ?moreq16
          case moreq16 => exact AllReadyH.nil
          go_simp
          refine hK.out _ _ (sb_set (sb_set ‹_› (Nat.le_refl _) _ _) (Nat.le_refl _) _ _) (fun hHeld => ?_)
          clear hK K
          try simp only [Act.put, List.getElem_toArray, List.getElem_cons_succ, List.getElem_cons_zero, List.setIfInBounds_toArray, List.set_cons_zero, List.set_cons_succ]
          refine wpAnyH_take (i := 11) (v := ?vq17) rfl (by kernel_rfl) (by kernel_rfl) (by kernel_rfl) (fun _ _ _ h => h) (Or.inl ⟨by rfl, ?hyq17⟩) (by assumption) ?restq17
          case hyq17 => (intro w hSw; (try dsimp only at hSw); go_simp; try with_reducible rfl)
          try simp only [Act.put, List.getElem_toArray, List.getElem_cons_succ, List.getElem_cons_zero, List.setIfInBounds_toArray, List.set_cons_zero, List.set_cons_succ]
          refine wpAnyH_done (by kernel_rfl) ?_ _
          refine NoPanic.normal ?_
          have bx : Blk ((wt.setCell ⟨wr.heap.size, 0, none⟩ (.int .i64 wide)).setCell ⟨wr.heap.size, 1, none⟩ (.slice ao_t m c_t)) wr.heap.size #[.int .i64 wide, .slice ao_t m c_t] 25 := (bx.set 0 _).set 1 _
          have t := (t.setOther wr.heap.size 0 (.int .i64 wide) (t.ne_of_lt hz)).setOther wr.heap.size 1 (.slice ao_t m c_t) (t.ne_of_lt hz)
          have b1 := hHeld.2
          have o := o.below b1 (Nat.le_refl _)
          have om := om.below b1 (Nat.le_refl _)
          have bk := bk.below b1 (Nat.le_refl _)
          have B := B.trans (b1.mono B.size)
          clear hHeld hS1 bt x0 x1 e0 e1 b1 lt ltm hcell
          clear hz r0 r1
          generalize ((wt.setCell ⟨wr.heap.size, 0, none⟩ (.int .i64 wide)).setCell ⟨wr.heap.size, 1, none⟩ (.slice ao_t m c_t)) = w5 at *
          generalize wr.heap.size = gx at *
          have x0 := bx.at 0 rfl
          have x1 := bx.at 1 rfl
          go_wp2_with fail
          refine (implBoardLeast_any wide ao_t (movedL wide ys u) m c_t w5 HML.out (by omega) t.ints).mono fun e w6 h => ?_
          rw [HQ.out] at h
          obtain ⟨rfl, b⟩ := h
          have o := o.below b (Nat.le_refl _)
          have om := om.below b (Nat.le_refl _)
          have bk := bk.below b (Nat.le_refl _)
          have B := B.trans (b.mono B.size)
          clear b x0 x1 bx t
          rcases hmv.out with h1 | h1
          · have q1 : (q == f - 1) = false := by simp; omega
            have q2 : (q != f - 1) = true := by simp; omega
            have q3 : (q != f + 1) = false := by simp; omega
            rw [q1, Bool.or_false] at hsu
            clear hmv h1
            cases v with
            | true =>
              go_wp2
              go_roundw
              case rel => exact ⟨k + 1, by omega, by go_num, by rw [hsu.out], om, o, bk, B⟩
              case measure => simp [intOf]; omega
            | false =>
              go_wp2
              go_roundw
              case rel => exact ⟨k + 1, by omega, by go_num, by rw [hsu.out], om, o, bk, B⟩
              case measure => simp [intOf]; omega
          · have q1 : (q == f - 1) = true := by simp; omega
            have q2 : (q != f - 1) = false := by simp; omega
            rw [q1, Bool.or_true] at hsu
            clear hmv h1
            cases v with
            | true =>
              go_wp2
              go_roundw
              case rel => exact ⟨k + 1, by omega, by go_num, by rw [hsu.out], om, o, bk, B⟩
              case measure => simp [intOf]; omega
            | false =>
              go_wp2
              go_roundw
              case rel => exact ⟨k + 1, by omega, by go_num, by rw [hsu.out], om, o, bk, B⟩
              case measure => simp [intOf]; omega
        exact AllReadyH.nil
      · obtain rfl : k = mm := by omega
        have hd : decide ((k : Int) < k) = false := decide_eq_false (by omega)
        rw [hful.out]
        clear om o bk
        go_wp2
        go_ret
        exact ⟨rfl, B⟩

end Go.Proofs.Ytfpckcmkikckgaa
