/- The walk of the law FnBoardValid. -/
import Derived.Test.YtajfanncdfdalaaBv
import Derived.Test.YtajfanncdfdalaaAl
import Derived.Test.YtajfanncdfdalaaDd
import Derived.Test.YtajfanncdfdalaaCb
namespace Go.Proofs.Ytajfanncdfdalaa
open Go Go.RowKit

theorem boardOk_rev {wide : Int} {xs : List Int} (h : BoardOk wide xs) : BoardOk wide xs.reverse := by
  obtain ⟨h1, h2, h3, h4, h5, h6⟩ := h
  refine ⟨by simpa using h1, by simpa using h2, h3, by simpa using h4, ?_, ?_⟩
  · intro x hx
    rw [List.length_reverse]
    exact h5 x (List.mem_reverse.1 hx)
  · exact List.pairwise_reverse.2 (h6.imp fun h e => h e.symm)

theorem board_twice {wide : Int} {xs : List Int} (h : BoardOk wide xs) : ¬ BoardOk wide (xs.set 1 (nth xs 0)) := by
  obtain ⟨h1, h2, h3, h4, h5, h6⟩ := h
  match xs, h1 with
  | a :: b :: t, _ =>
    intro hq
    have := hq.2.2.2.2.2
    simp [nth] at this

theorem nth_rev {xs : List Int} {i m : Nat} (hl : xs.length = m) (hi : i < m) : nth xs.reverse i = nth xs (m - 1 - i) := by
  subst hl
  rw [nth_eq (by simpa using hi), nth_eq (by omega), List.getElem_reverse]

theorem rev_take_succ {xs : List Int} {i m : Nat} (hl : xs.length = m) (hi : i < m) : xs.reverse.take (i + 1) = xs.reverse.take i ++ [nth xs (m - 1 - i)] := by
  rw [take_succ_nth (by simpa [hl] using hi), nth_rev hl hi]

set_option maxRecDepth 100000 in
set_option maxHeartbeats 2000000 in
theorem fnBoardValid_walk (w : World) (ao : Option Addr) (bs : List Int) (l c : Nat) (hn : bs.length = l) (hlc : l ≤ c) (hcm : c ≤ 9223372036854775807) (hx : BytesAt w ao bs) (h8 : B8 bs) :
    Calls Try.prog 3 #[.slice ao l c] w fun e w' => e = .returned (.bool true) ∧ Below w.heap.size w w' := by
  by_cases hbig : 1048576 < l
  · have hd : decide ((1048576 : Int) < l) = true := decide_eq_true (by omega)
    clear hx hn h8
    go_enter Try.func3, Try.ntmps3
    go_wp2
    go_ret
    exact ⟨rfl, Below.refl _ _⟩
  have hd : decide ((1048576 : Int) < l) = false := decide_eq_false (by omega)
  go_enter Try.func3, Try.ntmps3
  go_wp2_with fail
  refine (drawBoardValid_any ao bs l c w hn hlc hcm hx h8).mono fun e w1 h => ?_
  obtain ⟨wide, ao1, m, c1, ys, rfl, hl, hmc, hm9, hwd, o, B⟩ := h
  clear hx h8 hn hd hbig
  have HL := hid hl
  clear hl
  have bk := Blk.new w1 #[.int .i64 wide, .slice ao1 m c1] 25
  have o := o.alloc (.cells #[.int .i64 wide, .slice ao1 m c1] 25)
  have hgbw : w.heap.size ≤ w1.heap.size := B.size
  have B := B.alloc B.size (.cells #[.int .i64 wide, .slice ao1 m c1] 25)
  go_wp2_with fail
  generalize (w1.alloc (.cells #[.int .i64 wide, .slice ao1 m c1] 25)) = W at *
  generalize w1.heap.size = gb at *
  cases hok : boardB wide ys with
  | false =>
    refine (implBoardValid_any wide ao1 ys m c1 W HL.out (by omega) o.ints).mono fun e w2 h => ?_
    rw [hok] at h
    obtain ⟨rfl, b⟩ := h
    have o := o.below b (Nat.le_refl _)
    have bk := bk.below b (Nat.le_refl _)
    have B := B.trans (b.mono B.size)
    clear b
    have e0 := bk.at 0 rfl
    have e1 := bk.at 1 rfl
    go_wp2_with fail
    refine (specBoardValid_any wide ao1 ys m c1 w2 HL.out (by omega) hmc o.ints).mono fun e w3 h => ?_
    rw [hok] at h
    obtain ⟨rfl, b⟩ := h
    have B := B.trans (b.mono B.size)
    clear b e0 e1 bk o
    go_wp2_with fail
    refine (implBoardValid_any 0 none [] 0 0 w3 rfl (by omega) (IntsAt.nil _ _)).mono fun e w4 h => ?_
    rw [show boardB 0 [] = false from by decide] at h
    obtain ⟨rfl, b⟩ := h
    have B := B.trans (b.mono B.size)
    clear b
    go_wp2_with fail
    refine (alive_any w4).mono fun e w5 h => ?_
    obtain ⟨rfl, b⟩ := h
    have B := B.trans (b.mono B.size)
    clear b
    go_wp2
    go_ret
    exact ⟨rfl, B⟩
  | true =>
    have HO := hid (boardB_iff.1 hok)
    have HR := hid (boardB_iff.2 (boardOk_rev HO.out))
    have HT := hid (boardB_not.2 (board_twice HO.out))
    have hm2 : 2 ≤ m := by have := HO.out.1; rw [HL.out] at this; exact this
    obtain ⟨g, rfl⟩ := o.addr (by rw [HL.out]; omega)
    refine (implBoardValid_any wide (some ⟨g, 0, none⟩) ys m c1 W HL.out (by omega) o.ints).mono fun e w2 h => ?_
    rw [hok] at h
    obtain ⟨rfl, b⟩ := h
    have o := o.below b (Nat.le_refl _)
    have bk := bk.below b (Nat.le_refl _)
    have B := B.trans (b.mono B.size)
    clear b
    have e0 := bk.at 0 rfl
    have e1 := bk.at 1 rfl
    go_wp2_with fail
    refine (specBoardValid_any wide (some ⟨g, 0, none⟩) ys m c1 w2 HL.out (by omega) hmc o.ints).mono fun e w3 h => ?_
    rw [hok] at h
    obtain ⟨rfl, b⟩ := h
    have o := o.below b (Nat.le_refl _)
    have bk := bk.below b (Nat.le_refl _)
    have B := B.trans (b.mono B.size)
    clear b e0 e1 hok HO
    have e0 := bk.at 0 rfl
    have e1 := bk.at 1 rfl
    have hgk := o.base.2
    have bkk := Blk.new w3 #[.int .i64 wide, .slice none 0 0] 25
    have o := o.alloc (.cells #[.int .i64 wide, .slice none 0 0] 25)
    have bk := bk.alloc (.cells #[.int .i64 wide, .slice none 0 0] 25)
    have B := B.alloc B.size (.cells #[.int .i64 wide, .slice none 0 0] 25)
    have hL3 : (w3.alloc (.cells #[.int .i64 wide, .slice none 0 0] 25)).heap.size = w3.heap.size + 1 := by simp
    have hgb3 : gb < w3.heap.size := by have := e0; exact World.block_lt_of_cell? _ _ e0
    go_wp2_with fail
    generalize (w3.alloc (.cells #[.int .i64 wide, .slice none 0 0] 25)) = W4 at *
    generalize w3.heap.size = gk at *
    go_loopw [6] (fun i wr => ∃ j : Nat, ((i = .int .i64 (-1) ∧ j = m) ∨ ∃ k : Nat, i = .int .i64 k ∧ k < m ∧ j = m - 1 - k) ∧ ∃ v, Blk wr gk #[.int .i64 wide, v] 25 ∧ Own wr (gk + 1) v (ys.reverse.take j) ∧ Below gk W4 wr ∧ W4.heap.size ≤ wr.heap.size) (fun i _ => (intOf i + 1).toNat)
    case atStart => exact ⟨0, .inr ⟨m - 1, by go_num, by omega, by omega⟩, _, bkk, by rw [List.take_zero]; exact Own.nil _ _, Below.refl _ _, Nat.le_refl _⟩
    case round =>
      obtain ⟨j, hcase, v, hbk, hov, hB4, hsz4⟩ := hrel
      clear bkk e0 e1
      rcases hcase with ⟨rfl, hjm⟩ | ⟨k, rfl, hkm, hj⟩
      · subst hjm
        have hfull : Hid (ys.reverse.take j = ys.reverse) := List.take_of_length_le (by have := HL.out; simp; omega)
        rw [hfull.out] at hov
        have hLr : Hid (ys.reverse.length = j) := by have := HL.out; simp [Hid]; omega
        obtain ⟨gr, cr, rfl, hcr⟩ := hov.addrOf' (n := j) hLr.out (by omega)
        have hov2 := hov
        have bk := bk.belowLt hB4 hgb3
        have o := o.belowLt hB4 hgk
        have hBw := B.trans (hB4.mono (by omega))
        have e0 := bk.at 0 rfl
        have e1 := bk.at 1 rfl
        have d0 := hbk.at 0 rfl
        have d1 := hbk.at 1 rfl
        clear hB4 hov
        go_wp2_with fail
        have lt_g := bk.lt
        have hx1 := o.ints
        have hml : Hid ((ys.map (Value.int .i64)).length = j * 1) := by have := HL.out; simpa [Hid] using this
        have hn0 : 0 < ys.length := by rw [HL.out]; omega
        have q7 : 0 < 0 + j := by omega
        have q8 : 0 + j ≤ maxLen := by unfold maxLen; omega
        have q9 : (0 + j) * 8 ≤ 140737488355328 := by omega
        obtain ⟨i0, hi, hi0, hi1, hi2⟩ := info_parts Try.infoInt
        have bb0 : Blk (((wr.alloc (.cells #[] 3)).alloc (.cells #[.int .i64 0, .slice none 0 0] 25)).drew) (wr.heap.size + 1) #[.int .i64 0, .slice none 0 0] 25 := Blk.new' (wr.alloc (.cells #[] 3)) _ _ (by simp)
        have bc0 : Blk (((wr.alloc (.cells #[.int .i64 0, .slice none 0 0] 25)).alloc (.cells #[] 3)).drew) wr.heap.size #[.int .i64 0, .slice none 0 0] 25 := (Blk.new wr _ _).alloc _
        go_upto_region 14 with fail
        go_cut [7] (fun x wx => CopyB wr wide j ys x wx)
        case first =>
          go_region_held3 (fun w' => (∀ b o, b < wr.heap.size → w'.cell? ⟨b, o, none⟩ = wr.cell? ⟨b, o, none⟩) ∧ Below wr.heap.size wr w')
            (first | with_reducible exact sb_drew _ | with_reducible exact sb_ad _ _ | with_reducible exact sb_aad _ _ _ | with_reducible exact sb_of ‹_› | with_reducible exact sb_alloc ‹_› _ | with_reducible exact sb_alloc (sb_of ‹_›) _ | with_reducible exact sb_set (sb_set ‹_› (Nat.le_succ _) _ _) (Nat.le_succ _) _ _ | with_reducible exact sb_set (sb_set ‹_› (Nat.le_refl _) _ _) (Nat.le_refl _) _ _)
            (first | (refine step_append_grows rfl (.tmp 50) (.tmp 52) 23 rfl 3 i0 (.int .i64 0) 1 8 Try.underlying23 hi hi0 hi1 hi2 rfl (by decide) (some ⟨wr.heap.size, 0, none⟩) 0 0 [] (by simp [Act.eval]; done) (by intro h; cases h) rfl (by intro b _ j u hj; simp at hj) ⟨g, 0, none⟩ j c1 (ys.map (Value.int .i64)) (by simp [Act.eval]) hml.out (cells_of (hx1.below (sb_below ‹_›) (Nat.le_refl _))) (ints_oneCell _ _) q7 q8 q9 ?_
                      intro v' w2 hown hgrow
                      have bw : Below wr.heap.size wr w2 := sb_grown ‹_› hgrow
                      have hoq : ∃ v0 cy gy, v' = v0 ∧ v0 = .slice (some ⟨gy, 0, none⟩) j cy ∧ j ≤ cy ∧ Own w2 wr.heap.size v0 ys := Own.grown4 (Own.fresh hown HL.out (sb_size ‹_›)) HL.out hn0
                      obtain ⟨v0, cy, gy, rfl, rfl, hcy, ho⟩ := hoq
                      have bb := bb0.kept hgrow (Option.some_ne_none _)
                      have fb0 := bb.free 0
                      have fb1 := bb.free 1
                      have gb0 := bb.cell 0
                      have gb1 := bb.cell 1
                      have hne := own_ne bb0 hown hgrow
                      clear hown hgrow)
                   | (refine step_append_grows rfl (.tmp 50) (.tmp 52) 23 rfl 3 i0 (.int .i64 0) 1 8 Try.underlying23 hi hi0 hi1 hi2 rfl (by decide) (some ⟨wr.heap.size + 1, 0, none⟩) 0 0 [] (by simp [Act.eval]; done) (by intro h; cases h) rfl (by intro b _ j u hj; simp at hj) ⟨g, 0, none⟩ j c1 (ys.map (Value.int .i64)) (by simp [Act.eval]) hml.out (cells_of (hx1.below (sb_below ‹_›) (Nat.le_refl _))) (ints_oneCell _ _) q7 q8 q9 ?_
                      intro v' w2 hown hgrow
                      have bw : Below wr.heap.size wr w2 := sb_grown ‹_› hgrow
                      have hoq : ∃ v0 cy gy, v' = v0 ∧ v0 = .slice (some ⟨gy, 0, none⟩) j cy ∧ j ≤ cy ∧ Own w2 wr.heap.size v0 ys := Own.grown4 (Own.fresh hown HL.out (sb_size ‹_›)) HL.out hn0
                      obtain ⟨v0, cy, gy, rfl, rfl, hcy, ho⟩ := hoq
                      have bb := bc0.kept hgrow (Option.some_ne_none _)
                      have fb0 := bb.free 0
                      have fb1 := bb.free 1
                      have gb0 := bb.cell 0
                      have gb1 := bb.cell 1
                      have hne := own_ne bc0 hown hgrow
                      clear hown hgrow)
                   | (refine step_append_grows rfl (.tmp 50) (.tmp 52) 23 rfl 3 i0 (.int .i64 0) 1 8 Try.underlying23 hi hi0 hi1 hi2 rfl (by decide) (some ⟨wr.heap.size, 0, none⟩) 0 0 [] (by simp [Act.eval]; done) (by intro h; cases h) rfl (by intro b _ j u hj; simp at hj) ⟨g, 0, none⟩ j c1 (ys.map (Value.int .i64)) (by simp [Act.eval]) hml.out (cells_of (hx1.below (sb_below ‹_›) (Nat.le_refl _))) (ints_oneCell _ _) q7 q8 q9 ?_
                      intro v' w2 hown hgrow
                      have bw : Below wr.heap.size wr w2 := sb_grown ‹_› hgrow
                      have hoq : ∃ v0 cy gy, v' = v0 ∧ v0 = .slice (some ⟨gy, 0, none⟩) j cy ∧ j ≤ cy ∧ Own w2 wr.heap.size v0 ys := Own.grown4 (Own.fresh hown HL.out (sb_size ‹_›)) HL.out hn0
                      obtain ⟨v0, cy, gy, rfl, rfl, hcy, ho⟩ := hoq
                      clear hown hgrow))
          all_goals rename_i hH
          · have hne : w2.heap.size ≠ gy := by have := ho.base.2; omega
            have bkd := Blk.new w2 #[.int .i64 wide, .slice (some ⟨gy, 0, none⟩) j cy] 25
            have od := ho.alloc (.cells #[.int .i64 wide, .slice (some ⟨gy, 0, none⟩) j cy] 25)
            have hb := hH.2
            have hsz := bw.size
            clear hH bw ho bb0 bc0 hx1 e0 e1
            go_wp2_with fail
            go_meet
            exact ⟨_, gy, cy, rfl, bkd, hcy, od, hb, hsz, hne⟩
          · have bkd : Blk _ (wr.heap.size + 1) #[.int .i64 wide, .slice (some ⟨gy, 0, none⟩) j cy] 25 := (bb.set 0 (.int .i64 wide)).set 1 (.slice (some ⟨gy, 0, none⟩) j cy)
            have od := (ho.setOther (wr.heap.size + 1) 0 (.int .i64 wide) (by right; simp [Value.ownBlock]; intro e; exact hne e.symm)).setOther (wr.heap.size + 1) 1 (.slice (some ⟨gy, 0, none⟩) j cy) (by right; simp [Value.ownBlock]; intro e; exact hne e.symm)
            have hb := hH.2
            clear hH bw ho bb fb0 fb1 gb0 gb1 bb0 bc0 hx1 e0 e1
            go_wp2_with fail
            go_meet
            exact ⟨_, gy, cy, rfl, bkd, hcy, od, hb, Nat.le_succ _, hne⟩
          · have bkd : Blk _ wr.heap.size #[.int .i64 wide, .slice (some ⟨gy, 0, none⟩) j cy] 25 := (bb.set 0 (.int .i64 wide)).set 1 (.slice (some ⟨gy, 0, none⟩) j cy)
            have od := (ho.setOther wr.heap.size 0 (.int .i64 wide) (by right; simp [Value.ownBlock]; intro e; exact hne e.symm)).setOther wr.heap.size 1 (.slice (some ⟨gy, 0, none⟩) j cy) (by right; simp [Value.ownBlock]; intro e; exact hne e.symm)
            have hb := hH.2
            clear hH bw ho bb fb0 fb1 gb0 gb1 bb0 bc0 hx1 e0 e1
            go_wp2_with fail
            go_meet
            exact ⟨_, gy, cy, rfl, bkd, hcy, od, hb, Nat.le_refl _, hne⟩
        obtain ⟨gx, gy, cy, rfl, bx, hcy, oy, bel, hgx, hne⟩ := hcut
        have hgy := oy.base.1
        have hgrl := hov2.base.2
        have hgkl := hbk.lt
        have bk2 := hbk.below bel (Nat.le_refl _)
        have ov3 := hov2.below bel (Nat.le_refl _)
        have hBw2 := hBw.trans (bel.mono hBw.size)
        have d1 := bx.at 1 rfl
        have c0 := oy.cell (j := 0) (by rw [HL.out]; omega)
        have c1 := oy.cell (j := 1) (by rw [HL.out]; omega)
        have fz := oy.free HL.out.symm 1
        have bx7 := bx.setOther hne 1 (.int .i64 (nth ys 0))
        have bk7 := bk2.setOther (show gk ≠ gy by omega) 1 (.int .i64 (nth ys 0))
        have ov7 := ov3.setOther gy 1 (.int .i64 (nth ys 0)) (.inr fun e => by have : gr = gy := Option.some.inj e; omega)
        have oy7 := oy.stored HL.out.symm 1 (nth ys 0)
        have B7 := hBw2.setCell (p := ⟨gy, 1, none⟩) (by have := hBw.size; simp; omega) (.int .i64 (nth ys 0))
        have HL7 : Hid ((ys.set 1 (nth ys 0)).length = j) := by have := HL.out; simp [Hid, this]
        clear hbk hov2 e0 e1 bk2 ov3 hBw hBw2 bx oy bel
        generalize ys.set 1 (nth ys 0) = Y at *
        go_wp2
        go_region
        clear d1 c0 c1 fz
        have bx8 : Blk (wc.setCell ⟨gy, 1, none⟩ (.int .i64 (nth ys 0))).drew gx #[.int .i64 wide, .slice (some ⟨gy, 0, none⟩) j cy] 25 := bx7
        have bk8 : Blk (wc.setCell ⟨gy, 1, none⟩ (.int .i64 (nth ys 0))).drew gk #[.int .i64 wide, .slice (some ⟨gr, 0, none⟩) j cr] 25 := bk7
        have ov8 : Own (wc.setCell ⟨gy, 1, none⟩ (.int .i64 (nth ys 0))).drew (gk + 1) (.slice (some ⟨gr, 0, none⟩) j cr) ys.reverse := ov7
        have oy8 : Own (wc.setCell ⟨gy, 1, none⟩ (.int .i64 (nth ys 0))).drew wr.heap.size (.slice (some ⟨gy, 0, none⟩) j cy) Y := oy7
        have B8' := B7.drew
        clear bx7 bk7 ov7 oy7 B7
        generalize (wc.setCell ⟨gy, 1, none⟩ (.int .i64 (nth ys 0))).drew = W8 at *
        have e0 := bk8.at 0 rfl
        have e1 := bk8.at 1 rfl
        go_wp2_with fail
        refine (implBoardValid_any wide (some ⟨gr, 0, none⟩) ys.reverse j cr W8 hLr.out (by omega) ov8.ints).mono fun e w9 h => ?_
        rw [HR.out] at h
        obtain ⟨rfl, b⟩ := h
        have bx9 := bx8.below b (Nat.le_refl _)
        have oy9 := oy8.below b (Nat.le_refl _)
        have B9 := B8'.trans (b.mono B8'.size)
        clear b e0 e1 bx8 oy8 bk8 ov8 B8'
        have e0 := bx9.at 0 rfl
        have e1 := bx9.at 1 rfl
        go_wp2_with fail
        refine (implBoardValid_any wide (some ⟨gy, 0, none⟩) Y j cy w9 HL7.out (by omega) oy9.ints).mono fun e w10 h => ?_
        rw [HT.out] at h
        obtain ⟨rfl, b⟩ := h
        have B10 := B9.trans (b.mono B9.size)
        clear b e0 e1 bx9 oy9 B9
        go_wp2
        go_ret
        exact ⟨rfl, B10⟩
      · have HJ := hid hj
        have hjm : j < m := by omega
        have bk4 := bk.belowLt hB4 hgb3
        have o4 : IntsAt wr (some ⟨g, 0, none⟩) ys := (o.belowLt hB4 hgk).ints
        have e1 := bk4.at 1 rfl
        have d1 := hbk.at 1 rfl
        have dz := hbk.free 1
        have ck := o4.cellAt' (j := k) (by rw [HL.out]; exact hkm)
        have hstep : Hid (ys.reverse.take (j + 1) = ys.reverse.take j ++ [nth ys k]) := by
          have h := rev_take_succ (i := j) HL.out (by omega)
          rw [show m - 1 - j = k from by omega] at h
          exact h
        have hLj : Hid ((ys.reverse.take j).length = j) := by have := HL.out; simp [Hid]; omega
        clear hj
        obtain ⟨i0, hi, hi0, hi1, hi2⟩ := info_parts Try.infoInt
        have hvb := hov.base'
        have hga := hbk.lt
        have hova : Own ((wr.alloc (.cells #[.int .i64 (nth ys k)] 3)).drew) (gk + 1) v (ys.reverse.take j) := hov.alloc _
        have hba : Blk ((wr.alloc (.cells #[.int .i64 (nth ys k)] 3)).drew) gk #[.int .i64 wide, v] 25 := hbk.alloc _
        have hBa : Below gk W4 ((wr.alloc (.cells #[.int .i64 (nth ys k)] 3)).drew) := (hB4.alloc (by omega) _).drew
        have hnw : ∀ q u, [Value.int .i64 (nth ys k)][q]? = some u → ((wr.alloc (.cells #[.int .i64 (nth ys k)] 3)).drew).cell? ((⟨wr.heap.size, 0, none⟩ : Addr).add q) = some u := cell1 wr _ _
        have hsa : ((wr.alloc (.cells #[.int .i64 (nth ys k)] 3)).drew).heap.size = wr.heap.size + 1 := by simp
        have hbv : some gk ≠ v.ownBlock := by
          rcases hvb with e | e
          · rw [e]; simp
          · intro e2; have := (e gk e2.symm).1; omega
        have hbv2 : ∀ q, v.ownBlock = some q → gk ≤ q := fun q hq => by
          rcases hvb with e | e
          · rw [e] at hq; cases hq
          · have := (e q hq).1; omega
        generalize hgL : ys.reverse.take j = L at *
        have q1 : j + 1 ≤ maxLen := by unfold maxLen; omega
        have q2 : (j + 1) * 8 ≤ 140737488355328 := by omega
        have q3 : gk + 1 ≤ ((wr.alloc (.cells #[.int .i64 (nth ys k)] 3)).drew).heap.size := by rw [hsa]; omega
        have hovb : ((wr.alloc (.cells #[.int .i64 (nth ys k)] 3)).drew).ownsRow (gk + 1) 3 1 v j (L.map (Value.int .i64)) := by
          have := hova; unfold Own at this; rw [hLj.out] at this; exact this
        clear hova hov
        go_wp2_with fail
        go_upto_region 13 with fail
        go_region_law (first | (refine step_append_lies _ rfl (.tmp 39) (.tmp 45) 23 rfl (gk + 1) 3 i0 (.int .i64 0) 1 8 Try.underlying23 hi hi0 hi1 hi2 rfl (by decide) v j (L.map (Value.int .i64)) (by simp [Act.eval]; done) hovb ⟨wr.heap.size, 0, none⟩ 1 1 [.int .i64 (nth ys k)] (by simp [Act.eval]; done) rfl hnw (cell1_one _) (Nat.zero_lt_one) q1 q2 q3 (wr.heap.size + 1) hsa ?_
                                intro g5 c5 w5 hown' hgrow hat hlt
                                have hb5 := hba.kept hgrow hbv
                                have d15 := hb5.at 1 rfl
                                have dz5 := hb5.free 1))
        all_goals
          have ho5 : Own w5 (gk + 1) (.slice (some ⟨g5, 0, none⟩) (j + 1) c5) (L ++ [nth ys k]) := by
            unfold Own
            rw [List.length_append, List.map_append, hLj.out]
            exact hown'
          have hB5 := hBa.grown hgrow (by rw [hsa]; omega) hbv2
          have hs5 : W4.heap.size ≤ w5.heap.size := by have := hgrow.size; rw [hsa] at this; omega
          have hb6 : Blk (w5.setCell ⟨gk, 1, none⟩ (.slice (some ⟨g5, 0, none⟩) (j + 1) c5)) gk #[.int .i64 wide, .slice (some ⟨g5, 0, none⟩) (j + 1) c5] 25 := hb5.set 1 (.slice (some ⟨g5, 0, none⟩) (j + 1) c5)
          have ho6 := ho5.setOther gk 1 (.slice (some ⟨g5, 0, none⟩) (j + 1) c5) (ho5.ne_of_lt (by omega))
          have hB6 := hB5.setCell (p := ⟨gk, 1, none⟩) (Nat.le_refl _) (.slice (some ⟨g5, 0, none⟩) (j + 1) c5)
          have hs6 : W4.heap.size ≤ (w5.setCell ⟨gk, 1, none⟩ (.slice (some ⟨g5, 0, none⟩) (j + 1) c5)).heap.size := by simp; omega
          clear hown' hgrow hat hlt hovb hba hBa hnw hsa hbv hbv2 q3 ho5 hB5 hb5 d15 dz5 ck e1 d1 dz hbk hB4
          generalize (w5.setCell ⟨gk, 1, none⟩ (.slice (some ⟨g5, 0, none⟩) (j + 1) c5)) = W6 at *
          go_wp2
          go_roundw
          case rel =>
            have hj := HJ.out
            refine ⟨j + 1, ?_, _, hb6, by rw [hstep.out]; exact ho6, hB6, hs6⟩
            by_cases hk0 : k = 0
            · subst hk0; exact .inl ⟨by go_num, by omega⟩
            · exact .inr ⟨k - 1, by go_num, by omega, by omega⟩
          case measure => simp [intOf]

end Go.Proofs.Ytajfanncdfdalaa
