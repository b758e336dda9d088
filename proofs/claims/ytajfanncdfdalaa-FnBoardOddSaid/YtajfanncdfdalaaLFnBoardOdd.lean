/- The walk of the law FnBoardOdd. -/
import Derived.Test.YtajfanncdfdalaaBv
import Derived.Test.YtajfanncdfdalaaTp
import Derived.Test.YtajfanncdfdalaaAl
import Derived.Test.YtajfanncdfdalaaDd
import Derived.Test.YtajfanncdfdalaaCb
namespace Go.Proofs.Ytajfanncdfdalaa
open Go Go.RowKit

theorem odd_adj {wide : Int} {xs : List Int} (h : BoardOk wide xs) {k : Nat} (hk : k + 1 < xs.length) : oddB wide ((xs.set k (nth xs (k + 1))).set (k + 1) (nth xs k)) = !(oddB wide xs) := (odd_xch h (Nat.lt_succ_self k) hk).2

set_option maxRecDepth 100000 in
set_option maxHeartbeats 4000000 in
theorem fnBoardOdd_walk (w : World) (ao : Option Addr) (bs : List Int) (l c : Nat) (hn : bs.length = l) (hlc : l ≤ c) (hcm : c ≤ 9223372036854775807) (hx : BytesAt w ao bs) (h8 : B8 bs) :
    Calls Try.prog 6 #[.slice ao l c] w fun e w' => e = .returned (.bool true) ∧ Below w.heap.size w w' := by
  by_cases hbig : 1048576 < l
  · have hd : decide ((1048576 : Int) < l) = true := decide_eq_true (by omega)
    clear hx hn h8
    go_enter Try.func6, Try.ntmps6
    go_wp2
    go_ret
    exact ⟨rfl, Below.refl _ _⟩
  have hd : decide ((1048576 : Int) < l) = false := decide_eq_false (by omega)
  go_enter Try.func6, Try.ntmps6
  go_wp2_with fail
  refine (drawBoardOdd_any ao bs l c w hn hlc hcm hx h8).mono fun e w1 h => ?_
  obtain ⟨wide, ao1, m, c1, ys, rfl, hl, hmc, hm9, hwd, o, B⟩ := h
  clear hx h8 hn hd hbig
  have HL := hid hl
  clear hl
  have bk := Blk.new w1 #[.int .i64 wide, .slice ao1 m c1] 25
  have o := o.alloc (.cells #[.int .i64 wide, .slice ao1 m c1] 25)
  have hgbw : w.heap.size ≤ w1.heap.size := B.size
  have B := B.alloc B.size (.cells #[.int .i64 wide, .slice ao1 m c1] 25)
  go_wp2_with fail
  generalize (w1.alloc (.cells #[.int .i64 wide, .slice ao1 m c1] 25)) = W at *
  generalize w1.heap.size = gb at *
  obtain ⟨od, hod⟩ : ∃ od, oddB wide ys = od := ⟨_, rfl⟩
  have HD := hid hod
  clear hod
  refine (implBoardOdd_any wide ao1 ys m c1 W HL.out (by omega) hmc o.ints).mono fun e w2 h => ?_
  rw [HD.out] at h
  obtain ⟨rfl, b⟩ := h
  have o := o.below b (Nat.le_refl _)
  have bk := bk.below b (Nat.le_refl _)
  have B := B.trans (b.mono B.size)
  clear b
  have e0 := bk.at 0 rfl
  have e1 := bk.at 1 rfl
  go_wp2_with fail
  refine (specBoardOdd_any wide ao1 ys m c1 w2 HL.out (by omega) hmc o.ints).mono fun e w3 h => ?_
  rw [HD.out] at h
  obtain ⟨rfl, b⟩ := h
  have o := o.below b (Nat.le_refl _)
  have bk := bk.below b (Nat.le_refl _)
  have B := B.trans (b.mono B.size)
  clear b e0 e1
  have e0 := bk.at 0 rfl
  have e1 := bk.at 1 rfl
  have hbb : (od != od) = false := by simp
  go_wp2_with fail
  refine (specBoardValid_any wide ao1 ys m c1 w3 HL.out (by omega) hmc o.ints).mono fun e w4 h => ?_
  cases hok : boardB wide ys with
  | false =>
    rw [hok] at h
    obtain ⟨rfl, b⟩ := h
    have B := B.trans (b.mono B.size)
    obtain rfl : od = false := by rw [← HD.out]; exact oddB_out hok
    clear b e0 e1 bk o
    go_wp2_with fail
    refine (alive_any w4).mono fun e w6 h => ?_
    obtain ⟨rfl, b⟩ := h
    have B := B.trans (b.mono B.size)
    clear b
    go_wp2
    go_ret
    exact ⟨rfl, B⟩
  | true =>
    rw [hok] at h
    obtain ⟨rfl, b⟩ := h
    have HO := hid (boardB_iff.1 hok)
    have hm2 : 2 ≤ m := by have := HO.out.1; rw [HL.out] at this; exact this
    have o := o.below b (Nat.le_refl _)
    have bk := bk.below b (Nat.le_refl _)
    have B := B.trans (b.mono B.size)
    clear b e0 e1 hok hbb
    obtain ⟨g, rfl⟩ := o.addr (by rw [HL.out]; omega)
    have hgg := o.base.2
    have hgbb := bk.lt
    go_wp2_with fail
    go_loopw [5, 6] (fun i _ wr => ∃ k : Nat, k + 1 ≤ m ∧ i = .int .i64 ((k : Int) + 1) ∧ Below w4.heap.size w4 wr) (fun i _ _ => m - (intOf i).toNat)
    case atStart => exact ⟨0, by omega, rfl, Below.refl _ _⟩
    case round =>
      obtain ⟨k, hk, rfl, hbr⟩ := hrel
      have o := o.below hbr (Nat.le_refl _)
      have bk := bk.below hbr (Nat.le_refl _)
      have B := B.trans (hbr.mono B.size)
      have e0 := bk.at 0 rfl
      have e1 := bk.at 1 rfl
      by_cases hlt : k + 1 < m
      · have hd2 : decide ((k : Int) + 1 < m) = true := decide_eq_true (by omega)
        go_wp2_with fail
        have lt_g := bk.lt
        have hx1 := o.ints
        have hml : Hid ((ys.map (Value.int .i64)).length = m * 1) := by have := HL.out; simpa [Hid] using this
        have hn0 : 0 < ys.length := by rw [HL.out]; omega
        have q7 : 0 < 0 + m := by omega
        have q8 : 0 + m ≤ maxLen := by unfold maxLen; omega
        have q9 : (0 + m) * 8 ≤ 140737488355328 := by omega
        obtain ⟨i0, hi, hi0, hi1, hi2⟩ := info_parts Try.infoInt
        have bb0 : Blk (((wr.alloc (.cells #[] 3)).alloc (.cells #[.int .i64 0, .slice none 0 0] 25)).drew) (wr.heap.size + 1) #[.int .i64 0, .slice none 0 0] 25 := Blk.new' (wr.alloc (.cells #[] 3)) _ _ (by simp)
        have bc0 : Blk (((wr.alloc (.cells #[.int .i64 0, .slice none 0 0] 25)).alloc (.cells #[] 3)).drew) wr.heap.size #[.int .i64 0, .slice none 0 0] 25 := (Blk.new wr _ _).alloc _
        go_upto_region 12 with fail
        go_cut [6] (fun x wx => CopyB wr wide m ys x wx)
        case first =>
          go_region_held3 (fun w' => (∀ b o, b < wr.heap.size → w'.cell? ⟨b, o, none⟩ = wr.cell? ⟨b, o, none⟩) ∧ Below wr.heap.size wr w')
            (first | with_reducible exact sb_drew _ | with_reducible exact sb_ad _ _ | with_reducible exact sb_aad _ _ _ | with_reducible exact sb_of ‹_› | with_reducible exact sb_alloc ‹_› _ | with_reducible exact sb_alloc (sb_of ‹_›) _ | with_reducible exact sb_set (sb_set ‹_› (Nat.le_succ _) _ _) (Nat.le_succ _) _ _ | with_reducible exact sb_set (sb_set ‹_› (Nat.le_refl _) _ _) (Nat.le_refl _) _ _)
            (first | (refine step_append_grows rfl (.tmp 35) (.tmp 37) 23 rfl 3 i0 (.int .i64 0) 1 8 Try.underlying23 hi hi0 hi1 hi2 rfl (by decide) (some ⟨wr.heap.size, 0, none⟩) 0 0 [] (by simp [Act.eval]; done) (by intro h; cases h) rfl (by intro b _ j u hj; simp at hj) ⟨g, 0, none⟩ m c1 (ys.map (Value.int .i64)) (by simp [Act.eval]) hml.out (cells_of (hx1.below (sb_below ‹_›) (Nat.le_refl _))) (ints_oneCell _ _) q7 q8 q9 ?_
                      intro v' w2 hown hgrow
                      have bw : Below wr.heap.size wr w2 := sb_grown ‹_› hgrow
                      have hoq : ∃ v0 cy gy, v' = v0 ∧ v0 = .slice (some ⟨gy, 0, none⟩) m cy ∧ m ≤ cy ∧ Own w2 wr.heap.size v0 ys := Own.grown4 (Own.fresh hown HL.out (sb_size ‹_›)) HL.out hn0
                      obtain ⟨v0, cy, gy, rfl, rfl, hcy, ho⟩ := hoq
                      have bb := bb0.kept hgrow (Option.some_ne_none _)
                      have fb0 := bb.free 0
                      have fb1 := bb.free 1
                      have gb0 := bb.cell 0
                      have gb1 := bb.cell 1
                      have hne := own_ne bb0 hown hgrow
                      clear hown hgrow)
                   | (refine step_append_grows rfl (.tmp 35) (.tmp 37) 23 rfl 3 i0 (.int .i64 0) 1 8 Try.underlying23 hi hi0 hi1 hi2 rfl (by decide) (some ⟨wr.heap.size + 1, 0, none⟩) 0 0 [] (by simp [Act.eval]; done) (by intro h; cases h) rfl (by intro b _ j u hj; simp at hj) ⟨g, 0, none⟩ m c1 (ys.map (Value.int .i64)) (by simp [Act.eval]) hml.out (cells_of (hx1.below (sb_below ‹_›) (Nat.le_refl _))) (ints_oneCell _ _) q7 q8 q9 ?_
                      intro v' w2 hown hgrow
                      have bw : Below wr.heap.size wr w2 := sb_grown ‹_› hgrow
                      have hoq : ∃ v0 cy gy, v' = v0 ∧ v0 = .slice (some ⟨gy, 0, none⟩) m cy ∧ m ≤ cy ∧ Own w2 wr.heap.size v0 ys := Own.grown4 (Own.fresh hown HL.out (sb_size ‹_›)) HL.out hn0
                      obtain ⟨v0, cy, gy, rfl, rfl, hcy, ho⟩ := hoq
                      have bb := bc0.kept hgrow (Option.some_ne_none _)
                      have fb0 := bb.free 0
                      have fb1 := bb.free 1
                      have gb0 := bb.cell 0
                      have gb1 := bb.cell 1
                      have hne := own_ne bc0 hown hgrow
                      clear hown hgrow)
                   | (refine step_append_grows rfl (.tmp 35) (.tmp 37) 23 rfl 3 i0 (.int .i64 0) 1 8 Try.underlying23 hi hi0 hi1 hi2 rfl (by decide) (some ⟨wr.heap.size, 0, none⟩) 0 0 [] (by simp [Act.eval]; done) (by intro h; cases h) rfl (by intro b _ j u hj; simp at hj) ⟨g, 0, none⟩ m c1 (ys.map (Value.int .i64)) (by simp [Act.eval]) hml.out (cells_of (hx1.below (sb_below ‹_›) (Nat.le_refl _))) (ints_oneCell _ _) q7 q8 q9 ?_
                      intro v' w2 hown hgrow
                      have bw : Below wr.heap.size wr w2 := sb_grown ‹_› hgrow
                      have hoq : ∃ v0 cy gy, v' = v0 ∧ v0 = .slice (some ⟨gy, 0, none⟩) m cy ∧ m ≤ cy ∧ Own w2 wr.heap.size v0 ys := Own.grown4 (Own.fresh hown HL.out (sb_size ‹_›)) HL.out hn0
                      obtain ⟨v0, cy, gy, rfl, rfl, hcy, ho⟩ := hoq
                      clear hown hgrow))
          all_goals rename_i hH
          · have hne : w2.heap.size ≠ gy := by have := ho.base.2; omega
            have bkd := Blk.new w2 #[.int .i64 wide, .slice (some ⟨gy, 0, none⟩) m cy] 25
            have od := ho.alloc (.cells #[.int .i64 wide, .slice (some ⟨gy, 0, none⟩) m cy] 25)
            have hb := hH.2
            have hsz := bw.size
            clear hH bw ho bb0 bc0 hx1 e0 e1
            go_wp2_with fail
            go_meet
            exact ⟨_, gy, cy, rfl, bkd, hcy, od, hb, hsz, hne⟩
          · have bkd : Blk _ (wr.heap.size + 1) #[.int .i64 wide, .slice (some ⟨gy, 0, none⟩) m cy] 25 := (bb.set 0 (.int .i64 wide)).set 1 (.slice (some ⟨gy, 0, none⟩) m cy)
            have od := (ho.setOther (wr.heap.size + 1) 0 (.int .i64 wide) (by right; simp [Value.ownBlock]; intro e; exact hne e.symm)).setOther (wr.heap.size + 1) 1 (.slice (some ⟨gy, 0, none⟩) m cy) (by right; simp [Value.ownBlock]; intro e; exact hne e.symm)
            have hb := hH.2
            clear hH bw ho bb fb0 fb1 gb0 gb1 bb0 bc0 hx1 e0 e1
            go_wp2_with fail
            go_meet
            exact ⟨_, gy, cy, rfl, bkd, hcy, od, hb, Nat.le_succ _, hne⟩
          · have bkd : Blk _ wr.heap.size #[.int .i64 wide, .slice (some ⟨gy, 0, none⟩) m cy] 25 := (bb.set 0 (.int .i64 wide)).set 1 (.slice (some ⟨gy, 0, none⟩) m cy)
            have od := (ho.setOther wr.heap.size 0 (.int .i64 wide) (by right; simp [Value.ownBlock]; intro e; exact hne e.symm)).setOther wr.heap.size 1 (.slice (some ⟨gy, 0, none⟩) m cy) (by right; simp [Value.ownBlock]; intro e; exact hne e.symm)
            have hb := hH.2
            clear hH bw ho bb fb0 fb1 gb0 gb1 bb0 bc0 hx1 e0 e1
            go_wp2_with fail
            go_meet
            exact ⟨_, gy, cy, rfl, bkd, hcy, od, hb, Nat.le_refl _, hne⟩
        obtain ⟨gx, gy, cy, rfl, bx, hcy, oy, bel, hgx, hne⟩ := hcut
        have hodd : Hid (oddB wide ((ys.set k (nth ys (k + 1))).set (k + 1) (nth ys k)) = !od) := by rw [← HD.out]; exact odd_adj HO.out (by rw [HL.out]; exact hlt)
        have hgy := oy.base.1
        have hgg2 := o.base.2
        have hgbl := bk.lt
        have bk2 := bk.below bel (Nat.le_refl _)
        have o2 := o.below bel (Nat.le_refl _)
        have hbr2 := hbr.trans (bel.mono hbr.size)
        have hrs := hbr.size
        have e0 := bk2.at 0 rfl
        have e1 := bk2.at 1 rfl
        have d1 := bx.at 1 rfl
        have ck := o2.cell (j := k) (by rw [HL.out]; omega)
        have ck1 := o2.cell (j := k + 1) (by rw [HL.out]; omega)
        have y0 := oy.cell (j := k) (by rw [HL.out]; omega)
        have fy0 := oy.free HL.out.symm k
        have oy3 := oy.stored HL.out.symm k (nth ys (k + 1))
        have hl3 : (ys.set k (nth ys (k + 1))).length = m := by have := HL.out; simp [this]
        have y1 := oy3.cell (j := k + 1) (by omega)
        have fy1 := oy3.free hl3.symm (k + 1)
        have oy4 := oy3.stored hl3.symm (k + 1) (nth ys k)
        have HL4 : Hid (((ys.set k (nth ys (k + 1))).set (k + 1) (nth ys k)).length = m) := by have := HL.out; simp [Hid, this]
        have bx4 := (bx.setOther hne k (.int .i64 (nth ys (k + 1)))).setOther hne (k + 1) (.int .i64 (nth ys k))
        have d1s := (bx.setOther hne k (.int .i64 (nth ys (k + 1)))).at 1 rfl
        have e1s := (bk2.setOther (show gb ≠ gy by omega) k (.int .i64 (nth ys (k + 1)))).at 1 rfl
        have cks := (o2.setOther gy k (.int .i64 (nth ys (k + 1))) (.inr fun e => by have : g = gy := Option.some.inj e; omega)).cell (j := k) (by rw [HL.out]; omega)
        have hbr4 := (hbr2.setCell (p := ⟨gy, k, none⟩) (by simp; omega) (.int .i64 (nth ys (k + 1)))).setCell (p := ⟨gy, k + 1, none⟩) (by simp; omega) (.int .i64 (nth ys k))
        have hk1 : ((k : Int) + 1).toNat = k + 1 := by omega
        have hkk : ((k : Int) + 1 - 1).toNat = k := by omega
        have hneg : gb ≠ gy := by omega
        have hggy : g ≠ gy := by omega
        clear o bk bx oy bel o2 bk2 oy3 hl3 hbr2
        go_wp2
        go_region
        go_wp2
        go_region
        clear e0 e1 d1 ck ck1 y0 fy0 y1 fy1 d1s e1s cks
        have bx8 : Blk (((wc.setCell ⟨gy, k, none⟩ (.int .i64 (nth ys (k + 1)))).setCell ⟨gy, k + 1, none⟩ (.int .i64 (nth ys k))).drew.drew) gx #[.int .i64 wide, .slice (some ⟨gy, 0, none⟩) m cy] 25 := bx4
        have oy8 : Own (((wc.setCell ⟨gy, k, none⟩ (.int .i64 (nth ys (k + 1)))).setCell ⟨gy, k + 1, none⟩ (.int .i64 (nth ys k))).drew.drew) wr.heap.size (.slice (some ⟨gy, 0, none⟩) m cy) ((ys.set k (nth ys (k + 1))).set (k + 1) (nth ys k)) := oy4
        have hbr8 : Below w4.heap.size w4 (((wc.setCell ⟨gy, k, none⟩ (.int .i64 (nth ys (k + 1)))).setCell ⟨gy, k + 1, none⟩ (.int .i64 (nth ys k))).drew.drew) := ⟨hbr4.os, hbr4.tape, hbr4.output, hbr4.size, hbr4.block⟩
        clear bx4 oy4 hbr4
        generalize (ys.set k (nth ys (k + 1))).set (k + 1) (nth ys k) = Y at *
        generalize (((wc.setCell ⟨gy, k, none⟩ (.int .i64 (nth ys (k + 1)))).setCell ⟨gy, k + 1, none⟩ (.int .i64 (nth ys k))).drew.drew) = W8 at *
        have e0 := bx8.at 0 rfl
        have e1 := bx8.at 1 rfl
        have hbn : ((!od) == od) = false := by cases od <;> rfl
        go_wp2_with fail
        refine (implBoardOdd_any wide (some ⟨gy, 0, none⟩) Y m cy W8 HL4.out (by omega) hcy oy8.ints).mono fun e w9 h => ?_
        rw [hodd.out] at h
        obtain ⟨rfl, b⟩ := h
        have hbr9 := hbr8.trans (b.mono hbr8.size)
        clear b e0 e1 bx8 oy8 hbr8
        go_wp2
        go_roundw
        case rel => exact ⟨k + 1, by omega, by go_num, hbr9⟩
        case measure => simp [intOf]; omega
      · have hd2 : decide ((k : Int) + 1 < m) = false := decide_eq_false (by omega)
        clear o bk
        go_wp2
        go_ret
        exact ⟨rfl, B⟩

end Go.Proofs.Ytajfanncdfdalaa
