/- The walk of the law FnTilesRun. -/
import Derived.Test.YtncebcgiljkbnaaTh
import Derived.Test.YtncebcgiljkbnaaTx
import Derived.Test.YtncebcgiljkbnaaSb
import Derived.Test.YtncebcgiljkbnaaAl
import Derived.Test.YtncebcgiljkbnaaDt
import Derived.Test.YtncebcgiljkbnaaCb
namespace Go.Proofs.Ytncebcgiljkbnaa
open Go Go.RowKit

theorem own_sb {W w0 : World} {B : Nat} {v : Value} {ys : List Int} (h : (∀ b o, b < W.heap.size → w0.cell? ⟨b, o, none⟩ = W.cell? ⟨b, o, none⟩) ∧ Below W.heap.size W w0) (ho : Own W B v ys) : Own w0 B v ys := ho.below h.2 (Nat.le_refl _)

theorem ints_sb {W w0 : World} {ao : Option Addr} {ys : List Int} (h : (∀ b o, b < W.heap.size → w0.cell? ⟨b, o, none⟩ = W.cell? ⟨b, o, none⟩) ∧ Below W.heap.size W w0) (ho : IntsAt W ao ys) : IntsAt w0 ao ys := ho.below h.2 (Nat.le_refl _)

theorem ints_drop {w : World} {B g n c : Nat} {xs : List Int} (h : Own w B (.slice (some ⟨g, 0, none⟩) n c) xs) (a : Nat) : IntsAt w (some ⟨g, a, none⟩) (xs.drop a) := by
  intro h0
  refine ⟨g, a, rfl, fun j hj => ?_⟩
  have hj2 : a + j < xs.length := by rw [List.length_drop] at hj; omega
  rw [h.cell hj2]
  congr 2
  rw [nth_eq hj2, nth_eq hj, List.getElem_drop]

set_option maxRecDepth 100000 in
set_option maxHeartbeats 4000000 in
theorem fnTilesRun_walk (w : World) (ao : Option Addr) (bs : List Int) (l c : Nat) (hn : bs.length = l) (hlc : l ≤ c) (hcm : c ≤ 9223372036854775807) (hx : BytesAt w ao bs) (h8 : B8 bs) :
    Calls Try.prog 6 #[.slice ao l c] w fun e w' => e = .returned (.bool true) ∧ Below w.heap.size w w' := by
  by_cases hbig : 1048576 < l
  · have hd : decide ((1048576 : Int) < l) = true := decide_eq_true (by omega)
    clear hx hn h8
    go_enter Try.func6, Try.ntmps6
    go_wp2
    go_ret
    exact ⟨rfl, Below.refl _ _⟩
  have hd : decide ((1048576 : Int) < l) = false := decide_eq_false (by omega)
  go_enter Try.func6, Try.ntmps6
  go_wp2_with fail
  refine (drawTilesRun_any ao bs l c w hn hlc hcm hx h8).mono fun e w1 h => ?_
  obtain ⟨wide, ao1, m, c1, ys, gt, k, d, ts, rfl, hl, hmc, hm9, htl, hkd, hk1, o, ot, B⟩ := h
  clear hx h8 hn hd hbig
  have HL := hid hl
  have HT := hid htl
  clear hl htl
  have bk := Blk.new w1 #[.int .i64 wide, .slice ao1 m c1] 26
  have o := o.alloc (.cells #[.int .i64 wide, .slice ao1 m c1] 26)
  have ot := ot.alloc (.cells #[.int .i64 wide, .slice ao1 m c1] 26)
  have B := B.alloc B.size (.cells #[.int .i64 wide, .slice ao1 m c1] 26)
  go_wp2_with fail
  generalize (w1.alloc (.cells #[.int .i64 wide, .slice ao1 m c1] 26)) = W at *
  generalize w1.heap.size = gb at *
  obtain ⟨N, hN⟩ : ∃ N, (trL wide ys ts).length = N := ⟨_, rfl⟩
  have hNl := length_trL wide ys ts
  rw [hN] at hNl
  have HN := hid hN
  obtain ⟨X, hX⟩ : ∃ X, trL wide ys ts = X := ⟨_, rfl⟩
  obtain ⟨wx, hwx⟩ : ∃ wx, trW wide ys ts = wx := ⟨_, rfl⟩
  obtain ⟨ok, hok⟩ : ∃ ok, trB wide ys ts = ok := ⟨_, rfl⟩
  rw [hX] at HN
  have HX := hid hX
  have HWX := hid hwx
  have HOK := hid hok
  clear hX hwx hok hN
  refine (implTilesRun_any wide ao1 ys m c1 (some ⟨gt, 0, none⟩) ts k d W HL.out (by omega) o.ints HT.out (by omega) ot.ints).mono fun e w2 h => ?_
  rw [HX.out, HWX.out, HOK.out] at h
  obtain ⟨ax, cx, rfl, hcx, ox, b⟩ := h.to HN.out
  clear h
  have o := o.below b (Nat.le_refl _)
  have ot := ot.below b (Nat.le_refl _)
  have bk := bk.below b (Nat.le_refl _)
  have B := B.trans (b.mono B.size)
  clear b
  have hgbl := bk.lt
  have bx := Blk.new w2 #[.int .i64 wx, .slice ax N cx] 26
  have o := o.alloc (.cells #[.int .i64 wx, .slice ax N cx] 26)
  have ot := ot.alloc (.cells #[.int .i64 wx, .slice ax N cx] 26)
  have bk := bk.alloc (.cells #[.int .i64 wx, .slice ax N cx] 26)
  have ox := ox.alloc (.cells #[.int .i64 wx, .slice ax N cx] 26)
  have B := B.alloc B.size (.cells #[.int .i64 wx, .slice ax N cx] 26)
  have e0 := bk.at 0 rfl
  have e1 := bk.at 1 rfl
  go_wp2_with fail
  generalize (w2.alloc (.cells #[.int .i64 wx, .slice ax N cx] 26)) = W2 at *
  generalize w2.heap.size = gx at *
  refine (specTilesRun_any wide ao1 ys m c1 (some ⟨gt, 0, none⟩) ts k d W2 HL.out (by omega) hmc o.ints HT.out (by omega) ot.ints).mono fun e w3 h => ?_
  rw [HX.out, HWX.out, HOK.out] at h
  obtain ⟨ay, cy, rfl, hcy, oy, b⟩ := h.to HN.out
  clear h
  clear e0 e1
  have o := o.below b (Nat.le_refl _)
  have ot := ot.below b (Nat.le_refl _)
  have bk := bk.below b (Nat.le_refl _)
  have ox := ox.below b (Nat.le_refl _)
  have bx := bx.below b (Nat.le_refl _)
  have B := B.trans (b.mono B.size)
  clear b
  have hgbl3 := bk.lt
  have hgxl3 := bx.lt
  have bY := Blk.new w3 #[.int .i64 wx, .slice ay N cy] 26
  have o := o.alloc (.cells #[.int .i64 wx, .slice ay N cy] 26)
  have ot := ot.alloc (.cells #[.int .i64 wx, .slice ay N cy] 26)
  have bk := bk.alloc (.cells #[.int .i64 wx, .slice ay N cy] 26)
  have ox := ox.alloc (.cells #[.int .i64 wx, .slice ay N cy] 26)
  have bx := bx.alloc (.cells #[.int .i64 wx, .slice ay N cy] 26)
  have oy := oy.alloc (.cells #[.int .i64 wx, .slice ay N cy] 26)
  have B := B.alloc B.size (.cells #[.int .i64 wx, .slice ay N cy] 26)
  have d0 := bx.at 0 rfl
  have d1 := bx.at 1 rfl
  go_wp2_with fail
  generalize (w3.alloc (.cells #[.int .i64 wx, .slice ay N cy] 26)) = W3 at *
  generalize w3.heap.size = gy at *
  refine (sameBoard_self wx ax ay X N cx cy W3 HN.out (by omega) ox.ints oy.ints).mono fun e w4 h => ?_
  obtain ⟨rfl, b⟩ := h
  clear d0 d1
  have o := o.below b (Nat.le_refl _)
  have ot := ot.below b (Nat.le_refl _)
  have bk := bk.below b (Nat.le_refl _)
  have ox := ox.below b (Nat.le_refl _)
  have bx := bx.below b (Nat.le_refl _)
  have oy := oy.below b (Nat.le_refl _)
  have bY := bY.below b (Nat.le_refl _)
  have B := B.trans (b.mono B.size)
  clear b
  clear oy bY
  have hokk : (ok != ok) = false := by simp
  cases ok with
  | false =>
    obtain rfl : wx = 0 := by rw [← HWX.out]; exact run_not HOK.out
    have d0 := bx.at 0 rfl
    have d1 := bx.at 1 rfl
    clear o ot ox bk bx
    go_wp2_with fail
    refine (alive_any w4).mono fun e w6 h => ?_
    obtain ⟨rfl, b⟩ := h
    have B := B.trans (b.mono B.size)
    clear b
    go_wp2
    go_ret
    exact ⟨rfl, B⟩
  | true =>
    obtain ⟨q1, q2, q3, q4, q5, q6, ⟨r1, r2, r3⟩, q8⟩ := run_all HOK.out
    rw [HX.out] at q4 q5 q6 r1 r2 r3
    obtain rfl : wx = wide := by rw [← HWX.out]; exact q3
    obtain rfl : N = m := by rw [← HN.out, q5]; exact HL.out
    have hk99 : k ≤ 99 := by rw [← HT.out]; exact q2
    have hmay := hid q6
    have R1 := hid r1
    have R2 := hid r2
    have R3 := hid r3
    obtain ⟨ps, p0, ⟨p1, p2, p3⟩, ⟨p4, p5, p6⟩⟩ := q8 (k / 2)
    rw [HX.out] at p5
    have HPS : Hid (ps.length = N) := p0.trans HL.out
    have P1 := hid p1
    have P2 := hid p2
    have P3 := hid p3
    have P4 := hid p4
    have P5 := hid p5
    have P6 := hid p6
    have hN2 : 2 ≤ N := by have := q1.1; rw [HL.out] at this; exact this
    clear q1 q2 q3 q4 q5 q6 r1 r2 r3 q8 p0 p1 p2 p3 p4 p5 p6
    have ot0 := ot.base.2
    have ob4 := o.base'
    have bk40 := bk.lt
    have bx40 := bx.lt
    have ox40 := ox.base'
    have bb := Own.lit0 w4 (B := w4.heap.size) (Nat.le_refl _)
    have o4 := o
    have ot4 := ot
    have bk4 := bk
    have ox4 := ox
    have bx4 := bx
    have B40 := B
    have hAl := (Below.refl w4.heap.size w4).alloc (Nat.le_refl _) (.cells #[] 3)
    have o := o.alloc (.cells #[] 3)
    have ot := ot.alloc (.cells #[] 3)
    have bk := bk.alloc (.cells #[] 3)
    have ox := ox.alloc (.cells #[] 3)
    have bx := bx.alloc (.cells #[] 3)
    have B := B.alloc B.size (.cells #[] 3)
    have hgt4 : gt < w4.heap.size := ot0
    have hw4s : (w4.alloc (.cells #[] 3)).heap.size = w4.heap.size + 1 := by simp
    go_wp2_with fail
    generalize (w4.alloc (.cells #[] 3)) = W4 at *
    go_loopw [9, 10] (fun v i wr => ∃ j : Nat, ((i = .int .i64 (-1) ∧ j = k) ∨ ∃ q : Nat, i = .int .i64 q ∧ q < k ∧ j = k - 1 - q) ∧ ∃ g5 c5, v = .slice (some ⟨g5, 0, none⟩) j c5 ∧ Own wr w4.heap.size v (ts.reverse.take j) ∧ Below w4.heap.size W4 wr ∧ W4.heap.size ≤ wr.heap.size) (fun _ i _ => (intOf i + 1).toNat)
    case atStart =>
      refine ⟨0, ?_, w4.heap.size, 0, rfl, by rw [List.take_zero]; exact bb, Below.refl _ _, Nat.le_refl _⟩
      by_cases hk0 : k = 0
      · subst hk0; exact .inl ⟨by go_num, rfl⟩
      · exact .inr ⟨k - 1, by go_num, by omega, by omega⟩
    case round =>
      obtain ⟨j, hcase, g5, c5, rfl, hov, hB4, hsz4⟩ := hrel
      clear bb
      have hgtl := ot.base.2
      rcases hcase with ⟨rfl, hjm⟩ | ⟨q, rfl, hqk, hj⟩
      · subst hjm
        have hfull : Hid (ts.reverse.take j = ts.reverse) := List.take_of_length_le (by have := HT.out; simp; omega)
        rw [hfull.out] at hov
        have hLr : Hid (ts.reverse.length = j) := by have := HT.out; simp [Hid]; omega
        have BW := hAl.trans hB4
        have o := o4.below BW (Nat.le_refl _)
        have ot := ot4.below BW (Nat.le_refl _)
        have bk := bk4.below BW (Nat.le_refl _)
        have ox := ox4.below BW (Nat.le_refl _)
        have bx := bx4.below BW (Nat.le_refl _)
        have B := B40.trans (BW.mono B40.size)
        clear hAl hB4 BW o4 ot4 bk4 ox4 bx4 B40 hfull
        have d0 := bx.at 0 rfl
        have d1 := bx.at 1 rfl
        go_wp2_with fail
        refine (implTilesRun_any wx ax X N cx (some ⟨g5, 0, none⟩) ts.reverse j c5 wr HN.out (by omega) ox.ints hLr.out (by omega) hov.ints).mono fun e w5 h => ?_
        rw [R1.out, R2.out, R3.out] at h
        obtain ⟨az, cz, rfl, hcz, oz, b⟩ := h.to HL.out
        clear h
        clear d0 d1
        have o := o.below b (Nat.le_refl _)
        have ot := ot.below b (Nat.le_refl _)
        have bk := bk.below b (Nat.le_refl _)
        have ox := ox.below b (Nat.le_refl _)
        have bx := bx.below b (Nat.le_refl _)
        have hov := hov.below b (Nat.le_refl _)
        have B := B.trans (b.mono B.size)
        clear b
        clear hov
        have bz := Blk.new w5 #[.int .i64 wx, .slice az N cz] 26
        have o := o.alloc (.cells #[.int .i64 wx, .slice az N cz] 26)
        have ot := ot.alloc (.cells #[.int .i64 wx, .slice az N cz] 26)
        have bk := bk.alloc (.cells #[.int .i64 wx, .slice az N cz] 26)
        have ox := ox.alloc (.cells #[.int .i64 wx, .slice az N cz] 26)
        have bx := bx.alloc (.cells #[.int .i64 wx, .slice az N cz] 26)
        have oz := oz.alloc (.cells #[.int .i64 wx, .slice az N cz] 26)
        have B := B.alloc B.size (.cells #[.int .i64 wx, .slice az N cz] 26)
        have htd : ((j : Int)).tdiv 2 = ((j / 2 : Nat) : Int) := by rw [Int.tdiv_eq_ediv_of_nonneg (by omega)]; rfl
        have hfj : j / 2 ≤ j := Nat.div_le_self _ _
        have hfs : d = j / 2 → j = 0 ∧ d = 0 := fun e => by omega
        generalize j / 2 = hf at *
        go_upto_region 17 with fail
        generalize (w5.alloc (.cells #[.int .i64 wx, .slice az N cz] 26)) = W5 at *
        generalize w5.heap.size = gz at *
        have hN17 : N ≤ 17592186044416 := by omega
        have hf17 : hf ≤ 17592186044416 := by omega
        have hfd : hf ≤ d := by omega
        have hfdi : (hf : Int) ≤ d := by omega
        have hf0 : (0 : Int) ≤ (hf : Int) := by omega
        have otk := (ot.front HT.out hf hfj).ints
        have HTK : Hid ((ts.take hf).length = hf) := by have := HT.out; simp [Hid]; omega
        have e0 := bk.at 0 rfl
        have e1 := bk.at 1 rfl
        have lb := bk.lt
        go_cut [14, 15] (fun p _ wy => ∃ gp ap cp, p = .pointer (some ⟨gp, 0, none⟩) ∧ Blk wy gp #[.int .i64 wx, .slice ap N cp] 26 ∧ N ≤ cp ∧ Own wy W5.heap.size (.slice ap N cp) ps ∧ Below W5.heap.size W5 wy)
        case first =>
          go_region_held3 (fun w' => (∀ b o, b < W5.heap.size → w'.cell? ⟨b, o, none⟩ = W5.cell? ⟨b, o, none⟩) ∧ Below W5.heap.size W5 w')
            (first | with_reducible exact sb_drew _ | with_reducible exact sb_ad _ _ | with_reducible exact sb_call ‹_› bv | with_reducible exact sb_alloc (sb_call (sb_drew _) bv) _ | with_reducible exact sb_set (sb_set ‹_› (Nat.le_refl _) _ _) (Nat.le_refl _) _ _ | with_reducible exact sb_alloc ‹_› _)
            (first | (go_at_call 25; refine (implTilesRun_any wx ao1 ys N c1 (some ⟨gt, 0, none⟩) (ts.take hf) hf d W5.drew HL.out hN17 (ints_sb ‹_› o.ints) HTK.out hf17 (ints_sb ‹_› otk)).mono fun e w8 h => ?_; rw [P1.out, P2.out, P3.out] at h; obtain ⟨av, cv, rfl, hcv, ov, bv⟩ := h.to HPS.out; clear h)
                   | (go_at_call 25; refine (implTilesRun_any wx ao1 ys N c1 (some ⟨gt, 0, none⟩) (ts.take hf) hf d (W5.alloc (.cells #[.int .i64 0, .slice none 0 0] 26)).drew HL.out hN17 (ints_sb ‹_› o.ints) HTK.out hf17 (ints_sb ‹_› otk)).mono fun e w8 h => ?_; rw [P1.out, P2.out, P3.out] at h; obtain ⟨av, cv, rfl, hcv, ov, bv⟩ := h.to HPS.out; clear h; have bb : Blk w8 W5.heap.size #[.int .i64 0, .slice none 0 0] 26 := Blk.below (w := (W5.alloc (.cells #[.int .i64 0, .slice none 0 0] 26)).drew) (Blk.new W5 _ _) bv (Nat.le_refl _); have fb0 := bb.free 0; have fb1 := bb.free 1; have cb0 := bb.at 0 rfl; have cb1 := bb.at 1 rfl))
          all_goals rename_i hH
          · have bkd := Blk.new w8 #[.int .i64 wx, .slice av N cv] 26
            have od := ov.alloc (.cells #[.int .i64 wx, .slice av N cv] 26)
            have hb := hH.2
            clear hH bv ov e0 e1
            go_wp2_with fail
            go_meet
            exact ⟨_, av, cv, rfl, bkd, hcv, od, hb⟩
          · have bkd := (bb.set 0 (.int .i64 wx)).set 1 (.slice av N cv)
            have od := ((ov.setOther W5.heap.size 0 (.int .i64 wx) (ov.ne_of_lt (by simp))).setOther W5.heap.size 1 (.slice av N cv) (ov.ne_of_lt (by simp))).lower (B' := W5.heap.size) (by simp)
            have hb := hH.2
            clear hH bv ov e0 e1 bb fb0 fb1 cb0 cb1
            go_wp2_with fail
            go_meet
            exact ⟨_, av, cv, rfl, bkd, hcv, od, hb⟩
        case rest =>
          obtain ⟨gp, ap, cp, rfl, bp, hcp, op, b⟩ := hcut
          clear e0 e1 otk
          have o := o.below b (Nat.le_refl _)
          have ot := ot.below b (Nat.le_refl _)
          have bk := bk.below b (Nat.le_refl _)
          have ox := ox.below b (Nat.le_refl _)
          have bx := bx.below b (Nat.le_refl _)
          have oz := oz.below b (Nat.le_refl _)
          have bz := bz.below b (Nat.le_refl _)
          have B := B.trans (b.mono B.size)
          clear b
          have e0 := bp.at 0 rfl
          have e1 := bp.at 1 rfl
          have lb := bp.lt
          have HTD : Hid ((ts.drop hf).length = j - hf) := by have := HT.out; simp [Hid]; omega
          have hjf17 : j - hf ≤ 17592186044416 := by omega
          have hfji : (hf : Int) ≤ j := by omega
          have otd := ints_drop ot hf
          go_upto_region 18 with fail
          go_cut [16, 17] (fun p _ wy => ∃ gq aq cq, p = .pointer (some ⟨gq, 0, none⟩) ∧ Blk wy gq #[.int .i64 wx, .slice aq N cq] 26 ∧ N ≤ cq ∧ Own wy wc.heap.size (.slice aq N cq) X ∧ Below wc.heap.size wc wy)
          case first =>
            by_cases hdh : d = hf
            · obtain ⟨rfl, rfl⟩ := hfs hdh
              subst hdh
              have otd : IntsAt wc (some ⟨gt, 0, none⟩) (ts.drop 0) := otd
              go_region_held3 (fun w' => (∀ b o, b < wc.heap.size → w'.cell? ⟨b, o, none⟩ = wc.cell? ⟨b, o, none⟩) ∧ Below wc.heap.size wc w')
                (first | with_reducible exact sb_drew _ | with_reducible exact sb_ad _ _ | with_reducible exact sb_call ‹_› bv | with_reducible exact sb_alloc (sb_call (sb_drew _) bv) _ | with_reducible exact sb_set (sb_set ‹_› (Nat.le_refl _) _ _) (Nat.le_refl _) _ _ | with_reducible exact sb_alloc ‹_› _)
                (first | (go_at_call 25; refine (implTilesRun_any wx ap ps N cp (some ⟨gt, 0, none⟩) (ts.drop 0) 0 0 wc.drew HPS.out hN17 (ints_sb ‹_› op.ints) HTD.out hjf17 (ints_sb ‹_› otd)).mono fun e w8 h => ?_; rw [P4.out, P5.out, P6.out] at h; obtain ⟨av, cv, rfl, hcv, ov, bv⟩ := h.to HN.out; clear h)
                       | (go_at_call 25; refine (implTilesRun_any wx ap ps N cp (some ⟨gt, 0, none⟩) (ts.drop 0) 0 0 (wc.alloc (.cells #[.int .i64 0, .slice none 0 0] 26)).drew HPS.out hN17 (ints_sb ‹_› op.ints) HTD.out hjf17 (ints_sb ‹_› otd)).mono fun e w8 h => ?_; rw [P4.out, P5.out, P6.out] at h; obtain ⟨av, cv, rfl, hcv, ov, bv⟩ := h.to HN.out; clear h; have bb : Blk w8 wc.heap.size #[.int .i64 0, .slice none 0 0] 26 := Blk.below (w := (wc.alloc (.cells #[.int .i64 0, .slice none 0 0] 26)).drew) (Blk.new wc _ _) bv (Nat.le_refl _); have fb0 := bb.free 0; have fb1 := bb.free 1; have cb0 := bb.at 0 rfl; have cb1 := bb.at 1 rfl))
              all_goals rename_i hH
              · have bkd := Blk.new w8 #[.int .i64 wx, .slice av N cv] 26
                have od := ov.alloc (.cells #[.int .i64 wx, .slice av N cv] 26)
                have hb := hH.2
                clear hH bv ov e0 e1
                go_wp2_with fail
                go_meet
                exact ⟨_, av, cv, rfl, bkd, hcv, od, hb⟩
              · have bkd := (bb.set 0 (.int .i64 wx)).set 1 (.slice av N cv)
                have od := ((ov.setOther wc.heap.size 0 (.int .i64 wx) (ov.ne_of_lt (by simp))).setOther wc.heap.size 1 (.slice av N cv) (ov.ne_of_lt (by simp))).lower (B' := wc.heap.size) (by simp)
                have hb := hH.2
                clear hH bv ov e0 e1 bb fb0 fb1 cb0 cb1
                go_wp2_with fail
                go_meet
                exact ⟨_, av, cv, rfl, bkd, hcv, od, hb⟩
            · have hdh2 : ¬ d - hf = 0 := by omega
              go_region_held3 (fun w' => (∀ b o, b < wc.heap.size → w'.cell? ⟨b, o, none⟩ = wc.cell? ⟨b, o, none⟩) ∧ Below wc.heap.size wc w')
                (first | with_reducible exact sb_drew _ | with_reducible exact sb_ad _ _ | with_reducible exact sb_call ‹_› bv | with_reducible exact sb_alloc (sb_call (sb_drew _) bv) _ | with_reducible exact sb_set (sb_set ‹_› (Nat.le_refl _) _ _) (Nat.le_refl _) _ _ | with_reducible exact sb_alloc ‹_› _)
                (first | (go_at_call 25; refine (implTilesRun_any wx ap ps N cp (some ⟨gt, hf, none⟩) (ts.drop hf) (j - hf) (d - hf) wc.drew HPS.out hN17 (ints_sb ‹_› op.ints) HTD.out hjf17 (ints_sb ‹_› otd)).mono fun e w8 h => ?_; rw [P4.out, P5.out, P6.out] at h; obtain ⟨av, cv, rfl, hcv, ov, bv⟩ := h.to HN.out; clear h)
                       | (go_at_call 25; refine (implTilesRun_any wx ap ps N cp (some ⟨gt, hf, none⟩) (ts.drop hf) (j - hf) (d - hf) (wc.alloc (.cells #[.int .i64 0, .slice none 0 0] 26)).drew HPS.out hN17 (ints_sb ‹_› op.ints) HTD.out hjf17 (ints_sb ‹_› otd)).mono fun e w8 h => ?_; rw [P4.out, P5.out, P6.out] at h; obtain ⟨av, cv, rfl, hcv, ov, bv⟩ := h.to HN.out; clear h; have bb : Blk w8 wc.heap.size #[.int .i64 0, .slice none 0 0] 26 := Blk.below (w := (wc.alloc (.cells #[.int .i64 0, .slice none 0 0] 26)).drew) (Blk.new wc _ _) bv (Nat.le_refl _); have fb0 := bb.free 0; have fb1 := bb.free 1; have cb0 := bb.at 0 rfl; have cb1 := bb.at 1 rfl))
              all_goals rename_i hH
              · have bkd := Blk.new w8 #[.int .i64 wx, .slice av N cv] 26
                have od := ov.alloc (.cells #[.int .i64 wx, .slice av N cv] 26)
                have hb := hH.2
                clear hH bv ov e0 e1
                go_wp2_with fail
                go_meet
                exact ⟨_, av, cv, rfl, bkd, hcv, od, hb⟩
              · have bkd := (bb.set 0 (.int .i64 wx)).set 1 (.slice av N cv)
                have od := ((ov.setOther wc.heap.size 0 (.int .i64 wx) (ov.ne_of_lt (by simp))).setOther wc.heap.size 1 (.slice av N cv) (ov.ne_of_lt (by simp))).lower (B' := wc.heap.size) (by simp)
                have hb := hH.2
                clear hH bv ov e0 e1 bb fb0 fb1 cb0 cb1
                go_wp2_with fail
                go_meet
                exact ⟨_, av, cv, rfl, bkd, hcv, od, hb⟩
          case rest =>
            obtain ⟨gq, aq, cq, rfl, bq, hcq, oq, b⟩ := hcut
            clear e0 e1 otd
            clear ot op bp
            have o := o.below b (Nat.le_refl _)
            have bk := bk.below b (Nat.le_refl _)
            have ox := ox.below b (Nat.le_refl _)
            have bx := bx.below b (Nat.le_refl _)
            have oz := oz.below b (Nat.le_refl _)
            have bz := bz.below b (Nat.le_refl _)
            have B := B.trans (b.mono B.size)
            clear b
            obtain ⟨mb, hmb⟩ : ∃ mb, mayB wx ys = mb := ⟨_, rfl⟩
            have HM1 := hid (hmay.out.trans hmb)
            have HM2 := hid hmb
            clear hmb hmay
            have hmbb : (mb == mb) = true := by simp
            have e0 := bk.at 0 rfl
            have e1 := bk.at 1 rfl
            have d0 := bx.at 0 rfl
            have d1 := bx.at 1 rfl
            have z0 := bz.at 0 rfl
            have z1 := bz.at 1 rfl
            have y0 := bq.at 0 rfl
            have y1 := bq.at 1 rfl
            have lb := bk.lt
            have lx := bx.lt
            have lz := bz.lt
            have lq := bq.lt
            have hN63 : N ≤ 9223372036854775807 := by omega
            go_upto_region 19 with fail
            generalize hWW : wc = WF at *
            go_region_held3 (fun w' => (∀ b o, b < WF.heap.size → w'.cell? ⟨b, o, none⟩ = WF.cell? ⟨b, o, none⟩) ∧ Below WF.heap.size WF w')
              (first | with_reducible exact sb_drew _ | with_reducible exact sb_call ‹_› bv | with_reducible assumption)
              (first | (go_at_call 12; with_reducible refine (sameBoard_self wx az ao1 ys N cz c1 _ HL.out hN63 (own_sb ‹_› oz).ints (own_sb ‹_› o).ints).mono fun e wv h => ?_; obtain ⟨rfl, bv⟩ := h)
                     | (go_at_call 12; with_reducible refine (sameBoard_self wx aq ax X N cq cx _ HN.out hN63 (own_sb ‹_› oq).ints (own_sb ‹_› ox).ints).mono fun e wv h => ?_; obtain ⟨rfl, bv⟩ := h)
                     | (go_at_call 27; with_reducible refine (implBoardMay_any wx ax X N cx _ HN.out hN17 hcx (own_sb ‹_› ox).ints).mono fun e wv h => ?_; rw [HM1.out] at h; obtain ⟨rfl, bv⟩ := h)
                     | (go_at_call 27; with_reducible refine (implBoardMay_any wx ao1 ys N c1 _ HL.out hN17 hmc (own_sb ‹_› o).ints).mono fun e wv h => ?_; rw [HM2.out] at h; obtain ⟨rfl, bv⟩ := h))
            all_goals rename_i hH
            all_goals
              have B := B.trans (hH.2.mono B.size)
              clear hH
              go_wp2
              go_ret
              exact ⟨rfl, B⟩
      · have HJ := hid hj
        have hjm : j < k := by omega
        have otr := ot.belowLt hB4 hgt4
        have cq := otr.cell (j := q) (by rw [HT.out]; exact hqk)
        have hstep : Hid (ts.reverse.take (j + 1) = ts.reverse.take j ++ [nth ts q]) := by
          have h := rev_take_s (i := j) HT.out hjm
          rw [show k - 1 - j = q from by omega] at h
          exact h
        have hLj : Hid ((ts.reverse.take j).length = j) := by have := HT.out; simp [Hid]; omega
        have hova := hov.alloc (.cells #[.int .i64 (nth ts q)] 3)
        have hBa := hB4.alloc (by omega) (.cells #[.int .i64 (nth ts q)] 3)
        clear hj hov hB4 otr
        generalize ts.reverse.take j = L at *
        go_wp2_with (at_builtin; refine wpList_appendI rfl _ _ rfl w4.heap.size g5 j c5 L rfl hLj.out hova ⟨wr.heap.size, 0, none⟩ 1 1 [nth ts q] rfl rfl (cell1 _ _ _) ?c3 ?c5 ?_)
        case c3 => omega
        case c5 => first | omega | (simp; omega)
        intro g6 c6 w6 o6 hgrow hf
        have hf := hf.out
        have hg5b := hova.base.1
        have hB6 := hBa.grown hgrow (by simp; omega) (fun z e => by have := Option.some.inj e; omega)
        have hs6 : W4.heap.size ≤ w6.heap.size := by have := hgrow.size; simp at this; omega
        clear hova hBa hgrow cq
        go_wp2
        go_roundw
        case rel =>
          have hj := HJ.out
          refine ⟨j + 1, ?_, g6, c6, rfl, by rw [hstep.out]; exact o6, hB6, hs6⟩
          by_cases hk0 : q = 0
          · subst hk0; exact .inl ⟨by go_num, by omega⟩
          · exact .inr ⟨q - 1, by go_num, by omega, by omega⟩
        case measure => simp [intOf]

end Go.Proofs.Ytncebcgiljkbnaa
