/- The walk of the law FnTilesMay. -/
import Derived.Test.YtajfanncdfdalaaBv
import Derived.Test.YtajfanncdfdalaaAl
import Derived.Test.YtajfanncdfdalaaDd
import Derived.Test.YtajfanncdfdalaaCb
import Derived.Test.YtajfanncdfdalaaHi
import Derived.Test.YtajfanncdfdalaaSi
namespace Go.Proofs.Ytajfanncdfdalaa
open Go Go.RowKit

theorem own_sb {W w0 : World} {B : Nat} {v : Value} {ys : List Int} (h : (∀ b o, b < W.heap.size → w0.cell? ⟨b, o, none⟩ = W.cell? ⟨b, o, none⟩) ∧ Below W.heap.size W w0) (ho : Own W B v ys) : Own w0 B v ys := ho.below h.2 (Nat.le_refl _)

set_option maxRecDepth 100000 in
set_option maxHeartbeats 2000000 in
theorem fnTilesMay_walk (w : World) (ao : Option Addr) (bs : List Int) (l c : Nat) (hn : bs.length = l) (hlc : l ≤ c) (hcm : c ≤ 9223372036854775807) (hx : BytesAt w ao bs) (h8 : B8 bs) :
    Calls Try.prog 8 #[.slice ao l c] w fun e w' => e = .returned (.bool true) ∧ Below w.heap.size w w' := by
  by_cases hbig : 1048576 < l
  · have hd : decide ((1048576 : Int) < l) = true := decide_eq_true (by omega)
    clear hx hn h8
    go_enter Try.func8, Try.ntmps8
    go_wp2
    go_ret
    exact ⟨rfl, Below.refl _ _⟩
  have hd : decide ((1048576 : Int) < l) = false := decide_eq_false (by omega)
  go_enter Try.func8, Try.ntmps8
  go_wp2_with fail
  refine (drawTilesMay_any ao bs l c w hn hlc hcm hx h8).mono fun e w1 h => ?_
  obtain ⟨wide, ao1, m, c1, ys, rfl, hl, hmc, hm9, hwd, o, B⟩ := h
  clear hx h8 hn hd hbig
  have HL := hid hl
  clear hl
  have bk := Blk.new w1 #[.int .i64 wide, .slice ao1 m c1] 25
  have o := o.alloc (.cells #[.int .i64 wide, .slice ao1 m c1] 25)
  have hgbw : w.heap.size ≤ w1.heap.size := B.size
  have B := B.alloc B.size (.cells #[.int .i64 wide, .slice ao1 m c1] 25)
  go_wp2_with fail
  generalize (w1.alloc (.cells #[.int .i64 wide, .slice ao1 m c1] 25)) = W at *
  generalize w1.heap.size = gb at *
  obtain ⟨N, hN⟩ : ∃ N, (mayL wide ys).length = N := ⟨_, rfl⟩
  have hNl := length_mayL wide ys
  have hno : Hid (boardB wide ys = false → N = 0) := fun h => by rw [← hN, mayL_out (boardB_not.1 h)]; rfl
  have hyes : Hid (boardB wide ys = true → BoardOk wide ys ∧ 1 ≤ N ∧ N ≤ 4) := fun h => ⟨boardB_iff.1 h, by rw [← hN]; exact may_some (boardB_iff.1 h), by rw [← hN]; exact may_four (boardB_iff.1 h)⟩
  rw [hN] at hNl
  have HN := hid hN
  clear hN
  refine (implTilesMay_any wide ao1 ys m c1 W HL.out (by omega) o.ints).mono fun e w2 h => ?_
  obtain ⟨am, cm, rfl, om, b⟩ := h.to HN.out
  clear h
  have o := o.below b (Nat.le_refl _)
  have bk := bk.below b (Nat.le_refl _)
  have B := B.trans (b.mono B.size)
  clear b
  have e0 := bk.at 0 rfl
  have e1 := bk.at 1 rfl
  go_wp2_with fail
  refine (specTilesMay_any wide ao1 ys m c1 w2 HL.out (by omega) hmc o.ints).mono fun e w3 h => ?_
  obtain ⟨a2, cs, rfl, os, b⟩ := h.to HN.out
  clear h
  have o := o.below b (Nat.le_refl _)
  have bk := bk.below b (Nat.le_refl _)
  have om := om.below b (Nat.le_refl _)
  have B := B.trans (b.mono B.size)
  clear b e0 e1
  go_wp2_with fail
  refine (sameInts_self am a2 _ N cm cs w3 HN.out (by omega) om.ints os.ints).mono fun e w4 h => ?_
  obtain ⟨rfl, hq⟩ := h
  have b := hq.below w3.heap.size
  have o := o.below b (Nat.le_refl _)
  have bk := bk.below b (Nat.le_refl _)
  have om := om.below b (Nat.le_refl _)
  have B := B.trans (b.mono B.size)
  clear b os hq
  have e0 := bk.at 0 rfl
  have e1 := bk.at 1 rfl
  go_wp2_with fail
  refine (specBoardValid_any wide ao1 ys m c1 w4 HL.out (by omega) hmc o.ints).mono fun e w5 h => ?_
  cases hok : boardB wide ys with
  | false =>
    rw [hok] at h
    obtain ⟨rfl, b⟩ := h
    have B := B.trans (b.mono B.size)
    obtain rfl : N = 0 := hno.out hok
    clear b e0 e1 bk o om
    go_wp2_with fail
    refine (alive_any w5).mono fun e w6 h => ?_
    obtain ⟨rfl, b⟩ := h
    have B := B.trans (b.mono B.size)
    clear b
    go_wp2
    go_ret
    exact ⟨rfl, B⟩
  | true =>
    rw [hok] at h
    obtain ⟨rfl, b⟩ := h
    obtain ⟨hbo, hN1, hN4⟩ := hyes.out hok
    have HO := hid hbo
    have HA := hid (mayL_asc hbo)
    have hm2 : 2 ≤ m := by have := HO.out.1; rw [HL.out] at this; exact this
    have o := o.below b (Nat.le_refl _)
    have bk := bk.below b (Nat.le_refl _)
    have om := om.below b (Nat.le_refl _)
    have B := B.trans (b.mono B.size)
    clear b e0 e1 hok hbo hyes hno
    obtain ⟨g, rfl⟩ := o.addr (by rw [HL.out]; omega)
    obtain ⟨gm, rfl⟩ := om.addr (by rw [HN.out]; omega)
    go_wp2_with fail
    go_loopw [5, 6, 7] (fun i _ _ wr => ∃ k : Nat, k ≤ N ∧ i = .int .i64 k ∧ Below w5.heap.size w5 wr) (fun i _ _ _ => N - (intOf i).toNat)
    case atStart => exact ⟨0, by omega, rfl, Below.refl _ _⟩
    case round =>
      obtain ⟨k, hk, rfl, hbr⟩ := hrel
      have o := o.below hbr (Nat.le_refl _)
      have bk := bk.below hbr (Nat.le_refl _)
      have om := om.below hbr (Nat.le_refl _)
      have B := B.trans (hbr.mono B.size)
      by_cases hlt : k < N
      · have e0 := bk.at 0 rfl
        have e1 := bk.at 1 rfl
        have cm0 := om.cell (j := k) (by rw [HN.out]; exact hlt)
        have hcan := hid (may_can (wide := wide) (xs := ys) (k := k) (by rw [HN.out]; exact hlt))
        have lt1 := bk.lt
        have lt2 := om.base.2
        have hlm : Hid (∀ t, (movedL wide ys t).length = m) := fun t => by rw [length_movedL]; exact HL.out
        have hbk2 := hid (can_back HO.out hcan.out)
        obtain ⟨t, ht⟩ : ∃ t, nth (mayL wide ys) k = t := ⟨_, rfl⟩
        rw [ht] at cm0 hcan hbk2
        have HT := hid ht
        clear ht
        go_upto_region 12 with fail
        go_cut [6, 7] (fun x ok wx => ok = .bool true ∧ ∃ gx ax cx, x = .pointer (some ⟨gx, 0, none⟩) ∧ Blk wx gx #[.int .i64 wide, .slice ax m cx] 25 ∧ m ≤ cx ∧ Own wx wr.heap.size (.slice ax m cx) (movedL wide ys t) ∧ Below wr.heap.size wr wx)
        case first =>
          go_region_held3 (fun w' => (∀ b o, b < wr.heap.size → w'.cell? ⟨b, o, none⟩ = wr.cell? ⟨b, o, none⟩) ∧ Below wr.heap.size wr w')
            (first | with_reducible exact sb_drew _ | with_reducible exact sb_ad _ _ | with_reducible exact sb_call ‹_› bx | with_reducible exact sb_alloc (sb_call (sb_drew _) bx) _ | with_reducible exact sb_set (sb_set ‹_› (Nat.le_refl _) _ _) (Nat.le_refl _) _ _ | with_reducible exact sb_alloc ‹_› _)
            (first | (go_at_call 32; refine (implTileMove_any wide (some ⟨g, 0, none⟩) ys m c1 t wr.drew HL.out (by omega) o.ints).mono fun e w6 h => ?_; rw [tmW_in HO.out, tmL_in HO.out, hcan.out] at h; obtain ⟨ax, cx, rfl, hcx, ox, bx⟩ := h.to (hlm.out t); clear h)
                   | (go_at_call 32; refine (implTileMove_any wide (some ⟨g, 0, none⟩) ys m c1 t (wr.alloc (.cells #[.int .i64 0, .slice none 0 0] 25)).drew HL.out (by omega) (o.alloc (.cells #[.int .i64 0, .slice none 0 0] 25)).ints).mono fun e w6 h => ?_; rw [tmW_in HO.out, tmL_in HO.out, hcan.out] at h; obtain ⟨ax, cx, rfl, hcx, ox, bx⟩ := h.to (hlm.out t); clear h; have bb : Blk w6 wr.heap.size #[.int .i64 0, .slice none 0 0] 25 := Blk.below (w := (wr.alloc (.cells #[.int .i64 0, .slice none 0 0] 25)).drew) (Blk.new wr _ _) bx (Nat.le_refl _); have fb0 := bb.free 0; have fb1 := bb.free 1; have cb0 := bb.at 0 rfl; have cb1 := bb.at 1 rfl))
          all_goals rename_i hH
          · have bkd := Blk.new w6 #[.int .i64 wide, .slice ax m cx] 25
            have od := ox.alloc (.cells #[.int .i64 wide, .slice ax m cx] 25)
            have hb := hH.2
            clear hH bx ox e0 e1 cm0
            go_wp2_with fail
            go_meet
            exact ⟨rfl, _, ax, cx, rfl, bkd, hcx, od, hb⟩
          · have bkd := (bb.set 0 (.int .i64 wide)).set 1 (.slice ax m cx)
            have od := ((ox.setOther wr.heap.size 0 (.int .i64 wide) (ox.ne_of_lt (by simp))).setOther wr.heap.size 1 (.slice ax m cx) (ox.ne_of_lt (by simp))).lower (B' := wr.heap.size) (by simp)
            have hb := hH.2
            clear hH bx ox e0 e1 cm0 bb fb0 fb1 cb0 cb1
            go_wp2_with fail
            go_meet
            exact ⟨rfl, _, ax, cx, rfl, bkd, hcx, od, hb⟩
        case rest =>
          obtain ⟨rfl, gx, ax, cx, rfl, bkx, hcx, ox, bel⟩ := hcut
          have HZ := hid (hlm.out t)
          have om2 := om.below bel (Nat.le_refl _)
          have hbr2 := hbr.trans (bel.mono hbr.size)
          clear e0 e1 cm0 hlm om o bk bel
          have hbk3 : Hid (hasL (mayL wide (movedL wide ys t)) t = true) := hbk2.out
          have hz9 := length_mayL wide (movedL wide ys t)
          obtain ⟨P, hP⟩ : ∃ P, (mayL wide (movedL wide ys t)).length = P := ⟨_, rfl⟩
          rw [hP] at hz9
          have HP := hid hP
          have hP9 : P ≤ 9223372036854775807 := by omega
          clear hP
          have cm0 := om2.cell (j := k) (by rw [HN.out]; exact hlt)
          rw [HT.out] at cm0
          have lt3 := om2.base.2
          have e0 := bkx.at 0 rfl
          have e1 := bkx.at 1 rfl
          have lt4 := bkx.lt
          have hm17 : m ≤ 17592186044416 := by omega
          go_upto_region 13 with fail
          go_region_held3 (fun w' => (∀ b o, b < wc.heap.size → w'.cell? ⟨b, o, none⟩ = wc.cell? ⟨b, o, none⟩) ∧ Below wc.heap.size wc w')
            (first | with_reducible exact sb_drew _ | with_reducible exact sb_call ‹_› bt | with_reducible assumption)
            (first | (go_at_call 29; refine (implTilesMay_any wide ax (movedL wide ys t) m cx wc.drew HZ.out hm17 ox.ints).mono fun e wt h => ?_; obtain ⟨am3, cm3, rfl, om3, bt⟩ := h.to HP.out; clear h)
                   | (go_at_call 33; refine (hasInt_any am3 (mayL wide (movedL wide ys t)) P cm3 t wt HP.out hP9 om3.ints).mono fun e wh h => ?_; rw [hbk3.out] at h; obtain ⟨rfl, rfl⟩ := h))
          all_goals rename_i hH
          all_goals
            have hbr3 := hbr2.trans (hH.2.mono hbr2.size)
            clear hH e0 e1 cm0 om3 bt bkx ox om2
            go_wp2
            go_roundw
            case rel => exact ⟨k + 1, by omega, by go_num, hbr3⟩
            case measure => simp [intOf]; omega
      · obtain rfl : k = N := by omega
        have hd1 : decide ((1 : Int) ≤ k) = true := decide_eq_true (by omega)
        have hd4 : decide ((k : Int) ≤ 4) = true := decide_eq_true (by omega)
        go_wp2_with fail
        refine (ascend_any (some ⟨gm, 0, none⟩) _ k cm wr HN.out (by omega) om.ints HA.out).mono fun e w7 h => ?_
        obtain ⟨rfl, hq⟩ := h
        have B := B.trans (hq.below _)
        clear hq o bk om
        go_wp2
        go_ret
        exact ⟨rfl, B⟩

end Go.Proofs.Ytajfanncdfdalaa
