/- The walk of the law FnBoardWay. -/
import Derived.Test.YtfpckcmkikckgaaSx
import Derived.Test.YtfpckcmkikckgaaEv
import Derived.Test.YtfpckcmkikckgaaSz
import Derived.Test.YtfpckcmkikckgaaTg
import Derived.Test.YtfpckcmkikckgaaSl
import Derived.Test.YtfpckcmkikckgaaAl
import Derived.Test.YtfpckcmkikckgaaSi
import Derived.Test.YtfpckcmkikckgaaSb
import Derived.Test.YtfpckcmkikckgaaDe
import Derived.Deep.RegionHeld3
namespace Go.Proofs.Ytfpckcmkikckgaa
open Go Go.RowKit

set_option maxHeartbeats 1000000 in
theorem worst21 {a b : Int} (h : SidesOk 6 a b) : worstI a b ≤ 21 := by
  rcases many_worst h with ⟨rfl, rfl, h3, h4⟩ | ⟨rfl, rfl, h3, h4⟩ | ⟨rfl, rfl, h3, h4⟩ | ⟨rfl, rfl, h3, h4⟩ | ⟨rfl, rfl, h3, h4⟩ | ⟨rfl, rfl, h3, h4⟩ | ⟨rfl, rfl, h3, h4⟩ | ⟨rfl, rfl, h3, h4⟩ | ⟨rfl, rfl, h3, h4⟩ | ⟨rfl, rfl, h3, h4⟩ | ⟨rfl, rfl, h3, h4⟩ | ⟨rfl, rfl, h3, h4⟩ | ⟨rfl, rfl, h3, h4⟩
  all_goals omega

/-- Where there is a way it is as long as the least, and it ends at the board in order. -/
theorem way_law {wide : Int} {xs : List Int} (h : 0 ≤ leastI wide xs) : BoardOk wide xs ∧ wayB wide xs = true ∧ leastI wide xs ≤ 21 ∧ ((wayL wide xs).length : Int) = leastI wide xs ∧ trO wide xs (wayL wide xs) = some (ordL xs.length) := by
  rcases least_cases wide xs with hl | ⟨hok, h6, i, hi, hb, hd, h0, h7, hr⟩
  · omega
  · have hs := sides6 hok h6
    have h21 := worst21 hs.1
    rw [worstI_in hs.1 hs.2] at h21
    have hm : dpS (allS wide xs.length) i ∈ (allS wide xs.length).map Prod.snd := by
      refine List.mem_map.2 ⟨(allS wide xs.length)[i], List.getElem_mem hi, ?_⟩
      simp [dpS, hi]
    have hmx := (mxL_spec _).2.1 _ hm
    rw [← hd] at hmx
    have hlen : (wayL wide xs).length = (leastI wide xs).toNat := by rw [wayL_in h0, length_wayS]
    refine ⟨hok, by unfold wayB; exact decide_eq_true h0, by omega, by omega, ?_⟩
    rw [trO_in hok (by omega), wayL_in h0]
    have := way_runs hr (leastI wide xs).toNat i hi (by omega)
    rwa [hb] at this

theorem done_isW {wide : Int} {xs : List Int} (h : BoardOk wide xs) : doneW wide ((xs.length : Int) / wide) = wide ∧ doneL wide ((xs.length : Int) / wide) = ordL xs.length := by
  obtain ⟨h1, h2⟩ := sides_of h
  exact ⟨doneW_in h1, doneL_in h1 h2⟩

set_option maxRecDepth 100000 in
set_option maxHeartbeats 4000000 in
theorem fnBoardWay_walk (w : World) (ao : Option Addr) (bs : List Int) (l c : Nat) (hn : bs.length = l) (hlc : l ≤ c) (hcm : c ≤ 9223372036854775807) (hx : BytesAt w ao bs) (h8 : B8 bs) :
    Calls Try.prog 4 #[.slice ao l c] w fun e w' => e = .returned (.bool true) ∧ Below w.heap.size w w' := by
  by_cases hbig : 1048576 < l
  · have hd : decide ((1048576 : Int) < l) = true := decide_eq_true (by omega)
    clear hx hn h8
    go_enter Try.func4, Try.ntmps4
    go_wp2
    go_ret
    exact ⟨rfl, Below.refl _ _⟩
  have hd : decide ((1048576 : Int) < l) = false := decide_eq_false (by omega)
  go_enter Try.func4, Try.ntmps4
  go_wp2_with fail
  refine (drawBoardWay_any ao bs l c w hn hlc hcm hx h8).mono fun e wd h => ?_
  obtain ⟨wide, ao1, m, c1, ys, rfl, hl, hmc, hm9, hwd, o, B⟩ := h
  clear hx h8 hn hd hbig
  have HL := hid hl
  clear hl
  have bk := Blk.new wd #[.int .i64 wide, .slice ao1 m c1] 25
  have o := o.alloc (.cells #[.int .i64 wide, .slice ao1 m c1] 25)
  have hgbw : w.heap.size ≤ wd.heap.size := B.size
  have B := B.alloc B.size (.cells #[.int .i64 wide, .slice ao1 m c1] 25)
  go_wp2_with fail
  generalize (wd.alloc (.cells #[.int .i64 wide, .slice ao1 m c1] 25)) = W at *
  generalize wd.heap.size = gb at *
  obtain ⟨N, hN⟩ : ∃ N, (wayL wide ys).length = N := ⟨_, rfl⟩
  have hNl := length_wayL wide ys
  rw [hN] at hNl
  have HN := hid hN
  clear hN
  refine (implBoardWay_any wide ao1 ys m c1 W HL.out (by omega) o.ints).mono fun e wa h => ?_
  obtain ⟨aw, cw, rfl, ow, b⟩ := h.to HN.out
  clear h
  have o := o.below b (Nat.le_refl _)
  have bk := bk.below b (Nat.le_refl _)
  have B := B.trans (b.mono B.size)
  have hs1 := B.size
  clear b
  have e0 := bk.at 0 rfl
  have e1 := bk.at 1 rfl
  go_wp2_with fail
  refine (specBoardWay_any wide ao1 ys m c1 wa HL.out (by omega) hmc o.ints).mono fun e wb h => ?_
  obtain ⟨ax, cx, rfl, ox, b⟩ := h.to HN.out
  clear h
  have o := o.below b (Nat.le_refl _)
  have bk := bk.below b (Nat.le_refl _)
  have B := B.trans (b.mono B.size)
  have ow := ow.below b (Nat.le_refl _)
  clear b e0 e1
  go_wp2_with fail
  refine (sameInts_any aw ax (wayL wide ys) (wayL wide ys) N N cw cx wb HN.out HN.out (by omega) ow.ints ox.ints).mono fun e wc h => ?_
  rw [eqL_self] at h
  obtain ⟨rfl, hq⟩ := h
  have b := hq.below wb.heap.size
  have o := o.below b (Nat.le_refl _)
  have bk := bk.below b (Nat.le_refl _)
  have B := B.trans (b.mono B.size)
  have ow := ow.below b (Nat.le_refl _)
  clear b hq ox
  have hww : (wayB wide ys != wayB wide ys) = false := by simp
  have e0 := bk.at 0 rfl
  have e1 := bk.at 1 rfl
  go_wp2_with fail
  refine (implBoardLeast_any wide ao1 ys m c1 wc HL.out (by omega) o.ints).mono fun e w1 h => ?_
  obtain ⟨rfl, b⟩ := h
  have o := o.below b (Nat.le_refl _)
  have bk := bk.below b (Nat.le_refl _)
  have B := B.trans (b.mono B.size)
  have ow := ow.below b (Nat.le_refl _)
  clear b e0 e1 hww
  by_cases h0 : 0 ≤ leastI wide ys
  · obtain ⟨hok, hwb, h21, hwl, htr⟩ := way_law h0
    rw [HN.out] at hwl
    obtain ⟨t1, t2, t3⟩ := tr_some htr
    have hle := (ord_ok hok).2
    have hdn := done_isW hok
    rw [HL.out] at t2 hle hdn
    have hw := hok.2.2.1
    have hmn : 2 ≤ m := by have := hok.1; rw [HL.out] at this; exact this
    have ht0 : 0 ≤ (m : Int) / wide ∧ (m : Int) / wide ≤ m := ⟨Int.ediv_nonneg (by omega) (by omega), Int.ediv_le_self _ (by omega)⟩
    have htd : ((m : Int)).tdiv wide = (m : Int) / wide := Int.tdiv_eq_ediv_of_nonneg (by omega)
    generalize (m : Int) / wide = T at *
    have hwt : IntKind.i64.wrap T = T := IntWalk.i64_in _ (by omega)
    have hw0 : (wide == 0) = false := by simp; omega
    have hw1 : ¬ wide = 0 := by omega
    have H1 := hid t1
    have H2 := hid t2
    have H3 := hid t3
    have HDN := hid hdn
    have HLE := hid hle
    have hnf : ((N : Int) == leastI wide ys) = true := by rw [hwl]; simp
    rw [hwb]
    clear t1 t2 t3 hdn hle htr hwl hok hwb
    generalize leastI wide ys = f at *
    have e0 := bk.at 0 rfl
    have e1 := bk.at 1 rfl
    go_wp2_with fail
    refine (implTilesRun_any wide ao1 ys m c1 aw (wayL wide ys) N cw w1 HL.out (by omega) o.ints HN.out (by omega) ow.ints).mono fun e wt h => ?_
    rw [H1.out, H2.out, H3.out] at h
    obtain ⟨ae, ce, rfl, hce, oe, b⟩ := h.to HLE.out
    clear h e0 e1
    have o := o.below b (Nat.le_refl _)
    have bk := bk.below b (Nat.le_refl _)
    have B := B.trans (b.mono B.size)
    clear b ow
    have bx := Blk.new wt #[.int .i64 wide, .slice ae m ce] 25
    have oe := oe.alloc (.cells #[.int .i64 wide, .slice ae m ce] 25)
    have bk := bk.alloc (.cells #[.int .i64 wide, .slice ae m ce] 25)
    have B := B.alloc B.size (.cells #[.int .i64 wide, .slice ae m ce] 25)
    go_wp2_with fail
    generalize (wt.alloc (.cells #[.int .i64 wide, .slice ae m ce] 25)) = w4 at *
    generalize wt.heap.size = gx at *
    have e0 := bk.at 0 rfl
    have e1 := bk.at 1 rfl
    have x0 := bx.at 0 rfl
    have x1 := bx.at 1 rfl
    have lt := bk.lt
    have ltx := bx.lt
    refine wp_region_noPanic ?_
    refine wp_region_held_drew (S := fun w' => (∀ b o, b < w4.heap.size → w'.cell? ⟨b, o, none⟩ = w4.cell? ⟨b, o, none⟩) ∧ Below w4.heap.size w4 w') (by kernel_rfl) (sb_drew _) (fun hHeld => ?_)
    refine wpAnyH_take (i := 0) (v := ?vq1) rfl (by kernel_rfl) (by kernel_rfl) (by kernel_rfl) (fun _ _ _ h => h) (Or.inl ⟨by rfl, ?hyq1⟩) (by assumption) ?restq1
    case hyq1 => (intro w hSw; (try dsimp only at hSw); go_simp; try with_reducible rfl)
    try simp only [Act.put, List.getElem_toArray, List.getElem_cons_zero, List.setIfInBounds_toArray, List.set_cons_zero, List.set_cons_succ]
    refine wpAnyH_take (i := 1) (v := ?vq2) rfl (by kernel_rfl) (by kernel_rfl) (by kernel_rfl) (fun _ _ _ h => h) (Or.inl ⟨by rfl, ?hyq2⟩) (by assumption) ?restq2
    case hyq2 => (intro w hSw; (try dsimp only at hSw); go_simp; try with_reducible rfl)
    try simp only [Act.put, List.getElem_toArray, List.getElem_cons_succ, List.getElem_cons_zero, List.setIfInBounds_toArray, List.set_cons_zero, List.set_cons_succ]
    refine wpAnyH_take (i := 2) (v := ?vq3) rfl (by kernel_rfl) (by kernel_rfl) (by kernel_rfl) (fun _ _ _ h => h) (Or.inl ⟨by rfl, ?hyq3⟩) (by assumption) ?restq3
    case hyq3 => (intro w hSw; (try dsimp only at hSw); go_simp; try with_reducible rfl)
    try simp only [Act.put, List.getElem_toArray, List.getElem_cons_succ, List.getElem_cons_zero, List.setIfInBounds_toArray, List.set_cons_zero, List.set_cons_succ]
    refine wpAnyH_take (i := 3) (v := ?vq4) rfl (by kernel_rfl) (by kernel_rfl) (by kernel_rfl) (fun _ _ _ h => h) (Or.inl ⟨by rfl, ?hyq4⟩) (by assumption) ?restq4
    case hyq4 => (intro w hSw; (try dsimp only at hSw); go_simp; try with_reducible rfl)
    try simp only [Act.put, List.getElem_toArray, List.getElem_cons_succ, List.getElem_cons_zero, List.setIfInBounds_toArray, List.set_cons_zero, List.set_cons_succ]
    refine wpAnyH_take (i := 4) (v := ?vq5) rfl (by kernel_rfl) (by kernel_rfl) (by kernel_rfl) (fun _ _ _ h => h) (Or.inl ⟨by rfl, ?hyq5⟩) (by assumption) ?restq5
    case hyq5 => (intro w hSw; (try dsimp only at hSw); go_simp; try with_reducible rfl)
    try simp only [Act.put, List.getElem_toArray, List.getElem_cons_succ, List.getElem_cons_zero, List.setIfInBounds_toArray, List.set_cons_zero, List.set_cons_succ]
    refine wpAnyH_take (i := 5) (v := ?vq6) rfl (by kernel_rfl) (by kernel_rfl) (by kernel_rfl) (fun _ _ _ h => h) (Or.inl ⟨by rfl, ?hyq6⟩) (by assumption) ?restq6
    case hyq6 => (intro w hSw; (try dsimp only at hSw); go_simp; try with_reducible rfl)
    try simp only [Act.put, List.getElem_toArray, List.getElem_cons_succ, List.getElem_cons_zero, List.setIfInBounds_toArray, List.set_cons_zero, List.set_cons_succ]
    refine wpAnyH_take (i := 6) (v := ?vq7) rfl (by kernel_rfl) (by kernel_rfl) (by kernel_rfl) (fun _ _ _ h => h) (Or.inl ⟨by rfl, ?hyq7⟩) (by assumption) ?restq7
    case hyq7 => (intro w hSw; (try dsimp only at hSw); go_simp; try with_reducible rfl)
    try simp only [Act.put, List.getElem_toArray, List.getElem_cons_succ, List.getElem_cons_zero, List.setIfInBounds_toArray, List.set_cons_zero, List.set_cons_succ]
    refine wpAnyH_take (i := 7) (v := ?vq8) rfl (by kernel_rfl) (by kernel_rfl) (by kernel_rfl) (fun _ _ _ h => h) (Or.inl ⟨by rfl, ?hyq8⟩) (by assumption) ?restq8
    case hyq8 => (intro w hSw; (try dsimp only at hSw); go_simp; try with_reducible rfl)
    try simp only [Act.put, List.getElem_toArray, List.getElem_cons_succ, List.getElem_cons_zero, List.setIfInBounds_toArray, List.set_cons_zero, List.set_cons_succ]
    refine wpAnyH_take (i := 8) (v := ?vq9) rfl (by kernel_rfl) (by kernel_rfl) (by kernel_rfl) (fun _ _ _ h => h) (Or.inl ⟨by rfl, ?hyq9⟩) (by assumption) ?restq9
    case hyq9 => (intro w hSw; (try dsimp only at hSw); go_simp; try with_reducible rfl)
    try simp only [Act.put, List.getElem_toArray, List.getElem_cons_succ, List.getElem_cons_zero, List.setIfInBounds_toArray, List.set_cons_zero, List.set_cons_succ]
    refine wpAnyH_take (i := 9) (v := ?vq10) rfl (by kernel_rfl) (by kernel_rfl) (by kernel_rfl) (fun _ _ _ h => h) (Or.inl ⟨by rfl, ?hyq10⟩) (by assumption) ?restq10
    case hyq10 => (intro w hSw; (try dsimp only at hSw); go_simp; try with_reducible rfl)
    try simp only [Act.put, List.getElem_toArray, List.getElem_cons_succ, List.getElem_cons_zero, List.setIfInBounds_toArray, List.set_cons_zero, List.set_cons_succ]
    refine wpAnyH_take (i := 10) (v := ?vq11) rfl (by kernel_rfl) (by kernel_rfl) (by kernel_rfl) (fun _ _ _ h => h) (Or.inl ⟨by rfl, ?hyq11⟩) (by assumption) ?restq11
    case hyq11 => (intro w hSw; (try dsimp only at hSw); go_simp; try with_reducible rfl)
    try simp only [Act.put, List.getElem_toArray, List.getElem_cons_succ, List.getElem_cons_zero, List.setIfInBounds_toArray, List.set_cons_zero, List.set_cons_succ]
    refine wpAnyH_ready (rs := [11]) (by kernel_rfl) (by simp) ?rdq12
    refine AllReadyH.cons (i := 11) rfl (fun K hK => ?stepq12) ?moreq12
    case moreq12 => exact AllReadyH.nil
    go_simp
    refine (implBoardDone_any wide T _).mono fun e wu h => ?_
    rw [HDN.out.1, HDN.out.2] at h
    obtain ⟨ao_t, c_t, rfl, hc_t, t, bt⟩ := h.to HLE.out
    clear h
    refine hK.out _ _ (sb_call ‹_› bt) (fun hHeld => ?_)
    clear hK K
    try simp only [Act.put, List.getElem_toArray, List.getElem_cons_succ, List.getElem_cons_zero, List.setIfInBounds_toArray, List.set_cons_zero, List.set_cons_succ]
    refine wpAnyH_ready (rs := [12]) (by kernel_rfl) (by simp) ?rdq13
    refine AllReadyH.cons (i := 12) rfl (fun K hK => ?stepq13) ?moreq13
    case moreq13 => exact AllReadyH.nil
    go_simp
    refine (sameBoard_self wide ae ao_t (ordL m) m ce c_t _ HLE.out (by omega) (oe.ints.below (sb_below ‹_›) (Nat.le_refl _)) t.ints).mono fun e wv h => ?_
    obtain ⟨rfl, bs2⟩ := h
    refine hK.out _ _ (sb_call ‹_› bs2) (fun hHeld => ?_)
    clear hK K
    try simp only [Act.put, List.getElem_toArray, List.getElem_cons_succ, List.getElem_cons_zero, List.setIfInBounds_toArray, List.set_cons_zero, List.set_cons_succ]
    refine wpAnyH_take (i := 13) (v := ?vq14) rfl (by kernel_rfl) (by kernel_rfl) (by kernel_rfl) (fun _ _ _ h => h) (Or.inl ⟨by rfl, ?hyq14⟩) (by assumption) ?restq14
    case hyq14 => (intro w hSw; (try dsimp only at hSw); go_simp; try with_reducible rfl)
    try simp only [Act.put, List.getElem_toArray, List.getElem_cons_succ, List.getElem_cons_zero, List.setIfInBounds_toArray, List.set_cons_zero, List.set_cons_succ]
    refine wpAnyH_take (i := 14) (v := ?vq15) rfl (by kernel_rfl) (by kernel_rfl) (by kernel_rfl) (fun _ _ _ h => h) (Or.inl ⟨by rfl, ?hyq15⟩) (by assumption) ?restq15
    case hyq15 => (intro w hSw; (try dsimp only at hSw); go_simp; try with_reducible rfl)
    try simp only [Act.put, List.getElem_toArray, List.getElem_cons_succ, List.getElem_cons_zero, List.setIfInBounds_toArray, List.set_cons_zero, List.set_cons_succ]
    refine wpAnyH_take (i := 15) (v := ?vq16) rfl (by kernel_rfl) (by kernel_rfl) (by kernel_rfl) (fun _ _ _ h => h) (Or.inl ⟨by rfl, ?hyq16⟩) (by assumption) ?restq16
    case hyq16 => (intro w hSw; (try dsimp only at hSw); go_simp; try with_reducible rfl)
    try simp only [Act.put, List.getElem_toArray, List.getElem_cons_succ, List.getElem_cons_zero, List.setIfInBounds_toArray, List.set_cons_zero, List.set_cons_succ]
    refine wpAnyH_take (i := 16) (v := ?vq17) rfl (by kernel_rfl) (by kernel_rfl) (by kernel_rfl) (fun _ _ _ h => h) (Or.inl ⟨by rfl, ?hyq17⟩) (by assumption) ?restq17
    case hyq17 => (intro w hSw; (try dsimp only at hSw); go_simp; try with_reducible rfl)
    try simp only [Act.put, List.getElem_toArray, List.getElem_cons_succ, List.getElem_cons_zero, List.setIfInBounds_toArray, List.set_cons_zero, List.set_cons_succ]
    refine wpAnyH_take (i := 17) (v := ?vq18) rfl (by kernel_rfl) (by kernel_rfl) (by kernel_rfl) (fun _ _ _ h => h) (Or.inl ⟨by rfl, ?hyq18⟩) (by assumption) ?restq18
    case hyq18 => (intro w hSw; (try dsimp only at hSw); go_simp; try with_reducible rfl)
    try simp only [Act.put, List.getElem_toArray, List.getElem_cons_succ, List.getElem_cons_zero, List.setIfInBounds_toArray, List.set_cons_zero, List.set_cons_succ]
    refine wpAnyH_take (i := 18) (v := ?vq19) rfl (by kernel_rfl) (by kernel_rfl) (by kernel_rfl) (fun _ _ _ h => h) (Or.inl ⟨by rfl, ?hyq19⟩) (by assumption) ?restq19
    case hyq19 => (intro w hSw; (try dsimp only at hSw); go_simp; try with_reducible rfl)
    try simp only [Act.put, List.getElem_toArray, List.getElem_cons_succ, List.getElem_cons_zero, List.setIfInBounds_toArray, List.set_cons_zero, List.set_cons_succ]
    refine wpAnyH_take (i := 19) (v := ?vq20) rfl (by kernel_rfl) (by kernel_rfl) (by kernel_rfl) (fun _ _ _ h => h) (Or.inl ⟨by rfl, ?hyq20⟩) (by assumption) ?restq20
    case hyq20 => (intro w hSw; (try dsimp only at hSw); go_simp; try with_reducible rfl)
    try simp only [Act.put, List.getElem_toArray, List.getElem_cons_succ, List.getElem_cons_zero, List.setIfInBounds_toArray, List.set_cons_zero, List.set_cons_succ]
    refine wpAnyH_take (i := 20) (v := ?vq21) rfl (by kernel_rfl) (by kernel_rfl) (by kernel_rfl) (fun _ _ _ h => h) (Or.inl ⟨by rfl, ?hyq21⟩) (by assumption) ?restq21
    case hyq21 => (intro w hSw; (try dsimp only at hSw); go_simp; try with_reducible rfl)
    try simp only [Act.put, List.getElem_toArray, List.getElem_cons_succ, List.getElem_cons_zero, List.setIfInBounds_toArray, List.set_cons_zero, List.set_cons_succ]
    refine wpAnyH_done (by kernel_rfl) ?_ _
    refine NoPanic.normal ?_
    have B := B.trans (hHeld.2.mono B.size)
    go_wp2
    go_ret
    exact ⟨rfl, B⟩
  · have hf : leastI wide ys = -1 := by rcases least_cases wide ys with h | ⟨_, _, _, _, _, _, h, _, _⟩ <;> omega
    have hwb : wayB wide ys = false := by unfold wayB; exact decide_eq_false h0
    obtain rfl : N = 0 := by rw [← HN.out, wayL_out h0]; rfl
    rw [hf, hwb]
    clear hf hwb h0 o bk ow
    go_wp2_with fail
    refine (alive_any w1).mono fun e w4 h => ?_
    obtain ⟨rfl, b⟩ := h
    have B := B.trans (b.mono B.size)
    clear b
    go_wp2
    go_ret
    exact ⟨rfl, B⟩

end Go.Proofs.Ytfpckcmkikckgaa
