/- The walk of the law FnTilesFar. -/
import Derived.Test.YtfpckcmkikckgaaSx
import Derived.Test.YtfpckcmkikckgaaSl
import Derived.Test.YtfpckcmkikckgaaTr
import Derived.Test.YtfpckcmkikckgaaAl
import Derived.Test.YtfpckcmkikckgaaDd
import Derived.Test.YtfpckcmkikckgaaSb
import Derived.Deep.RegionHeld3
namespace Go.Proofs.Ytfpckcmkikckgaa
open Go Go.RowKit

theorem tilesFar_pos {wide : Int} {xs : List Int} (h : BoardOk wide xs) : 0 ≤ tilesFarI wide xs := by
  rw [tilesFarI_in h]
  have : ∀ k, k ≤ xs.length → 0 ≤ tfTo wide xs k := fun k => by
    induction k with
    | zero => intro _; exact Int.le_refl _
    | succ k ih =>
      intro hk
      have := ih (by omega)
      have := tf1_nonneg h (k := k) (by omega)
      rw [tfTo_s]; omega
  exact this _ (Nat.le_refl _)

theorem done_is {wide : Int} {xs : List Int} (h : BoardOk wide xs) : doneW wide ((xs.length : Int) / wide) = wide ∧ doneL wide ((xs.length : Int) / wide) = ordL xs.length := by
  obtain ⟨h1, h2⟩ := sides_of h
  exact ⟨doneW_in h1, doneL_in h1 h2⟩

theorem far_law {wide : Int} {xs : List Int} (h : BoardOk wide xs) : (leastI wide xs < 0 ∨ (tilesFarI wide xs ≤ leastI wide xs ∧ leastI wide xs ≤ 720 ∧ (leastI wide xs - tilesFarI wide xs) % 2 = 0)) ∧ (tilesFarI wide xs = 0 ↔ ordL xs.length = xs) := by
  refine ⟨?_, fun h0 => (tilesFar_zero h h0).symm, fun e => ?_⟩
  · rcases least_cases wide xs with hl | ⟨_, _, i, hi, hb, hd, h0, h7, hr⟩
    · left; omega
    · right
      have := dep_far hr i hi
      rw [hb, ← hd] at this
      exact ⟨this.1, h7, this.2⟩
  · have ho := ord_ok h
    have := tilesFar_ord ho.1 ho.2
    rwa [e] at this

set_option maxRecDepth 100000 in
set_option maxHeartbeats 4000000 in
theorem fnTilesFar_walk (w : World) (ao : Option Addr) (bs : List Int) (l c : Nat) (hn : bs.length = l) (hlc : l ≤ c) (hcm : c ≤ 9223372036854775807) (hx : BytesAt w ao bs) (h8 : B8 bs) :
    Calls Try.prog 6 #[.slice ao l c] w fun e w' => e = .returned (.bool true) ∧ Below w.heap.size w w' := by
  by_cases hbig : 1048576 < l
  · have hd : decide ((1048576 : Int) < l) = true := decide_eq_true (by omega)
    clear hx hn h8
    go_enter Try.func6, Try.ntmps6
    go_wp2
    go_ret
    exact ⟨rfl, Below.refl _ _⟩
  have hd : decide ((1048576 : Int) < l) = false := decide_eq_false (by omega)
  go_enter Try.func6, Try.ntmps6
  go_wp2_with fail
  refine (drawTilesFar_any ao bs l c w hn hlc hcm hx h8).mono fun e w1 h => ?_
  obtain ⟨wide, ao1, m, c1, ys, rfl, hl, hmc, hm9, hwd, o, B⟩ := h
  clear hx h8 hn hd hbig
  have HL := hid hl
  clear hl
  have bk := Blk.new w1 #[.int .i64 wide, .slice ao1 m c1] 25
  have o := o.alloc (.cells #[.int .i64 wide, .slice ao1 m c1] 25)
  have hgbw : w.heap.size ≤ w1.heap.size := B.size
  have B := B.alloc B.size (.cells #[.int .i64 wide, .slice ao1 m c1] 25)
  go_wp2_with fail
  generalize (w1.alloc (.cells #[.int .i64 wide, .slice ao1 m c1] 25)) = W at *
  generalize w1.heap.size = gb at *
  by_cases hok : BoardOk wide ys
  · have hlw := far_law hok
    have hdn := done_is hok
    have hpo := tilesFar_pos hok
    have hle := (ord_ok hok).2
    have hw := hok.2.2.1
    have hmn : 2 ≤ m := by have := hok.1; rw [HL.out] at this; exact this
    rw [HL.out] at hlw hdn hle
    have ht0 : 0 ≤ (m : Int) / wide ∧ (m : Int) / wide ≤ m := ⟨Int.ediv_nonneg (by omega) (by omega), Int.ediv_le_self _ (by omega)⟩
    have htd : ((m : Int)).tdiv wide = (m : Int) / wide := Int.tdiv_eq_ediv_of_nonneg (by omega)
    generalize (m : Int) / wide = T at *
    have hwt : IntKind.i64.wrap T = T := IntWalk.i64_in _ (by omega)
    obtain ⟨f1, f2⟩ := hlw
    have hff : Hid (tilesFarI wide ys = 0 ↔ ordL m = ys) := f2
    clear f2 hok
    obtain ⟨f, hf⟩ : ∃ f, tilesFarI wide ys = f := ⟨_, rfl⟩
    obtain ⟨q, hq⟩ : ∃ q, leastI wide ys = q := ⟨_, rfl⟩
    rw [hf] at hff f1 hpo
    rw [hq] at f1
    have HF := hid hf
    have HQ := hid hq
    have HDN := hid hdn
    have HLE := hid hle
    clear hf hq hdn hle
    refine (implTilesFar_any wide ao1 ys m c1 W HL.out (by omega) o.ints).mono fun e w2 h => ?_
    rw [HF.out] at h
    obtain ⟨rfl, b⟩ := h
    have o := o.below b (Nat.le_refl _)
    have bk := bk.below b (Nat.le_refl _)
    have B := B.trans (b.mono B.size)
    clear b
    have e0 := bk.at 0 rfl
    have e1 := bk.at 1 rfl
    go_wp2_with fail
    refine (specTilesFar_any wide ao1 ys m c1 w2 HL.out (by omega) hmc o.ints).mono fun e w3 h => ?_
    rw [HF.out] at h
    obtain ⟨rfl, b⟩ := h
    have o := o.below b (Nat.le_refl _)
    have bk := bk.below b (Nat.le_refl _)
    have B := B.trans (b.mono B.size)
    clear b e0 e1
    have e0 := bk.at 0 rfl
    have e1 := bk.at 1 rfl
    have hb1 : (f != f) = false := by simp
    have hd0 : decide (f < 0) = false := decide_eq_false (by omega)
    have hw0 : (wide == 0) = false := by simp; omega
    have hw1 : ¬ wide = 0 := by omega
    go_wp2_with fail
    refine (implBoardLeast_any wide ao1 ys m c1 w3 HL.out (by omega) o.ints).mono fun e w4 h => ?_
    rw [HQ.out] at h
    obtain ⟨rfl, b⟩ := h
    have o := o.below b (Nat.le_refl _)
    have bk := bk.below b (Nat.le_refl _)
    have B := B.trans (b.mono B.size)
    clear b e0 e1
    have e0 := bk.at 0 rfl
    have e1 := bk.at 1 rfl
    have lt := bk.lt
    go_wp2_with fail
    -- REGION
    refine wp_region_noPanic ?_
    refine wp_region_held_drew (S := fun w' => (∀ b o, b < w4.heap.size → w'.cell? ⟨b, o, none⟩ = w4.cell? ⟨b, o, none⟩) ∧ Below w4.heap.size w4 w') (by kernel_rfl) (sb_drew _) (fun hHeld => ?_)
    refine wpAnyH_take (i := 0) (v := ?vq1) rfl (by kernel_rfl) (by kernel_rfl) (by kernel_rfl) (fun _ _ _ h => h) (Or.inl ⟨by rfl, ?hyq1⟩) (by assumption) ?restq1
    case hyq1 => (intro w hSw; (try dsimp only at hSw); go_simp; try with_reducible rfl)
    try simp only [Act.put, List.getElem_toArray, List.getElem_cons_zero, List.setIfInBounds_toArray, List.set_cons_zero, List.set_cons_succ]
    refine wpAnyH_take (i := 1) (v := ?vq2) rfl (by kernel_rfl) (by kernel_rfl) (by kernel_rfl) (fun _ _ _ h => h) (Or.inl ⟨by rfl, ?hyq2⟩) (by assumption) ?restq2
    case hyq2 => (intro w hSw; (try dsimp only at hSw); go_simp; try with_reducible rfl)
    try simp only [Act.put, List.getElem_toArray, List.getElem_cons_succ, List.getElem_cons_zero, List.setIfInBounds_toArray, List.set_cons_zero, List.set_cons_succ]
    refine wpAnyH_take (i := 2) (v := ?vq3) rfl (by kernel_rfl) (by kernel_rfl) (by kernel_rfl) (fun _ _ _ h => h) (Or.inl ⟨by rfl, ?hyq3⟩) (by assumption) ?restq3
    case hyq3 => (intro w hSw; (try dsimp only at hSw); go_simp; try with_reducible rfl)
    try simp only [Act.put, List.getElem_toArray, List.getElem_cons_succ, List.getElem_cons_zero, List.setIfInBounds_toArray, List.set_cons_zero, List.set_cons_succ]
    refine wpAnyH_take (i := 3) (v := ?vq4) rfl (by kernel_rfl) (by kernel_rfl) (by kernel_rfl) (fun _ _ _ h => h) (Or.inl ⟨by rfl, ?hyq4⟩) (by assumption) ?restq4
    case hyq4 => (intro w hSw; (try dsimp only at hSw); go_simp; try with_reducible rfl)
    try simp only [Act.put, List.getElem_toArray, List.getElem_cons_succ, List.getElem_cons_zero, List.setIfInBounds_toArray, List.set_cons_zero, List.set_cons_succ]
    refine wpAnyH_take (i := 4) (v := ?vq5) rfl (by kernel_rfl) (by kernel_rfl) (by kernel_rfl) (fun _ _ _ h => h) (Or.inl ⟨by rfl, ?hyq5⟩) (by assumption) ?restq5
    case hyq5 => (intro w hSw; (try dsimp only at hSw); go_simp; try with_reducible rfl)
    try simp only [Act.put, List.getElem_toArray, List.getElem_cons_succ, List.getElem_cons_zero, List.setIfInBounds_toArray, List.set_cons_zero, List.set_cons_succ]
    refine wpAnyH_take (i := 5) (v := ?vq6) rfl (by kernel_rfl) (by kernel_rfl) (by kernel_rfl) (fun _ _ _ h => h) (Or.inl ⟨by rfl, ?hyq6⟩) (by assumption) ?restq6
    case hyq6 => (intro w hSw; (try dsimp only at hSw); go_simp; try with_reducible rfl)
    try simp only [Act.put, List.getElem_toArray, List.getElem_cons_succ, List.getElem_cons_zero, List.setIfInBounds_toArray, List.set_cons_zero, List.set_cons_succ]
    refine wpAnyH_take (i := 6) (v := ?vq7) rfl (by kernel_rfl) (by kernel_rfl) (by kernel_rfl) (fun _ _ _ h => h) (Or.inl ⟨by rfl, ?hyq7⟩) (by assumption) ?restq7
    case hyq7 => (intro w hSw; (try dsimp only at hSw); go_simp; try with_reducible rfl)
    try simp only [Act.put, List.getElem_toArray, List.getElem_cons_succ, List.getElem_cons_zero, List.setIfInBounds_toArray, List.set_cons_zero, List.set_cons_succ]
    refine wpAnyH_take (i := 7) (v := ?vq8) rfl (by kernel_rfl) (by kernel_rfl) (by kernel_rfl) (fun _ _ _ h => h) (Or.inl ⟨by rfl, ?hyq8⟩) (by assumption) ?restq8
    case hyq8 => (intro w hSw; (try dsimp only at hSw); go_simp; try with_reducible rfl)
    try simp only [Act.put, List.getElem_toArray, List.getElem_cons_succ, List.getElem_cons_zero, List.setIfInBounds_toArray, List.set_cons_zero, List.set_cons_succ]
    refine wpAnyH_ready (rs := [8, 9]) (by kernel_rfl) (by simp) ?rdq13
    refine AllReadyH.cons (i := 8) rfl (fun K hK => ?stepq13_0) ?moreq13_0
    case stepq13_0 =>
      go_simp
      refine (implBoardDone_any wide T _).mono fun e wt h => ?_
      rw [HDN.out.1, HDN.out.2] at h
      obtain ⟨ao_t, c_t, rfl, hc_t, t, bt⟩ := h.to HLE.out
      clear h
      refine hK.out _ _ (sb_call ‹_› bt) (fun hHeld => ?_)
      clear hK K
      try simp only [Act.put, List.getElem_toArray, List.getElem_cons_succ, List.getElem_cons_zero, List.setIfInBounds_toArray, List.set_cons_zero, List.set_cons_succ]
      have hS1 := hHeld
      have bx := Blk.new wt #[.int .i64 0, .slice none 0 0] 25
      refine wpAnyH_ready (rs := [9]) (by kernel_rfl) (by simp) ?rdq9
      refine AllReadyH.cons (i := 9) rfl (fun K hK => ?stepq9) ?moreq9
      case moreq9 => exact AllReadyH.nil
      go_simp
      refine hK.out _ _ (sb_alloc ‹_› _) (fun hHeld => ?_)
      clear hK K
      try simp only [Act.put, List.getElem_toArray, List.getElem_cons_succ, List.getElem_cons_zero, List.setIfInBounds_toArray, List.set_cons_zero, List.set_cons_succ]
      have x0 := bx.at 0 rfl
      have x1 := bx.at 1 rfl
      refine wpAnyH_ready (rs := [10]) (by kernel_rfl) (by simp) ?rdq10
      refine AllReadyH.cons (i := 10) rfl (fun K hK => ?stepq10) ?moreq10
      case moreq10 => exact AllReadyH.nil
      go_simp
      refine hK.out _ _ (sb_alloc hS1 _) (fun hHeld => ?_)
      clear hK K
      try simp only [Act.put, List.getElem_toArray, List.getElem_cons_succ, List.getElem_cons_zero, List.setIfInBounds_toArray, List.set_cons_zero, List.set_cons_succ]
      refine wpAnyH_done (by kernel_rfl) ?_ _
      refine NoPanic.normal ?_
      have bx := Blk.new wt #[.int .i64 wide, .slice ao_t m c_t] 25
      have t := t.alloc (.cells #[.int .i64 wide, .slice ao_t m c_t] 25)
      have b1 := hHeld.2
      have o := o.below b1 (Nat.le_refl _)
      have bk := bk.below b1 (Nat.le_refl _)
      have B := B.trans (b1.mono B.size)
      clear hHeld hS1 bt x0 x1 e0 e1 b1 lt
      generalize (wt.alloc (.cells #[.int .i64 wide, .slice ao_t m c_t] 25)) = w5 at *
      generalize wt.heap.size = gx at *
      have e0 := bk.at 0 rfl
      have e1 := bk.at 1 rfl
      have x0 := bx.at 0 rfl
      have x1 := bx.at 1 rfl
      have hfin : ((f == 0) == eqBd wide (ordL m) wide ys) = true := by
        rw [Bool.beq_eq_decide_eq, decide_eq_true_iff, Bool.eq_iff_iff, beq_iff_eq, eqBd, decide_eq_true rfl, Bool.true_and, eqL, decide_eq_true_iff]
        exact hff.out
      rcases f1 with f1 | ⟨f1, f3, f4⟩
      · have hd1 : decide (q < 0) = true := decide_eq_true f1
        go_wp2_with fail
        refine (sameBoard_any wide wide ao_t ao1 (ordL m) ys m m c_t c1 _ HLE.out HL.out (by omega) t.ints o.ints).mono fun e wu h => ?_
        obtain ⟨rfl, bt⟩ := h
        have B := B.trans (bt.mono B.size)
        go_wp2
        go_ret
        exact ⟨rfl, B⟩
      · have hd1 : decide (q < 0) = false := decide_eq_false (by omega)
        have hd2 : decide (f ≤ q) = true := decide_eq_true f1
        have htm : (q - f).tmod 2 = 0 := by rw [Int.tmod_eq_emod_of_nonneg (by omega)]; exact f4
        have htb : ((q - f).tmod 2 == 0) = true := by rw [htm]; rfl
        go_wp2_with fail
        refine (sameBoard_any wide wide ao_t ao1 (ordL m) ys m m c_t c1 _ HLE.out HL.out (by omega) t.ints o.ints).mono fun e wu h => ?_
        obtain ⟨rfl, bt⟩ := h
        have B := B.trans (bt.mono B.size)
        go_wp2
        go_ret
        exact ⟨rfl, B⟩
    refine AllReadyH.cons (i := 9) rfl (fun K hK => ?stepq13_1) ?moreq13_1
    case stepq13_1 =>
      go_simp
      refine hK.out _ _ (sb_alloc ‹_› _) (fun hHeld => ?_)
      clear hK K
      try simp only [Act.put, List.getElem_toArray, List.getElem_cons_succ, List.getElem_cons_zero, List.setIfInBounds_toArray, List.set_cons_zero, List.set_cons_succ]
      have bx : Blk (w4.alloc (.cells #[.int .i64 0, .slice none 0 0] 25)).drew w4.heap.size #[.int .i64 0, .slice none 0 0] 25 := Blk.new w4 _ _
      have hz : w4.heap.size < (w4.alloc (.cells #[.int .i64 0, .slice none 0 0] 25)).drew.heap.size := by simp
      refine wpAnyH_ready (rs := [8]) (by kernel_rfl) (by simp) ?rdq11
      refine AllReadyH.cons (i := 8) rfl (fun K hK => ?stepq11) ?moreq11
      case moreq11 => exact AllReadyH.nil
      go_simp
      refine (implBoardDone_any wide T _).mono fun e wt h => ?_
      rw [HDN.out.1, HDN.out.2] at h
      obtain ⟨ao_t, c_t, rfl, hc_t, t, bt⟩ := h.to HLE.out
      clear h
      refine hK.out _ _ (sb_call ‹_› bt) (fun hHeld => ?_)
      clear hK K
      try simp only [Act.put, List.getElem_toArray, List.getElem_cons_succ, List.getElem_cons_zero, List.setIfInBounds_toArray, List.set_cons_zero, List.set_cons_succ]
      have bx := bx.below bt (Nat.le_refl _)
      have r0 := bx.free 0
      have r1 := bx.free 1
      have x0 := bx.at 0 rfl
      have x1 := bx.at 1 rfl
      have hS1 := hHeld
      refine wpAnyH_ready (rs := [10]) (by kernel_rfl) (by simp) ?rdq12
      refine AllReadyH.cons (i := 10) rfl (fun K hK => ?stepq12) ?moreq12
      case moreq12 => exact AllReadyH.nil
      go_simp
      refine hK.out _ _ (sb_set (sb_set ‹_› (Nat.le_refl _) _ _) (Nat.le_refl _) _ _) (fun hHeld => ?_)
      clear hK K
      try simp only [Act.put, List.getElem_toArray, List.getElem_cons_succ, List.getElem_cons_zero, List.setIfInBounds_toArray, List.set_cons_zero, List.set_cons_succ]
      refine wpAnyH_done (by kernel_rfl) ?_ _
      refine NoPanic.normal ?_
      have bx : Blk ((wt.setCell ⟨w4.heap.size, 0, none⟩ (.int .i64 wide)).setCell ⟨w4.heap.size, 1, none⟩ (.slice ao_t m c_t)) w4.heap.size #[.int .i64 wide, .slice ao_t m c_t] 25 := (bx.set 0 _).set 1 _
      have t := (t.setOther w4.heap.size 0 (.int .i64 wide) (t.ne_of_lt hz)).setOther w4.heap.size 1 (.slice ao_t m c_t) (t.ne_of_lt hz)
      have b1 := hHeld.2
      have o := o.below b1 (Nat.le_refl _)
      have bk := bk.below b1 (Nat.le_refl _)
      have B := B.trans (b1.mono B.size)
      clear hHeld hS1 bt x0 x1 e0 e1 b1 lt
      clear hz r0 r1
      generalize ((wt.setCell ⟨w4.heap.size, 0, none⟩ (.int .i64 wide)).setCell ⟨w4.heap.size, 1, none⟩ (.slice ao_t m c_t)) = w5 at *
      generalize w4.heap.size = gx at *
      have e0 := bk.at 0 rfl
      have e1 := bk.at 1 rfl
      have x0 := bx.at 0 rfl
      have x1 := bx.at 1 rfl
      have hfin : ((f == 0) == eqBd wide (ordL m) wide ys) = true := by
        rw [Bool.beq_eq_decide_eq, decide_eq_true_iff, Bool.eq_iff_iff, beq_iff_eq, eqBd, decide_eq_true rfl, Bool.true_and, eqL, decide_eq_true_iff]
        exact hff.out
      rcases f1 with f1 | ⟨f1, f3, f4⟩
      · have hd1 : decide (q < 0) = true := decide_eq_true f1
        go_wp2_with fail
        refine (sameBoard_any wide wide ao_t ao1 (ordL m) ys m m c_t c1 _ HLE.out HL.out (by omega) t.ints o.ints).mono fun e wu h => ?_
        obtain ⟨rfl, bt⟩ := h
        have B := B.trans (bt.mono B.size)
        go_wp2
        go_ret
        exact ⟨rfl, B⟩
      · have hd1 : decide (q < 0) = false := decide_eq_false (by omega)
        have hd2 : decide (f ≤ q) = true := decide_eq_true f1
        have htm : (q - f).tmod 2 = 0 := by rw [Int.tmod_eq_emod_of_nonneg (by omega)]; exact f4
        have htb : ((q - f).tmod 2 == 0) = true := by rw [htm]; rfl
        go_wp2_with fail
        refine (sameBoard_any wide wide ao_t ao1 (ordL m) ys m m c_t c1 _ HLE.out HL.out (by omega) t.ints o.ints).mono fun e wu h => ?_
        obtain ⟨rfl, bt⟩ := h
        have B := B.trans (bt.mono B.size)
        go_wp2
        go_ret
        exact ⟨rfl, B⟩
    exact AllReadyH.nil
  · have HF := hid (tilesFarI_out hok)
    refine (implTilesFar_any wide ao1 ys m c1 W HL.out (by omega) o.ints).mono fun e w2 h => ?_
    rw [HF.out] at h
    obtain ⟨rfl, b⟩ := h
    have o := o.below b (Nat.le_refl _)
    have bk := bk.below b (Nat.le_refl _)
    have B := B.trans (b.mono B.size)
    clear b
    have e0 := bk.at 0 rfl
    have e1 := bk.at 1 rfl
    go_wp2_with fail
    refine (specTilesFar_any wide ao1 ys m c1 w2 HL.out (by omega) hmc o.ints).mono fun e w3 h => ?_
    rw [HF.out] at h
    obtain ⟨rfl, b⟩ := h
    have B := B.trans (b.mono B.size)
    clear b e0 e1 o bk
    go_wp2_with fail
    refine (alive_any w3).mono fun e w4 h => ?_
    obtain ⟨rfl, b⟩ := h
    have B := B.trans (b.mono B.size)
    clear b
    go_wp2
    go_ret
    exact ⟨rfl, B⟩

end Go.Proofs.Ytfpckcmkikckgaa
