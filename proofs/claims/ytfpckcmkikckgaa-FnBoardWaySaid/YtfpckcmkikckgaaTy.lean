/- The walks of BoardMay, the program's and the reference's. -/
import Derived.Test.YtfpckcmkikckgaaTm
import Derived.Test.YtfpckcmkikckgaaBn
import Derived.Deep.RegionHeld3
namespace Go.Proofs.Ytfpckcmkikckgaa
open Go Go.RowKit

/-- Can it be brought into order? -/
def mayB (wide : Int) (xs : List Int) : Bool :=
  if BoardOk wide xs ∧ 2 ≤ wide ∧ 2 ≤ (xs.length : Int) / wide then (oddB wide xs == oddB wide (ordL xs.length)) == (freeFarI wide xs % 2 == 0) else false
theorem mayB_in {wide : Int} {xs : List Int} (h : BoardOk wide xs) (h1 : 2 ≤ wide) (h2 : 2 ≤ (xs.length : Int) / wide) :
    mayB wide xs = ((oddB wide xs == oddB wide (ordL xs.length)) == (freeFarI wide xs % 2 == 0)) := if_pos ⟨h, h1, h2⟩
theorem mayB_out {wide : Int} {xs : List Int} (h : ¬ (BoardOk wide xs ∧ 2 ≤ wide ∧ 2 ≤ (xs.length : Int) / wide)) : mayB wide xs = false := if_neg h

theorem sides_of {wide : Int} {xs : List Int} (h : BoardOk wide xs) : SidesOk 9 wide ((xs.length : Int) / wide) ∧ wide * ((xs.length : Int) / wide) = xs.length := by
  have h1 : wide * ((xs.length : Int) / wide) = xs.length := by have := Int.emod_add_mul_ediv (xs.length : Int) wide; rw [h.2.2.2.1] at this; omega
  have h2 := h.1
  have h3 := h.2.1
  have h4 := h.2.2.1
  have h5 : 0 ≤ (xs.length : Int) / wide := Int.ediv_nonneg (by omega) (by omega)
  have h6 : (xs.length : Int) / wide ≤ xs.length := Int.ediv_le_self _ (by omega)
  have h7 : (xs.length : Int) / wide ≠ 0 := fun e => by rw [e, Int.mul_zero] at h1; omega
  have h8 : wide ≤ xs.length := Int.le_of_dvd (by omega) (Int.dvd_of_emod_eq_zero h.2.2.2.1)
  exact ⟨⟨⟨h4, by omega⟩, ⟨by omega, by omega⟩, by omega, by omega⟩, h1⟩

theorem freeFarI_nonneg {wide : Int} {xs : List Int} (h : BoardOk wide xs) : 0 ≤ freeFarI wide xs ∧ freeFarI wide xs ≤ 100 := by
  have hz := zeroI_ok h
  have h2 := h.2.1
  have := farI_bounds h.2.2.1 hz.1 (show (0 : Int) ≤ xs.length - 1 by omega)
  rw [freeFarI_in h]
  omega

set_option maxRecDepth 100000 in
set_option maxHeartbeats 2000000 in
theorem implBoardMay_any (wide : Int) (ao : Option Addr) (xs : List Int) (n c : Nat) (w : World) (hn : xs.length = n) (hl : n ≤ 17592186044416) (hnc : n ≤ c) (hx : IntsAt w ao xs) :
    Calls Try.prog 28 #[.agg #[.int .i64 wide, .slice ao n c]] w fun e w' => e = .returned (.bool (mayB wide xs)) ∧ Below w.heap.size w w' := by
  have HN := hid hn
  have B := (Below.refl w.heap.size w).alloc (Nat.le_refl _) (.cells #[.int .i64 wide, .slice ao n c] 25)
  have bk := Blk.new w #[.int .i64 wide, .slice ao n c] 25
  cases h1 : boardB wide xs with
  | false =>
    have hfin := hid (mayB_out fun h => boardB_not.1 h1 h.1)
    clear hn
    go_enter Try.func28, Try.ntmps28
    go_wp2_with fail
    generalize (w.alloc (.cells #[.int .i64 wide, .slice ao n c] 25)) = w0 at *
    refine (implBoardValid_any wide ao xs n c w0 HN.out hl (hx.below B (Nat.le_refl _))).mono fun e w1 h => ?_
    rw [h1] at h
    obtain ⟨rfl, b⟩ := h
    go_wp2_with fail
    go_ret
    exact ⟨by rw [hfin.out]; rfl, B.trans (b.mono B.size)⟩
  | true =>
    have hok := hid (boardB_iff.1 h1)
    have hs := hid (sides_of hok.out)
    have hn2 : 2 ≤ n := by have := hok.out.1; rwa [HN.out] at this
    have hn9 : n ≤ 9 := by have := hok.out.2.1; rwa [HN.out] at this
    have hw1 : 1 ≤ wide := hok.out.2.2.1
    obtain ⟨q, hq⟩ : ∃ q, (n : Int) / wide = q := ⟨_, rfl⟩
    have hq0 : 0 ≤ q := by rw [← hq]; exact Int.ediv_nonneg (by omega) (by omega)
    have hq9 : q ≤ 9 := by rw [← hq]; exact Int.le_trans (Int.ediv_le_self _ (by omega)) (by omega)
    have hsq : Hid (SidesOk 9 wide q ∧ wide * q = n) := by have := hs.out; rw [HN.out, hq] at this; exact this
    have hdw := hid (doneW_in hsq.out.1)
    have hdl := hid (doneL_in hsq.out.1 hsq.out.2)
    have hol : Hid ((ordL n).length = n) := length_ordL (by omega)
    have hff := freeFarI_nonneg hok.out
    by_cases hw2 : wide < 2
    · have hfin := hid (mayB_out (wide := wide) (xs := xs) fun h => by omega)
      have hd : decide (wide < 2) = true := decide_eq_true hw2
      clear hn
      go_enter Try.func28, Try.ntmps28
      go_wp2_with fail
      generalize (w.alloc (.cells #[.int .i64 wide, .slice ao n c] 25)) = w0 at *
      refine (implBoardValid_any wide ao xs n c w0 HN.out hl (hx.below B (Nat.le_refl _))).mono fun e w1 h => ?_
      rw [h1] at h
      obtain ⟨rfl, b⟩ := h
      have B := B.trans (b.mono B.size)
      have bk := bk.below b (Nat.le_refl _)
      have e0 := bk.at 0 rfl
      have e1 := bk.at 1 rfl
      clear b h1
      go_wp2_with fail
      go_ret
      exact ⟨by rw [hfin.out]; rfl, B⟩
    by_cases hq2 : q < 2
    · have hfin := hid (mayB_out (wide := wide) (xs := xs) fun h => by have := h.2.2; rw [hn, hq] at this; omega)
      have hd0 : decide (wide < 2) = false := decide_eq_false hw2
      have hd : decide (q < 2) = true := decide_eq_true hq2
      clear hn
      go_enter Try.func28, Try.ntmps28
      go_wp2_with fail
      generalize (w.alloc (.cells #[.int .i64 wide, .slice ao n c] 25)) = w0 at *
      refine (implBoardValid_any wide ao xs n c w0 HN.out hl (hx.below B (Nat.le_refl _))).mono fun e w1 h => ?_
      rw [h1] at h
      obtain ⟨rfl, b⟩ := h
      have B := B.trans (b.mono B.size)
      have bk := bk.below b (Nat.le_refl _)
      have e0 := bk.at 0 rfl
      have e1 := bk.at 1 rfl
      clear b h1
      go_wp2_with fail
      go_ret
      exact ⟨by rw [hfin.out]; rfl, B⟩
    have hd0 : decide (wide < 2) = false := decide_eq_false hw2
    have hd : decide (q < 2) = false := decide_eq_false hq2
    have hfin : Hid (mayB wide xs = ((oddB wide xs == oddB wide (ordL n)) == (freeFarI wide xs % 2 == 0))) := by
      have := mayB_in hok.out (show 2 ≤ wide by omega) (by rw [hn, hq]; omega)
      rwa [hn] at this
    clear hn
    go_enter Try.func28, Try.ntmps28
    go_wp2_with fail
    generalize (w.alloc (.cells #[.int .i64 wide, .slice ao n c] 25)) = w0 at *
    refine (implBoardValid_any wide ao xs n c w0 HN.out hl (hx.below B (Nat.le_refl _))).mono fun e w1 h => ?_
    rw [h1] at h
    obtain ⟨rfl, b⟩ := h
    have B := B.trans (b.mono B.size)
    have bk := bk.below b (Nat.le_refl _)
    have e0 := bk.at 0 rfl
    have e1 := bk.at 1 rfl
    have lt := bk.lt
    have hx1 := hx.below B (Nat.le_refl _)
    clear b h1
    go_wp2
    go_region_held3 (fun w' => (∀ b o, b < w1.heap.size → w'.cell? ⟨b, o, none⟩ = w1.cell? ⟨b, o, none⟩) ∧ Below w1.heap.size w1 w')
      (first | exact sb_drew _ | exact sb_call ‹_› ‹_›)
      (first | (go_at_call 49; refine (implBoardOdd_any wide ao_t (ordL n) n c_t _ hol.out hl hc_t t.ints).mono fun e wu h => ?_; obtain ⟨rfl, bu⟩ := h) | (go_at_call 49; refine (implBoardOdd_any wide ao xs n c _ HN.out hl hnc (hx1.below (sb_below ‹_›) (Nat.le_refl _))).mono fun e wv h => ?_; obtain ⟨rfl, bv⟩ := h) | (go_at_call 20; refine (implBoardDone_any wide q _).mono fun e wt h => ?_; rw [hdw.out, hdl.out] at h; obtain ⟨ao_t, c_t, rfl, hc_t, t, bt⟩ := h.to hol.out; clear h))
    rename_i hH
    have b := hH.2
    have B := B.trans (b.mono B.size)
    have bk := bk.below b (Nat.le_refl _)
    clear hH b t bt bu bv e0 e1 hx1
    have e0 := bk.at 0 rfl
    have e1 := bk.at 1 rfl
    go_wp2_with fail
    refine (implFreeFar_any wide ao xs n c _ HN.out hl (hx.below B (Nat.le_refl _))).mono fun e wz h => ?_
    obtain ⟨rfl, b⟩ := h
    obtain ⟨hff0, hff1⟩ := hff
    go_wp2_with fail
    go_ret
    exact ⟨ret_bool hfin.out.symm, B.trans (b.mono B.size)⟩

set_option maxRecDepth 100000 in
set_option maxHeartbeats 2000000 in
theorem specBoardMay_any (wide : Int) (ao : Option Addr) (xs : List Int) (n c : Nat) (w : World) (hn : xs.length = n) (hl : n ≤ 17592186044416) (hnc : n ≤ c) (hx : IntsAt w ao xs) :
    Calls Try.prog 29 #[.agg #[.int .i64 wide, .slice ao n c]] w fun e w' => e = .returned (.bool (mayB wide xs)) ∧ Below w.heap.size w w' := by
  have HN := hid hn
  have B := (Below.refl w.heap.size w).alloc (Nat.le_refl _) (.cells #[.int .i64 wide, .slice ao n c] 25)
  have bk := Blk.new w #[.int .i64 wide, .slice ao n c] 25
  cases h1 : boardB wide xs with
  | false =>
    have hfin := hid (mayB_out fun h => boardB_not.1 h1 h.1)
    clear hn
    go_enter Try.func29, Try.ntmps29
    go_wp2_with fail
    generalize (w.alloc (.cells #[.int .i64 wide, .slice ao n c] 25)) = w0 at *
    refine (specBoardValid_any wide ao xs n c w0 HN.out hl hnc (hx.below B (Nat.le_refl _))).mono fun e w1 h => ?_
    rw [h1] at h
    obtain ⟨rfl, b⟩ := h
    go_wp2_with fail
    go_ret
    exact ⟨by rw [hfin.out]; rfl, B.trans (b.mono B.size)⟩
  | true =>
    have hok := hid (boardB_iff.1 h1)
    have hs := hid (sides_of hok.out)
    have hn2 : 2 ≤ n := by have := hok.out.1; rwa [HN.out] at this
    have hn9 : n ≤ 9 := by have := hok.out.2.1; rwa [HN.out] at this
    have hw1 : 1 ≤ wide := hok.out.2.2.1
    obtain ⟨q, hq⟩ : ∃ q, (n : Int) / wide = q := ⟨_, rfl⟩
    have hq0 : 0 ≤ q := by rw [← hq]; exact Int.ediv_nonneg (by omega) (by omega)
    have hq9 : q ≤ 9 := by rw [← hq]; exact Int.le_trans (Int.ediv_le_self _ (by omega)) (by omega)
    have hsq : Hid (SidesOk 9 wide q ∧ wide * q = n) := by have := hs.out; rw [HN.out, hq] at this; exact this
    have hdw := hid (doneW_in hsq.out.1)
    have hdl := hid (doneL_in hsq.out.1 hsq.out.2)
    have hol : Hid ((ordL n).length = n) := length_ordL (by omega)
    have hff := freeFarI_nonneg hok.out
    by_cases hw2 : wide < 2
    · have hfin := hid (mayB_out (wide := wide) (xs := xs) fun h => by omega)
      have hd : decide (wide < 2) = true := decide_eq_true hw2
      clear hn
      go_enter Try.func29, Try.ntmps29
      go_wp2_with fail
      generalize (w.alloc (.cells #[.int .i64 wide, .slice ao n c] 25)) = w0 at *
      refine (specBoardValid_any wide ao xs n c w0 HN.out hl hnc (hx.below B (Nat.le_refl _))).mono fun e w1 h => ?_
      rw [h1] at h
      obtain ⟨rfl, b⟩ := h
      have B := B.trans (b.mono B.size)
      have bk := bk.below b (Nat.le_refl _)
      have e0 := bk.at 0 rfl
      have e1 := bk.at 1 rfl
      clear b h1
      go_wp2_with fail
      go_ret
      exact ⟨by rw [hfin.out]; rfl, B⟩
    by_cases hq2 : q < 2
    · have hfin := hid (mayB_out (wide := wide) (xs := xs) fun h => by have := h.2.2; rw [hn, hq] at this; omega)
      have hd0 : decide (wide < 2) = false := decide_eq_false hw2
      have hd : decide (q < 2) = true := decide_eq_true hq2
      clear hn
      go_enter Try.func29, Try.ntmps29
      go_wp2_with fail
      generalize (w.alloc (.cells #[.int .i64 wide, .slice ao n c] 25)) = w0 at *
      refine (specBoardValid_any wide ao xs n c w0 HN.out hl hnc (hx.below B (Nat.le_refl _))).mono fun e w1 h => ?_
      rw [h1] at h
      obtain ⟨rfl, b⟩ := h
      have B := B.trans (b.mono B.size)
      have bk := bk.below b (Nat.le_refl _)
      have e0 := bk.at 0 rfl
      have e1 := bk.at 1 rfl
      clear b h1
      go_wp2_with fail
      go_ret
      exact ⟨by rw [hfin.out]; rfl, B⟩
    have hd0 : decide (wide < 2) = false := decide_eq_false hw2
    have hd : decide (q < 2) = false := decide_eq_false hq2
    have hfin : Hid (mayB wide xs = ((oddB wide xs == oddB wide (ordL n)) == (freeFarI wide xs % 2 == 0))) := by
      have := mayB_in hok.out (show 2 ≤ wide by omega) (by rw [hn, hq]; omega)
      rwa [hn] at this
    clear hn
    go_enter Try.func29, Try.ntmps29
    go_wp2_with fail
    generalize (w.alloc (.cells #[.int .i64 wide, .slice ao n c] 25)) = w0 at *
    refine (specBoardValid_any wide ao xs n c w0 HN.out hl hnc (hx.below B (Nat.le_refl _))).mono fun e w1 h => ?_
    rw [h1] at h
    obtain ⟨rfl, b⟩ := h
    have B := B.trans (b.mono B.size)
    have bk := bk.below b (Nat.le_refl _)
    have e0 := bk.at 0 rfl
    have e1 := bk.at 1 rfl
    have lt := bk.lt
    clear b h1
    have tok : True := trivial
    have hwne : ¬ wide = 0 := by omega
    have hwq : IntKind.i64.wrap q = q := IntWalk.i64_in _ (by omega)
    go_wp2
    go_region_held3 (fun w' => (∀ b o, b < w1.heap.size → w'.cell? ⟨b, o, none⟩ = w1.cell? ⟨b, o, none⟩) ∧ Below w1.heap.size w1 w')
      (first | with_reducible exact sb_drew _ | with_reducible exact sb_ad _ _ | with_reducible exact sb_call ‹_› bt | with_reducible exact sb_alloc (sb_call (sb_drew _) bt) _ | with_reducible exact sb_set (sb_set ‹_› (Nat.le_refl _) _ _) (Nat.le_refl _) _ _ | with_reducible exact sb_alloc ‹_› _)
      (first | (go_at_call 51; refine (specBoardDone_any wide q _).mono fun e wt h => ?_; rw [hdw.out, hdl.out] at h; obtain ⟨ao_t, c_t, rfl, hc_t, t, bt⟩ := h.to hol.out; clear h; obtain ⟨hct, hft⟩ := bcell bt))
    all_goals rename_i hH
    · have b1 := hH.2
      have bkd := Blk.new wt #[.int .i64 wide, .slice ao_t n c_t] 25
      have od := t.alloc (.cells #[.int .i64 wide, .slice ao_t n c_t] 25)
      clear hH hct hft t bt
      generalize (wt.alloc (.cells #[.int .i64 wide, .slice ao_t n c_t] 25)) = W at *
      have B := B.trans (b1.mono B.size)
      have bk := bk.below b1 (Nat.le_refl _)
      clear b1 e0 e1 lt hwq
      have e0 := bk.at 0 rfl
      have e1 := bk.at 1 rfl
      have d0 := bkd.at 0 rfl
      have d1 := bkd.at 1 rfl
      have lt := bk.lt
      have ltd := bkd.lt
      have hx1 := hx.below B (Nat.le_refl _)
      have hd1 := od.ints
      go_wp2
      go_region_held3 (fun w' => (∀ b o, b < W.heap.size → w'.cell? ⟨b, o, none⟩ = W.cell? ⟨b, o, none⟩) ∧ Below W.heap.size W w')
        (first | with_reducible exact sb_drew _ | with_reducible exact sb_call ‹_› b2)
        (first | (go_at_call 53; refine (specFreeFar_any wide ao xs n c _ HN.out hl hnc (hx1.below (sb_below ‹_›) (Nat.le_refl _))).mono fun e wf h => ?_; obtain ⟨rfl, b2⟩ := h) | (go_at_call 52; have _t := tok; refine (specBoardOdd_any wide ao xs n c _ HN.out hl hnc (hx1.below (sb_below ‹_›) (Nat.le_refl _))).mono fun e wv h => ?_; obtain ⟨rfl, b2⟩ := h; clear tok) | (go_at_call 52; refine (specBoardOdd_any wide ao_t (ordL n) n c_t _ hol.out hl hc_t (hd1.below (sb_below ‹_›) (Nat.le_refl _))).mono fun e wu h => ?_; obtain ⟨rfl, b2⟩ := h))
      rename_i hH
      have B := B.trans (hH.2.mono B.size)
      clear hH e0 e1 d0 d1
      go_wp2
      go_ret
      exact ⟨ret_bool (by rw [hfin.out, Int.tmod_eq_emod_of_nonneg hff.1]), B⟩
    · have b1 := hH.2
      have k0 : Blk ((w1.alloc (.cells #[.int .i64 0, .slice none 0 0] 25)).drew) w1.heap.size #[.int .i64 0, .slice none 0 0] 25 := Blk.new w1 _ _
      have bkd : Blk _ w1.heap.size #[.int .i64 wide, .slice ao_t n c_t] 25 := ((k0.below bt (Nat.le_refl _)).set 0 (.int .i64 wide)).set 1 (.slice ao_t n c_t)
      have od := (t.setOther w1.heap.size 0 (.int .i64 wide) (t.ne_of_lt (by simp))).setOther w1.heap.size 1 (.slice ao_t n c_t) (t.ne_of_lt (by simp))
      clear hH hct hft t bt k0
      generalize ((wt.setCell ⟨w1.heap.size, 0, none⟩ (.int .i64 wide)).setCell ⟨w1.heap.size, 1, none⟩ (.slice ao_t n c_t)) = W at *
      have B := B.trans (b1.mono B.size)
      have bk := bk.below b1 (Nat.le_refl _)
      clear b1 e0 e1 lt hwq
      have e0 := bk.at 0 rfl
      have e1 := bk.at 1 rfl
      have d0 := bkd.at 0 rfl
      have d1 := bkd.at 1 rfl
      have lt := bk.lt
      have ltd := bkd.lt
      have hx1 := hx.below B (Nat.le_refl _)
      have hd1 := od.ints
      go_wp2
      go_region_held3 (fun w' => (∀ b o, b < W.heap.size → w'.cell? ⟨b, o, none⟩ = W.cell? ⟨b, o, none⟩) ∧ Below W.heap.size W w')
        (first | with_reducible exact sb_drew _ | with_reducible exact sb_call ‹_› b2)
        (first | (go_at_call 53; refine (specFreeFar_any wide ao xs n c _ HN.out hl hnc (hx1.below (sb_below ‹_›) (Nat.le_refl _))).mono fun e wf h => ?_; obtain ⟨rfl, b2⟩ := h) | (go_at_call 52; have _t := tok; refine (specBoardOdd_any wide ao xs n c _ HN.out hl hnc (hx1.below (sb_below ‹_›) (Nat.le_refl _))).mono fun e wv h => ?_; obtain ⟨rfl, b2⟩ := h; clear tok) | (go_at_call 52; refine (specBoardOdd_any wide ao_t (ordL n) n c_t _ hol.out hl hc_t (hd1.below (sb_below ‹_›) (Nat.le_refl _))).mono fun e wu h => ?_; obtain ⟨rfl, b2⟩ := h))
      rename_i hH
      have B := B.trans (hH.2.mono B.size)
      clear hH e0 e1 d0 d1
      go_wp2
      go_ret
      exact ⟨ret_bool (by rw [hfin.out, Int.tmod_eq_emod_of_nonneg hff.1]), B⟩
end Go.Proofs.Ytfpckcmkikckgaa
