/- The walks of BoardLeast, the program's and the reference's. -/
import Derived.Test.YtfpckcmkikckgaaSw
import Derived.Test.YtfpckcmkikckgaaTy
namespace Go.Proofs.Ytfpckcmkikckgaa
open Go Go.RowKit

theorem sides6 {wide : Int} {xs : List Int} (h : BoardOk wide xs) (h6 : xs.length ≤ 6) : SidesOk 6 wide ((xs.length : Int) / wide) ∧ wide * ((xs.length : Int) / wide) = xs.length := by
  obtain ⟨h9, he⟩ := sides_of h
  refine ⟨⟨⟨h9.1.1, ?_⟩, ⟨h9.2.1.1, ?_⟩, h9.2.2.1, by omega⟩, he⟩
  · have h1 := h9.1.1
    have h2 := h9.2.1.1
    have : wide * 1 ≤ wide * ((xs.length : Int) / wide) := Int.mul_le_mul_of_nonneg_left h2 (by omega)
    omega
  · have h1 := h9.1.1
    have h2 := h9.2.1.1
    have : 1 * ((xs.length : Int) / wide) ≤ wide * ((xs.length : Int) / wide) := Int.mul_le_mul_of_nonneg_right h1 (by omega)
    omega

set_option maxRecDepth 100000 in
set_option maxHeartbeats 400000 in
theorem implBoardLeast_any (wide : Int) (ao : Option Addr) (xs : List Int) (n c : Nat) (w : World) (hn : xs.length = n) (hl : n ≤ 17592186044416) (hx : IntsAt w ao xs) :
    Calls Try.prog 9 #[.agg #[.int .i64 wide, .slice ao n c]] w fun e w' => e = .returned (.int .i64 (leastI wide xs)) ∧ Below w.heap.size w w' := by
  have HN := hid hn
  clear hn
  have B := (Below.refl w.heap.size w).alloc (Nat.le_refl _) (.cells #[.int .i64 wide, .slice ao n c] 25)
  have bk := Blk.new w #[.int .i64 wide, .slice ao n c] 25
  cases hv : boardB wide xs with
  | false =>
    have hfin := hid (leastI_out (wide := wide) (xs := xs) fun h => boardB_not.1 hv h.1)
    go_enter Try.func9, Try.ntmps9
    go_wp2_with fail
    generalize (w.alloc (.cells #[.int .i64 wide, .slice ao n c] 25)) = W at *
    refine (implBoardValid_any wide ao xs n c W HN.out hl (hx.below B (Nat.le_refl _))).mono fun e w1 h => ?_
    rw [hv] at h
    obtain ⟨rfl, b⟩ := h
    have B := B.trans (b.mono B.size)
    clear b bk
    go_wp2
    go_ret
    exact ⟨by rw [hfin.out]; rfl, B⟩
  | true =>
    have hok := hid (boardB_iff.1 hv)
    have hw1 : 1 ≤ wide := hok.out.2.2.1
    by_cases h6 : n ≤ 6
    rotate_left
    · have hfin := hid (leastI_out (wide := wide) (xs := xs) fun h => h6 (by have := h.2; rwa [HN.out] at this))
      have hd : decide ((6 : Int) < n) = true := decide_eq_true (by omega)
      go_enter Try.func9, Try.ntmps9
      go_wp2_with fail
      generalize (w.alloc (.cells #[.int .i64 wide, .slice ao n c] 25)) = W at *
      refine (implBoardValid_any wide ao xs n c W HN.out hl (hx.below B (Nat.le_refl _))).mono fun e w1 h => ?_
      rw [hv] at h
      obtain ⟨rfl, b⟩ := h
      have B := B.trans (b.mono B.size)
      have bk := bk.below b (Nat.le_refl _)
      have e0 := bk.at 0 rfl
      have e1 := bk.at 1 rfl
      clear b bk
      go_wp2
      go_ret
      exact ⟨by rw [hfin.out]; rfl, B⟩
    · have hd : decide ((6 : Int) < n) = false := decide_eq_false (by omega)
      have hfin : Hid (leastI wide xs = farS (allS wide n) xs) := by have := leastI_in hok.out (by rw [HN.out]; exact h6); rwa [HN.out] at this
      have hsd := sides6 hok.out (by rw [HN.out]; exact h6)
      rw [HN.out] at hsd
      have hwz : (wide == 0) = false := by simp; omega
      obtain ⟨tall, ht⟩ : ∃ tall, (n : Int) / wide = tall := ⟨_, rfl⟩
      rw [ht] at hsd
      have HS := hid hsd
      have hsr := hid (all_srch hsd.1 hsd.2)
      have hIn := hid (In6.of hok.out HN.out h6)
      have htd : ((n : Int)).tdiv wide = tall := by rw [Int.tdiv_eq_ediv_of_nonneg (by omega)]; exact ht
      have hwz2 : ¬ wide = 0 := by omega
      have hwt : IntKind.i64.wrap tall = tall := IntWalk.i64_in _ (by have := hsd.1.2.1; omega)
      clear hsd
      go_enter Try.func9, Try.ntmps9
      go_wp2_with fail
      generalize (w.alloc (.cells #[.int .i64 wide, .slice ao n c] 25)) = W at *
      refine (implBoardValid_any wide ao xs n c W HN.out hl (hx.below B (Nat.le_refl _))).mono fun e w1 h => ?_
      rw [hv] at h
      obtain ⟨rfl, b⟩ := h
      have B := B.trans (b.mono B.size)
      have bk := bk.below b (Nat.le_refl _)
      clear b hv
      have e0 := bk.at 0 rfl
      have e1 := bk.at 1 rfl
      have lt := bk.lt
      go_wp2_with fail
      go_region_held3 (fun w' => (∀ b o, b < w1.heap.size → w'.cell? ⟨b, o, none⟩ = w1.cell? ⟨b, o, none⟩) ∧ Below w1.heap.size w1 w')
        (first | with_reducible exact sb_drew _ | with_reducible exact sb_call ‹_› bt)
        (first | (go_at_call 35; refine (boardsFrom_any wide tall n _ HS.out.1 HS.out.2).mono fun e wt h => ?_; obtain ⟨g, cc, bm, rfl, ho, hm, hbm, bt⟩ := h))
      rename_i hH
      have b1 := hH.2
      clear hH hwt htd hwz2
      have B := B.trans (b1.mono B.size)
      have bk := bk.below b1 (Nat.le_refl _)
      clear e0 e1 b1 bt ho
      have e0 := bk.at 0 rfl
      have e1 := bk.at 1 rfl
      go_wp2_with fail
      refine (placesOf_any ao xs n c wt HN.out h6 (hx.below B (Nat.le_refl _))).mono fun e w5 h => ?_
      obtain ⟨rfl, b⟩ := h
      have hml := hm.lt
      have hm5 := hm.below b hml
      have B := B.trans (b.mono B.size)
      have hlk := hm5.lookOk hIn.out
      clear b e0 e1 bk hm
      unfold keyV at hlk ⊢
      cases hsn : hasS (allS wide n) xs with
      | true =>
        have hv2 : Hid (leastI wide xs = valS (allS wide n) xs) := by unfold Hid; rw [hfin.out, valS_in hsn]
        rw [hsn] at hlk
        clear hsn
        go_wp2
        go_ret
        exact ⟨by rw [hv2.out]; rfl, B⟩
      | false =>
        have hv2 : Hid (leastI wide xs = -1) := by unfold Hid; rw [hfin.out, farS_no hsn]
        rw [hsn] at hlk
        clear hsn
        go_wp2
        go_ret
        exact ⟨by rw [hv2.out]; rfl, B⟩

set_option maxRecDepth 100000 in
set_option maxHeartbeats 1000000 in
theorem specBoardLeast_any (wide : Int) (ao : Option Addr) (xs : List Int) (n c : Nat) (w : World) (hn : xs.length = n) (hl : n ≤ 17592186044416) (hnc : n ≤ c) (hx : IntsAt w ao xs) :
    Calls Try.prog 10 #[.agg #[.int .i64 wide, .slice ao n c]] w fun e w' => e = .returned (.int .i64 (leastI wide xs)) ∧ Below w.heap.size w w' := by
  have HN := hid hn
  clear hn
  have B := (Below.refl w.heap.size w).alloc (Nat.le_refl _) (.cells #[.int .i64 wide, .slice ao n c] 25)
  have bk := Blk.new w #[.int .i64 wide, .slice ao n c] 25
  cases hv : boardB wide xs with
  | false =>
    have hfin := hid (leastI_out (wide := wide) (xs := xs) fun h => boardB_not.1 hv h.1)
    go_enter Try.func10, Try.ntmps10
    go_wp2_with fail
    generalize (w.alloc (.cells #[.int .i64 wide, .slice ao n c] 25)) = W at *
    refine (specBoardValid_any wide ao xs n c W HN.out hl hnc (hx.below B (Nat.le_refl _))).mono fun e w1 h => ?_
    rw [hv] at h
    obtain ⟨rfl, b⟩ := h
    have B := B.trans (b.mono B.size)
    clear b bk
    go_wp2
    go_ret
    exact ⟨by rw [hfin.out]; rfl, B⟩
  | true =>
    have hok := hid (boardB_iff.1 hv)
    have hw1 : 1 ≤ wide := hok.out.2.2.1
    by_cases h6 : n ≤ 6
    rotate_left
    · have hfin := hid (leastI_out (wide := wide) (xs := xs) fun h => h6 (by have := h.2; rwa [HN.out] at this))
      have hd : decide ((6 : Int) < n) = true := decide_eq_true (by omega)
      go_enter Try.func10, Try.ntmps10
      go_wp2_with fail
      generalize (w.alloc (.cells #[.int .i64 wide, .slice ao n c] 25)) = W at *
      refine (specBoardValid_any wide ao xs n c W HN.out hl hnc (hx.below B (Nat.le_refl _))).mono fun e w1 h => ?_
      rw [hv] at h
      obtain ⟨rfl, b⟩ := h
      have B := B.trans (b.mono B.size)
      have bk := bk.below b (Nat.le_refl _)
      have e0 := bk.at 0 rfl
      have e1 := bk.at 1 rfl
      clear b bk
      go_wp2
      go_ret
      exact ⟨by rw [hfin.out]; rfl, B⟩
    · have hd : decide ((6 : Int) < n) = false := decide_eq_false (by omega)
      have hfin : Hid (leastI wide xs = farS (allS wide n) xs) := by have := leastI_in hok.out (by rw [HN.out]; exact h6); rwa [HN.out] at this
      have hsd := sides6 hok.out (by rw [HN.out]; exact h6)
      rw [HN.out] at hsd
      have hwz : (wide == 0) = false := by simp; omega
      obtain ⟨tall, ht⟩ : ∃ tall, (n : Int) / wide = tall := ⟨_, rfl⟩
      rw [ht] at hsd
      have HS := hid hsd
      have hsr := hid (all_srch hsd.1 hsd.2)
      have hIn := hid (In6.of hok.out HN.out h6)
      have htd : ((n : Int)).tdiv wide = tall := by rw [Int.tdiv_eq_ediv_of_nonneg (by omega)]; exact ht
      have hwz2 : ¬ wide = 0 := by omega
      have hwt : IntKind.i64.wrap tall = tall := IntWalk.i64_in _ (by have := hsd.1.2.1; omega)
      have hrk := rank_lt HN.out
      have hf7 := fct_le h6
      have hva : Hid (nth (stL n (allS wide n)) (rankL xs) = farS (allS wide n) xs) := by unfold Hid; rw [nth_stL hrk, stV_far (AllIn.of hsr.out) hIn.out.2.1 hIn.out.2.2]
      obtain ⟨r, hr⟩ : ∃ r, rankL xs = r := ⟨_, rfl⟩
      have HR := hid hr
      rw [hr] at hva hrk
      have hln := hid (length_stL n (allS wide n))
      clear hsd hr
      go_enter Try.func10, Try.ntmps10
      go_wp2_with fail
      generalize (w.alloc (.cells #[.int .i64 wide, .slice ao n c] 25)) = W at *
      refine (specBoardValid_any wide ao xs n c W HN.out hl hnc (hx.below B (Nat.le_refl _))).mono fun e w1 h => ?_
      rw [hv] at h
      obtain ⟨rfl, b⟩ := h
      have B := B.trans (b.mono B.size)
      have bk := bk.below b (Nat.le_refl _)
      have hx1 := hx.below B (Nat.le_refl _)
      clear b hv
      have e0 := bk.at 0 rfl
      have e1 := bk.at 1 rfl
      have lt := bk.lt
      go_wp2_with fail
      -- REGION
      refine wp_region_noPanic ?_
      refine wp_region_held_drew (S := fun w' => (∀ b o, b < w1.heap.size → w'.cell? ⟨b, o, none⟩ = w1.cell? ⟨b, o, none⟩) ∧ Below w1.heap.size w1 w') (by kernel_rfl) (sb_drew _) (fun hHeld => ?_)
      refine wpAnyH_take (i := 0) (v := ?vq1) rfl (by kernel_rfl) (by kernel_rfl) (by kernel_rfl) (fun _ _ _ h => h) (Or.inl ⟨by rfl, ?hyq1⟩) (by assumption) ?restq1
      case hyq1 => (intro w hSw; (try dsimp only at hSw); go_simp; try with_reducible rfl)
      try simp only [Act.put, List.getElem_toArray, List.getElem_cons_zero, List.setIfInBounds_toArray, List.set_cons_zero, List.set_cons_succ]
      refine wpAnyH_take (i := 1) (v := ?vq2) rfl (by kernel_rfl) (by kernel_rfl) (by kernel_rfl) (fun _ _ _ h => h) (Or.inl ⟨by rfl, ?hyq2⟩) (by assumption) ?restq2
      case hyq2 => (intro w hSw; (try dsimp only at hSw); go_simp; try with_reducible rfl)
      try simp only [Act.put, List.getElem_toArray, List.getElem_cons_succ, List.getElem_cons_zero, List.setIfInBounds_toArray, List.set_cons_zero, List.set_cons_succ]
      refine wpAnyH_take (i := 2) (v := ?vq3) rfl (by kernel_rfl) (by kernel_rfl) (by kernel_rfl) (fun _ _ _ h => h) (Or.inl ⟨by rfl, ?hyq3⟩) (by assumption) ?restq3
      case hyq3 => (intro w hSw; (try dsimp only at hSw); go_simp; try with_reducible rfl)
      try simp only [Act.put, List.getElem_toArray, List.getElem_cons_succ, List.getElem_cons_zero, List.setIfInBounds_toArray, List.set_cons_zero, List.set_cons_succ]
      refine wpAnyH_take (i := 3) (v := ?vq4) rfl (by kernel_rfl) (by kernel_rfl) (by kernel_rfl) (fun _ _ _ h => h) (Or.inl ⟨by rfl, ?hyq4⟩) (by assumption) ?restq4
      case hyq4 => (intro w hSw; (try dsimp only at hSw); go_simp; try with_reducible rfl)
      try simp only [Act.put, List.getElem_toArray, List.getElem_cons_succ, List.getElem_cons_zero, List.setIfInBounds_toArray, List.set_cons_zero, List.set_cons_succ]
      refine wpAnyH_take (i := 4) (v := ?vq5) rfl (by kernel_rfl) (by kernel_rfl) (by kernel_rfl) (fun _ _ _ h => h) (Or.inl ⟨by rfl, ?hyq5⟩) (by assumption) ?restq5
      case hyq5 => (intro w hSw; (try dsimp only at hSw); go_simp; try with_reducible rfl)
      try simp only [Act.put, List.getElem_toArray, List.getElem_cons_succ, List.getElem_cons_zero, List.setIfInBounds_toArray, List.set_cons_zero, List.set_cons_succ]
      refine wpAnyH_take (i := 5) (v := ?vq6) rfl (by kernel_rfl) (by kernel_rfl) (by kernel_rfl) (fun _ _ _ h => h) (Or.inl ⟨by rfl, ?hyq6⟩) (by assumption) ?restq6
      case hyq6 => (intro w hSw; (try dsimp only at hSw); go_simp; try with_reducible rfl)
      try simp only [Act.put, List.getElem_toArray, List.getElem_cons_succ, List.getElem_cons_zero, List.setIfInBounds_toArray, List.set_cons_zero, List.set_cons_succ]
      refine wpAnyH_take (i := 6) (v := ?vq7) rfl (by kernel_rfl) (by kernel_rfl) (by kernel_rfl) (fun _ _ _ h => h) (Or.inl ⟨by rfl, ?hyq7⟩) (by assumption) ?restq7
      case hyq7 => (intro w hSw; (try dsimp only at hSw); go_simp; try with_reducible rfl)
      try simp only [Act.put, List.getElem_toArray, List.getElem_cons_succ, List.getElem_cons_zero, List.setIfInBounds_toArray, List.set_cons_zero, List.set_cons_succ]
      refine wpAnyH_take (i := 7) (v := ?vq8) rfl (by kernel_rfl) (by kernel_rfl) (by kernel_rfl) (fun _ _ _ h => h) (Or.inl ⟨by rfl, ?hyq8⟩) (by assumption) ?restq8
      case hyq8 => (intro w hSw; (try dsimp only at hSw); go_simp; try with_reducible rfl)
      try simp only [Act.put, List.getElem_toArray, List.getElem_cons_succ, List.getElem_cons_zero, List.setIfInBounds_toArray, List.set_cons_zero, List.set_cons_succ]
      refine wpAnyH_take (i := 9) (v := ?vq9) rfl (by kernel_rfl) (by kernel_rfl) (by kernel_rfl) (fun _ _ _ h => h) (Or.inl ⟨by rfl, ?hyq9⟩) (by assumption) ?restq9
      case hyq9 => (intro w hSw; (try dsimp only at hSw); go_simp; try with_reducible rfl)
      try simp only [Act.put, List.getElem_toArray, List.getElem_cons_succ, List.getElem_cons_zero, List.setIfInBounds_toArray, List.set_cons_zero, List.set_cons_succ]
      refine wpAnyH_take (i := 10) (v := ?vq10) rfl (by kernel_rfl) (by kernel_rfl) (by kernel_rfl) (fun _ _ _ h => h) (Or.inl ⟨by rfl, ?hyq10⟩) (by assumption) ?restq10
      case hyq10 => (intro w hSw; (try dsimp only at hSw); go_simp; try with_reducible rfl)
      try simp only [Act.put, List.getElem_toArray, List.getElem_cons_succ, List.getElem_cons_zero, List.setIfInBounds_toArray, List.set_cons_zero, List.set_cons_succ]
      refine wpAnyH_ready (rs := [8]) (by kernel_rfl) (by simp) ?rdq11
      refine AllReadyH.cons (i := 8) rfl (fun K hK => ?stepq11) ?moreq11
      case moreq11 => exact AllReadyH.nil
      go_simp
      refine (l3Steps_any wide tall n _ HS.out.1 HS.out.2).mono fun e wt h => ?_
      obtain ⟨ao_s, c_s, rfl, o_s, bt⟩ := h.to hln.out
      clear h
      obtain ⟨g_s, rfl⟩ := o_s.addr (by rw [hln.out]; omega)
      have hck := o_s.cell (j := r) (by rw [hln.out]; exact hrk)
      rw [hva.out] at hck
      refine hK.out _ _ (sb_call ‹_› bt) (fun hHeld => ?_)
      clear hK K
      try simp only [Act.put, List.getElem_toArray, List.getElem_cons_succ, List.getElem_cons_zero, List.setIfInBounds_toArray, List.set_cons_zero, List.set_cons_succ]
      refine wpAnyH_ready (rs := [11]) (by kernel_rfl) (by simp) ?rdq12
      refine AllReadyH.cons (i := 11) rfl (fun K hK => ?stepq12) ?moreq12
      case moreq12 => exact AllReadyH.nil
      go_simp
      refine (l3Rank_any ao xs n c _ HN.out h6 (hx1.below (sb_below ‹_›) (Nat.le_refl _))).mono fun e wk h => ?_
      rw [HR.out] at h
      obtain ⟨rfl, hqk⟩ := h
      have hck := (hqk.cell ⟨g_s, r, none⟩).trans hck
      refine hK.out _ _ (sb_call ‹_› (hqk.below _)) (fun hHeld => ?_)
      clear hK K
      try simp only [Act.put, List.getElem_toArray, List.getElem_cons_succ, List.getElem_cons_zero, List.setIfInBounds_toArray, List.set_cons_zero, List.set_cons_succ]
      refine wpAnyH_take (i := 12) (v := ?vq13) rfl (by kernel_rfl) (by kernel_rfl) (by kernel_rfl) (fun _ _ _ h => h) (Or.inl ⟨by rfl, ?hyq13⟩) (by assumption) ?restq13
      case hyq13 => (intro w hSw; (try dsimp only at hSw); go_simp; try with_reducible rfl)
      try simp only [Act.put, List.getElem_toArray, List.getElem_cons_succ, List.getElem_cons_zero, List.setIfInBounds_toArray, List.set_cons_zero, List.set_cons_succ]
      refine wpAnyH_ready (rs := [13]) (by kernel_rfl) (by simp) ?rdq14
      refine AllReadyH.cons (i := 13) rfl (fun K hK => ?stepq14) ?moreq14
      case moreq14 => exact AllReadyH.nil
      go_simp
      refine hK.out _ _ (‹_›) (fun hHeld => ?_)
      clear hK K
      try simp only [Act.put, List.getElem_toArray, List.getElem_cons_succ, List.getElem_cons_zero, List.setIfInBounds_toArray, List.set_cons_zero, List.set_cons_succ]
      refine wpAnyH_take (i := 14) (v := ?vq15) rfl (by kernel_rfl) (by kernel_rfl) (by kernel_rfl) (fun _ _ _ h => h) (Or.inl ⟨by rfl, ?hyq15⟩) (by assumption) ?restq15
      case hyq15 => (intro w hSw; (try dsimp only at hSw); go_simp; try with_reducible rfl)
      try simp only [Act.put, List.getElem_toArray, List.getElem_cons_succ, List.getElem_cons_zero, List.setIfInBounds_toArray, List.set_cons_zero, List.set_cons_succ]
      refine wpAnyH_done (by kernel_rfl) ?_ _
      refine NoPanic.normal ?_
      have B := B.trans (hHeld.2.mono B.size)
      go_wp2
      go_ret
      exact ⟨by rw [hfin.out]; rfl, B⟩

end Go.Proofs.Ytfpckcmkikckgaa
