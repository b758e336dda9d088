/- The walk of the reference's TileMove. -/
import Derived.Test.YtaepoddlhghdpaaTc
import Derived.Deep.RegionLawGrows
import Derived.Deep.RegionHeld3
namespace Go.Proofs.Ytaepoddlhghdpaa
open Go Go.RowKit

theorem sb_of {W w' : World} (b : Below W.heap.size W w') : (∀ b o, b < W.heap.size → w'.cell? ⟨b, o, none⟩ = W.cell? ⟨b, o, none⟩) ∧ Below W.heap.size W w' := ⟨(bcell b).1, b⟩

theorem Own.fresh {w : World} {B B' n : Nat} {v : Value} {xs : List Int} (h : w.ownsRow B 3 1 v (0 + n) ([] ++ xs.map (Value.int .i64))) (hn : xs.length = n) (hB : B' ≤ B) : Own w B' v xs := by
  subst hn
  rw [Nat.zero_add, List.nil_append] at h
  exact Own.lower h hB

theorem sb_aad (W : World) (o o2 : Obj) : (∀ b o', b < W.heap.size → ((W.alloc o).alloc o2).drew.cell? ⟨b, o', none⟩ = W.cell? ⟨b, o', none⟩) ∧ Below W.heap.size W ((W.alloc o).alloc o2).drew :=
  sb_of (((Below.refl _ _).alloc (Nat.le_refl _) _ |>.alloc (by simp) _).drew)

theorem sb_size {W w0 : World} (h : (∀ b o, b < W.heap.size → w0.cell? ⟨b, o, none⟩ = W.cell? ⟨b, o, none⟩) ∧ Below W.heap.size W w0) : W.heap.size ≤ w0.heap.size := h.2.size
theorem sb_grown {W w0 w' : World} (h : (∀ b o, b < W.heap.size → w0.cell? ⟨b, o, none⟩ = W.cell? ⟨b, o, none⟩) ∧ Below W.heap.size W w0) (hg : w0.grownBy w' none) : Below W.heap.size W w' :=
  h.2.grown hg h.2.size (by simp)
theorem Own.grown4 {w : World} {B n : Nat} {v : Value} {xs : List Int} (h : Own w B v xs) (hn : xs.length = n) (h0 : 0 < xs.length) :
    ∃ v0 c2 g, v = v0 ∧ v0 = .slice (some ⟨g, 0, none⟩) n c2 ∧ n ≤ c2 ∧ Own w B v0 xs := by
  obtain ⟨ao, c, rfl, _, hc⟩ := h.shapeN hn
  obtain ⟨g, rfl⟩ := h.addr h0
  exact ⟨_, c, g, rfl, rfl, hc, h⟩

/-- The row that an append has made anew is not a block of before. -/
theorem own_ne {w0 w2 : World} {B g h n c : Nat} {cs : Array Value} {t : TypeId} {xs : List Value} (hb : Blk w0 h cs t) (ho : w2.ownsRow w0.heap.size 3 1 (.slice (some ⟨g, 0, none⟩) n c) B xs) (_hg : w0.grownBy w2 none) : h ≠ g := by
  rcases ho.2 with ⟨e, _⟩ | ⟨g', cap, cur, e, hB, _⟩
  · simp at e
  · simp only [Value.slice.injEq, Option.some.injEq, Addr.mk.injEq, and_true] at e
    obtain ⟨rfl, _, rfl⟩ := e
    have := hb.lt
    omega

theorem cells_of {w : World} {ab aoff : Nat} {xs : List Int} (hx : IntsAt w (some ⟨ab, aoff, none⟩) xs) : ∀ j u, (xs.map (Value.int .i64))[j]? = some u → w.cell? ((⟨ab, aoff, none⟩ : Addr).add j) = some u := by
  intro j u hj
  have hjl : j < xs.length := by
    by_cases h : j < xs.length
    · exact h
    · simp [Nat.not_lt.1 h] at hj
  obtain ⟨b2, o2, e, hc⟩ := hx (by omega)
  cases e
  rw [Addr.add_lit, hc j hjl, nth_eq hjl]
  simpa [hjl] using hj

theorem ints_at {w : World} {ab aoff : Nat} {xs : List Int} (hx : IntsAt w (some ⟨ab, aoff, none⟩) xs) {k : Nat} (hk : k < xs.length) : w.cell? ⟨ab, aoff + k, none⟩ = some (.int .i64 (nth xs k)) := by
  obtain ⟨b2, o2, e, hc⟩ := hx (by omega)
  cases e
  exact hc k hk

theorem length_tmL (wide : Int) (xs : List Int) (t : Int) : (tmL wide xs t).length ≤ 17592186044416 - 1048576 := by
  by_cases h : BoardOk wide xs
  · rw [tmL_in h, length_movedL]; have := h.2.1; omega
  · rw [tmL_out h]; simp

/-- The board of which the first k places are exchanged. -/
def sw1 (t x : Int) : Int := if x = t then 0 else if x = 0 then t else x
def partS (xs : List Int) (t : Int) (k : Nat) : List Int := (List.range xs.length).map fun j => if j < k then sw1 t (nth xs j) else nth xs j
theorem length_partS (xs : List Int) (t : Int) (k : Nat) : (partS xs t k).length = xs.length := by simp [partS]
theorem nth_partS {xs : List Int} {t : Int} {k j : Nat} (h : j < xs.length) : nth (partS xs t k) j = if j < k then sw1 t (nth xs j) else nth xs j := by
  rw [nth_eq (by rw [length_partS]; exact h)]; simp [partS]
theorem partS_zero (xs : List Int) (t : Int) : partS xs t 0 = xs :=
  ext_nth (length_partS _ _ _) fun j hj => by rw [length_partS] at hj; rw [nth_partS hj, if_neg (Nat.not_lt_zero _)]
theorem partS_full (xs : List Int) (t : Int) : partS xs t xs.length = swapL xs t :=
  ext_nth (by rw [length_partS, swapL, List.length_map]) fun j hj => by rw [length_partS] at hj; rw [nth_partS hj, nth_map_swap hj, if_pos hj]; rfl
theorem partS_set {xs : List Int} {t : Int} {k : Nat} (h : k < xs.length) {x : Int} (hx : sw1 t (nth xs k) = x) : (partS xs t k).set k x = partS xs t (k + 1) :=
  ext_nth (by rw [List.length_set, length_partS, length_partS]) fun j hj => by
    rw [List.length_set, length_partS] at hj
    rw [nth_set (by rw [length_partS]; exact h), nth_partS hj, nth_partS hj]
    by_cases e : j = k
    · subst e; rw [if_pos rfl, if_pos (Nat.lt_succ_self _), hx]
    · rw [if_neg e]
      by_cases e2 : j < k
      · rw [if_pos e2, if_pos (by omega)]
      · rw [if_neg e2, if_neg (by omega)]
theorem partS_same {xs : List Int} {t : Int} {k : Nat} (h : k < xs.length) (hx : sw1 t (nth xs k) = nth xs k) : partS xs t k = partS xs t (k + 1) :=
  ext_nth (by rw [length_partS, length_partS]) fun j hj => by
    rw [length_partS] at hj
    rw [nth_partS hj, nth_partS hj]
    by_cases e : j = k
    · subst e; rw [if_neg (Nat.lt_irrefl _), if_pos (Nat.lt_succ_self _), hx]
    · by_cases e2 : j < k
      · rw [if_pos e2, if_pos (by omega)]
      · rw [if_neg e2, if_neg (by omega)]

set_option maxRecDepth 100000 in
set_option maxHeartbeats 2000000 in
theorem specTileMove_any (wide : Int) (ao : Option Addr) (xs : List Int) (n c : Nat) (t : Int) (w : World) (hn : xs.length = n) (hl : n ≤ 17592186044416) (hnc : n ≤ c) (hx : IntsAt w ao xs) :
    Calls Try.prog 44 #[.agg #[.int .i64 wide, .slice ao n c], .int .i64 t] w (RetBB w (tmW wide xs) (tmL wide xs t) (canB wide xs t)) := by
  have HN := hid hn
  clear hn
  have B := ((Below.refl w.heap.size w).alloc (Nat.le_refl _) (.cells #[.int .i64 wide, .slice ao n c] 27)).alloc (by simp) (.cells #[.int .i64 0, .slice none 0 0] 27)
  have bk := (Blk.new w #[.int .i64 wide, .slice ao n c] 27).alloc (.cells #[.int .i64 0, .slice none 0 0] 27)
  have br := Blk.new' (w.alloc (.cells #[.int .i64 wide, .slice ao n c] 27)) #[.int .i64 0, .slice none 0 0] 27 (g := w.heap.size + 1) (by simp)
  cases h1 : boardB wide xs with
  | false =>
    have hw := hid (tmW_out (boardB_not.1 h1))
    have hL := hid (tmL_out (t := t) (boardB_not.1 h1))
    have hC := hid (canB_out (t := t) (boardB_not.1 h1))
    go_enter Try.func44, Try.ntmps44
    go_wp2_with fail
    generalize ((w.alloc (.cells #[.int .i64 wide, .slice ao n c] 27)).alloc (.cells #[.int .i64 0, .slice none 0 0] 27)) = w0 at *
    have e0 := bk.at 0 rfl
    have e1 := bk.at 1 rfl
    go_wp2_with fail
    refine (specBoardValid_any wide ao xs n c w0 HN.out hl hnc (hx.below B (Nat.le_refl _))).mono fun e w1 h => ?_
    rw [h1] at h
    obtain ⟨rfl, b⟩ := h
    have B := B.trans (b.mono B.size)
    have br := br.below b (Nat.le_refl _)
    have f0 := br.free 0
    have f1 := br.free 1
    have g0 := br.cell 0
    have g1 := br.cell 1
    have B2 := hid ((B.setCell (p := ⟨w.heap.size + 1, 0, none⟩) (by simp) (.int .i64 0)).setCell (p := ⟨w.heap.size + 1, 1, none⟩) (by simp) (.slice none 0 0))
    clear b h1 e0 e1
    go_wp2_with fail
    rw [hw.out, hL.out, hC.out]
    exact bodyPost_ret (v := .tuple #[.agg #[.int .i64 0, .slice none 0 0], .bool false]) (by simp [results, Try.results44, go_sem, g0, g1]) rfl (RetBB.mk (xs := []) rfl (Nat.le_refl _) (Own.nil _ _) B2.out)
  | true =>
    have hok := hid (boardB_iff.1 h1)
    have hw := hid (tmW_in (boardB_iff.1 h1))
    have hL := hid (tmL_in (t := t) (boardB_iff.1 h1))
    have hn2 : 2 ≤ n := by have := hok.out.1; rwa [HN.out] at this
    have hn9 : n ≤ 9 := by have := hok.out.2.1; rwa [HN.out] at this
    obtain ⟨i0, hi, hi0, hi1, hi2⟩ := info_parts Try.infoInt
    go_enter Try.func44, Try.ntmps44
    go_wp2_with fail
    generalize ((w.alloc (.cells #[.int .i64 wide, .slice ao n c] 27)).alloc (.cells #[.int .i64 0, .slice none 0 0] 27)) = w0 at *
    have e0 := bk.at 0 rfl
    have e1 := bk.at 1 rfl
    go_wp2_with fail
    refine (specBoardValid_any wide ao xs n c w0 HN.out hl hnc (hx.below B (Nat.le_refl _))).mono fun e w1 h => ?_
    rw [h1] at h
    obtain ⟨rfl, b⟩ := h
    have B := B.trans (b.mono B.size)
    have br := br.below b (Nat.le_refl _)
    have bk := bk.below b (Nat.le_refl _)
    clear e0 e1
    have e0 := bk.at 0 rfl
    have e1 := bk.at 1 rfl
    clear b h1
    obtain ⟨ab, aoff, rfl, _⟩ := (hx.below B (Nat.le_refl _)) (by rw [HN.out]; omega)
    have hx1 : IntsAt w1 (some ⟨ab, aoff, none⟩) xs := hx.below B (Nat.le_refl _)
    have lt := bk.lt
    have hml : Hid ((xs.map (Value.int .i64)).length = n * 1) := by have := HN.out; simpa [Hid] using this
    have hn0 : 0 < xs.length := by have := HN.out; omega
    have q7 : 0 < 0 + n := by omega
    have q8 : 0 + n ≤ maxLen := by unfold maxLen; omega
    have q9 : (0 + n) * 8 ≤ 140737488355328 := by omega
    have bb0 : Blk (((w1.alloc (.cells #[] 3)).alloc (.cells #[.int .i64 0, .slice none 0 0] 27)).drew) (w1.heap.size + 1) #[.int .i64 0, .slice none 0 0] 27 := Blk.new' (w1.alloc (.cells #[] 3)) _ _ (by simp)
    have bc0 : Blk (((w1.alloc (.cells #[.int .i64 0, .slice none 0 0] 27)).alloc (.cells #[] 3)).drew) w1.heap.size #[.int .i64 0, .slice none 0 0] 27 := (Blk.new w1 _ _).alloc _
    go_wp2_with fail
    go_region_held3 (fun w' => (∀ b o, b < w1.heap.size → w'.cell? ⟨b, o, none⟩ = w1.cell? ⟨b, o, none⟩) ∧ Below w1.heap.size w1 w')
      (first | with_reducible exact sb_drew _ | with_reducible exact sb_ad _ _ | with_reducible exact sb_aad _ _ _ | with_reducible exact sb_of ‹_› | with_reducible exact sb_alloc ‹_› _ | with_reducible exact sb_alloc (sb_of ‹_›) _ | with_reducible exact sb_set (sb_set ‹_› (Nat.le_succ _) _ _) (Nat.le_succ _) _ _ | with_reducible exact sb_set (sb_set ‹_› (Nat.le_refl _) _ _) (Nat.le_refl _) _ _)
      (first | (refine step_append_grows rfl (.tmp 14) (.tmp 16) 22 rfl 3 i0 (.int .i64 0) 1 8 Try.underlying22 hi hi0 hi1 hi2 rfl (by decide) (some ⟨w1.heap.size, 0, none⟩) 0 0 [] (by simp [Act.eval]; done) (by intro h; cases h) rfl (by intro b _ j u hj; simp at hj) ⟨ab, aoff, none⟩ n c (xs.map (Value.int .i64)) (by simp [Act.eval]) hml.out (cells_of (hx1.below (sb_below ‹_›) (Nat.le_refl _))) (ints_oneCell _ _) q7 q8 q9 ?_
                intro v' w2 hown hgrow
                have bw : Below w1.heap.size w1 w2 := sb_grown ‹_› hgrow
                have hoq : ∃ v0 c2 g, v' = v0 ∧ v0 = .slice (some ⟨g, 0, none⟩) n c2 ∧ n ≤ c2 ∧ Own w2 w1.heap.size v0 xs := Own.grown4 (Own.fresh hown HN.out (sb_size ‹_›)) HN.out hn0
                obtain ⟨v0, c2, g, rfl, rfl, hc2, ho⟩ := hoq
                have bb := bb0.kept hgrow (Option.some_ne_none _)
                have fb0 := bb.free 0
                have fb1 := bb.free 1
                have gb0 := bb.cell 0
                have gb1 := bb.cell 1
                have hne := own_ne bb0 hown hgrow
                clear hown hgrow)
             | (refine step_append_grows rfl (.tmp 14) (.tmp 16) 22 rfl 3 i0 (.int .i64 0) 1 8 Try.underlying22 hi hi0 hi1 hi2 rfl (by decide) (some ⟨w1.heap.size + 1, 0, none⟩) 0 0 [] (by simp [Act.eval]; done) (by intro h; cases h) rfl (by intro b _ j u hj; simp at hj) ⟨ab, aoff, none⟩ n c (xs.map (Value.int .i64)) (by simp [Act.eval]) hml.out (cells_of (hx1.below (sb_below ‹_›) (Nat.le_refl _))) (ints_oneCell _ _) q7 q8 q9 ?_
                intro v' w2 hown hgrow
                have bw : Below w1.heap.size w1 w2 := sb_grown ‹_› hgrow
                have hoq : ∃ v0 c2 g, v' = v0 ∧ v0 = .slice (some ⟨g, 0, none⟩) n c2 ∧ n ≤ c2 ∧ Own w2 w1.heap.size v0 xs := Own.grown4 (Own.fresh hown HN.out (sb_size ‹_›)) HN.out hn0
                obtain ⟨v0, c2, g, rfl, rfl, hc2, ho⟩ := hoq
                have bb := bc0.kept hgrow (Option.some_ne_none _)
                have fb0 := bb.free 0
                have fb1 := bb.free 1
                have gb0 := bb.cell 0
                have gb1 := bb.cell 1
                have hne := own_ne bc0 hown hgrow
                clear hown hgrow)
             | (refine step_append_grows rfl (.tmp 14) (.tmp 16) 22 rfl 3 i0 (.int .i64 0) 1 8 Try.underlying22 hi hi0 hi1 hi2 rfl (by decide) (some ⟨w1.heap.size, 0, none⟩) 0 0 [] (by simp [Act.eval]; done) (by intro h; cases h) rfl (by intro b _ j u hj; simp at hj) ⟨ab, aoff, none⟩ n c (xs.map (Value.int .i64)) (by simp [Act.eval]) hml.out (cells_of (hx1.below (sb_below ‹_›) (Nat.le_refl _))) (ints_oneCell _ _) q7 q8 q9 ?_
                intro v' w2 hown hgrow
                have bw : Below w1.heap.size w1 w2 := sb_grown ‹_› hgrow
                have hoq : ∃ v0 c2 g, v' = v0 ∧ v0 = .slice (some ⟨g, 0, none⟩) n c2 ∧ n ≤ c2 ∧ Own w2 w1.heap.size v0 xs := Own.grown4 (Own.fresh hown HN.out (sb_size ‹_›)) HN.out hn0
                obtain ⟨v0, c2, g, rfl, rfl, hc2, ho⟩ := hoq
                clear hown hgrow))
    all_goals rename_i hH
    · have hne : w2.heap.size ≠ g := by have := ho.base.2; omega
      have bkd := Blk.new w2 #[.int .i64 wide, .slice (some ⟨g, 0, none⟩) n c2] 27
      have od := ho.alloc (.cells #[.int .i64 wide, .slice (some ⟨g, 0, none⟩) n c2] 27)
      have hb := hH.2
      have hHg : w1.heap.size ≤ w2.heap.size := bw.size
      clear hH bw ho bb0 bc0
      generalize (w2.alloc (.cells #[.int .i64 wide, .slice (some ⟨g, 0, none⟩) n c2] 27)) = W at *
      generalize w2.heap.size = H at *
      have bkW := bk.below hb (Nat.le_refl _)
      have brW := br.below hb (Nat.le_refl _)
      have BW := B.trans (hb.mono B.size)
      have hx2 := hx1.below hb (Nat.le_refl _)
      have hL1 : w.heap.size + 1 < w1.heap.size := br.lt
      clear bk br B hx1 hb e0 e1 lt
      generalize w1.heap.size = L at *
      have e0 := bkW.at 0 rfl
      have e1 := bkW.at 1 rfl
      go_wp2_with fail
      refine (specTilesMay_any wide (some ⟨ab, aoff, none⟩) xs n c W HN.out hl hnc hx2).mono fun e w3 h => ?_
      obtain ⟨ao3, c3, rfl, om, b⟩ := h.to rfl
      have hlm := length_mayL wide xs
      have hbk := bkW.below b (Nat.le_refl _)
      have hbr := brW.below b (Nat.le_refl _)
      have hB := BW.trans (b.mono BW.size)
      have hhd := bkd.below b (Nat.le_refl _)
      have hod := od.below b (Nat.le_refl _)
      have hx3 := hx2.below b (Nat.le_refl _)
      have hLW : L ≤ w3.heap.size := by have := hhd.lt; omega
      clear h b e0 e1 bkW brW BW bkd od hx2
      go_wp2_with fail
      refine (l1Has_any ao3 (mayL wide xs) (mayL wide xs).length c3 t w3 rfl (by omega) om.ints).mono fun e w4 h => ?_
      obtain ⟨rfl, rfl⟩ := h
      clear om hlm
      have hcan : hasL (mayL wide xs) t = canB wide xs t := rfl
      cases h2 : canB wide xs t with
      | false =>
        have hh2 := hid h2
        rw [h2] at hcan
        rw [hcan]
        have hmv := hid (movedL_no h2)
        have c0 := hhd.at 0 rfl
        have c1 := hhd.at 1 rfl
        have f0 := hbr.free 0
        have f1 := hbr.free 1
        have g0 := hbr.cell 0
        have g1 := hbr.cell 1
        have B5 := (hB.setCell (p := ⟨w.heap.size + 1, 0, none⟩) (by simp) (.int .i64 wide)).setCell (p := ⟨w.heap.size + 1, 1, none⟩) (by simp) (.slice (some ⟨g, 0, none⟩) n c2)
        have o5 := (hod.setOther (w.heap.size + 1) 0 (.int .i64 wide) (hod.ne_of_lt hL1)).setOther (w.heap.size + 1) 1 (.slice (some ⟨g, 0, none⟩) n c2) (hod.ne_of_lt hL1)
        have o6 := o5.lower (B' := w.heap.size) (by omega)
        clear hod hbk hbr hB hhd o5 hcan
        go_wp2
        rw [hw.out, hL.out, hmv.out, hh2.out]
        exact bodyPost_ret (v := .tuple #[.agg #[.int .i64 wide, .slice (some ⟨g, 0, none⟩) n c2], .bool false]) (by simp [results, Try.results44, go_sem, g0, g1]) rfl (RetBB.mk HN.out hc2 o6 B5)
      | true =>
        have hh2 := hid h2
        rw [h2] at hcan
        rw [hcan]
        have hmv := hid (movedL_yes h2)
        have ht1 : 1 ≤ t := ((canB_iff hok.out).1 h2).1.1
        have hln := hid (fun k => (length_partS xs t k).trans HN.out)
        clear hcan h2
        go_wp2_with fail
        go_loopw [7, 25] (fun i _ wr => ∃ k : Nat, k ≤ n ∧ i = .int .i64 k ∧ Own wr L (.slice (some ⟨g, 0, none⟩) n c2) (partS xs t k) ∧ Blk wr H #[.int .i64 wide, .slice (some ⟨g, 0, none⟩) n c2] 27 ∧ Below L w3 wr) (fun i _ _ => n - (intOf i).toNat)
        case atStart => exact ⟨0, Nat.zero_le _, rfl, by rw [partS_zero]; exact hod, hhd, Below.refl _ _⟩
        case round =>
          obtain ⟨k, hk, rfl, hor, hhr, hBr⟩ := hrel
          clear hod hhd
          have hbk := hbk.belowLt hBr (by omega)
          have hbr := hbr.belowLt hBr (by omega)
          have hB := hB.trans (hBr.mono (by omega))
          have hx3 := hx.below hB (Nat.le_refl _)
          have e0 := hbk.at 0 rfl
          have e1 := hbk.at 1 rfl
          have c0 := hhr.at 0 rfl
          have c1 := hhr.at 1 rfl
          by_cases hkn : k < n
          · have hkl : k < xs.length := by rw [HN.out]; exact hkn
            obtain ⟨b', off', eb, hc⟩ := hx3 hn0
            cases eb
            have hck := hc k hkl
            clear hc
            have hgl := hor.base
            have hpl := hid (length_partS xs t k)
            have ck := hor.cell (j := k) (by rw [hpl.out]; exact hkl)
            have fk := hor.free (by rw [hpl.out, HN.out]) k
            by_cases he : nth xs k = t
            · have hb1 : (nth xs k == t) = true := by simpa using he
              have hb2 : (nth xs k == 0) = false := by
                have h0 : nth xs k ≠ 0 := by omega
                simpa using h0
              have hs := hid (partS_set (t := t) hkl (show sw1 t (nth xs k) = 0 from if_pos he))
              have ho2 := hor.stored (by rw [hpl.out, HN.out]) k 0
              rw [hs.out] at ho2
              have hh2 := hhr.setOther hne k (.int .i64 0)
              have hB2 := hBr.setCell (p := ⟨g, k, none⟩) (by exact hgl.1) (.int .i64 0)
              have ce1 := (hbk.setOther (g' := g) (by omega) k (.int .i64 0)).at 1 rfl
              have hck2 := ints_at (hx.below (hB.setCell (p := ⟨g, k, none⟩) (by simp; omega) (.int .i64 0)) (Nat.le_refl _)) hkl
              clear he hor hhr hBr hbk hbr hB hgl hx3
              go_wp2
              go_roundw
              case rel => exact ⟨k + 1, by omega, by go_num, ho2, hh2, hB2⟩
              case measure => simp [intOf]; omega
            · have hb1 : (nth xs k == t) = false := by simpa using he
              by_cases hz : nth xs k = 0
              · have hb2 : (nth xs k == 0) = true := by simpa using hz
                have hs := hid (partS_set (t := t) hkl (show sw1 t (nth xs k) = t from by unfold sw1; rw [if_neg he, if_pos hz]))
                have ho2 := hor.stored (by rw [hpl.out, HN.out]) k t
                rw [hs.out] at ho2
                have hh2 := hhr.setOther hne k (.int .i64 t)
                have hB2 := hBr.setCell (p := ⟨g, k, none⟩) (by exact hgl.1) (.int .i64 t)
                clear he hz hor hhr hBr hbk hbr hB hgl hx3
                go_wp2
                go_roundw
                case rel => exact ⟨k + 1, by omega, by go_num, ho2, hh2, hB2⟩
                case measure => simp [intOf]; omega
              · have hb2 : (nth xs k == 0) = false := by simpa using hz
                have hs := hid (partS_same (t := t) hkl (show sw1 t (nth xs k) = nth xs k from by unfold sw1; rw [if_neg he, if_neg hz]))
                rw [hs.out] at hor
                clear he hz hbk hbr hB hgl hx3
                go_wp2
                go_roundw
                case rel => exact ⟨k + 1, by omega, by go_num, hor, hhr, hBr⟩
                case measure => simp [intOf]; omega
          · have hkk : n = k := by omega
            have hd : decide ((k : Int) < n) = false := decide_eq_false (by omega)
            have hfull : Hid (partS xs t k = swapL xs t) := by rw [← hkk, ← HN.out]; exact partS_full xs t
            have hol := hid ((hln.out k))
            have f0 := hbr.free 0
            have f1 := hbr.free 1
            have g0 := hbr.cell 0
            have g1 := hbr.cell 1
            have B5 := (hB.setCell (p := ⟨w.heap.size + 1, 0, none⟩) (by simp) (.int .i64 wide)).setCell (p := ⟨w.heap.size + 1, 1, none⟩) (by simp) (.slice (some ⟨g, 0, none⟩) n c2)
            have o5 := (hor.setOther (w.heap.size + 1) 0 (.int .i64 wide) (hor.ne_of_lt hL1)).setOther (w.heap.size + 1) 1 (.slice (some ⟨g, 0, none⟩) n c2) (hor.ne_of_lt hL1)
            have o6 := o5.lower (B' := w.heap.size) (by omega)
            have hfin := RetBB.mk (ok := true) (wide := wide) hol.out hc2 o6 B5
            rw [hfull.out] at hfin
            have HFIN := hid hfin
            clear hbk hbr hB hor hhr hBr o5 o6 B5 hfin hkk
            go_wp2
            rw [hw.out, hL.out, hmv.out, hh2.out]
            exact bodyPost_ret (v := .tuple #[.agg #[.int .i64 wide, .slice (some ⟨g, 0, none⟩) n c2], .bool true]) (by simp [results, Try.results44, go_sem, g0, g1]) rfl HFIN.out
    · have bkd : Blk _ (w1.heap.size + 1) #[.int .i64 wide, .slice (some ⟨g, 0, none⟩) n c2] 27 := (bb.set 0 (.int .i64 wide)).set 1 (.slice (some ⟨g, 0, none⟩) n c2)
      have od := (ho.setOther (w1.heap.size + 1) 0 (.int .i64 wide) (by right; simp [Value.ownBlock]; intro e; exact hne e.symm)).setOther (w1.heap.size + 1) 1 (.slice (some ⟨g, 0, none⟩) n c2) (by right; simp [Value.ownBlock]; intro e; exact hne e.symm)
      have hb := hH.2
      have hHg : w1.heap.size ≤ w1.heap.size + 1 := Nat.le_succ _
      clear hH bw ho bb fb0 fb1 gb0 gb1 bb0 bc0
      generalize ((w2.setCell ⟨w1.heap.size + 1, 0, none⟩ (.int .i64 wide)).setCell ⟨w1.heap.size + 1, 1, none⟩ (.slice (some ⟨g, 0, none⟩) n c2)) = W at *
      generalize w1.heap.size + 1 = H at *
      have bkW := bk.below hb (Nat.le_refl _)
      have brW := br.below hb (Nat.le_refl _)
      have BW := B.trans (hb.mono B.size)
      have hx2 := hx1.below hb (Nat.le_refl _)
      have hL1 : w.heap.size + 1 < w1.heap.size := br.lt
      clear bk br B hx1 hb e0 e1 lt
      generalize w1.heap.size = L at *
      have e0 := bkW.at 0 rfl
      have e1 := bkW.at 1 rfl
      go_wp2_with fail
      refine (specTilesMay_any wide (some ⟨ab, aoff, none⟩) xs n c W HN.out hl hnc hx2).mono fun e w3 h => ?_
      obtain ⟨ao3, c3, rfl, om, b⟩ := h.to rfl
      have hlm := length_mayL wide xs
      have hbk := bkW.below b (Nat.le_refl _)
      have hbr := brW.below b (Nat.le_refl _)
      have hB := BW.trans (b.mono BW.size)
      have hhd := bkd.below b (Nat.le_refl _)
      have hod := od.below b (Nat.le_refl _)
      have hx3 := hx2.below b (Nat.le_refl _)
      have hLW : L ≤ w3.heap.size := by have := hhd.lt; omega
      clear h b e0 e1 bkW brW BW bkd od hx2
      go_wp2_with fail
      refine (l1Has_any ao3 (mayL wide xs) (mayL wide xs).length c3 t w3 rfl (by omega) om.ints).mono fun e w4 h => ?_
      obtain ⟨rfl, rfl⟩ := h
      clear om hlm
      have hcan : hasL (mayL wide xs) t = canB wide xs t := rfl
      cases h2 : canB wide xs t with
      | false =>
        have hh2 := hid h2
        rw [h2] at hcan
        rw [hcan]
        have hmv := hid (movedL_no h2)
        have c0 := hhd.at 0 rfl
        have c1 := hhd.at 1 rfl
        have f0 := hbr.free 0
        have f1 := hbr.free 1
        have g0 := hbr.cell 0
        have g1 := hbr.cell 1
        have B5 := (hB.setCell (p := ⟨w.heap.size + 1, 0, none⟩) (by simp) (.int .i64 wide)).setCell (p := ⟨w.heap.size + 1, 1, none⟩) (by simp) (.slice (some ⟨g, 0, none⟩) n c2)
        have o5 := (hod.setOther (w.heap.size + 1) 0 (.int .i64 wide) (hod.ne_of_lt hL1)).setOther (w.heap.size + 1) 1 (.slice (some ⟨g, 0, none⟩) n c2) (hod.ne_of_lt hL1)
        have o6 := o5.lower (B' := w.heap.size) (by omega)
        clear hod hbk hbr hB hhd o5 hcan
        go_wp2
        rw [hw.out, hL.out, hmv.out, hh2.out]
        exact bodyPost_ret (v := .tuple #[.agg #[.int .i64 wide, .slice (some ⟨g, 0, none⟩) n c2], .bool false]) (by simp [results, Try.results44, go_sem, g0, g1]) rfl (RetBB.mk HN.out hc2 o6 B5)
      | true =>
        have hh2 := hid h2
        rw [h2] at hcan
        rw [hcan]
        have hmv := hid (movedL_yes h2)
        have ht1 : 1 ≤ t := ((canB_iff hok.out).1 h2).1.1
        have hln := hid (fun k => (length_partS xs t k).trans HN.out)
        clear hcan h2
        go_wp2_with fail
        go_loopw [7, 25] (fun i _ wr => ∃ k : Nat, k ≤ n ∧ i = .int .i64 k ∧ Own wr L (.slice (some ⟨g, 0, none⟩) n c2) (partS xs t k) ∧ Blk wr H #[.int .i64 wide, .slice (some ⟨g, 0, none⟩) n c2] 27 ∧ Below L w3 wr) (fun i _ _ => n - (intOf i).toNat)
        case atStart => exact ⟨0, Nat.zero_le _, rfl, by rw [partS_zero]; exact hod, hhd, Below.refl _ _⟩
        case round =>
          obtain ⟨k, hk, rfl, hor, hhr, hBr⟩ := hrel
          clear hod hhd
          have hbk := hbk.belowLt hBr (by omega)
          have hbr := hbr.belowLt hBr (by omega)
          have hB := hB.trans (hBr.mono (by omega))
          have hx3 := hx.below hB (Nat.le_refl _)
          have e0 := hbk.at 0 rfl
          have e1 := hbk.at 1 rfl
          have c0 := hhr.at 0 rfl
          have c1 := hhr.at 1 rfl
          by_cases hkn : k < n
          · have hkl : k < xs.length := by rw [HN.out]; exact hkn
            obtain ⟨b', off', eb, hc⟩ := hx3 hn0
            cases eb
            have hck := hc k hkl
            clear hc
            have hgl := hor.base
            have hpl := hid (length_partS xs t k)
            have ck := hor.cell (j := k) (by rw [hpl.out]; exact hkl)
            have fk := hor.free (by rw [hpl.out, HN.out]) k
            by_cases he : nth xs k = t
            · have hb1 : (nth xs k == t) = true := by simpa using he
              have hb2 : (nth xs k == 0) = false := by
                have h0 : nth xs k ≠ 0 := by omega
                simpa using h0
              have hs := hid (partS_set (t := t) hkl (show sw1 t (nth xs k) = 0 from if_pos he))
              have ho2 := hor.stored (by rw [hpl.out, HN.out]) k 0
              rw [hs.out] at ho2
              have hh2 := hhr.setOther hne k (.int .i64 0)
              have hB2 := hBr.setCell (p := ⟨g, k, none⟩) (by exact hgl.1) (.int .i64 0)
              have ce1 := (hbk.setOther (g' := g) (by omega) k (.int .i64 0)).at 1 rfl
              have hck2 := ints_at (hx.below (hB.setCell (p := ⟨g, k, none⟩) (by simp; omega) (.int .i64 0)) (Nat.le_refl _)) hkl
              clear he hor hhr hBr hbk hbr hB hgl hx3
              go_wp2
              go_roundw
              case rel => exact ⟨k + 1, by omega, by go_num, ho2, hh2, hB2⟩
              case measure => simp [intOf]; omega
            · have hb1 : (nth xs k == t) = false := by simpa using he
              by_cases hz : nth xs k = 0
              · have hb2 : (nth xs k == 0) = true := by simpa using hz
                have hs := hid (partS_set (t := t) hkl (show sw1 t (nth xs k) = t from by unfold sw1; rw [if_neg he, if_pos hz]))
                have ho2 := hor.stored (by rw [hpl.out, HN.out]) k t
                rw [hs.out] at ho2
                have hh2 := hhr.setOther hne k (.int .i64 t)
                have hB2 := hBr.setCell (p := ⟨g, k, none⟩) (by exact hgl.1) (.int .i64 t)
                clear he hz hor hhr hBr hbk hbr hB hgl hx3
                go_wp2
                go_roundw
                case rel => exact ⟨k + 1, by omega, by go_num, ho2, hh2, hB2⟩
                case measure => simp [intOf]; omega
              · have hb2 : (nth xs k == 0) = false := by simpa using hz
                have hs := hid (partS_same (t := t) hkl (show sw1 t (nth xs k) = nth xs k from by unfold sw1; rw [if_neg he, if_neg hz]))
                rw [hs.out] at hor
                clear he hz hbk hbr hB hgl hx3
                go_wp2
                go_roundw
                case rel => exact ⟨k + 1, by omega, by go_num, hor, hhr, hBr⟩
                case measure => simp [intOf]; omega
          · have hkk : n = k := by omega
            have hd : decide ((k : Int) < n) = false := decide_eq_false (by omega)
            have hfull : Hid (partS xs t k = swapL xs t) := by rw [← hkk, ← HN.out]; exact partS_full xs t
            have hol := hid ((hln.out k))
            have f0 := hbr.free 0
            have f1 := hbr.free 1
            have g0 := hbr.cell 0
            have g1 := hbr.cell 1
            have B5 := (hB.setCell (p := ⟨w.heap.size + 1, 0, none⟩) (by simp) (.int .i64 wide)).setCell (p := ⟨w.heap.size + 1, 1, none⟩) (by simp) (.slice (some ⟨g, 0, none⟩) n c2)
            have o5 := (hor.setOther (w.heap.size + 1) 0 (.int .i64 wide) (hor.ne_of_lt hL1)).setOther (w.heap.size + 1) 1 (.slice (some ⟨g, 0, none⟩) n c2) (hor.ne_of_lt hL1)
            have o6 := o5.lower (B' := w.heap.size) (by omega)
            have hfin := RetBB.mk (ok := true) (wide := wide) hol.out hc2 o6 B5
            rw [hfull.out] at hfin
            have HFIN := hid hfin
            clear hbk hbr hB hor hhr hBr o5 o6 B5 hfin hkk
            go_wp2
            rw [hw.out, hL.out, hmv.out, hh2.out]
            exact bodyPost_ret (v := .tuple #[.agg #[.int .i64 wide, .slice (some ⟨g, 0, none⟩) n c2], .bool true]) (by simp [results, Try.results44, go_sem, g0, g1]) rfl HFIN.out
    · have bkd : Blk _ w1.heap.size #[.int .i64 wide, .slice (some ⟨g, 0, none⟩) n c2] 27 := (bb.set 0 (.int .i64 wide)).set 1 (.slice (some ⟨g, 0, none⟩) n c2)
      have od := (ho.setOther w1.heap.size 0 (.int .i64 wide) (by right; simp [Value.ownBlock]; intro e; exact hne e.symm)).setOther w1.heap.size 1 (.slice (some ⟨g, 0, none⟩) n c2) (by right; simp [Value.ownBlock]; intro e; exact hne e.symm)
      have hb := hH.2
      clear hH bw ho bb fb0 fb1 gb0 gb1 bb0 bc0
      generalize ((w2.setCell ⟨w1.heap.size, 0, none⟩ (.int .i64 wide)).setCell ⟨w1.heap.size, 1, none⟩ (.slice (some ⟨g, 0, none⟩) n c2)) = W at *
      have bkW := bk.below hb (Nat.le_refl _)
      have brW := br.below hb (Nat.le_refl _)
      have BW := B.trans (hb.mono B.size)
      have hx2 := hx1.below hb (Nat.le_refl _)
      have hL1 : w.heap.size + 1 < w1.heap.size := br.lt
      clear bk br B hx1 hb e0 e1 lt
      generalize w1.heap.size = H at *
      obtain ⟨L, hLH, hHg⟩ : ∃ L, L = H ∧ L ≤ H := ⟨H, rfl, Nat.le_refl _⟩
      rw [← hLH] at od
      have hL1 : w.heap.size + 1 < L := by omega
      clear hLH
      have e0 := bkW.at 0 rfl
      have e1 := bkW.at 1 rfl
      go_wp2_with fail
      refine (specTilesMay_any wide (some ⟨ab, aoff, none⟩) xs n c W HN.out hl hnc hx2).mono fun e w3 h => ?_
      obtain ⟨ao3, c3, rfl, om, b⟩ := h.to rfl
      have hlm := length_mayL wide xs
      have hbk := bkW.below b (Nat.le_refl _)
      have hbr := brW.below b (Nat.le_refl _)
      have hB := BW.trans (b.mono BW.size)
      have hhd := bkd.below b (Nat.le_refl _)
      have hod := od.below b (Nat.le_refl _)
      have hx3 := hx2.below b (Nat.le_refl _)
      have hLW : L ≤ w3.heap.size := by have := hhd.lt; omega
      clear h b e0 e1 bkW brW BW bkd od hx2
      go_wp2_with fail
      refine (l1Has_any ao3 (mayL wide xs) (mayL wide xs).length c3 t w3 rfl (by omega) om.ints).mono fun e w4 h => ?_
      obtain ⟨rfl, rfl⟩ := h
      clear om hlm
      have hcan : hasL (mayL wide xs) t = canB wide xs t := rfl
      cases h2 : canB wide xs t with
      | false =>
        have hh2 := hid h2
        rw [h2] at hcan
        rw [hcan]
        have hmv := hid (movedL_no h2)
        have c0 := hhd.at 0 rfl
        have c1 := hhd.at 1 rfl
        have f0 := hbr.free 0
        have f1 := hbr.free 1
        have g0 := hbr.cell 0
        have g1 := hbr.cell 1
        have B5 := (hB.setCell (p := ⟨w.heap.size + 1, 0, none⟩) (by simp) (.int .i64 wide)).setCell (p := ⟨w.heap.size + 1, 1, none⟩) (by simp) (.slice (some ⟨g, 0, none⟩) n c2)
        have o5 := (hod.setOther (w.heap.size + 1) 0 (.int .i64 wide) (hod.ne_of_lt hL1)).setOther (w.heap.size + 1) 1 (.slice (some ⟨g, 0, none⟩) n c2) (hod.ne_of_lt hL1)
        have o6 := o5.lower (B' := w.heap.size) (by omega)
        clear hod hbk hbr hB hhd o5 hcan
        go_wp2
        rw [hw.out, hL.out, hmv.out, hh2.out]
        exact bodyPost_ret (v := .tuple #[.agg #[.int .i64 wide, .slice (some ⟨g, 0, none⟩) n c2], .bool false]) (by simp [results, Try.results44, go_sem, g0, g1]) rfl (RetBB.mk HN.out hc2 o6 B5)
      | true =>
        have hh2 := hid h2
        rw [h2] at hcan
        rw [hcan]
        have hmv := hid (movedL_yes h2)
        have ht1 : 1 ≤ t := ((canB_iff hok.out).1 h2).1.1
        have hln := hid (fun k => (length_partS xs t k).trans HN.out)
        clear hcan h2
        go_wp2_with fail
        go_loopw [7, 25] (fun i _ wr => ∃ k : Nat, k ≤ n ∧ i = .int .i64 k ∧ Own wr L (.slice (some ⟨g, 0, none⟩) n c2) (partS xs t k) ∧ Blk wr H #[.int .i64 wide, .slice (some ⟨g, 0, none⟩) n c2] 27 ∧ Below L w3 wr) (fun i _ _ => n - (intOf i).toNat)
        case atStart => exact ⟨0, Nat.zero_le _, rfl, by rw [partS_zero]; exact hod, hhd, Below.refl _ _⟩
        case round =>
          obtain ⟨k, hk, rfl, hor, hhr, hBr⟩ := hrel
          clear hod hhd
          have hbk := hbk.belowLt hBr (by omega)
          have hbr := hbr.belowLt hBr (by omega)
          have hB := hB.trans (hBr.mono (by omega))
          have hx3 := hx.below hB (Nat.le_refl _)
          have e0 := hbk.at 0 rfl
          have e1 := hbk.at 1 rfl
          have c0 := hhr.at 0 rfl
          have c1 := hhr.at 1 rfl
          by_cases hkn : k < n
          · have hkl : k < xs.length := by rw [HN.out]; exact hkn
            obtain ⟨b', off', eb, hc⟩ := hx3 hn0
            cases eb
            have hck := hc k hkl
            clear hc
            have hgl := hor.base
            have hpl := hid (length_partS xs t k)
            have ck := hor.cell (j := k) (by rw [hpl.out]; exact hkl)
            have fk := hor.free (by rw [hpl.out, HN.out]) k
            by_cases he : nth xs k = t
            · have hb1 : (nth xs k == t) = true := by simpa using he
              have hb2 : (nth xs k == 0) = false := by
                have h0 : nth xs k ≠ 0 := by omega
                simpa using h0
              have hs := hid (partS_set (t := t) hkl (show sw1 t (nth xs k) = 0 from if_pos he))
              have ho2 := hor.stored (by rw [hpl.out, HN.out]) k 0
              rw [hs.out] at ho2
              have hh2 := hhr.setOther hne k (.int .i64 0)
              have hB2 := hBr.setCell (p := ⟨g, k, none⟩) (by exact hgl.1) (.int .i64 0)
              have ce1 := (hbk.setOther (g' := g) (by omega) k (.int .i64 0)).at 1 rfl
              have hck2 := ints_at (hx.below (hB.setCell (p := ⟨g, k, none⟩) (by simp; omega) (.int .i64 0)) (Nat.le_refl _)) hkl
              clear he hor hhr hBr hbk hbr hB hgl hx3
              go_wp2
              go_roundw
              case rel => exact ⟨k + 1, by omega, by go_num, ho2, hh2, hB2⟩
              case measure => simp [intOf]; omega
            · have hb1 : (nth xs k == t) = false := by simpa using he
              by_cases hz : nth xs k = 0
              · have hb2 : (nth xs k == 0) = true := by simpa using hz
                have hs := hid (partS_set (t := t) hkl (show sw1 t (nth xs k) = t from by unfold sw1; rw [if_neg he, if_pos hz]))
                have ho2 := hor.stored (by rw [hpl.out, HN.out]) k t
                rw [hs.out] at ho2
                have hh2 := hhr.setOther hne k (.int .i64 t)
                have hB2 := hBr.setCell (p := ⟨g, k, none⟩) (by exact hgl.1) (.int .i64 t)
                clear he hz hor hhr hBr hbk hbr hB hgl hx3
                go_wp2
                go_roundw
                case rel => exact ⟨k + 1, by omega, by go_num, ho2, hh2, hB2⟩
                case measure => simp [intOf]; omega
              · have hb2 : (nth xs k == 0) = false := by simpa using hz
                have hs := hid (partS_same (t := t) hkl (show sw1 t (nth xs k) = nth xs k from by unfold sw1; rw [if_neg he, if_neg hz]))
                rw [hs.out] at hor
                clear he hz hbk hbr hB hgl hx3
                go_wp2
                go_roundw
                case rel => exact ⟨k + 1, by omega, by go_num, hor, hhr, hBr⟩
                case measure => simp [intOf]; omega
          · have hkk : n = k := by omega
            have hd : decide ((k : Int) < n) = false := decide_eq_false (by omega)
            have hfull : Hid (partS xs t k = swapL xs t) := by rw [← hkk, ← HN.out]; exact partS_full xs t
            have hol := hid ((hln.out k))
            have f0 := hbr.free 0
            have f1 := hbr.free 1
            have g0 := hbr.cell 0
            have g1 := hbr.cell 1
            have B5 := (hB.setCell (p := ⟨w.heap.size + 1, 0, none⟩) (by simp) (.int .i64 wide)).setCell (p := ⟨w.heap.size + 1, 1, none⟩) (by simp) (.slice (some ⟨g, 0, none⟩) n c2)
            have o5 := (hor.setOther (w.heap.size + 1) 0 (.int .i64 wide) (hor.ne_of_lt hL1)).setOther (w.heap.size + 1) 1 (.slice (some ⟨g, 0, none⟩) n c2) (hor.ne_of_lt hL1)
            have o6 := o5.lower (B' := w.heap.size) (by omega)
            have hfin := RetBB.mk (ok := true) (wide := wide) hol.out hc2 o6 B5
            rw [hfull.out] at hfin
            have HFIN := hid hfin
            clear hbk hbr hB hor hhr hBr o5 o6 B5 hfin hkk
            go_wp2
            rw [hw.out, hL.out, hmv.out, hh2.out]
            exact bodyPost_ret (v := .tuple #[.agg #[.int .i64 wide, .slice (some ⟨g, 0, none⟩) n c2], .bool true]) (by simp [results, Try.results44, go_sem, g0, g1]) rfl HFIN.out

end Go.Proofs.Ytaepoddlhghdpaa
