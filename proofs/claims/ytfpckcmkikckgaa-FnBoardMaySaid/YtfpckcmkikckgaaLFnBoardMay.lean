/- The walk of the law FnBoardMay. -/
import Derived.Test.YtfpckcmkikckgaaMp
import Derived.Test.YtfpckcmkikckgaaTy
import Derived.Test.YtfpckcmkikckgaaTd
import Derived.Test.YtfpckcmkikckgaaSl
import Derived.Test.YtfpckcmkikckgaaAl
import Derived.Test.YtfpckcmkikckgaaDd
import Derived.Deep.RegionHeld3
namespace Go.Proofs.Ytfpckcmkikckgaa
open Go Go.RowKit

/-- The board of which the first k places are exchanged. -/
def partM (xs : List Int) (k : Nat) : List Int := (List.range xs.length).map fun j => if j < k then s12 (nth xs j) else nth xs j
theorem length_partM (xs : List Int) (k : Nat) : (partM xs k).length = xs.length := by simp [partM]
theorem nth_partM {xs : List Int} {k j : Nat} (h : j < xs.length) : nth (partM xs k) j = if j < k then s12 (nth xs j) else nth xs j := by
  rw [nth_eq (by rw [length_partM]; exact h)]; simp [partM]
theorem partM_zero (xs : List Int) : partM xs 0 = xs :=
  ext_nth (length_partM _ _) fun j hj => by rw [length_partM] at hj; rw [nth_partM hj, if_neg (Nat.not_lt_zero _)]
theorem partM_full (xs : List Int) : partM xs xs.length = sw12 xs :=
  ext_nth (by rw [length_partM, length_sw12]) fun j hj => by rw [length_partM] at hj; rw [nth_partM hj, nth_sw12 hj, if_pos hj]
theorem partM_set {xs : List Int} {k : Nat} (h : k < xs.length) {x : Int} (hx : s12 (nth xs k) = x) : (partM xs k).set k x = partM xs (k + 1) :=
  ext_nth (by rw [List.length_set, length_partM, length_partM]) fun j hj => by
    rw [List.length_set, length_partM] at hj
    rw [nth_set (by rw [length_partM]; exact h), nth_partM hj, nth_partM hj]
    by_cases e : j = k
    · subst e; rw [if_pos rfl, if_pos (Nat.lt_succ_self _), hx]
    · rw [if_neg e]
      by_cases e2 : j < k
      · rw [if_pos e2, if_pos (by omega)]
      · rw [if_neg e2, if_neg (by omega)]
theorem partM_same {xs : List Int} {k : Nat} (h : k < xs.length) (hx : s12 (nth xs k) = nth xs k) : partM xs k = partM xs (k + 1) :=
  ext_nth (by rw [length_partM, length_partM]) fun j hj => by
    rw [length_partM] at hj
    rw [nth_partM hj, nth_partM hj]
    by_cases e : j = k
    · subst e; rw [if_neg (Nat.lt_irrefl _), if_pos (Nat.lt_succ_self _), hx]
    · by_cases e2 : j < k
      · rw [if_pos e2, if_pos (by omega)]
      · rw [if_neg e2, if_neg (by omega)]

set_option maxRecDepth 100000 in
set_option maxHeartbeats 4000000 in
theorem fnBoardMay_walk (w : World) (ao : Option Addr) (bs : List Int) (l c : Nat) (hn : bs.length = l) (hlc : l ≤ c) (hcm : c ≤ 9223372036854775807) (hx : BytesAt w ao bs) (h8 : B8 bs) :
    Calls Try.prog 7 #[.slice ao l c] w fun e w' => e = .returned (.bool true) ∧ Below w.heap.size w w' := by
  by_cases hbig : 1048576 < l
  · have hd : decide ((1048576 : Int) < l) = true := decide_eq_true (by omega)
    clear hx hn h8
    go_enter Try.func7, Try.ntmps7
    go_wp2
    go_ret
    exact ⟨rfl, Below.refl _ _⟩
  have hd : decide ((1048576 : Int) < l) = false := decide_eq_false (by omega)
  go_enter Try.func7, Try.ntmps7
  go_wp2_with fail
  refine (drawBoardMay_any ao bs l c w hn hlc hcm hx h8).mono fun e wd h => ?_
  obtain ⟨wide, ao1, m, c1, ys, rfl, hl, hmc, hm9, hwd, o, B⟩ := h
  clear hx h8 hn hd hbig
  have HL := hid hl
  clear hl
  have bk := Blk.new wd #[.int .i64 wide, .slice ao1 m c1] 25
  have o := o.alloc (.cells #[.int .i64 wide, .slice ao1 m c1] 25)
  have hgbw : w.heap.size ≤ wd.heap.size := B.size
  have B := B.alloc B.size (.cells #[.int .i64 wide, .slice ao1 m c1] 25)
  go_wp2_with fail
  generalize (wd.alloc (.cells #[.int .i64 wide, .slice ao1 m c1] 25)) = W at *
  generalize wd.heap.size = gb at *
  obtain ⟨v, hv⟩ : ∃ v, mayB wide ys = v := ⟨_, rfl⟩
  have HV := hid hv
  clear hv
  have hvv : (v != v) = false := by simp
  refine (implBoardMay_any wide ao1 ys m c1 W HL.out (by omega) hmc o.ints).mono fun e wa h => ?_
  rw [HV.out] at h
  obtain ⟨rfl, b⟩ := h
  have o := o.below b (Nat.le_refl _)
  have bk := bk.below b (Nat.le_refl _)
  have B := B.trans (b.mono B.size)
  clear b
  have e0 := bk.at 0 rfl
  have e1 := bk.at 1 rfl
  go_wp2_with fail
  refine (specBoardMay_any wide ao1 ys m c1 wa HL.out (by omega) hmc o.ints).mono fun e wb h => ?_
  rw [HV.out] at h
  obtain ⟨rfl, b⟩ := h
  have o := o.below b (Nat.le_refl _)
  have bk := bk.below b (Nat.le_refl _)
  have B := B.trans (b.mono B.size)
  clear b e0 e1
  have e0 := bk.at 0 rfl
  have e1 := bk.at 1 rfl
  go_wp2_with fail
  refine (specBoardValid_any wide ao1 ys m c1 wb HL.out (by omega) hmc o.ints).mono fun e w1 h => ?_
  by_cases hok : BoardOk wide ys
  · rw [boardB_iff.2 hok] at h
    obtain ⟨rfl, b⟩ := h
    have o := o.below b (Nat.le_refl _)
    have bk := bk.below b (Nat.le_refl _)
    have B := B.trans (b.mono B.size)
    clear b e0 e1
    have e0 := bk.at 0 rfl
    have e1 := bk.at 1 rfl
    have hw := hok.2.2.1
    have hmn : 2 ≤ m := by have := hok.1; rw [HL.out] at this; exact this
    have ht0 : 0 ≤ (m : Int) / wide ∧ (m : Int) / wide ≤ m := ⟨Int.ediv_nonneg (by omega) (by omega), Int.ediv_le_self _ (by omega)⟩
    have htd : ((m : Int)).tdiv wide = (m : Int) / wide := Int.tdiv_eq_ediv_of_nonneg (by omega)
    have hw0 : (wide == 0) = false := by simp; omega
    have hw1 : ¬ wide = 0 := by omega
    have hout : Hid (¬ (2 ≤ wide ∧ 2 ≤ (m : Int) / wide) → v = false) := fun h => by
      rw [← HV.out]; exact mayB_out fun h2 => h (by rw [HL.out] at h2; exact h2.2)
    have hin : Hid (2 ≤ wide → 2 ≤ (m : Int) / wide → mayB wide (sw12 ys) = !v ∧ (m ≤ 6 → decide (0 ≤ leastI wide ys) = v)) := fun h1 h2 => by
      have h3 : 2 ≤ (ys.length : Int) / wide := by rw [HL.out]; exact h2
      refine ⟨by rw [may_sw12 hok h1 h3, HV.out], fun h6 => ?_⟩
      rw [may_least hok h1 h3 (by rw [HL.out]; exact h6), HV.out]
    clear hok
    generalize (m : Int) / wide = T at *
    have hwt : IntKind.i64.wrap T = T := IntWalk.i64_in _ (by omega)
    by_cases h2 : 2 ≤ wide
    · have hdw : decide (wide < 2) = false := decide_eq_false (by omega)
      by_cases h3 : 2 ≤ T
      · have hdt : decide (T < 2) = false := decide_eq_false (by omega)
        obtain ⟨hsw, hle⟩ := hin.out h2 h3
        have HSW := hid hsw
        have HLE := hid hle
        clear hin hout hsw hle
        obtain ⟨i0, hi, hi0, hi1, hi2⟩ := info_parts Try.infoInt
        obtain ⟨ab, aoff, rfl, _⟩ := o.ints (by rw [HL.out]; omega)
        have hx1 : IntsAt w1 (some ⟨ab, aoff, none⟩) ys := o.ints
        have lt := bk.lt
        have hml : Hid ((ys.map (Value.int .i64)).length = m * 1) := by have := HL.out; simpa [Hid] using this
        have hn0 : 0 < ys.length := by have := HL.out; omega
        have q7 : 0 < 0 + m := by omega
        have q8 : 0 + m ≤ maxLen := by unfold maxLen; omega
        have q9 : (0 + m) * 8 ≤ 140737488355328 := by omega
        have bb0 : Blk (((w1.alloc (.cells #[] 3)).alloc (.cells #[.int .i64 0, .slice none 0 0] 25)).drew) (w1.heap.size + 1) #[.int .i64 0, .slice none 0 0] 25 := Blk.new' (w1.alloc (.cells #[] 3)) _ _ (by simp)
        have bc0 : Blk (((w1.alloc (.cells #[.int .i64 0, .slice none 0 0] 25)).alloc (.cells #[] 3)).drew) w1.heap.size #[.int .i64 0, .slice none 0 0] 25 := (Blk.new w1 _ _).alloc _
        go_wp2_with fail
        go_region_held3 (fun w' => (∀ b o, b < w1.heap.size → w'.cell? ⟨b, o, none⟩ = w1.cell? ⟨b, o, none⟩) ∧ Below w1.heap.size w1 w')
          (first | with_reducible exact sb_drew _ | with_reducible exact sb_ad _ _ | with_reducible exact sb_aad _ _ _ | with_reducible exact sb_of ‹_› | with_reducible exact sb_alloc ‹_› _ | with_reducible exact sb_alloc (sb_of ‹_›) _ | with_reducible exact sb_set (sb_set ‹_› (Nat.le_succ _) _ _) (Nat.le_succ _) _ _ | with_reducible exact sb_set (sb_set ‹_› (Nat.le_refl _) _ _) (Nat.le_refl _) _ _)
          (first | (refine step_append_grows rfl (.tmp 42) (.tmp 44) 23 rfl 3 i0 (.int .i64 0) 1 8 Try.underlying23 hi hi0 hi1 hi2 rfl (by decide) (some ⟨w1.heap.size, 0, none⟩) 0 0 [] (by simp [Act.eval]; done) (by intro h; cases h) rfl (by intro b _ j u hj; simp at hj) ⟨ab, aoff, none⟩ m c1 (ys.map (Value.int .i64)) (by simp [Act.eval]) hml.out (cells_of (hx1.below (sb_below ‹_›) (Nat.le_refl _))) (ints_oneCell _ _) q7 q8 q9 ?_
                    intro v' w2 hown hgrow
                    have bw : Below w1.heap.size w1 w2 := sb_grown ‹_› hgrow
                    have hoq : ∃ v0 c2 g, v' = v0 ∧ v0 = .slice (some ⟨g, 0, none⟩) m c2 ∧ m ≤ c2 ∧ Own w2 w1.heap.size v0 ys := Own.grown4 (Own.fresh hown HL.out (sb_size ‹_›)) HL.out hn0
                    obtain ⟨v0, c2, g, rfl, rfl, hc2, ho⟩ := hoq
                    have bb := bb0.kept hgrow (Option.some_ne_none _)
                    have fb0 := bb.free 0
                    have fb1 := bb.free 1
                    have gb0 := bb.cell 0
                    have gb1 := bb.cell 1
                    have hne := own_ne bb0 hown hgrow
                    clear hown hgrow)
                 | (refine step_append_grows rfl (.tmp 42) (.tmp 44) 23 rfl 3 i0 (.int .i64 0) 1 8 Try.underlying23 hi hi0 hi1 hi2 rfl (by decide) (some ⟨w1.heap.size + 1, 0, none⟩) 0 0 [] (by simp [Act.eval]; done) (by intro h; cases h) rfl (by intro b _ j u hj; simp at hj) ⟨ab, aoff, none⟩ m c1 (ys.map (Value.int .i64)) (by simp [Act.eval]) hml.out (cells_of (hx1.below (sb_below ‹_›) (Nat.le_refl _))) (ints_oneCell _ _) q7 q8 q9 ?_
                    intro v' w2 hown hgrow
                    have bw : Below w1.heap.size w1 w2 := sb_grown ‹_› hgrow
                    have hoq : ∃ v0 c2 g, v' = v0 ∧ v0 = .slice (some ⟨g, 0, none⟩) m c2 ∧ m ≤ c2 ∧ Own w2 w1.heap.size v0 ys := Own.grown4 (Own.fresh hown HL.out (sb_size ‹_›)) HL.out hn0
                    obtain ⟨v0, c2, g, rfl, rfl, hc2, ho⟩ := hoq
                    have bb := bc0.kept hgrow (Option.some_ne_none _)
                    have fb0 := bb.free 0
                    have fb1 := bb.free 1
                    have gb0 := bb.cell 0
                    have gb1 := bb.cell 1
                    have hne := own_ne bc0 hown hgrow
                    clear hown hgrow)
                 | (refine step_append_grows rfl (.tmp 42) (.tmp 44) 23 rfl 3 i0 (.int .i64 0) 1 8 Try.underlying23 hi hi0 hi1 hi2 rfl (by decide) (some ⟨w1.heap.size, 0, none⟩) 0 0 [] (by simp [Act.eval]; done) (by intro h; cases h) rfl (by intro b _ j u hj; simp at hj) ⟨ab, aoff, none⟩ m c1 (ys.map (Value.int .i64)) (by simp [Act.eval]) hml.out (cells_of (hx1.below (sb_below ‹_›) (Nat.le_refl _))) (ints_oneCell _ _) q7 q8 q9 ?_
                    intro v' w2 hown hgrow
                    have bw : Below w1.heap.size w1 w2 := sb_grown ‹_› hgrow
                    have hoq : ∃ v0 c2 g, v' = v0 ∧ v0 = .slice (some ⟨g, 0, none⟩) m c2 ∧ m ≤ c2 ∧ Own w2 w1.heap.size v0 ys := Own.grown4 (Own.fresh hown HL.out (sb_size ‹_›)) HL.out hn0
                    obtain ⟨v0, c2, g, rfl, rfl, hc2, ho⟩ := hoq
                    clear hown hgrow))
        all_goals rename_i hH
        · have hne : w2.heap.size ≠ g := by have := ho.base.2; omega
          have bkd := Blk.new w2 #[.int .i64 wide, (.slice (some ⟨g, 0, none⟩) m c2)] 25
          have od := ho.alloc (.cells #[.int .i64 wide, (.slice (some ⟨g, 0, none⟩) m c2)] 25)
          have hb := hH.2
          have hHg : w1.heap.size ≤ w2.heap.size := bw.size
          clear hH bw ho bb0 bc0
          generalize (w2.alloc (.cells #[.int .i64 wide, (.slice (some ⟨g, 0, none⟩) m c2)] 25)) = W at *
          generalize w2.heap.size = H at *
          have bkW := bk.below hb (Nat.le_refl _)
          have hB := B.trans (hb.mono B.size)
          have hL1 : w.heap.size ≤ w1.heap.size := B.size
          have hgL : gb < w1.heap.size := lt
          clear bk B e0 e1 lt o
          obtain ⟨L, hLe⟩ : ∃ L, w1.heap.size = L := ⟨_, rfl⟩
          rw [hLe] at hb hL1 hgL od hHg
          have hln := hid (fun k => (length_partM ys k).trans HL.out)
          go_wp2_with fail
          go_loopw [6] (fun i wr => ∃ k : Nat, k ≤ m ∧ i = .int .i64 k ∧ Own wr L (.slice (some ⟨g, 0, none⟩) m c2) (partM ys k) ∧ Blk wr H #[.int .i64 wide, (.slice (some ⟨g, 0, none⟩) m c2)] 25 ∧ Below L W wr) (fun i _ => m - (intOf i).toNat)
          case atStart => exact ⟨0, Nat.zero_le _, rfl, by rw [partM_zero]; exact od, bkd, Below.refl _ _⟩
          case round =>
            obtain ⟨k, hk, rfl, hor, hhr, hBr⟩ := hrel
            clear od bkd
            have hbk := bkW.belowLt hBr (by omega)
            have hB := hB.trans (hBr.mono hL1)
            have hx3 := hx1.below (hb.trans hBr) (by omega)
            have e0 := hbk.at 0 rfl
            have e1 := hbk.at 1 rfl
            have c0 := hhr.at 0 rfl
            have c1' := hhr.at 1 rfl
            by_cases hkn : k < m
            · have hd : decide ((k : Int) < m) = true := decide_eq_true (by omega)
              have hkl : k < ys.length := by rw [HL.out]; exact hkn
              have hck := ints_at hx3 hkl
              have hgl := hor.base
              have hpl := hid (length_partM ys k)
              have ck := hor.cell (j := k) (by rw [hpl.out]; exact hkl)
              have fk := hor.free (by rw [hpl.out, HL.out]) k
              by_cases he : nth ys k = 1
              · have hb1 : (nth ys k == 1) = true := by simpa using he
                have hb2 : (nth ys k == 2) = false := by rw [he]; rfl
                have hs := hid (partM_set hkl (show s12 (nth ys k) = 2 from if_pos he))
                have ho2 := hor.stored (by rw [hpl.out, HL.out]) k 2
                rw [hs.out] at ho2
                have hh2 := hhr.setOther hne k (.int .i64 2)
                have hB2 := hBr.setCell (p := ⟨g, k, none⟩) (by exact hgl.1) (.int .i64 2)
                have ce1 := (hbk.setOther (g' := g) (by omega) k (.int .i64 2)).at 1 rfl
                have hck2 := ints_at (hx1.below (hb.trans hB2) (by omega)) hkl
                clear he hor hhr hBr hbk hB hgl hx3
                go_wp2
                go_roundw
                case rel => exact ⟨k + 1, by omega, by go_num, ho2, hh2, hB2⟩
                case measure => simp [intOf]; omega
              · have hb1 : (nth ys k == 1) = false := by simpa using he
                by_cases hz : nth ys k = 2
                · have hb2 : (nth ys k == 2) = true := by simpa using hz
                  have hs := hid (partM_set hkl (show s12 (nth ys k) = 1 from by unfold s12; rw [if_neg he, if_pos hz]))
                  have ho2 := hor.stored (by rw [hpl.out, HL.out]) k 1
                  rw [hs.out] at ho2
                  have hh2 := hhr.setOther hne k (.int .i64 1)
                  have hB2 := hBr.setCell (p := ⟨g, k, none⟩) (by exact hgl.1) (.int .i64 1)
                  clear he hz hor hhr hBr hbk hB hgl hx3
                  go_wp2
                  go_roundw
                  case rel => exact ⟨k + 1, by omega, by go_num, ho2, hh2, hB2⟩
                  case measure => simp [intOf]; omega
                · have hb2 : (nth ys k == 2) = false := by simpa using hz
                  have hs := hid (partM_same hkl (show s12 (nth ys k) = nth ys k from by unfold s12; rw [if_neg he, if_neg hz]))
                  rw [hs.out] at hor
                  clear he hz hbk hB hgl hx3
                  go_wp2
                  go_roundw
                  case rel => exact ⟨k + 1, by omega, by go_num, hor, hhr, hBr⟩
                  case measure => simp [intOf]; omega
            · obtain rfl : k = m := by omega
              have hd : decide ((k : Int) < k) = false := decide_eq_false (by omega)
              have hfull : Hid (partM ys k = sw12 ys) := by unfold Hid; rw [← HL.out]; exact partM_full ys
              rw [hfull.out] at hor
              have hsl := hid ((length_sw12 ys).trans HL.out)
              have hnv : ((!v) != v) = true := by cases v <;> rfl
              clear hfull
              go_wp2_with fail
              refine (implBoardMay_any wide (some ⟨g, 0, none⟩) (sw12 ys) k c2 wr hsl.out (by omega) hc2 hor.ints).mono fun e wq h => ?_
              rw [HSW.out] at h
              obtain ⟨rfl, b⟩ := h
              have hB := hB.trans (b.mono hB.size)
              have hbk := hbk.below b (Nat.le_refl _)
              have hx3 := hx3.below b (Nat.le_refl _)
              clear b e0 e1 c0 c1' hor hhr hBr
              have e0 := hbk.at 0 rfl
              have e1 := hbk.at 1 rfl
              by_cases h6 : k ≤ 6
              · have hd6 : decide ((6 : Int) < k) = false := decide_eq_false (by omega)
                have hq := HLE.out h6
                have hqq : (decide (0 ≤ leastI wide ys) == v) = true := by rw [hq]; simp
                clear hq
                go_wp2_with fail
                refine (implBoardLeast_any wide (some ⟨ab, aoff, none⟩) ys k c1 wq HL.out (by omega) hx3).mono fun e wz h => ?_
                obtain ⟨rfl, b⟩ := h
                have hB := hB.trans (b.mono hB.size)
                clear b
                go_wp2
                go_ret
                exact ⟨rfl, hB⟩
              · have hd6 : decide ((6 : Int) < k) = true := decide_eq_true (by omega)
                go_wp2
                go_ret
                exact ⟨rfl, hB⟩
        · have bkd : Blk _ (w1.heap.size + 1) #[.int .i64 wide, (.slice (some ⟨g, 0, none⟩) m c2)] 25 := (bb.set 0 (.int .i64 wide)).set 1 (.slice (some ⟨g, 0, none⟩) m c2)
          have od := (ho.setOther (w1.heap.size + 1) 0 (.int .i64 wide) (by right; simp [Value.ownBlock]; intro e; exact hne e.symm)).setOther (w1.heap.size + 1) 1 (.slice (some ⟨g, 0, none⟩) m c2) (by right; simp [Value.ownBlock]; intro e; exact hne e.symm)
          have hb := hH.2
          have hHg : w1.heap.size ≤ (w1.heap.size + 1) := by omega
          clear hH bw ho bb fb0 fb1 gb0 gb1 bb0 bc0
          generalize ((w2.setCell ⟨(w1.heap.size + 1), 0, none⟩ (.int .i64 wide)).setCell ⟨(w1.heap.size + 1), 1, none⟩ (.slice (some ⟨g, 0, none⟩) m c2)) = W at *
          generalize w1.heap.size + 1 = H at *
          have bkW := bk.below hb (Nat.le_refl _)
          have hB := B.trans (hb.mono B.size)
          have hL1 : w.heap.size ≤ w1.heap.size := B.size
          have hgL : gb < w1.heap.size := lt
          clear bk B e0 e1 lt o
          obtain ⟨L, hLe⟩ : ∃ L, w1.heap.size = L := ⟨_, rfl⟩
          rw [hLe] at hb hL1 hgL od hHg
          have hln := hid (fun k => (length_partM ys k).trans HL.out)
          go_wp2_with fail
          go_loopw [6] (fun i wr => ∃ k : Nat, k ≤ m ∧ i = .int .i64 k ∧ Own wr L (.slice (some ⟨g, 0, none⟩) m c2) (partM ys k) ∧ Blk wr H #[.int .i64 wide, (.slice (some ⟨g, 0, none⟩) m c2)] 25 ∧ Below L W wr) (fun i _ => m - (intOf i).toNat)
          case atStart => exact ⟨0, Nat.zero_le _, rfl, by rw [partM_zero]; exact od, bkd, Below.refl _ _⟩
          case round =>
            obtain ⟨k, hk, rfl, hor, hhr, hBr⟩ := hrel
            clear od bkd
            have hbk := bkW.belowLt hBr (by omega)
            have hB := hB.trans (hBr.mono hL1)
            have hx3 := hx1.below (hb.trans hBr) (by omega)
            have e0 := hbk.at 0 rfl
            have e1 := hbk.at 1 rfl
            have c0 := hhr.at 0 rfl
            have c1' := hhr.at 1 rfl
            by_cases hkn : k < m
            · have hd : decide ((k : Int) < m) = true := decide_eq_true (by omega)
              have hkl : k < ys.length := by rw [HL.out]; exact hkn
              have hck := ints_at hx3 hkl
              have hgl := hor.base
              have hpl := hid (length_partM ys k)
              have ck := hor.cell (j := k) (by rw [hpl.out]; exact hkl)
              have fk := hor.free (by rw [hpl.out, HL.out]) k
              by_cases he : nth ys k = 1
              · have hb1 : (nth ys k == 1) = true := by simpa using he
                have hb2 : (nth ys k == 2) = false := by rw [he]; rfl
                have hs := hid (partM_set hkl (show s12 (nth ys k) = 2 from if_pos he))
                have ho2 := hor.stored (by rw [hpl.out, HL.out]) k 2
                rw [hs.out] at ho2
                have hh2 := hhr.setOther hne k (.int .i64 2)
                have hB2 := hBr.setCell (p := ⟨g, k, none⟩) (by exact hgl.1) (.int .i64 2)
                have ce1 := (hbk.setOther (g' := g) (by omega) k (.int .i64 2)).at 1 rfl
                have hck2 := ints_at (hx1.below (hb.trans hB2) (by omega)) hkl
                clear he hor hhr hBr hbk hB hgl hx3
                go_wp2
                go_roundw
                case rel => exact ⟨k + 1, by omega, by go_num, ho2, hh2, hB2⟩
                case measure => simp [intOf]; omega
              · have hb1 : (nth ys k == 1) = false := by simpa using he
                by_cases hz : nth ys k = 2
                · have hb2 : (nth ys k == 2) = true := by simpa using hz
                  have hs := hid (partM_set hkl (show s12 (nth ys k) = 1 from by unfold s12; rw [if_neg he, if_pos hz]))
                  have ho2 := hor.stored (by rw [hpl.out, HL.out]) k 1
                  rw [hs.out] at ho2
                  have hh2 := hhr.setOther hne k (.int .i64 1)
                  have hB2 := hBr.setCell (p := ⟨g, k, none⟩) (by exact hgl.1) (.int .i64 1)
                  clear he hz hor hhr hBr hbk hB hgl hx3
                  go_wp2
                  go_roundw
                  case rel => exact ⟨k + 1, by omega, by go_num, ho2, hh2, hB2⟩
                  case measure => simp [intOf]; omega
                · have hb2 : (nth ys k == 2) = false := by simpa using hz
                  have hs := hid (partM_same hkl (show s12 (nth ys k) = nth ys k from by unfold s12; rw [if_neg he, if_neg hz]))
                  rw [hs.out] at hor
                  clear he hz hbk hB hgl hx3
                  go_wp2
                  go_roundw
                  case rel => exact ⟨k + 1, by omega, by go_num, hor, hhr, hBr⟩
                  case measure => simp [intOf]; omega
            · obtain rfl : k = m := by omega
              have hd : decide ((k : Int) < k) = false := decide_eq_false (by omega)
              have hfull : Hid (partM ys k = sw12 ys) := by unfold Hid; rw [← HL.out]; exact partM_full ys
              rw [hfull.out] at hor
              have hsl := hid ((length_sw12 ys).trans HL.out)
              have hnv : ((!v) != v) = true := by cases v <;> rfl
              clear hfull
              go_wp2_with fail
              refine (implBoardMay_any wide (some ⟨g, 0, none⟩) (sw12 ys) k c2 wr hsl.out (by omega) hc2 hor.ints).mono fun e wq h => ?_
              rw [HSW.out] at h
              obtain ⟨rfl, b⟩ := h
              have hB := hB.trans (b.mono hB.size)
              have hbk := hbk.below b (Nat.le_refl _)
              have hx3 := hx3.below b (Nat.le_refl _)
              clear b e0 e1 c0 c1' hor hhr hBr
              have e0 := hbk.at 0 rfl
              have e1 := hbk.at 1 rfl
              by_cases h6 : k ≤ 6
              · have hd6 : decide ((6 : Int) < k) = false := decide_eq_false (by omega)
                have hq := HLE.out h6
                have hqq : (decide (0 ≤ leastI wide ys) == v) = true := by rw [hq]; simp
                clear hq
                go_wp2_with fail
                refine (implBoardLeast_any wide (some ⟨ab, aoff, none⟩) ys k c1 wq HL.out (by omega) hx3).mono fun e wz h => ?_
                obtain ⟨rfl, b⟩ := h
                have hB := hB.trans (b.mono hB.size)
                clear b
                go_wp2
                go_ret
                exact ⟨rfl, hB⟩
              · have hd6 : decide ((6 : Int) < k) = true := decide_eq_true (by omega)
                go_wp2
                go_ret
                exact ⟨rfl, hB⟩
        · have bkd : Blk _ w1.heap.size #[.int .i64 wide, (.slice (some ⟨g, 0, none⟩) m c2)] 25 := (bb.set 0 (.int .i64 wide)).set 1 (.slice (some ⟨g, 0, none⟩) m c2)
          have od := (ho.setOther w1.heap.size 0 (.int .i64 wide) (by right; simp [Value.ownBlock]; intro e; exact hne e.symm)).setOther w1.heap.size 1 (.slice (some ⟨g, 0, none⟩) m c2) (by right; simp [Value.ownBlock]; intro e; exact hne e.symm)
          have hb := hH.2
          have hHg : w1.heap.size ≤ w1.heap.size := by omega
          clear hH bw ho bb fb0 fb1 gb0 gb1 bb0 bc0
          generalize ((w2.setCell ⟨w1.heap.size, 0, none⟩ (.int .i64 wide)).setCell ⟨w1.heap.size, 1, none⟩ (.slice (some ⟨g, 0, none⟩) m c2)) = W at *
          obtain ⟨H, hHH⟩ : ∃ H, w1.heap.size = H := ⟨_, rfl⟩
          rw [hHH] at hne bkd ⊢
          have bkW := bk.below hb (Nat.le_refl _)
          have hB := B.trans (hb.mono B.size)
          have hL1 : w.heap.size ≤ w1.heap.size := B.size
          have hgL : gb < w1.heap.size := lt
          clear bk B e0 e1 lt o
          obtain ⟨L, hLe⟩ : ∃ L, w1.heap.size = L := ⟨_, rfl⟩
          rw [hLe] at hb hL1 hgL od hHg
          have hln := hid (fun k => (length_partM ys k).trans HL.out)
          go_wp2_with fail
          go_loopw [6] (fun i wr => ∃ k : Nat, k ≤ m ∧ i = .int .i64 k ∧ Own wr L (.slice (some ⟨g, 0, none⟩) m c2) (partM ys k) ∧ Blk wr H #[.int .i64 wide, (.slice (some ⟨g, 0, none⟩) m c2)] 25 ∧ Below L W wr) (fun i _ => m - (intOf i).toNat)
          case atStart => exact ⟨0, Nat.zero_le _, rfl, by rw [partM_zero]; exact od, bkd, Below.refl _ _⟩
          case round =>
            obtain ⟨k, hk, rfl, hor, hhr, hBr⟩ := hrel
            clear od bkd
            have hbk := bkW.belowLt hBr (by omega)
            have hB := hB.trans (hBr.mono hL1)
            have hx3 := hx1.below (hb.trans hBr) (by omega)
            have e0 := hbk.at 0 rfl
            have e1 := hbk.at 1 rfl
            have c0 := hhr.at 0 rfl
            have c1' := hhr.at 1 rfl
            by_cases hkn : k < m
            · have hd : decide ((k : Int) < m) = true := decide_eq_true (by omega)
              have hkl : k < ys.length := by rw [HL.out]; exact hkn
              have hck := ints_at hx3 hkl
              have hgl := hor.base
              have hpl := hid (length_partM ys k)
              have ck := hor.cell (j := k) (by rw [hpl.out]; exact hkl)
              have fk := hor.free (by rw [hpl.out, HL.out]) k
              by_cases he : nth ys k = 1
              · have hb1 : (nth ys k == 1) = true := by simpa using he
                have hb2 : (nth ys k == 2) = false := by rw [he]; rfl
                have hs := hid (partM_set hkl (show s12 (nth ys k) = 2 from if_pos he))
                have ho2 := hor.stored (by rw [hpl.out, HL.out]) k 2
                rw [hs.out] at ho2
                have hh2 := hhr.setOther hne k (.int .i64 2)
                have hB2 := hBr.setCell (p := ⟨g, k, none⟩) (by exact hgl.1) (.int .i64 2)
                have ce1 := (hbk.setOther (g' := g) (by omega) k (.int .i64 2)).at 1 rfl
                have hck2 := ints_at (hx1.below (hb.trans hB2) (by omega)) hkl
                clear he hor hhr hBr hbk hB hgl hx3
                go_wp2
                go_roundw
                case rel => exact ⟨k + 1, by omega, by go_num, ho2, hh2, hB2⟩
                case measure => simp [intOf]; omega
              · have hb1 : (nth ys k == 1) = false := by simpa using he
                by_cases hz : nth ys k = 2
                · have hb2 : (nth ys k == 2) = true := by simpa using hz
                  have hs := hid (partM_set hkl (show s12 (nth ys k) = 1 from by unfold s12; rw [if_neg he, if_pos hz]))
                  have ho2 := hor.stored (by rw [hpl.out, HL.out]) k 1
                  rw [hs.out] at ho2
                  have hh2 := hhr.setOther hne k (.int .i64 1)
                  have hB2 := hBr.setCell (p := ⟨g, k, none⟩) (by exact hgl.1) (.int .i64 1)
                  clear he hz hor hhr hBr hbk hB hgl hx3
                  go_wp2
                  go_roundw
                  case rel => exact ⟨k + 1, by omega, by go_num, ho2, hh2, hB2⟩
                  case measure => simp [intOf]; omega
                · have hb2 : (nth ys k == 2) = false := by simpa using hz
                  have hs := hid (partM_same hkl (show s12 (nth ys k) = nth ys k from by unfold s12; rw [if_neg he, if_neg hz]))
                  rw [hs.out] at hor
                  clear he hz hbk hB hgl hx3
                  go_wp2
                  go_roundw
                  case rel => exact ⟨k + 1, by omega, by go_num, hor, hhr, hBr⟩
                  case measure => simp [intOf]; omega
            · obtain rfl : k = m := by omega
              have hd : decide ((k : Int) < k) = false := decide_eq_false (by omega)
              have hfull : Hid (partM ys k = sw12 ys) := by unfold Hid; rw [← HL.out]; exact partM_full ys
              rw [hfull.out] at hor
              have hsl := hid ((length_sw12 ys).trans HL.out)
              have hnv : ((!v) != v) = true := by cases v <;> rfl
              clear hfull
              go_wp2_with fail
              refine (implBoardMay_any wide (some ⟨g, 0, none⟩) (sw12 ys) k c2 wr hsl.out (by omega) hc2 hor.ints).mono fun e wq h => ?_
              rw [HSW.out] at h
              obtain ⟨rfl, b⟩ := h
              have hB := hB.trans (b.mono hB.size)
              have hbk := hbk.below b (Nat.le_refl _)
              have hx3 := hx3.below b (Nat.le_refl _)
              clear b e0 e1 c0 c1' hor hhr hBr
              have e0 := hbk.at 0 rfl
              have e1 := hbk.at 1 rfl
              by_cases h6 : k ≤ 6
              · have hd6 : decide ((6 : Int) < k) = false := decide_eq_false (by omega)
                have hq := HLE.out h6
                have hqq : (decide (0 ≤ leastI wide ys) == v) = true := by rw [hq]; simp
                clear hq
                go_wp2_with fail
                refine (implBoardLeast_any wide (some ⟨ab, aoff, none⟩) ys k c1 wq HL.out (by omega) hx3).mono fun e wz h => ?_
                obtain ⟨rfl, b⟩ := h
                have hB := hB.trans (b.mono hB.size)
                clear b
                go_wp2
                go_ret
                exact ⟨rfl, hB⟩
              · have hd6 : decide ((6 : Int) < k) = true := decide_eq_true (by omega)
                go_wp2
                go_ret
                exact ⟨rfl, hB⟩
      · have hdt : decide (T < 2) = true := decide_eq_true (by omega)
        obtain rfl := hout.out (fun h => h3 h.2)
        clear hin hout o bk
        go_wp2_with fail
        refine (alive_any w1).mono fun e w4 h => ?_
        obtain ⟨rfl, b⟩ := h
        have B := B.trans (b.mono B.size)
        clear b
        go_wp2
        go_ret
        exact ⟨rfl, B⟩
    · have hdw : decide (wide < 2) = true := decide_eq_true (by omega)
      obtain rfl := hout.out (fun h => h2 h.1)
      clear hin hout o bk
      go_wp2_with fail
      refine (alive_any w1).mono fun e w4 h => ?_
      obtain ⟨rfl, b⟩ := h
      have B := B.trans (b.mono B.size)
      clear b
      go_wp2
      go_ret
      exact ⟨rfl, B⟩
  · rw [boardB_not.2 hok] at h
    obtain ⟨rfl, b⟩ := h
    have hvf := mayB_out (wide := wide) (xs := ys) fun h => hok h.1
    rw [HV.out] at hvf
    subst hvf
    have B := B.trans (b.mono B.size)
    clear b e0 e1 o bk hok
    go_wp2_with fail
    refine (alive_any w1).mono fun e w4 h => ?_
    obtain ⟨rfl, b⟩ := h
    have B := B.trans (b.mono B.size)
    clear b
    go_wp2
    go_ret
    exact ⟨rfl, B⟩

end Go.Proofs.Ytfpckcmkikckgaa
