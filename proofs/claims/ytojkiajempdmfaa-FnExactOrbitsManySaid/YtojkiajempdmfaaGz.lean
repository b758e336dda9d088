/- The walk of OrbitOf, the program's. -/
import Derived.Test.YtojkiajempdmfaaGy
import Derived.Shelf.Abstract
import Derived.Shelf.RegionOpen
import Derived.RangeFuncCalls
import Derived.Outline
namespace Go.Proofs.Ytojkiajempdmfaa
open Go Go.RowKit

attribute [local go_sem] Oper.semAt_some

theorem orbitSeq_any (p y : Int) (ao : Option Addr) (n c : Nat) (w : World) :
    Calls Try.prog 27 #[.int .i64 p, .slice ao n c, .int .i64 y] w fun e w' => e = .returned (.func (.func (37)) #[] #[.pointer (some ⟨w.heap.size + 1 + 1, 0, none⟩), .pointer (some ⟨w.heap.size, 0, none⟩), .pointer (some ⟨w.heap.size + 1, 0, none⟩)]) ∧
      w' = ((w.alloc (.cells #[.int .i64 p] 3)).alloc (.cells #[.slice ao n c] 22)).alloc (.cells #[.int .i64 y] 3) := by
  go_enter Try.func27, Try.ntmps27
  go_wp2
  go_ret
  exact ⟨rfl, rfl⟩

/-- The variable that gathers the places. -/
def SeenI (bs : Nat) (w0 : World) (n0 : Nat) (pre : List PlaceV) (W : World) : Prop := Blk W bs #[.int .i64 (mask (placesP pre) : Nat)] 3 ∧ Below n0 w0 W
theorem SeenI.stays {bs n0 : Nat} {w0 : World} {B : Nat} (hb : bs < B) (h0 : n0 ≤ B) (hn : n0 ≤ w0.heap.size) : Stays B (SeenI bs w0 n0) := fun s A C row hs hg hr => by
  refine ⟨?_, hs.2.grown hg (Nat.le_trans hn hs.2.size) (fun k e => by have := hr k e; omega)⟩
  unfold Blk
  rw [hg.block bs hs.1.lt (fun e => by have := hr bs e.symm; omega)]
  exact hs.1
theorem placesP_in (xs : List PlaceV) : ∀ x ∈ placesP xs, 0 ≤ x ∧ x < (5 : Nat) := fun x hx => by
  obtain ⟨z, hz, rfl⟩ := List.mem_map.1 hx
  have := z.2
  omega

theorem kpx_store {bs : Nat} {W : World} (j : Nat) (v : Value) : KpX bs W (W.setCell ⟨bs, j, none⟩ v) :=
  ⟨(Below.refl bs W).setCell (p := ⟨bs, j, none⟩) (Nat.le_refl _) v, fun k o hk ho _ => by rw [Below.heap_setCell W ⟨bs, j, none⟩ v k (fun e => hk (by simpa using e))]; exact ho⟩

theorem wrapI_pow {t : Nat} (ht : t ≤ 61) : IntKind.i64.wrap ((2 : Int) ^ t) = ((2 ^ t : Nat) : Int) := by
  have h := pow_lt_62 ht
  have h1 : ((2 : Int) ^ t) = ((2 ^ t : Nat) : Int) := by simp
  rw [h1]
  generalize 2 ^ t = z at *
  exact wraps_i64 _ (by omega) (by omega)

theorem seenI_step {bs n0 : Nat} {w0 W : World} {pre' : List PlaceV} {x : Value} (hB : Below n0 w0 W) (hk : Blk W bs #[x] 3) (hn : n0 ≤ bs) :
    KeepsOthers W (W.setCell ⟨bs, 0, none⟩ (.int .i64 (mask (placesP pre') : Nat))).drew ∧ KpX bs W (W.setCell ⟨bs, 0, none⟩ (.int .i64 (mask (placesP pre') : Nat))).drew ∧ SeenI bs w0 n0 pre' (W.setCell ⟨bs, 0, none⟩ (.int .i64 (mask (placesP pre') : Nat))).drew := by
  refine ⟨(KeepsOthers.setCell _ _ _).trans (KeepsOthers.drew _), ?_, ?_, (hB.setCell (p := ⟨bs, 0, none⟩) hn _).drew⟩
  · obtain ⟨h1, h2⟩ := kpx_store (bs := bs) (W := W) 0 (.int .i64 (mask (placesP pre') : Nat))
    exact ⟨h1.drew, h2⟩
  · exact hk.set 0 (.int .i64 (mask (placesP pre') : Nat))

set_option maxRecDepth 100000 in
set_option maxHeartbeats 4000000 in
theorem implOrbitOf_any (p y : Int) (ao : Option Addr) (rs : List (List Int)) (n c : Nat) (w : World) (hn : rs.length = n) (hl : n ≤ 1048576) (hls : ∀ r ∈ rs, r.length ≤ 1048576) (hx : RowsAt w ao rs) :
    Calls Try.prog 13 #[.int .i64 p, .slice ao n c, .int .i64 y] w (RetOwn w (orbR p rs y)) := by
  have HN := hid hn
  have HLS := hid hls
  clear hn hls
  by_cases hok : OrbOk p rs y
  rotate_left
  · have hL := hid (orbR_out hok)
    by_cases hmo : MovesOk p rs
    · have hb := movesB_true hmo
      have hy : y < 0 ∨ (0 ≤ y ∧ p ≤ y) := by
        by_cases h0 : y < 0
        · exact .inl h0
        · exact .inr ⟨by omega, by by_cases h1 : p ≤ y; exact h1; exact absurd ⟨hmo, by omega, by omega⟩ hok⟩
      clear hok hmo
      rcases hy with hy | ⟨hy, hy2⟩
      · have hd : decide (y < 0) = true := decide_eq_true hy
        go_enter Try.func13, Try.ntmps13
        go_wp2_with fail
        refine (implMovesValid_any p ao rs n c w HN.out hl HLS.out hx).mono fun e w1 h => ?_
        rw [hb] at h
        obtain ⟨rfl, rfl⟩ := h
        go_wp2_with fail
        go_ret
        rw [hL.out]
        exact RetOwn.mk (xs := []) rfl (Own.nil _ _) (Below.refl _ _)
      · have hd : decide (y < 0) = false := decide_eq_false (by omega)
        have hd2 : decide (p ≤ y) = true := decide_eq_true hy2
        go_enter Try.func13, Try.ntmps13
        go_wp2_with fail
        refine (implMovesValid_any p ao rs n c w HN.out hl HLS.out hx).mono fun e w1 h => ?_
        rw [hb] at h
        obtain ⟨rfl, rfl⟩ := h
        go_wp2_with fail
        go_ret
        rw [hL.out]
        exact RetOwn.mk (xs := []) rfl (Own.nil _ _) (Below.refl _ _)
    · have hb := movesB_false hmo
      go_enter Try.func13, Try.ntmps13
      go_wp2_with fail
      refine (implMovesValid_any p ao rs n c w HN.out hl HLS.out hx).mono fun e w1 h => ?_
      rw [hb] at h
      obtain ⟨rfl, rfl⟩ := h
      go_wp2_with fail
      go_ret
      rw [hL.out]
      exact RetOwn.mk (xs := []) rfl (Own.nil _ _) (Below.refl _ _)
  have hL := hid (orbR_in hok)
  have hb := movesB_true hok.1
  have HOK := hid hok
  have hp1 := hok.1.1
  have hp5 := hok.1.2.1
  obtain ⟨q, hq⟩ : ∃ q : Nat, p = q := Int.eq_ofNat_of_zero_le (by omega)
  obtain ⟨x, hxx⟩ : ∃ x : Nat, y = x := Int.eq_ofNat_of_zero_le hok.2.1
  have hd : decide (y < 0) = false := decide_eq_false (by have := hok.2; omega)
  have hd2 : decide (p ≤ y) = false := decide_eq_false (by have := hok.2; omega)
  subst hq hxx
  have hd3 : decide (q ≤ x) = false := decide_eq_false (by have := hok.2; omega)
  clear hok
  refine (callsIn_wide (n := 3)).1 (callsIn_of_wp_marks Try.func13 rfl trivial ?_ rfl)
  simp only [Try.ntmps13, List.size_toArray, List.length_cons, List.length_nil, Nat.reduceAdd, Nat.reduceSub, Array.replicate_succ, Array.replicate_zero, List.push_toArray, List.append_toArray, List.nil_append, List.cons_append]
  refine wpIn_wide.2 ?_
  go_wp2_with fail
  refine (implMovesValid_any (q : Int) ao rs n c w HN.out hl HLS.out hx).mono fun e w1 h => ?_
  rw [hb] at h
  obtain ⟨rfl, rfl⟩ := h
  go_wp2_with fail
  refine (orbitSeq_any _ _ _ _ _ _).mono fun e w2 h => ?_
  obtain ⟨rfl, hw2⟩ := h
  have bB0 := (Below.refl w.heap.size w).alloc (Nat.le_refl _) (.cells #[.int .i64 0] 3)
  have k0 := Blk.new w #[.int .i64 0] 3
  have k1 := k0.alloc (.cells #[.int .i64 (q : Int)] 3)
  have k2 := k1.alloc (.cells #[.slice ao n c] 22)
  have k3 := k2.alloc (.cells #[.int .i64 (x : Int)] 3)
  have p0 := Blk.new (w.alloc (.cells #[.int .i64 0] 3)) #[.int .i64 (q : Int)] 3
  have p1 := p0.alloc (.cells #[.slice ao n c] 22)
  have p2 := p1.alloc (.cells #[.int .i64 (x : Int)] 3)
  have m0 := Blk.new ((w.alloc (.cells #[.int .i64 0] 3)).alloc (.cells #[.int .i64 (q : Int)] 3)) #[.slice ao n c] 22
  have m1 := m0.alloc (.cells #[.int .i64 (x : Int)] 3)
  have y0 := Blk.new (((w.alloc (.cells #[.int .i64 0] 3)).alloc (.cells #[.int .i64 (q : Int)] 3)).alloc (.cells #[.slice ao n c] 22)) #[.int .i64 (x : Int)] 3
  have bB := ((bB0.alloc bB0.size (.cells #[.int .i64 (q : Int)] 3)).alloc (by simp; omega) (.cells #[.slice ao n c] 22)).alloc (by simp; omega) (.cells #[.int .i64 (x : Int)] 3)
  have hsz : ((((w.alloc (.cells #[.int .i64 0] 3)).alloc (.cells #[.int .i64 (q : Int)] 3)).alloc (.cells #[.slice ao n c] 22)).alloc (.cells #[.int .i64 (x : Int)] 3)).heap.size = w.heap.size + 1 + 1 + 1 + 1 := by simp
  simp only [World.size_alloc] at p2 m1 y0
  clear k0 k1 k2 p0 p1 m0 bB0
  rw [← hw2] at k3 p2 m1 y0 bB hsz
  have HSZ := hid hsz
  have HW2 := hid hw2
  clear hsz hw2
  go_wp2_with fail
  clear HW2
  have hcap : Cap w2.heap.size w.heap.size (w.heap.size + 1 + 1 + 1) (w.heap.size + 1) (w.heap.size + 1 + 1) x (q : Int) ao n c rs w2 :=
    ⟨y0, p2, m1, ⟨by omega, by omega, by omega⟩, ⟨by rw [HSZ.out]; omega, by rw [HSZ.out]; omega, by rw [HSZ.out]; omega⟩, Nat.le_refl _, w, hx, Nat.le_refl _, bB⟩
  have hfeed := orbitSeq_feeds (q : Int) ao rs n c x w2.heap.size w.heap.size _ _ _ w2 HN.out hl HOK.out hcap rfl
  have hlt2 : w.heap.size < w2.heap.size := by rw [HSZ.out]; omega
  clear hcap y0 p2 m1
  refine wp_range_feeds (gf := 37) (lb := #[.pointer (some ⟨w.heap.size + 1 + 1 + 1, 0, none⟩), .pointer (some ⟨w.heap.size + 1, 0, none⟩), .pointer (some ⟨w.heap.size + 1 + 1, 0, none⟩)]) rfl (enters_of Try.func37 (by kernel_rfl) rfl) hfeed (fun _ => rfl) hlt2
    (SeenI w.heap.size w w.heap.size) (SeenI.stays hlt2 (Nat.le_of_lt hlt2) (Nat.le_refl _)) ⟨k3, bB⟩
    ?a1 ?assign ?body ?done
  case assign =>
    intro l v W K hK
    gi_wp2
    exact hK
  case body =>
    rintro l pre v W ⟨hk, hB⟩
    have hm5 : mask (placesP pre) < 2 ^ 5 := mask_lt (n := 5) _ (placesP_in pre)
    have hm62 : mask (placesP pre) < 2 ^ 62 := Nat.lt_of_lt_of_le hm5 (by decide)
    have hv5 := v.2
    have hor := bit_or (m := mask (placesP pre)) (t := v.1.1) hm62 (by omega)
    have hsn : mask (placesP (pre ++ [v])) = mask (placesP pre) ||| 2 ^ v.1.1 := by rw [placesP_snoc, mask_snoc]; rfl
    have hor2 : bits .or .i64 ((mask (placesP pre) : Nat) : Int) (IntKind.i64.wrap (2 ^ v.1.1)) = ((mask (placesP (pre ++ [v])) : Nat) : Int) := by
      rw [wrapI_pow (by omega), ← wrap_pow (by omega), hor, hsn]
    have hmx : Try.prog.follows .mixedOrders = true := by kernel_rfl
    have e0 : W.cell? ⟨w.heap.size, 0, none⟩ = some (.int .i64 (mask (placesP pre) : Nat)) := hk.at 0 rfl
    have f0 := hk.free 0
    have HK := hid hk
    clear hsn hk hor
    gi_wp2
    gi_region_with_o (fail)
    all_goals (try rw [hor2])
    all_goals gi_wp2
    all_goals exact seenI_step hB HK.out (Nat.le_refl _)
  case done =>
    rintro xs W hS ⟨hk, hB⟩ hD
    rw [hS] at hk
    have HD := hid hD
    have hdis := hid (orbL_ok HOK.out)
    generalize orbL rs x = out at *
    have hq : ((q : Int)).toNat = q := by simp
    rw [hq] at hdis hL
    have hm5 : mask out < 2 ^ 5 := Nat.lt_of_lt_of_le (mask_lt out hdis.out.1) (Nat.pow_le_pow_right (by decide) (by omega))
    have hm62 : mask out < 2 ^ 62 := Nat.lt_of_lt_of_le hm5 (by decide)
    have hkl := hk.lt
    have hDlt := (Array.getElem?_eq_some_iff.1 hD).1
    have hWw : w.heap.size ≤ W.heap.size := hB.size
    have HK := hid hk
    clear hq hfeed HSZ k3 bB hS hD hk hb
    go_wp2_with fail
    go_loopw [9, 10, 35] (fun v _ i wr => ∃ k : Nat, k ≤ q ∧ i = .int .i64 k ∧ Own wr W.heap.size v (selL out k) ∧ Below W.heap.size W wr) (fun _ _ i _ => q - (intOf i).toNat)
    case atStart => exact ⟨0, Nat.zero_le _, rfl, Own.nil _ _, Below.refl _ _⟩
    case round =>
      obtain ⟨k, hk, rfl, ho, hb⟩ := hrel
      by_cases hlt : k < q
      · have hkl := HK.out.below hb (Nat.le_refl _)
        have e0 : wr.cell? ⟨w.heap.size, 0, none⟩ = some (.int .i64 (mask out : Nat)) := hkl.at 0 rfl
        have htest : Hid ((mask out).testBit k = decide ((k : Int) ∈ out)) := mask_test out hdis.out.1 k
        have hbt := bit_test (m := mask out) (t := k) hm62
        rw [htest.out] at hbt
        have hmi : ((mask out : Nat) : Int) < 32 := by omega
        have hsl := length_selL out k
        clear htest hkl
        by_cases hmem : (k : Int) ∈ out
        · rw [decide_eq_true hmem] at hbt
          have hsel : Hid (selL out (k + 1) = selL out k ++ [(k : Int)]) := by unfold Hid; rw [selL, if_pos hmem]
          have ol := Own.lit1 wr (k : Int) (Nat.le_refl _)
          have hsz : W.heap.size ≤ (wr.alloc (.cells #[.int .i64 k] 3)).heap.size := by have := hb.size; simp; omega
          have ho1 := ho.alloc (.cells #[.int .i64 k] 3)
          clear hmem ho
          go_wp2_with (at_builtin; refine wpList_appendL rfl _ _ rfl rfl ho1 rfl ol hsz (by simp; omega) ?_)
          intro v2 w3 ho2 hg2 _
          rw [← hsel.out] at ho2
          have hb2 := (hb.alloc hb.size (.cells #[.int .i64 k] 3)).grown hg2 hsz (fun r e => (World.ownsRow.lt ho1 r e).1)
          clear ho1 hg2 hb ol
          go_wp2
          go_roundw
          case rel => exact ⟨k + 1, by omega, by go_num, ho2, hb2⟩
          case measure => simp [intOf]; omega
        · rw [decide_eq_false hmem] at hbt
          have hsel : Hid (selL out (k + 1) = selL out k) := by unfold Hid; rw [selL, if_neg hmem]
          rw [← hsel.out] at ho
          clear hmem
          go_wp2
          go_roundw
          case rel => exact ⟨k + 1, by omega, by go_num, ho, hb⟩
          case measure => simp [intOf]; omega
      · obtain rfl : k = q := by omega
        have hd9 : decide (k < k) = false := decide_eq_false (by omega)
        have hD2 : wr.heap[w2.heap.size]? = some (.deferred (some [])) := (hb.block _ hDlt).trans HD.out
        have HD2 := hid hD2
        obtain ⟨ao2, c2, rfl, _, _⟩ := ho.shape
        clear hD2
        go_wp2
        refine ⟨by simp, .inl ⟨_, _, rfl, run_takeDeferred HD2.out, ?_⟩⟩
        refine ⟨_, results_tmp rfl _ _ _, ?_⟩
        have hg := grownBy_putObj' wr w2.heap.size (.deferred none)
        have hsz : w.heap.size ≤ wr.heap.size := Nat.le_trans hWw hb.size
        have ho2 := (ho.kept hg (ho.ne_of_lt hDlt)).lower (B' := w.heap.size) hWw
        have hb2 := (hB.trans (hb.mono hWw)).grown hg hsz (fun r e => by have : w2.heap.size = r := Option.some.inj e; omega)
        have hfin := RetOwn.mk (w := w) rfl ho2 hb2
        rw [← hL.out] at hfin
        first | exact hfin | (rw [hL.out] at hfin ⊢; exact hfin)

end Go.Proofs.Ytojkiajempdmfaa
