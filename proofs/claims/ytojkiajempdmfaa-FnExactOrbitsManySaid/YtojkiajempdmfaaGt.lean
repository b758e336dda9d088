/- The walks of OrbitsMany. -/
import Derived.Test.YtojkiajempdmfaaGr
import Derived.Test.YtojkiajempdmfaaGq
import Derived.Test.YtojkiajempdmfaaGz
namespace Go.Proofs.Ytojkiajempdmfaa
open Go Go.RowKit

attribute [local go_sem] Oper.semAt_some

set_option maxRecDepth 100000 in
set_option maxHeartbeats 1000000 in
theorem specOrbitsMany_any (p : Int) (ao : Option Addr) (rs : List (List Int)) (n c : Nat) (w : World) (hn : rs.length = n) (hl : n ≤ 1048576) (hls : ∀ r ∈ rs, r.length ≤ 1048576) (hx : RowsAt w ao rs) :
    Calls Try.prog 8 #[.int .i64 p, .slice ao n c] w fun e w' => e = .returned (.int .i64 (orbsI p rs)) ∧ Below w.heap.size w w' := by
  have HN := hid hn
  have HLS := hid hls
  clear hn hls
  by_cases hmo : MovesOk p rs
  rotate_left
  · have hL := hid (orbsI_out hmo)
    have hb := movesB_false hmo
    go_enter Try.func8, Try.ntmps8
    go_wp2_with fail
    refine (specMovesValid_any p ao rs n c w HN.out hl HLS.out hx).mono fun e w1 h => ?_
    rw [hb] at h
    obtain ⟨rfl, b⟩ := h
    go_wp2_with fail
    go_ret
    exact ⟨by rw [hL.out]; rfl, b⟩
  have hL := hid (orbsI_in hmo)
  have hb := movesB_true hmo
  have hp5 := hmo.2.1
  have hp1 := hmo.1
  obtain ⟨q, hq⟩ : ∃ q : Nat, p = q := Int.eq_ofNat_of_zero_le (by omega)
  have HO := hid (orbs_of hmo hq)
  have hqt : p.toNat = q := by omega
  rw [hqt] at hL
  have HMO := hid hmo
  have hq5 : q ≤ 5 := by omega
  clear hmo hqt
  subst hq
  go_enter Try.func8, Try.ntmps8
  go_wp2_with fail
  refine (specMovesValid_any (q : Int) ao rs n c w HN.out hl HLS.out hx).mono fun e w1 h => ?_
  rw [hb] at h
  obtain ⟨rfl, B⟩ := h
  clear hb
  go_wp2
  go_loopw [5, 6] (fun s5 s6 wr => ∃ k m : Nat, k ≤ q ∧ s6 = .int .i64 k ∧ s5 = .int .i64 m ∧ m ≤ k ∧ Hid (cntM rs k = m) ∧ Below w.heap.size w wr) (fun _ s6 _ => q - (intOf s6).toNat)
  case atStart => exact ⟨0, 0, Nat.zero_le _, rfl, rfl, Nat.le_refl _, rfl, B⟩
  case round =>
    clear B
    obtain ⟨k, m, hk, rfl, rfl, hm, hcnt, hB⟩ := hrel
    by_cases hlt : k < q
    · have hfst := HO.out.first hlt
      have horb : orbR (q : Int) rs k = selL (orbL rs k) q := by rw [orbR_in ⟨HMO.out, by omega, by omega⟩]; simp
      rw [← horb] at hfst
      have hfl := hfst.1
      have hft := hfst.2
      obtain ⟨L, hLL⟩ : ∃ L, (orbR (q : Int) rs k).length = L := ⟨_, rfl⟩
      rw [hLL] at hfl
      have HLL := hid hLL
      clear hfst hLL horb
      obtain ⟨x, hx0⟩ : ∃ x, nth (orbR (q : Int) rs k) 0 = x := ⟨_, rfl⟩
      rw [hx0] at hft
      have HX := hid hx0
      clear hx0
      cases hmb : minB rs k with
      | true =>
        rw [hmb] at hft
        have hn2 : Hid (cntM rs (k + 1) = m + 1) := by unfold Hid; rw [cntM, hcnt.out, if_pos hmb]
        clear hmb
        go_wp2_with fail
        refine (specOrbitOf_any (q : Int) (k : Int) ao rs n c wr HN.out hl HLS.out (hx.below hB (Nat.le_refl _))).mono fun e w2 h => ?_
        obtain ⟨a2, c2, rfl, o2, b⟩ := h.to HLL.out
        have hB2 := hB.trans (b.mono hB.size)
        obtain ⟨g, rfl⟩ := o2.addr (by rw [HLL.out]; exact hfl)
        have hc0 := o2.cell (j := 0) (by rw [HLL.out]; exact hfl)
        rw [HX.out] at hc0
        clear h b o2
        go_wp2
        go_roundw
        case rel => exact ⟨k + 1, m + 1, by omega, by go_num, by go_num, by omega, hn2, hB2⟩
        case measure => simp [intOf]; omega
      | false =>
        rw [hmb] at hft
        have hn2 : Hid (cntM rs (k + 1) = m) := by unfold Hid; rw [cntM, hcnt.out, hmb]; rfl
        clear hmb
        go_wp2_with fail
        refine (specOrbitOf_any (q : Int) (k : Int) ao rs n c wr HN.out hl HLS.out (hx.below hB (Nat.le_refl _))).mono fun e w2 h => ?_
        obtain ⟨a2, c2, rfl, o2, b⟩ := h.to HLL.out
        have hB2 := hB.trans (b.mono hB.size)
        obtain ⟨g, rfl⟩ := o2.addr (by rw [HLL.out]; exact hfl)
        have hc0 := o2.cell (j := 0) (by rw [HLL.out]; exact hfl)
        rw [HX.out] at hc0
        clear h b o2
        go_wp2
        go_roundw
        case rel => exact ⟨k + 1, m, by omega, by go_num, rfl, by omega, hn2, hB2⟩
        case measure => simp [intOf]; omega
    · obtain rfl : k = q := by omega
      have hd9 : decide (k < k) = false := decide_eq_false (by omega)
      go_wp2
      go_ret
      exact ⟨by rw [hL.out, hcnt.out]; rfl, hB⟩

/-- The mark that a range over a function leaves. -/
def markD (D : Nat) : Deferred := { target := .collected D, args := #[] }
def Marks (B : Nat) (ds : List Nat) (W : World) : Prop := ds.Nodup ∧ ∀ D ∈ ds, B ≤ D ∧ W.heap[D]? = some (.deferred (some []))
theorem Marks.nil (B : Nat) (W : World) : Marks B [] W := ⟨by simp, fun D h => absurd h (by simp)⟩
theorem Marks.grown {B : Nat} {ds : List Nat} {A C : World} {row : Option Nat} (h : Marks B ds A) (hg : A.grownBy C row) (hr : ∀ r, row = some r → r ∉ ds) : Marks B ds C :=
  ⟨h.1, fun D hD => ⟨(h.2 D hD).1, by rw [hg.block D (Array.getElem?_eq_some_iff.1 (h.2 D hD).2).1 (fun e => hr D e.symm hD)]; exact (h.2 D hD).2⟩⟩
theorem Marks.below {B : Nat} {ds : List Nat} {A C : World} (h : Marks B ds A) (hb : Below A.heap.size A C) : Marks B ds C :=
  h.grown (row := none) ⟨hb.os, hb.tape, hb.output, hb.size, fun k hk _ => hb.block k hk⟩ (fun r e => by cases e)
theorem Marks.lt {B : Nat} {ds : List Nat} {A : World} (h : Marks B ds A) : ∀ D ∈ ds, B ≤ D ∧ D < A.heap.size := fun D hD => ⟨(h.2 D hD).1, (Array.getElem?_eq_some_iff.1 (h.2 D hD).2).1⟩

theorem marks_leave {P : Program} {fn : Func} {tmps : Array Value} {R : Ending → World → Prop} {w0 : World} {n0 : Nat} (hR : ∀ W, Below n0 w0 W → LeavesInM Fence.wide 3 P fn tmps R [] .returning W) (hn : n0 ≤ w0.heap.size) :
    ∀ (ds : List Nat) (W : World), Marks n0 ds W → Below n0 w0 W → LeavesInM Fence.wide 3 P fn tmps R (ds.map markD) .returning W
  | [], W, _, hb => hR W hb
  | D :: ds, W, hm, hb => by
    have hD := hm.2 D (by simp)
    refine ⟨by simp, .inl ⟨D, _, rfl, run_takeDeferred hD.2, ?_⟩⟩
    have hnd := List.nodup_cons.1 hm.1
    have hm2 : Marks n0 ds W := ⟨hnd.2, fun E hE => hm.2 E (List.mem_cons_of_mem _ hE)⟩
    exact marks_leave hR hn ds _ (hm2.grown (grownBy_putObj' W D _) (fun r e => by cases e; exact hnd.1)) (hb.grown (grownBy_putObj' W D _) (Nat.le_trans hn hb.size) (fun r e => by cases e; exact hD.1))

/-- The variable that gathers the places, with marks of loops before. -/
def SeenM (bs : Nat) (w0 : World) (n0 : Nat) (xs : List Int) (ds : List Nat) (pre : List PlaceV) (W : World) : Prop := Blk W bs #[.int .i64 (mask (xs ++ placesP pre) : Nat)] 3 ∧ Below n0 w0 W ∧ Marks (bs + 1) ds W
theorem SeenM.stays {bs n0 : Nat} {w0 : World} {B : Nat} {xs : List Int} {ds : List Nat} (hb : bs < B) (h0 : n0 ≤ B) (hn : n0 ≤ w0.heap.size) (hd : ∀ D ∈ ds, D < B) : Stays B (SeenM bs w0 n0 xs ds) := fun s A C row hs hg hr => by
  refine ⟨?_, hs.2.1.grown hg (Nat.le_trans hn hs.2.1.size) (fun k e => by have := hr k e; omega), hs.2.2.grown hg (fun r e hm => by have := hr r e; have := hd r hm; omega)⟩
  unfold Blk
  rw [hg.block bs hs.1.lt (fun e => by have := hr bs e.symm; omega)]
  exact hs.1
theorem seenM_step {bs n0 : Nat} {w0 W : World} {xs : List Int} {ds : List Nat} {pre' : List PlaceV} {x : Value} (hB : Below n0 w0 W) (hk : Blk W bs #[x] 3) (hn : n0 ≤ bs) (hm : Marks (bs + 1) ds W) :
    KeepsOthers W (W.setCell ⟨bs, 0, none⟩ (.int .i64 (mask (xs ++ placesP pre') : Nat))).drew ∧ KpX bs W (W.setCell ⟨bs, 0, none⟩ (.int .i64 (mask (xs ++ placesP pre') : Nat))).drew ∧ SeenM bs w0 n0 xs ds pre' (W.setCell ⟨bs, 0, none⟩ (.int .i64 (mask (xs ++ placesP pre') : Nat))).drew := by
  refine ⟨(KeepsOthers.setCell _ _ _).trans (KeepsOthers.drew _), ?_, ?_, (hB.setCell (p := ⟨bs, 0, none⟩) hn _).drew, ?_⟩
  · obtain ⟨h1, h2⟩ := kpx_store (bs := bs) (W := W) 0 (.int .i64 (mask (xs ++ placesP pre') : Nat))
    exact ⟨h1.drew, h2⟩
  · exact hk.set 0 (.int .i64 (mask (xs ++ placesP pre') : Nat))
  · refine ⟨hm.1, fun D hD => ⟨(hm.2 D hD).1, ?_⟩⟩
    have h1 := (hm.2 D hD)
    show (W.setCell ⟨bs, 0, none⟩ _).heap[D]? = _
    rw [Below.heap_setCell _ _ _ _ (by show D ≠ bs; omega)]
    exact h1.2
theorem seen_bits {xs : List Int} (hx : ∀ x ∈ xs, 0 ≤ x ∧ x < (5 : Nat)) (pre : List PlaceV) : ∀ x ∈ xs ++ placesP pre, 0 ≤ x ∧ x < (5 : Nat) := fun x h => by
  rcases List.mem_append.1 h with h | h
  · exact hx x h
  · exact placesP_in pre x h

/-- What holds at the head of the loop. -/
def ManyI (w : World) (rs : List (List Int)) (q : Nat) (ds : List Nat) (u6 u14 : Value) (W : World) : Prop :=
  ∃ (k m : Nat) (xs : List Int), k ≤ q ∧ u14 = .int .i64 k ∧ u6 = .int .i64 m ∧ m ≤ k ∧ cntM rs k = m ∧ MetTo rs k xs ∧ (∀ x ∈ xs, 0 ≤ x ∧ x < (5 : Nat)) ∧ Blk W w.heap.size #[.int .i64 (mask xs : Nat)] 3 ∧ Below w.heap.size w W ∧ Marks (w.heap.size + 1) ds W

set_option maxRecDepth 100000 in
set_option maxHeartbeats 4000000 in
theorem implOrbitsMany_any (p : Int) (ao : Option Addr) (rs : List (List Int)) (n c : Nat) (w : World) (hn : rs.length = n) (hl : n ≤ 1048576) (hls : ∀ r ∈ rs, r.length ≤ 1048576) (hx : RowsAt w ao rs) :
    Calls Try.prog 10 #[.int .i64 p, .slice ao n c] w fun e w' => e = .returned (.int .i64 (orbsI p rs)) ∧ Below w.heap.size w w' := by
  have HN := hid hn
  have HLS := hid hls
  clear hn hls
  by_cases hmo : MovesOk p rs
  rotate_left
  · have hL := hid (orbsI_out hmo)
    have hb := movesB_false hmo
    go_enter Try.func10, Try.ntmps10
    go_wp2_with fail
    refine (implMovesValid_any p ao rs n c w HN.out hl HLS.out hx).mono fun e w1 h => ?_
    rw [hb] at h
    obtain ⟨rfl, rfl⟩ := h
    go_wp2_with fail
    go_ret
    exact ⟨by rw [hL.out]; rfl, Below.refl _ _⟩
  have hL := hid (orbsI_in hmo)
  have hb := movesB_true hmo
  have hp5 := hmo.2.1
  have hp1 := hmo.1
  obtain ⟨q, hq⟩ : ∃ q : Nat, p = q := Int.eq_ofNat_of_zero_le (by omega)
  have HO := hid (orbs_of hmo hq)
  have hqt : p.toNat = q := by omega
  rw [hqt] at hL
  have HMO := hid hmo
  have hq5 : q ≤ 5 := by omega
  clear hmo hqt
  subst hq
  refine (callsIn_wide (n := 3)).1 (callsIn_of_wp_marks Try.func10 rfl trivial ?_ rfl)
  simp only [Try.ntmps10, List.size_toArray, List.length_cons, List.length_nil, Nat.reduceAdd, Nat.reduceSub, Array.replicate_succ, Array.replicate_zero, List.push_toArray, List.append_toArray, List.nil_append, List.cons_append]
  refine wpIn_wide.2 ?_
  go_wp2_with fail
  refine (implMovesValid_any (q : Int) ao rs n c w HN.out hl HLS.out hx).mono fun e w1 h => ?_
  rw [hb] at h
  obtain ⟨rfl, rfl⟩ := h
  clear hb
  have B0 := (Below.refl w.heap.size w).alloc (Nat.le_refl _) (.cells #[.int .i64 0] 3)
  have k0 := Blk.new w #[.int .i64 0] 3
  have hst : ManyI w rs q [] (.int .i64 0) (.int .i64 0) (w.alloc (.cells #[.int .i64 0] 3)) :=
    ⟨0, 0, [], Nat.zero_le _, rfl, rfl, Nat.le_refl _, rfl, metTo_zero rs, fun x hx => absurd hx (by simp), k0, B0, Marks.nil _ _⟩
  clear B0 k0
  go_wp2_with fail
  refine wp_loop (fun a' w' => ∃ (ds : List Nat) (u6 u7 u8 u14 u15 u16 u17 u18 u19 u20 u21 u22 u23 u24 u25 u26 u27 u28 u29 u30 u31 u32 u33 u34 : Value), ManyI w rs q ds u6 u14 w' ∧ a' = { tmps := #[.int .i64 q, .slice ao n c, undef, undef, .int .i64 0, .pointer (some ⟨w.heap.size, 0, none⟩), u6, u7, u8, .int .i64 q, .slice ao n c, .bool true, .bool false, .int .i64 q, u14, u15, u16, u17, u18, u19, u20, u21, u22, u23, u24, u25, u26, u27, u28, u29, u30, u31, u32, u33, u34, undef], defers := ds.map markD }) (fun a' _ => q - (intOf (a'.tmps.getD 14 undef)).toNat) ?start ?round
  case start => exact ⟨[], _, _, _, _, _, _, _, _, _, _, _, _, _, _, _, _, _, _, _, _, _, _, _, _, hst, rfl⟩
  case round =>
    clear hst
    rintro a' wr ⟨ds, u6, u7, u8, u14, u15, u16, u17, u18, u19, u20, u21, u22, u23, u24, u25, u26, u27, u28, u29, u30, u31, u32, u33, u34, hrel, rfl⟩
    obtain ⟨k, m, xs, hk, rfl, rfl, hm, hcnt, hmet, hxs, hbk, hB, hmk⟩ := hrel
    have HCNT := hid hcnt
    have HMET := hid hmet
    have HXS := hid hxs
    have e0 : wr.cell? ⟨w.heap.size, 0, none⟩ = some (.int .i64 (mask xs : Nat)) := hbk.at 0 rfl
    have hm5 : mask xs < 2 ^ 5 := mask_lt (n := 5) xs hxs
    have hm62 : mask xs < 2 ^ 62 := Nat.lt_of_lt_of_le hm5 (by decide)
    have htest : Hid ((mask xs).testBit k = decide ((k : Int) ∈ xs)) := mask_test xs hxs k
    have hbt := bit_test (m := mask xs) (t := k) hm62
    rw [htest.out] at hbt
    have hmi : ((mask xs : Nat) : Int) < 32 := by omega
    clear hcnt hmet hxs htest
    by_cases hlt : k < q
    · by_cases hmem : (k : Int) ∈ xs
      · rw [decide_eq_true hmem] at hbt
        have hmin := (HO.out.met hlt).1 ((HMET.out k).1 hmem)
        have hn2 : cntM rs (k + 1) = m := by rw [cntM, HCNT.out, hmin]; rfl
        have HN2 := hid hn2
        have HM2 := hid (HO.out.metSkip hlt HMET.out hmem)
        clear hmem hmin hn2
        go_wp2
        refine ⟨⟨ds, ?_⟩, ?_⟩
        · (repeat apply Exists.intro)
          refine ⟨⟨k + 1, m, xs, by omega, by go_num, rfl, by omega, HN2.out, HM2.out, HXS.out, hbk, hB, hmk⟩, rfl⟩
        · simp [intOf]; omega
      · rw [decide_eq_false hmem] at hbt
        have hmin : minB rs k = true := by
          cases hmb : minB rs k with
          | true => rfl
          | false => exact absurd ((HMET.out k).2 ((HO.out.met hlt).2 hmb)) hmem
        have HN2 : Hid (cntM rs (k + 1) = m + 1) := by unfold Hid; rw [cntM, HCNT.out, if_pos hmin]
        have HOK : Hid (OrbOk (q : Int) rs k) := ⟨HMO.out, by omega, by omega⟩
        have hws := hB.size
        have hbl := hbk.lt
        clear hmem hmin
        go_wp2_with fail
        refine (orbitSeq_any _ _ _ _ _ _).mono fun e w2 h => ?_
        obtain ⟨rfl, hw2⟩ := h
        have k1 := hbk.alloc (.cells #[.int .i64 (q : Int)] 3)
        have k2 := k1.alloc (.cells #[.slice ao n c] 22)
        have k3 := k2.alloc (.cells #[.int .i64 (k : Int)] 3)
        have p0 := Blk.new wr #[.int .i64 (q : Int)] 3
        have p1 := p0.alloc (.cells #[.slice ao n c] 22)
        have p2 := p1.alloc (.cells #[.int .i64 (k : Int)] 3)
        have m0 := Blk.new (wr.alloc (.cells #[.int .i64 (q : Int)] 3)) #[.slice ao n c] 22
        have m1 := m0.alloc (.cells #[.int .i64 (k : Int)] 3)
        have y0 := Blk.new ((wr.alloc (.cells #[.int .i64 (q : Int)] 3)).alloc (.cells #[.slice ao n c] 22)) #[.int .i64 (k : Int)] 3
        have bW := (((Below.refl wr.heap.size wr).alloc (Nat.le_refl _) (.cells #[.int .i64 (q : Int)] 3)).alloc (by simp) (.cells #[.slice ao n c] 22)).alloc (by simp; omega) (.cells #[.int .i64 (k : Int)] 3)
        have hsz : (((wr.alloc (.cells #[.int .i64 (q : Int)] 3)).alloc (.cells #[.slice ao n c] 22)).alloc (.cells #[.int .i64 (k : Int)] 3)).heap.size = wr.heap.size + 1 + 1 + 1 := by simp
        simp only [World.size_alloc] at p2 m1 y0
        clear k1 k2 p0 p1 m0
        rw [← hw2] at k3 p2 m1 y0 bW hsz
        have HSZ := hid hsz
        have bB := hB.trans (bW.mono hws)
        have hmk2 := hmk.below bW
        have bBs := bB
        clear hsz hw2 e0 hbt
        go_wp2_with fail
        have hcap : Cap w2.heap.size w.heap.size (wr.heap.size + 1 + 1) wr.heap.size (wr.heap.size + 1) k (q : Int) ao n c rs w2 :=
          ⟨y0, p2, m1, ⟨by omega, by omega, by omega⟩, ⟨by rw [HSZ.out]; omega, by rw [HSZ.out]; omega, by rw [HSZ.out]; omega⟩, Nat.le_refl _, w, hx, Nat.le_refl _, bB⟩
        have hfeed := orbitSeq_feeds (q : Int) ao rs n c k w2.heap.size w.heap.size _ _ _ w2 HN.out hl HOK.out hcap rfl
        have hlt2 : w.heap.size < w2.heap.size := by rw [HSZ.out]; omega
        have hmlt := hmk2.lt
        clear hcap y0 p2 m1
        refine wp_range_feeds (gf := 37) (lb := #[.pointer (some ⟨wr.heap.size + 1 + 1, 0, none⟩), .pointer (some ⟨wr.heap.size, 0, none⟩), .pointer (some ⟨wr.heap.size + 1, 0, none⟩)]) rfl (enters_of Try.func37 (by kernel_rfl) rfl) hfeed (fun _ => rfl) hlt2
          (SeenM w.heap.size w w.heap.size xs ds) (SeenM.stays hlt2 (Nat.le_of_lt hlt2) (Nat.le_refl _) (fun D hD => (hmlt D hD).2)) ⟨by rw [show xs ++ placesP [] = xs by simp [placesP]]; exact k3, bB, hmk2⟩
          ?a1 ?assign ?body ?done
        case assign =>
          intro l v W K hK
          gi_wp2
          exact hK
        case body =>
          rintro l pre v W ⟨hk', hB', hmk'⟩
          have hxx := seen_bits HXS.out pre
          have hm5 : mask (xs ++ placesP pre) < 2 ^ 5 := mask_lt (n := 5) _ hxx
          have hm62 : mask (xs ++ placesP pre) < 2 ^ 62 := Nat.lt_of_lt_of_le hm5 (by decide)
          have hv5 := v.2
          have hor := bit_or (m := mask (xs ++ placesP pre)) (t := v.1.1) hm62 (by omega)
          have hsn : mask (xs ++ placesP (pre ++ [v])) = mask (xs ++ placesP pre) ||| 2 ^ v.1.1 := by rw [placesP_snoc, ← List.append_assoc, mask_snoc]; rfl
          have hor2 : bits .or .i64 ((mask (xs ++ placesP pre) : Nat) : Int) (IntKind.i64.wrap (2 ^ v.1.1)) = ((mask (xs ++ placesP (pre ++ [v])) : Nat) : Int) := by
            rw [wrapI_pow (by omega), ← wrap_pow (by omega), hor, hsn]
          have hmx : Try.prog.follows .mixedOrders = true := by kernel_rfl
          have e0 : W.cell? ⟨w.heap.size, 0, none⟩ = some (.int .i64 (mask (xs ++ placesP pre) : Nat)) := hk'.at 0 rfl
          have f0 := hk'.free 0
          have HK := hid hk'
          clear hsn hk' hor hxx
          gi_wp2
          gi_region_with_o (fail)
          all_goals (try rw [hor2])
          all_goals gi_wp2
          all_goals exact seenM_step hB' HK.out (Nat.le_refl _) hmk'
        case done =>
          rintro zs W hS ⟨hk', hB', hmk'⟩ hD
          rw [hS] at hk'
          have HM2 : Hid (MetTo rs (k + 1) (xs ++ orbL rs k)) := metTo_add HMET.out (fun t => List.mem_append)
          have HX2 : Hid (∀ x ∈ xs ++ orbL rs k, 0 ≤ x ∧ x < (5 : Nat)) := by rw [← hS]; exact seen_bits HXS.out zs
          have hmk3 : Marks (w.heap.size + 1) (w2.heap.size :: ds) W := by
            refine ⟨List.nodup_cons.2 ⟨fun hin => ?_, hmk'.1⟩, fun D hDD => ?_⟩
            · have := (hmlt _ hin).2; omega
            · rcases List.mem_cons.1 hDD with rfl | hDD
              · exact ⟨hlt2, hD⟩
              · exact hmk'.2 D hDD
          clear hD hmk' hfeed
          go_wp2
          refine ⟨⟨w2.heap.size :: ds, ?_⟩, ?_⟩
          · (repeat apply Exists.intro)
            refine ⟨⟨k + 1, m + 1, xs ++ orbL rs k, by omega, by go_num, by go_num, by omega, HN2.out, HM2.out, HX2.out, hk', hB', hmk3⟩, rfl⟩
          · simp [intOf]; omega
    · obtain rfl : k = q := by omega
      have hd9 : decide (k < k) = false := decide_eq_false (by omega)
      have HMK : Hid (Marks w.heap.size ds wr) := ⟨hmk.1, fun D hD => ⟨by have := (hmk.2 D hD).1; omega, (hmk.2 D hD).2⟩⟩
      clear e0 hbt
      go_wp2
      exact marks_leave (w0 := w) (n0 := w.heap.size) (fun W hb => ⟨_, results_tmp rfl _ _ _, by rw [hL.out, HCNT.out]; rfl, hb⟩) (Nat.le_refl _) ds _ HMK.out hB

end Go.Proofs.Ytojkiajempdmfaa
