/- The walks of GroupAll and FixedSum, the reference's. -/
import Derived.Test.YtojkiajempdmfaaGi
import Derived.Test.YtojkiajempdmfaaMv
import Derived.StillTailTactics
namespace Go.Proofs.Ytojkiajempdmfaa
open Go Go.RowKit

set_option maxRecDepth 100000 in
theorem l4Same_any (ao bo : Option Addr) (xs ys : List Int) (n c d : Nat) (w : World) (hn : xs.length = n) (hm : ys.length = n) (hl : n ≤ 9223372036854775807) (hx : IntsAt w ao xs) (hy : IntsAt w bo ys) :
    Calls Try.prog 41 #[.slice ao n c, .slice bo n d] w fun e w' => e = .returned (.bool (eqL xs ys)) ∧ Qt w w' := by
  have HN := hid hn
  have HM := hid hm
  clear hn hm
  have hbn : ((n : Int) == (n : Int)) = true := by simp
  go_enter Try.func41, Try.ntmps41
  go_wp2
  go_loopw [5] (fun i wr => ∃ k q : Nat, k ≤ n ∧ i = .int .i64 k ∧ wr = w.drewN q ∧ Hid (∀ j, j < k → nth xs j = nth ys j)) (fun i _ => n - (intOf i).toNat)
  case atStart => exact ⟨0, 0, Nat.zero_le _, rfl, rfl, fun j h => absurd h (by omega)⟩
  case round =>
    obtain ⟨k, q, hk, rfl, rfl, hh⟩ := hrel
    by_cases hlt : k < n
    · obtain ⟨b, off, rfl, hc⟩ := hx (by rw [HN.out]; omega)
      obtain ⟨b', off', rfl, hd⟩ := hy (by rw [HM.out]; omega)
      have hck := hc k (by rw [HN.out]; omega)
      have hdk := hd k (by rw [HM.out]; omega)
      clear hc hd hx hy
      by_cases he : nth xs k = nth ys k
      · have hb : (nth xs k != nth ys k) = false := by simp [he]
        have hnext : Hid (∀ j, j < k + 1 → nth xs j = nth ys j) := fun j hj => by
          by_cases e : j = k
          · subst e; exact he
          · exact hh.out j (by omega)
        clear he
        go_wp2
        go_quiet (fail)
        go_wp2
        go_roundw
        case rel => exact ⟨k + 1, _, by omega, by go_num, rfl, hnext⟩
        case measure => simp [intOf]; omega
      · have hb : (nth xs k != nth ys k) = true := by simp [he]
        have hfin : Hid (eqL xs ys = false) := eqL_false_at he
        clear he
        go_wp2
        go_quiet (fail)
        go_wp2
        go_ret
        exact ⟨by rw [hfin.out]; rfl, (((Qt.refl w).drewN _).drewN _)⟩
    · have hfin : Hid (eqL xs ys = true) := eqL_true_all (by rw [HN.out, HM.out]) fun j hj => hh.out j (by rw [HN.out] at hj; omega)
      go_wp2
      go_ret
      exact ⟨by rw [hfin.out]; rfl, _, rfl⟩

set_option maxRecDepth 100000 in
theorem l4Has_any (ao bo : Option Addr) (rs : List (List Int)) (p : List Int) (n c q d : Nat) (w : World) (hn : rs.length = n) (hl : n ≤ 1000000) (hm : p.length = q) (hq : q ≤ 1000000) (hr : ∀ x ∈ rs, x.length = q) (hx : RowsAt w ao rs) (hy : IntsAt w bo p) :
    Calls Try.prog 34 #[.slice ao n c, .slice bo q d] w fun e w' => e = .returned (.bool (hasG rs p)) ∧ Qt w w' := by
  have HN := hid hn
  have HM := hid hm
  have HR := hid hr
  clear hn hm hr
  go_enter Try.func34, Try.ntmps34
  go_wp2
  go_loopw [5] (fun i wr => ∃ k : Nat, k ≤ n ∧ i = .int .i64 k ∧ Qt w wr ∧ Hid (p ∉ rs.take k)) (fun i _ => n - (intOf i).toNat)
  case atStart => exact ⟨0, Nat.zero_le _, rfl, Qt.refl w, by simp [Hid]⟩
  case round =>
    obtain ⟨k, hk, rfl, hqt, hh⟩ := hrel
    by_cases hlt : k < n
    · have hkl : k < rs.length := by rw [HN.out]; exact hlt
      obtain ⟨b, off, rfl, hr⟩ := (hx.qt hqt) (by omega)
      obtain ⟨a, cc, hck, hl2, hcm, hin⟩ := hr k hkl
      have hrow : (nthR rs k).length = q := HR.out _ (nthR_mem hkl)
      have HROW := hid hrow
      rw [hrow] at hck hl2
      clear hr hrow
      have hyq := hy.qt hqt
      cases hcs : eqL (nthR rs k) p with
      | true =>
        have HC := hid hcs
        have hfin := hid (hasG_true (rs := rs) (p := p) (by rw [← eqL_iff.1 hcs]; exact nthR_mem hkl))
        clear hcs
        go_wp2_with (go_at_call 41; refine (l4Same_any a bo (nthR rs k) p q cc d wr HROW.out HM.out (by omega) hin hyq).mono ?_; rintro e w2 ⟨rfl, hq2⟩; rw [HC.out])
        go_ret
        exact ⟨by rw [hfin.out]; rfl, hqt.trans hq2⟩
      | false =>
        have HC := hid hcs
        have hnext : Hid (p ∉ rs.take (k + 1)) := fun h => by
          rcases (mem_take_succ hkl p).1 h with h | h
          · exact hh.out h
          · rw [h, eqL_self] at hcs; cases hcs
        clear hcs
        go_wp2_with (go_at_call 41; refine (l4Same_any a bo (nthR rs k) p q cc d wr HROW.out HM.out (by omega) hin hyq).mono ?_; rintro e w2 ⟨rfl, hq2⟩; rw [HC.out])
        go_roundw
        case rel => exact ⟨k + 1, by omega, by go_num, hqt.trans hq2, hnext⟩
        case measure => simp [intOf]; omega
    · have hfin : Hid (hasG rs p = false) := hasG_false (by have := hh.out; rwa [List.take_of_length_le (by rw [HN.out]; omega)] at this)
      have hd : decide ((k : Int) < n) = false := decide_eq_false (by omega)
      go_wp2
      go_ret
      exact ⟨by rw [hfin.out]; rfl, hqt⟩

/-- The permutations under way. -/
def OneG (w wr : World) (q N : Nat) (a1 : Option Addr) (c1 : Nat) (out : List (List Int)) : Prop :=
  ∃ S1, GRow wr w.heap.size S1 (.slice a1 N c1) out ∧ N ≤ c1 ∧ c1 ≤ 9223372036854775807 ∧ out.length = N ∧ GOk q out ∧ Below w.heap.size w wr
theorem OneG.below {w wr w' : World} {q N c1 : Nat} {a1 : Option Addr} {out : List (List Int)} (h : OneG w wr q N a1 c1 out) (hb : Below wr.heap.size wr w') : OneG w w' q N a1 c1 out := by
  obtain ⟨S1, h1, h2, h3, h4, h5, h8⟩ := h
  exact ⟨S1, h1.below hb (Nat.le_refl _), h2, h3, h4, h5, h8.trans (hb.mono h8.size)⟩
theorem OneG.le {w wr : World} {q N c1 : Nat} {a1 : Option Addr} {out : List (List Int)} (h : OneG w wr q N a1 c1 out) : N ≤ 3125 ∧ out.length = N ∧ GOk q out ∧ Below w.heap.size w wr ∧ N ≤ c1 := by
  obtain ⟨S1, h1, h2, h3, h6, h7, h8⟩ := h
  exact ⟨by have := gOk_len h7; omega, h6, h7, h8, h2⟩
theorem OneG.row1 {w wr : World} {q N c1 k : Nat} {a1 : Option Addr} {out : List (List Int)} (h : OneG w wr q N a1 c1 out) (hk : k < N) :
    ∃ g a c, a1 = some ⟨g, 0, none⟩ ∧ wr.cell? ⟨g, k, none⟩ = some (.slice a q c) ∧ IntsAt wr a (nthR out k) ∧ q ≤ c := by
  obtain ⟨S1, h1, h2, h3, h6, h7, h8⟩ := h
  obtain ⟨g, u, rfl, hc, ho, _⟩ := h1.row (k := k) (by omega)
  have hp := h7.2 _ (nthR_mem (rs := out) (k := k) (by omega))
  obtain ⟨a, c, rfl, hi, hqc⟩ := ho.shapeN hp.2
  exact ⟨g, a, c, rfl, hc, hi, hqc⟩
theorem OneG.perm {w wr : World} {q N c1 k : Nat} {a1 : Option Addr} {out : List (List Int)} (h : OneG w wr q N a1 c1 out) (hk : k < N) : PermOk (nthR out k) ∧ (nthR out k).length = q := by
  obtain ⟨S1, h1, h2, h3, h6, h7, h8⟩ := h
  exact h7.2 _ (nthR_mem (rs := out) (k := k) (by omega))
theorem OneG.at {w wr : World} {q N c1 : Nat} {a1 : Option Addr} {out : List (List Int)} (h : OneG w wr q N a1 c1 out) : RowsAt wr a1 out := by
  obtain ⟨S1, h1, _⟩ := h; exact h1.at

set_option maxRecDepth 100000 in
set_option maxHeartbeats 4000000 in
theorem specGroupAll_any (p : Int) (ao : Option Addr) (rs : List (List Int)) (n c : Nat) (w : World) (hn : rs.length = n) (hl : n ≤ 1048576) (hls : ∀ r ∈ rs, r.length ≤ 1048576) (hx : RowsAt w ao rs) :
    Calls Try.prog 20 #[.int .i64 p, .slice ao n c] w (RetRows w (allL p rs)) := by
  have HN := hid hn
  have HLS := hid hls
  clear hn hls
  have B0 := (Below.refl w.heap.size w).alloc (Nat.le_refl _) (.cells #[] 28)
  have G0 := GRow.lit0 w (Nat.le_refl _)
  by_cases hmo : MovesOk p rs
  rotate_left
  · have hL := hid (allL_out hmo)
    have hb := movesB_false hmo
    go_enter Try.func20, Try.ntmps20
    go_wp2_with fail
    refine (specMovesValid_any p ao rs n c _ HN.out hl HLS.out (hx.below B0 (Nat.le_refl _))).mono fun e w1 h => ?_
    rw [hb] at h
    obtain ⟨rfl, b⟩ := h
    have G := G0.below b (Nat.le_refl _)
    have B := B0.trans (b.mono B0.size)
    clear G0 B0 b
    go_wp2_with fail
    go_ret
    rw [hL.out]
    exact RetRows.mk G B
  have hL := hid (allL_in hmo)
  have hb := movesB_true hmo
  have HMO := hid hmo
  have hp1 := hmo.1
  have hp5 := hmo.2.1
  have hn3 : n ≤ 3 := by have := hmo.2.2.1; have := HN.out; omega
  obtain ⟨q, hq⟩ : ∃ q : Nat, p = q := Int.eq_ofNat_of_zero_le (by omega)
  have hlq : Hid ((noneL p).length = q) := by have := length_none (p := p) ⟨hp1, hp5⟩; unfold Hid; omega
  have HQ := hid hq
  have hq5 : q ≤ 5 := by omega
  clear hmo hq
  go_enter Try.func20, Try.ntmps20
  go_wp2_with fail
  refine (specMovesValid_any p ao rs n c _ HN.out hl HLS.out (hx.below B0 (Nat.le_refl _))).mono fun e w1 h => ?_
  rw [hb] at h
  obtain ⟨rfl, b⟩ := h
  have G := G0.below b (Nat.le_refl _)
  have B := B0.trans (b.mono B0.size)
  clear G0 B0 b hb
  go_wp2_with fail
  refine (specPermNone_any p w1).mono fun e w2 h => ?_
  obtain ⟨ao1, c1, rfl, o1, b⟩ := h.to hlq.out
  clear h
  have HGL := hid G.lt
  have HOL := hid (World.ownsRow.lt o1)
  have G2 := G.below b (Nat.le_refl _)
  have B2 := B.trans (b.mono B.size)
  have o2 := o1.lower (B' := w.heap.size) B.size
  clear G B b o1
  go_wp2_with (at_builtin; refine wpList_appendG rfl _ _ rfl rfl (G2.alloc (.cells #[.slice ao1 q c1] 28)) (o2.alloc (.cells #[.slice ao1 q c1] 28)) (fun k hk hs => absurd (HGL.out k hs).2 (Nat.not_lt.2 (HOL.out k hk).1)) (by have := B2.size; simp; omega) ⟨w2.heap.size, 0, none⟩ 1 rfl (by rw [cellNew]; rfl) (by simp) ?_)
  intro v3 w3 G3 hg3
  have hst : ∃ a3 c3, v3 = .slice a3 1 c3 ∧ OneG w w3 q 1 a3 c3 [noneL p] := by
    obtain ⟨a3, c3, e3, _, h1, h2⟩ := G3.shapeN (n := 1) rfl
    subst e3
    exact ⟨a3, c3, rfl, _, G3, h1, h2, rfl, gOk_none ⟨hp1, hp5⟩ hlq.out, (B2.alloc B2.size (.cells #[.slice ao1 q c1] 28)).grown hg3 (by have := B2.size; simp; omega) (fun k e => by have : w.heap.size = k := Option.some.inj e; omega)⟩
  obtain ⟨a3, c3, rfl, hst⟩ := hst
  clear G3 hg3 G2 B2 o2
  have hrun : Hid (grp rs 3200 0 [noneL p] = allG p rs) := rfl
  go_wp2
  go_loopw [5, 6, 7, 8] (fun s5 s6 _ _ wr => ∃ (k N : Nat) (a1 : Option Addr) (c1 : Nat) (out : List (List Int)), s5 = .slice a1 N c1 ∧ s6 = .int .i64 k ∧ k ≤ N ∧ N ≤ 3125 ∧ OneG w wr q N a1 c1 out ∧ Hid (grp rs (3200 - k) k out = allG p rs)) (fun _ s6 _ _ _ => 4000 - (intOf s6).toNat)
  case atStart => exact ⟨0, 1, _, _, _, rfl, rfl, by omega, by omega, hst, hrun⟩
  case round =>
    clear hst hrun
    obtain ⟨k, N, a1, c1, out, rfl, rfl, hk, hN, hst, hrun⟩ := hrel
    by_cases hlt : k < N
    · have hol := hid hst.le.2.1
      obtain ⟨hxp, hxq⟩ := hst.perm hlt
      obtain ⟨x, hx0⟩ : ∃ x, nthR out k = x := ⟨_, rfl⟩
      rw [hx0] at hxp hxq
      have HX0 := hid hx0
      have HXP := hid hxp
      have HXQ := hid hxq
      have hrun2 : Hid (grp rs (3200 - (k + 1)) (k + 1) (rowG x (rs.drop 0) out) = allG p rs) := by
        have h1 := hrun.out
        rw [grp_in (by omega) (by rw [hol.out]; exact hlt), hx0] at h1
        exact h1
      clear hx0 hxp hxq hrun
      go_wp2
      obtain ⟨wo, hwo⟩ : ∃ wo : World, wo = wr := ⟨_, rfl⟩
      subst hwo
      go_loopw [5, 7, 8] (fun s5 s7 _ wi => ∃ (j N' : Nat) (a1' : Option Addr) (c1' : Nat) (out' : List (List Int)), s5 = .slice a1' N' c1' ∧ s7 = .int .i64 j ∧ j ≤ n ∧ k < N' ∧ N' ≤ 3125 ∧ OneG w wi q N' a1' c1' out' ∧ Hid (nthR out' k = x) ∧ Hid (grp rs (3200 - (k + 1)) (k + 1) (rowG x (rs.drop j) out') = allG p rs)) (fun _ s7 _ _ => n - (intOf s7).toNat)
      case atStart => exact ⟨0, N, _, _, out, rfl, rfl, Nat.zero_le _, hlt, hN, hst, HX0, hrun2⟩
      case round =>
        clear hst hrun2 HX0 hol hlt hk hN
        obtain ⟨j, N, a1, c1, out, rfl, rfl, hj, hlt, hN, hst, hxo, hrun⟩ := hrel
        by_cases hjn : j < n
        · have hjl : j < rs.length := by rw [HN.out]; exact hjn
          have hle := hst.le
          have hol := hid hle.2.1
          have HOK := hid hle.2.2.1
          have hB := hle.2.2.2.1
          clear hle
          obtain ⟨g1, r1, rc1, rfl, hc1, hi1, hqr⟩ := hst.row1 hlt
          rw [hxo.out] at hi1
          have hrow := movesOk_row HMO.out hjl
          have hrl : Hid ((nthR rs j).length = q) := by have := HQ.out; unfold Hid; omega
          have hpo := hid (permOk_join HXP.out hrow.2 (by rw [HXQ.out, hrl.out]))
          have hal : Hid ((joinL x (nthR rs j)).length = q) := (length_joinL _ _).trans HXQ.out
          have hth : Hid (thenL x (nthR rs j) = joinL x (nthR rs j)) := thenL_in ⟨HXP.out, hrow.2, by rw [HXQ.out, hrl.out]⟩
          obtain ⟨mb, mo, rfl, hr⟩ := (hx.below hB (Nat.le_refl _)) (by omega)
          obtain ⟨ma, mc, hcj, hl2, hcm, hin⟩ := hr j hjl
          rw [hrl.out] at hcj hl2
          clear hr hrow
          go_wp2
          go_still_tail 8, (by kernel_rfl)
          change wpList _ _ _ _ _ wr.drew
          have hst := hst.below (Below.refl wr.heap.size wr).drew
          have hi1 : IntsAt wr.drew r1 x := hi1
          have hin : IntsAt wr.drew ma (nthR rs j) := hin
          have hB := hB.drew
          clear hc1 hcj
          generalize wr.drew = wd at *
          go_wp2_with fail
          refine (specPermThen_any r1 ma x (nthR rs j) q q rc1 mc wd HXQ.out hrl.out (by omega) (by omega) hqr hl2 hi1 hin).mono fun e w2 h => ?_
          rw [hth.out] at h
          obtain ⟨aj, cj, rfl, oj, b2⟩ := h.to hal.out
          clear h hi1 hin
          have hst2 := hst.below b2
          have hrl2 : Hid (∀ y ∈ out, y.length = q) := fun y hy => (HOK.out.2 y hy).2
          have hat2 := hst2.at
          cases hin : hasG out (joinL x (nthR rs j)) with
          | true =>
            have HI := hid hin
            have hmem : joinL x (nthR rs j) ∈ out := by simpa [hasG] using hin
            have hrun2 : Hid (grp rs (3200 - (k + 1)) (k + 1) (rowG x (rs.drop (j + 1)) out) = allG p rs) := by
              have h1 := hrun.out
              rw [drop_nthR hjl, rowG, addG_old hmem] at h1
              exact h1
            clear hin hmem
            go_wp2_with (go_at_call 34; refine (l4Has_any _ aj out (joinL x (nthR rs j)) N c1 q cj w2 hol.out (by omega) hal.out (by omega) hrl2.out hat2 oj.ints).mono ?_; rintro e w3 ⟨rfl, hq3⟩; rw [HI.out])
            have hst3 := hst2.below (hq3.below w2.heap.size)
            clear hst hst2 b2 hB oj hat2
            go_roundw
            case rel => exact ⟨j + 1, N, _, c1, out, rfl, by go_num, by omega, hlt, hN, hst3, hxo, hrun2⟩
            case measure => simp [intOf]; omega
          | false =>
            have HI := hid hin
            have hnot : joinL x (nthR rs j) ∉ out := by simpa [hasG] using hin
            have hok2 := hid (gOk_add HOK.out hnot hpo.out hal.out)
            have hrun2 : Hid (grp rs (3200 - (k + 1)) (k + 1) (rowG x (rs.drop (j + 1)) (out ++ [joinL x (nthR rs j)])) = allG p rs) := by
              have h1 := hrun.out
              rw [drop_nthR hjl, rowG, addG_new hnot] at h1
              exact h1
            clear hin hnot
            go_wp2_with fail
            refine (l4Has_any _ aj out (joinL x (nthR rs j)) N c1 q cj w2 hol.out (by omega) hal.out (by omega) hrl2.out hat2 oj.ints).mono fun e w3 h => ?_
            rw [HI.out] at h
            obtain ⟨rfl, hq3⟩ := h
            have b3 : Below wd.heap.size wd w3 := b2.trans (hq3.below _)
            have oj3 := (oj.qt hq3).lower (B' := w.heap.size) hB.size
            have LJ := hid (World.ownsRow.lt oj)
            obtain ⟨S1, G1, _, _, _, _, _⟩ := hst
            have HS1 := hid G1.lt
            have HH1 := hid G1.head
            have G13 := G1.below b3 (Nat.le_refl _)
            have B3 := hB.trans (b3.mono hB.size)
            clear b2 hat2 oj hq3 hst2 G1 hB b3
            go_wp2_with (at_builtin; refine wpList_appendG rfl _ _ rfl rfl (G13.alloc (.cells #[.slice aj q cj] 28)) (oj3.alloc (.cells #[.slice aj q cj] 28)) (fun k hk hs => absurd (HS1.out k hs).2 (Nat.not_lt.2 (LJ.out k hk).1)) (by have := B3.size; simp; omega) ⟨w3.heap.size, 0, none⟩ 1 rfl (by rw [cellNew]; rfl) (by rw [hol.out]; omega) ?_)
            intro v6 w6 G16 hg6
            have B6 := (B3.alloc B3.size (.cells #[.slice aj q cj] 28)).grown hg6 (by have := B3.size; simp; omega) (fun k e => (HS1.out k (HH1.out k e)).1)
            have HLN : Hid ((out ++ [joinL x (nthR rs j)]).length = N + 1) := by have := hol.out; simp [Hid]; omega
            obtain ⟨a6, c6, rfl, _, hc6, hm6⟩ := G16.shapeN HLN.out
            have hN1 : N + 1 ≤ 3125 := by have := gOk_len hok2.out; rw [HLN.out] at this; exact this
            have hxo2 : Hid (nthR (out ++ [joinL x (nthR rs j)]) k = x) := (nthR_app1 (by rw [hol.out]; exact hlt)).trans hxo.out
            have hst6 : OneG w w6 q (N + 1) a6 c6 (out ++ [joinL x (nthR rs j)]) := ⟨_, G16, hc6, hm6, HLN.out, hok2.out, B6⟩
            clear G13 B3 oj3 hg6 G16 B6
            go_wp2
            go_roundw
            case rel => exact ⟨j + 1, N + 1, a6, c6, _, rfl, by go_num, by omega, by omega, hN1, hst6, hxo2, hrun2⟩
            case measure => simp [intOf]; omega
        · have hd : decide ((j : Int) < n) = false := decide_eq_false (by omega)
          have hrun2 : Hid (grp rs (3200 - (k + 1)) (k + 1) out = allG p rs) := by
            have h1 := hrun.out
            rwa [List.drop_eq_nil_of_le (by rw [HN.out]; omega), rowG] at h1
          go_wp2
          go_roundw
          case rel => exact ⟨k + 1, N, a1, c1, out, rfl, by go_num, by omega, hN, hst, hrun2⟩
          case measure => simp [intOf]; omega
    · have hd : decide (k < N) = false := decide_eq_false hlt
      have hfin : Hid (out = allG p rs) := by
        have h1 := hrun.out
        rwa [grp_out (by have := hst.le.2.1; omega)] at h1
      obtain ⟨S1, G1, _, _, _, _, B⟩ := hst
      rw [hfin.out] at G1
      go_wp2
      go_ret
      rw [hL.out]
      exact RetRows.mk G1 B

set_option maxRecDepth 100000 in
set_option maxHeartbeats 1000000 in
theorem specFixedSum_any (p : Int) (ao : Option Addr) (rs : List (List Int)) (n c : Nat) (w : World) (hn : rs.length = n) (hl : n ≤ 1048576) (hls : ∀ r ∈ rs, r.length ≤ 1048576) (hx : RowsAt w ao rs) :
    Calls Try.prog 18 #[.int .i64 p, .slice ao n c] w fun e w' => e = .returned (.int .i64 (fixI p rs)) ∧ Below w.heap.size w w' := by
  have HN := hid hn
  have HLS := hid hls
  clear hn hls
  by_cases hmo : MovesOk p rs
  rotate_left
  · have hL := hid (fixI_out hmo)
    have hb := movesB_false hmo
    go_enter Try.func18, Try.ntmps18
    go_wp2_with fail
    refine (specMovesValid_any p ao rs n c w HN.out hl HLS.out hx).mono fun e w1 h => ?_
    rw [hb] at h
    obtain ⟨rfl, b⟩ := h
    go_wp2_with fail
    go_ret
    exact ⟨by rw [hL.out]; rfl, b⟩
  have hL := hid (fixI_in hmo)
  have hAL := hid (allL_in hmo)
  have hb := movesB_true hmo
  have hp1 := hmo.1
  have hp5 := hmo.2.1
  have HOK := hid (allG_ok hmo)
  obtain ⟨q, hq⟩ : ∃ q : Nat, p = q := Int.eq_ofNat_of_zero_le (by omega)
  have hqt : p.toNat = q := by omega
  rw [hqt] at hL HOK
  have hq5 : q ≤ 5 := by omega
  have hN := gOk_len HOK.out
  clear hmo hqt
  subst hq
  go_enter Try.func18, Try.ntmps18
  go_wp2_with fail
  refine (specMovesValid_any (q : Int) ao rs n c w HN.out hl HLS.out hx).mono fun e w1 h => ?_
  rw [hb] at h
  obtain ⟨rfl, B⟩ := h
  clear hb
  go_wp2_with fail
  refine (specGroupAll_any (q : Int) ao rs n c w1 HN.out hl HLS.out (hx.below B (Nat.le_refl _))).mono fun e w2 h => ?_
  rw [hAL.out] at h
  generalize allG (q : Int) rs = out at *
  obtain ⟨N, hNN⟩ : ∃ N, out.length = N := ⟨_, rfl⟩
  rw [hNN] at hN
  have hol := hid hNN
  obtain ⟨a1, c1, S, rfl, _, G, b⟩ := h.to hNN
  have hat := G.at
  have B := B.trans (b.mono B.size)
  clear hNN G h b
  go_wp2
  go_loop [5, 7, 8] (fun s5 s24 _ => ∃ k s : Nat, k ≤ N ∧ s24 = .int .i64 k ∧ s5 = .int .i64 s ∧ s ≤ 5 * k ∧ Hid (sumF out q k = s)) (fun _ s24 _ => N - (intOf s24).toNat)
  case atStart => exact ⟨0, 0, Nat.zero_le _, rfl, rfl, by omega, rfl⟩
  case round =>
    obtain ⟨k, s, hk, rfl, rfl, hs, hsum⟩ := hrel
    by_cases hlt : k < N
    · have hkl : k < out.length := by rw [hol.out]; exact hlt
      obtain ⟨b, off, rfl, hr⟩ := hat (by omega)
      obtain ⟨a, cc, hck, hl2, hcm, hin⟩ := hr k hkl
      have hrow := (HOK.out.2 _ (nthR_mem hkl)).2
      have HROW := hid hrow
      rw [hrow] at hck hl2
      have hnext : Hid (sumF out q (k + 1) = s + fixT (nthR out k) q) := by unfold Hid; rw [sumF, hsum.out]
      obtain ⟨x, hx0⟩ : ∃ x, nthR out k = x := ⟨_, rfl⟩
      rw [hx0] at hin hnext HROW
      clear hr hrow hx0
      go_wp2
      go_loop [5, 8] (fun s5 s30 => ∃ j t : Nat, j ≤ q ∧ s30 = .int .i64 j ∧ s5 = .int .i64 (s + t) ∧ t ≤ j ∧ Hid (fixT x j = t)) (fun _ s30 => q - (intOf s30).toNat)
      case atStart => exact ⟨0, 0, Nat.zero_le _, rfl, by simp, Nat.le_refl _, rfl⟩
      case round =>
        obtain ⟨j, t, hj, rfl, rfl, ht, hfix⟩ := hrel
        by_cases hjq : j < q
        · obtain ⟨b2, off2, rfl, hc⟩ := hin (by rw [HROW.out]; omega)
          have hcj := hc j (by rw [HROW.out]; exact hjq)
          clear hc
          by_cases he : nth x j = j
          · have hn2 : Hid (fixT x (j + 1) = t + 1) := by unfold Hid; rw [fixT, hfix.out, if_pos he]
            rw [he] at hcj
            have hbe : ((j : Int) == j) = true := by simp
            clear he
            go_wp2
            go_round
            case rel => exact ⟨j + 1, t + 1, by omega, by go_num, by go_num, by omega, hn2⟩
            case measure => simp [intOf]; omega
          · have hn2 : Hid (fixT x (j + 1) = t) := by unfold Hid; rw [fixT, hfix.out, if_neg he]; rfl
            have hbe : (nth x j == (j : Int)) = false := by simp [he]
            clear he
            go_wp2
            go_round
            case rel => exact ⟨j + 1, t, by omega, by go_num, rfl, by omega, hn2⟩
            case measure => simp [intOf]; omega
        · obtain rfl : j = q := by omega
          rw [hfix.out] at hnext
          have hd : decide ((j : Int) < j) = false := decide_eq_false (by omega)
          go_wp2
          go_round
          case rel => exact ⟨k + 1, s + t, by omega, by go_num, by go_num, by omega, hnext⟩
          case measure => simp [intOf]; omega
    · have hd : decide (k < N) = false := decide_eq_false (by omega)
      have hfin : Hid ((sumF out q out.length : Nat) = s) := by
        have h1 := hsum.out
        rwa [show k = out.length from by rw [hol.out]; omega] at h1
      go_wp2
      go_ret
      exact ⟨by rw [hL.out, hfin.out]; rfl, B⟩

end Go.Proofs.Ytojkiajempdmfaa
