/- The walk of groupWords. -/
import Derived.Test.YtojkiajempdmfaaGi
import Derived.Test.YtojkiajempdmfaaMv
namespace Go.Proofs.Ytojkiajempdmfaa
open Go Go.RowKit

def RetWords (w : World) (rs : List (List Int)) (e : Ending) (w' : World) : Prop :=
  ∃ v1 v2 S, e = .returned (.tuple #[v1, v2]) ∧ GRow w' w.heap.size S v1 rs ∧ Below w.heap.size w w'

/-- The permutations and the words under way. -/
def TwoG (w wr : World) (q N : Nat) (a1 : Option Addr) (c1 : Nat) (a2 : Option Addr) (c2 : Nat) (out : List (List Int)) : Prop :=
  ∃ S1 S2 ws, GRow wr w.heap.size S1 (.slice a1 N c1) out ∧ GRow wr w.heap.size S2 (.slice a2 N c2) ws ∧ (∀ k, S1 k → ¬ S2 k) ∧ ws.length = N ∧ (∀ x ∈ ws, x.length ≤ N) ∧ out.length = N ∧ GOk q out ∧ Below w.heap.size w wr
theorem TwoG.below {w wr w' : World} {q N c1 c2 : Nat} {a1 a2 : Option Addr} {out : List (List Int)} (h : TwoG w wr q N a1 c1 a2 c2 out) (hb : Below wr.heap.size wr w') : TwoG w w' q N a1 c1 a2 c2 out := by
  obtain ⟨S1, S2, ws, h1, h2, h3, h4, h5, h6, h7, h8⟩ := h
  exact ⟨S1, S2, ws, h1.below hb (Nat.le_refl _), h2.below hb (Nat.le_refl _), h3, h4, h5, h6, h7, h8.trans (hb.mono h8.size)⟩
theorem TwoG.le {w wr : World} {q N c1 c2 : Nat} {a1 a2 : Option Addr} {out : List (List Int)} (h : TwoG w wr q N a1 c1 a2 c2 out) : N ≤ 3125 ∧ out.length = N ∧ GOk q out ∧ Below w.heap.size w wr := by
  obtain ⟨S1, S2, ws, h1, h2, h3, h4, h5, h6, h7, h8⟩ := h
  exact ⟨by have := gOk_len h7; omega, h6, h7, h8⟩
theorem TwoG.row1 {w wr : World} {q N c1 c2 k : Nat} {a1 a2 : Option Addr} {out : List (List Int)} (h : TwoG w wr q N a1 c1 a2 c2 out) (hk : k < N) :
    ∃ g a c, a1 = some ⟨g, 0, none⟩ ∧ wr.cell? ⟨g, k, none⟩ = some (.slice a q c) ∧ IntsAt wr a (nthR out k) ∧ PermOk (nthR out k) ∧ (nthR out k).length = q := by
  obtain ⟨S1, S2, ws, h1, h2, h3, h4, h5, h6, h7, h8⟩ := h
  obtain ⟨g, u, rfl, hc, ho, _⟩ := h1.row (k := k) (by omega)
  have hp := h7.2 _ (nthR_mem (rs := out) (k := k) (by omega))
  obtain ⟨a, c, rfl, hi, _⟩ := ho.shapeN hp.2
  exact ⟨g, a, c, rfl, hc, hi, hp.1, hp.2⟩
theorem TwoG.perm {w wr : World} {q N c1 c2 k : Nat} {a1 a2 : Option Addr} {out : List (List Int)} (h : TwoG w wr q N a1 c1 a2 c2 out) (hk : k < N) : PermOk (nthR out k) ∧ (nthR out k).length = q := by
  obtain ⟨S1, S2, ws, h1, h2, h3, h4, h5, h6, h7, h8⟩ := h
  exact h7.2 _ (nthR_mem (rs := out) (k := k) (by omega))
theorem TwoG.row2 {w wr : World} {q N c1 c2 k : Nat} {a1 a2 : Option Addr} {out : List (List Int)} (h : TwoG w wr q N a1 c1 a2 c2 out) (hk : k < N) :
    ∃ g a l c ys, a2 = some ⟨g, 0, none⟩ ∧ wr.cell? ⟨g, k, none⟩ = some (.slice a l c) ∧ Own wr w.heap.size (.slice a l c) ys ∧ ys.length = l ∧ l ≤ 3125 := by
  have hN := h.le.1
  obtain ⟨S1, S2, ws, h1, h2, h3, h4, h5, h6, h7, h8⟩ := h
  obtain ⟨g, u, rfl, hc, ho, _⟩ := h2.row (k := k) (by omega)
  have hp := h5 _ (nthR_mem (rs := ws) (k := k) (by omega))
  obtain ⟨a, c, rfl, hi, _⟩ := ho.shape
  exact ⟨g, a, _, c, _, rfl, hc, ho, rfl, by omega⟩

set_option maxRecDepth 100000 in
set_option maxHeartbeats 4000000 in
theorem groupWords_any (p : Int) (ao : Option Addr) (rs : List (List Int)) (n c : Nat) (w : World) (hn : rs.length = n) (hl : n ≤ 1048576) (hmo : MovesOk p rs) (hx : RowsAt w ao rs) :
    Calls Try.prog 31 #[.int .i64 p, .slice ao n c] w (RetWords w (allG p rs)) := by
  have HN := hid hn
  have HMO := hid hmo
  have hp1 := hmo.1
  have hp5 := hmo.2.1
  have hn3 : n ≤ 3 := by have := hmo.2.2.1; omega
  obtain ⟨q, hq⟩ : ∃ q : Nat, p = q := Int.eq_ofNat_of_zero_le (by omega)
  have hlq : Hid ((noneL p).length = q) := by have := length_none (p := p) ⟨hp1, hp5⟩; unfold Hid; omega
  have hpn := hid (permOk_none (p := p) ⟨hp1, hp5⟩)
  have HQ := hid hq
  have hq5 : q ≤ 5 := by omega
  clear hmo hq hn
  go_enter Try.func31, Try.ntmps31
  go_wp2_with fail
  refine (implPermNone_any p w).mono fun e w1 h => ?_
  obtain ⟨ao1, c1, rfl, o1, B⟩ := h.to hlq.out
  clear h
  have hg0 := GRow.one o1 (B := w.heap.size) B.size
  have hst : TwoG w ((w1.alloc (.cells #[.slice ao1 q c1] 28)).alloc (.cells #[.slice none 0 0] 28)) q 1 (some ⟨w1.heap.size, 0, none⟩) 1 (some ⟨w1.heap.size + 1, 0, none⟩) 1 [noneL p] := by
    have hs : w.heap.size ≤ w1.heap.size := B.size
    have hg1 := GRow.one (w := w1.alloc (.cells #[.slice ao1 q c1] 28)) (B := w.heap.size) (u := .slice none 0 0) (Own.nil _ _) (by simp; omega)
    rw [World.size_alloc] at hg1
    refine ⟨_, _, [[]], hg0.alloc _, hg1, fun k h1 h2 => ?_, rfl, fun x hx => by rw [List.mem_singleton.1 hx]; simp, rfl, gOk_none ⟨hp1, hp5⟩ hlq.out, (B.alloc hs _).alloc (by simp; omega) _⟩
    rcases h2 with h2 | h2
    · rcases h1 with h1 | h1
      · omega
      · have := (World.ownsRow.lt o1 k h1).2; omega
    · simp [Value.ownBlock] at h2
  have hrun : Hid (grp rs 3200 0 [noneL p] = allG p rs) := rfl
  clear hg0
  go_wp2
  clear o1 B
  go_loopw [6, 7, 8, 9, 10, 11, 12, 25] (fun s6 s7 s8 _ _ _ _ _ wr => ∃ (k N : Nat) (a1 : Option Addr) (c1 : Nat) (a2 : Option Addr) (c2 : Nat) (out : List (List Int)), s6 = .slice a1 N c1 ∧ s7 = .slice a2 N c2 ∧ s8 = .int .i64 k ∧ k ≤ N ∧ N ≤ 3125 ∧ TwoG w wr q N a1 c1 a2 c2 out ∧ Hid (grp rs (3200 - k) k out = allG p rs)) (fun _ _ s8 _ _ _ _ _ _ => 4000 - (intOf s8).toNat)
  case atStart => exact ⟨0, 1, _, _, _, _, _, rfl, rfl, rfl, by omega, by omega, hst, hrun⟩
  case round =>
    clear hst hrun
    obtain ⟨k, N, a1, c1, a2, c2, out, rfl, rfl, rfl, hk, hN, hst, hrun⟩ := hrel
    by_cases hlt : k < N
    · have hle := hst.le
      have hol := hid hle.2.1
      obtain ⟨hxp, hxq⟩ := hst.perm hlt
      obtain ⟨x, hx0⟩ : ∃ x, nthR out k = x := ⟨_, rfl⟩
      rw [hx0] at hxp hxq
      have HX0 := hid hx0
      have HXP := hid hxp
      have HXQ := hid hxq
      have hrun2 : Hid (grp rs (3200 - (k + 1)) (k + 1) (rowG x (rs.drop 0) out) = allG p rs) := by
        have h1 := hrun.out
        rw [grp_in (by omega) (by rw [hol.out]; exact hlt), hx0] at h1
        exact h1
      clear hle hx0 hxp hxq hrun
      go_wp2
      obtain ⟨wo, hwo⟩ : ∃ wo : World, wo = wr := ⟨_, rfl⟩
      subst hwo
      go_loopw [6, 7, 9, 10, 11, 12, 25] (fun s6 s7 _ _ _ _ s25 wi => ∃ (j N' : Nat) (a1' : Option Addr) (c1' : Nat) (a2' : Option Addr) (c2' : Nat) (out' : List (List Int)), s6 = .slice a1' N' c1' ∧ s7 = .slice a2' N' c2' ∧ s25 = .int .i64 j ∧ j ≤ n ∧ k < N' ∧ N' ≤ 3125 ∧ TwoG w wi q N' a1' c1' a2' c2' out' ∧ Hid (nthR out' k = x) ∧ Hid (grp rs (3200 - (k + 1)) (k + 1) (rowG x (rs.drop j) out') = allG p rs)) (fun _ _ _ _ _ _ s25 _ => n - (intOf s25).toNat)
      case atStart => exact ⟨0, N, _, _, _, _, out, rfl, rfl, rfl, Nat.zero_le _, hlt, hN, hst, HX0, hrun2⟩
      case round =>
        clear hst hrun2 HX0 hol hlt hk hN
        obtain ⟨j, N, a1, c1, a2, c2, out, rfl, rfl, rfl, hj, hlt, hN, hst, hxo, hrun⟩ := hrel
        by_cases hjn : j < n
        · have hjl : j < rs.length := by rw [HN.out]; exact hjn
          have hle := hst.le
          have hol := hid hle.2.1
          have HOK := hid hle.2.2.1
          have hB := hle.2.2.2
          clear hle
          obtain ⟨g1, r1, rc1, rfl, hc1, hi1, _, _⟩ := hst.row1 hlt
          rw [hxo.out] at hi1
          have hrow := movesOk_row HMO.out hjl
          have hrl : Hid ((nthR rs j).length = q) := by have := HQ.out; unfold Hid; omega
          have hrng : Hid (∀ y ∈ x, 0 ≤ y ∧ y < q) := fun y hy => by have := HXP.out.2.2.1 y hy; rw [HXQ.out] at this; exact this
          have hpo := hid (permOk_join HXP.out hrow.2 (by rw [HXQ.out, hrl.out]))
          have hal : Hid ((joinL x (nthR rs j)).length = q) := (length_joinL _ _).trans HXQ.out
          obtain ⟨mb, mo, rfl, hr⟩ := (hx.below hB (Nat.le_refl _)) (by omega)
          obtain ⟨ma, mc, hcj, hl2, hcm, hin⟩ := hr j hjl
          rw [hrl.out] at hcj hl2
          clear hr hrow
          go_wp2_with fail
          refine (permJoin_any r1 ma x (nthR rs j) q q rc1 mc wr HXQ.out hrl.out (by omega) hi1 hin hrng.out).mono fun e w2 h => ?_
          obtain ⟨aj, cj, rfl, oj, b2⟩ := h.to hal.out
          clear h hcj hin hc1 hi1 hrng
          have hst2 := hst.below b2
          have hB2 := hB.trans (b2.mono hB.size)
          have hrl2 : Hid (∀ y ∈ out, y.length = q) := fun y hy => (HOK.out.2 y hy).2
          obtain ⟨S1, S2, ws, hG1, hG2, _⟩ := hst2
          have hat2 := hG1.at
          clear hG1 hG2
          cases hin : hasG out (joinL x (nthR rs j)) with
          | true =>
            have HI := hid hin
            have hmem : joinL x (nthR rs j) ∈ out := by simpa [hasG] using hin
            have hrun2 : Hid (grp rs (3200 - (k + 1)) (k + 1) (rowG x (rs.drop (j + 1)) out) = allG p rs) := by
              have h1 := hrun.out
              rw [drop_nthR hjl, rowG, addG_old hmem] at h1
              exact h1
            have hst2 := hst.below b2
            clear hin hmem
            go_wp2_with (go_at_call 40; refine (permIn_any _ aj out (joinL x (nthR rs j)) N c1 q cj w2 hol.out (by omega) hal.out (by omega) hrl2.out hat2 oj.ints).mono ?_; rintro e w3 ⟨rfl, hq3⟩; rw [HI.out])
            have hst3 := hst2.below (hq3.below w2.heap.size)
            clear hst hst2 b2 hB hB2 oj hat2
            go_roundw
            case rel => exact ⟨j + 1, N, _, c1, a2, c2, out, rfl, rfl, by go_num, by omega, hlt, hN, hst3, hxo, hrun2⟩
            case measure => simp [intOf]; omega
          | false =>
            have HI := hid hin
            have hnot : joinL x (nthR rs j) ∉ out := by simpa [hasG] using hin
            have hok2 := hid (gOk_add HOK.out hnot hpo.out hal.out)
            have hrun2 : Hid (grp rs (3200 - (k + 1)) (k + 1) (rowG x (rs.drop (j + 1)) (out ++ [joinL x (nthR rs j)])) = allG p rs) := by
              have h1 := hrun.out
              rw [drop_nthR hjl, rowG, addG_new hnot] at h1
              exact h1
            obtain ⟨S1, S2, ws, G1, G2, hdis, hwl, hwx, _, _, _⟩ := hst
            have HDIS := hid hdis
            have HWL := hid hwl
            have HWX := hid hwx
            have HS1 := hid G1.lt
            have HS2 := hid G2.lt
            have HH1 := hid G1.head
            have HH2 := hid G2.head
            clear hin hnot hdis hwl hwx
            go_wp2_with fail
            refine (permIn_any _ aj out (joinL x (nthR rs j)) N c1 q cj w2 hol.out (by omega) hal.out (by omega) hrl2.out hat2 oj.ints).mono fun e w3 h => ?_
            rw [HI.out] at h
            obtain ⟨rfl, hq3⟩ := h
            have b3 : Below wr.heap.size wr w3 := b2.trans (hq3.below _)
            have oj3 := oj.qt hq3
            have hws := b3.size
            have hwB := hB.size
            clear b2 hat2 oj hq3 hB2
            obtain ⟨g2, u2, e2, hc2, o2, _⟩ := (G2.below b3 (Nat.le_refl _)).row (k := k) (by rw [HWL.out]; exact hlt)
            cases e2
            obtain ⟨ys2, hys2⟩ : ∃ ys2, nthR ws k = ys2 := ⟨_, rfl⟩
            obtain ⟨L2, hL2⟩ : ∃ L2, ys2.length = L2 := ⟨_, rfl⟩
            have hL2N : L2 ≤ N := by rw [← hL2, ← hys2]; exact HWX.out _ (nthR_mem (by rw [HWL.out]; exact hlt))
            have HY2 := hid hL2
            rw [hys2] at o2
            clear hys2
            obtain ⟨r2, rc2, rfl, _, _⟩ := o2.shapeN hL2
            clear hL2
            obtain ⟨i0, hi, hz0, hz1, hz2⟩ := info_parts Try.infoInt
            have hd1 : decide (k < N) = true := decide_eq_true hlt
            go_wp2_with (at_make; refine wpList_make_own _ rfl _ _ 28 rfl w3.heap.size 3 i0 (.int .i64 0) 1 Try.underlying28 hi hz0 hz1 _ _ _ (L2 + 1) rfl rfl (by omega) ?m1 ?m2 (Nat.le_refl _) ?_)
            case m1 => rw [hz2]; omega
            case m2 => unfold maxLen; omega
            intro w4 hown4 hgrow4
            have b4 : Below w3.heap.size w3 w4 := (Below.refl _ _).grown hgrow4 (Nat.le_refl _) (by simp)
            have ow4 : Own w4 w3.heap.size (.slice (some ⟨w3.heap.size, 0, none⟩) 0 (L2 + 1)) [] := hown4
            have hc4 : w4.cell? ⟨g2, k, none⟩ = some (.slice r2 L2 rc2) := (b4.cell (World.block_lt_of_cell? _ _ hc2)).trans hc2
            have o4 := o2.below b4 (Nat.le_refl _)
            clear hown4 hgrow4 hi hz0 hz1 hz2 i0 hc2 o2
            go_wp2_with (at_builtin; refine wpList_appendL rfl _ _ rfl rfl ow4 rfl o4 b4.size ?h4 ?_)
            case h4 => rw [HY2.out]; simp; omega
            intro v5 w5 ow5 hg5 _
            have b5 : Below w3.heap.size w3 w5 := b4.grown hg5 b4.size (fun k hk => (World.ownsRow.lt ow4 k hk).1)
            have b50 : Below wr.heap.size wr w5 := b3.trans (b5.mono b3.size)
            have G15 := G1.below b50 (Nat.le_refl _)
            have G25 := G2.below b50 (Nat.le_refl _)
            have oj5 := (oj3.below b5 (Nat.le_refl _)).lower (B' := w.heap.size) hwB
            have B5 := hB.trans (b50.mono hwB)
            have LV5 := hid (World.ownsRow.lt ow5)
            have LJ := hid (World.ownsRow.lt oj3)
            have h35 := b5.size
            clear ow4 o4 hc4 hg5 b4 b5 b50 G1 G2 oj3 b3 hB
            go_wp2_with (at_builtin; refine wpList_appendG rfl _ _ rfl rfl (G15.alloc (.cells #[.slice aj q cj] 28)) (oj5.alloc (.cells #[.slice aj q cj] 28)) (fun k hk hs => absurd (HS1.out k hs).2 (Nat.not_lt.2 (LJ.out k hk).1)) (by simp; omega) ⟨w5.heap.size, 0, none⟩ 1 rfl (by rw [cellNew]; rfl) (by rw [hol.out]; omega) ?_)
            intro v6 w6 G16 hg6
            have hr6 : Hid (∀ k, (Value.slice (some ⟨g1, 0, none⟩) N c1).ownBlock = some k → S1 k) := HH1.out
            have G26 := (G25.alloc (.cells #[.slice aj q cj] 28)).kept hg6 (fun k e hs => HDIS.out k (hr6.out k e) hs)
            have ow6 : Own w6 w3.heap.size v5 ([] ++ ys2) := (ow5.alloc (.cells #[.slice aj q cj] 28)).kept hg6 (ow5.ne_of_lt (Nat.lt_of_lt_of_le (HS1.out _ (hr6.out _ rfl)).2 hws))
            have B6 := (B5.alloc B5.size (.cells #[.slice aj q cj] 28)).grown hg6 (by simp; omega) (fun k e => (HS1.out k (hr6.out k e)).1)
            have h56 : w5.heap.size + 1 ≤ w6.heap.size := by have := hg6.size; rwa [World.size_alloc] at this
            have HLN : Hid ((out ++ [joinL x (nthR rs j)]).length = N + 1) := by have := hol.out; simp [Hid]; omega
            obtain ⟨a6, c6, rfl, _, _⟩ := G16.shapeN HLN.out
            clear G15 G25 oj5 B5 ow5 hg6
            go_wp2_with (at_builtin; refine wpList_appendL rfl _ _ rfl rfl (ow6.alloc (.cells #[.int .i64 j] 3)) rfl (Own.lit1 w6 j (Nat.le_refl _)) (by simp; omega) ?h7 ?_)
            case h7 => rw [List.nil_append, HY2.out]; simp; omega
            intro v7 w7 ow7 hg7 ha7
            have hv5 : Hid (∀ k, v5.ownBlock = some k → w3.heap.size ≤ k ∧ k < w5.heap.size) := LV5.out
            have G17 := (G16.alloc (.cells #[.int .i64 j] 3)).kept hg7 (fun k e hs => by
              have e1 := hv5.out k e
              rcases hs with hs | hs | ⟨_, hs⟩
              · have := (HS1.out k hs).2; omega
              · have := (LJ.out k hs).2; omega
              · (try rw [World.size_alloc] at hs); omega)
            have G27 := (G26.alloc (.cells #[.int .i64 j] 3)).kept hg7 (fun k e hs => by
              have e1 := hv5.out k e
              have := (HS2.out k hs).2; omega)
            have B7 := (B6.alloc B6.size (.cells #[.int .i64 j] 3)).grown hg7 (by have := B6.size; simp; omega) (fun k e => by have := (hv5.out k e).1; omega)
            have h67 : w6.heap.size + 1 ≤ w7.heap.size := by have := hg7.size; rwa [World.size_alloc] at this
            have LV7 := hid (World.ownsRow.lt ow7)
            have HA7 := hid ha7
            obtain ⟨a7, c7, hv7, _, _⟩ := ow7.shapeN (n := L2 + 1) (by have := HY2.out; simp; omega)
            subst hv7
            have ow7' := ow7.lower (B' := w.heap.size) (Nat.le_trans hwB hws)
            clear G16 G26 ow6 B6 hg7 ow7 ha7
            go_wp2_with (at_builtin; refine wpList_appendG rfl _ _ rfl rfl (G27.alloc (.cells #[.slice a7 (L2 + 1) c7] 28)) (ow7'.alloc (.cells #[.slice a7 (L2 + 1) c7] 28)) (fun k hk hs => absurd (HS2.out k hs).2 (Nat.not_lt.2 (Nat.le_trans hws (LV7.out k hk).1))) (by have := B7.size; simp; omega) ⟨w7.heap.size, 0, none⟩ 1 rfl (by rw [cellNew]; rfl) (by rw [HWL.out]; omega) ?_)
            intro v8 w8 G28 hg8
            have hr8 : Hid (∀ k, (Value.slice (some ⟨g2, 0, none⟩) N c2).ownBlock = some k → S2 k) := HH2.out
            have G18 := (G17.alloc (.cells #[.slice a7 (L2 + 1) c7] 28)).kept hg8 (fun k e hs => by
              have e1 := hr8.out k e
              rcases hs with hs | hs | ⟨_, hs⟩
              · exact HDIS.out k hs e1
              · have := (LJ.out k hs).1; have := (HS2.out k e1).2; omega
              · have := (HS2.out k e1).2; (try rw [World.size_alloc] at hs); omega)
            have B8 := (B7.alloc B7.size (.cells #[.slice a7 (L2 + 1) c7] 28)).grown hg8 (by have := B7.size; simp; omega) (fun k e => (HS2.out k (hr8.out k e)).1)
            have HWN : Hid ((ws ++ [[] ++ ys2 ++ [(j : Int)]]).length = N + 1) := by have := HWL.out; simp [Hid]; omega
            obtain ⟨a8, c8, rfl, _, _⟩ := G28.shapeN HWN.out
            have hN1 : N + 1 ≤ 3125 := by have := gOk_len hok2.out; rw [HLN.out] at this; exact this
            have hxo2 : Hid (nthR (out ++ [joinL x (nthR rs j)]) k = x) := (nthR_app1 (by rw [hol.out]; exact hlt)).trans hxo.out
            have hst8 : TwoG w w8 q (N + 1) a6 c6 a8 c8 (out ++ [joinL x (nthR rs j)]) := by
              refine ⟨_, _, _, G18, G28, fun k h1 h2 => ?_, HWN.out, fun y hy => ?_, HLN.out, hok2.out, B8⟩
              · (try rw [World.size_alloc] at h1); (try rw [World.size_alloc] at h2)
                have f1 : S1 k → k < wr.heap.size := fun h => (HS1.out k h).2
                have f2 : S2 k → k < wr.heap.size := fun h => (HS2.out k h).2
                have f3 := LJ.out k
                have f4 := LV7.out k
                have f5 : (Value.slice a7 (L2 + 1) c7).ownBlock = some k → k < w5.heap.size ∨ k = w6.heap.size + 1 := fun h => by
                  rcases HA7.out with e | e
                  · exact .inl (hv5.out k (e ▸ h)).2
                  · rw [e] at h; (try rw [World.size_alloc] at h); exact .inr (Option.some.inj h).symm
                rcases h1 with h1 | h1 | ⟨_, h1⟩
                · rcases h2 with h2 | h2 | ⟨_, h2⟩
                  · exact HDIS.out k h1 h2
                  · have := f1 h1; have := f4 h2; omega
                  · have := f1 h1; omega
                · rcases h2 with h2 | h2 | ⟨_, h2⟩
                  · have := f2 h2; have := f3 h1; omega
                  · have := f3 h1; have := f4 h2; omega
                  · have := f3 h1; omega
                · rcases h2 with h2 | h2 | ⟨_, h2⟩
                  · have := f2 h2; omega
                  · have := f5 h2; omega
                  · omega
              · rcases List.mem_append.1 hy with hy | hy
                · have := HWX.out y hy; omega
                · rw [List.mem_singleton.1 hy]
                  have := HY2.out
                  simp; omega
            clear G17 G27 B7 ow7' hg8 G18 G28 B8
            go_wp2
            go_roundw
            case rel => exact ⟨j + 1, N + 1, a6, c6, a8, c8, _, rfl, rfl, by go_num, by omega, by omega, hN1, hst8, hxo2, hrun2⟩
            case measure => simp [intOf]; omega
        · have hd : decide ((j : Int) < n) = false := decide_eq_false (by omega)
          have hrun2 : Hid (grp rs (3200 - (k + 1)) (k + 1) out = allG p rs) := by
            have h1 := hrun.out
            rwa [List.drop_eq_nil_of_le (by rw [HN.out]; omega), rowG] at h1
          go_wp2
          go_roundw
          case rel => exact ⟨k + 1, N, a1, c1, a2, c2, out, rfl, rfl, by go_num, by omega, hN, hst, hrun2⟩
          case measure => simp [intOf]; omega
    · have hd : decide (k < N) = false := decide_eq_false hlt
      have hfin : Hid (out = allG p rs) := by
        have h1 := hrun.out
        rwa [grp_out (by have := hst.le.2.1; omega)] at h1
      obtain ⟨S1, S2, ws, G1, _, _, _, _, _, _, B⟩ := hst
      rw [hfin.out] at G1
      go_wp2
      go_ret2
      exact ⟨_, _, _, rfl, G1, B⟩

end Go.Proofs.Ytojkiajempdmfaa
