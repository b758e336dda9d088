/- The walks of l4Orbit and OrbitOf, the reference's. -/
import Derived.Test.YtojkiajempdmfaaGy
import Derived.Deep.RegionLaw
namespace Go.Proofs.Ytojkiajempdmfaa
open Go Go.RowKit

theorem hasL_true {xs : List Int} {x : Int} (h : x ∈ xs) : hasL xs x = true := by simpa [hasL] using h
theorem hasL_false {xs : List Int} {x : Int} (h : x ∉ xs) : hasL xs x = false := by simpa [hasL] using h

theorem nu_of {S : Nat → Prop} {u : Value} {a b c d : Nat} (h : ∀ k, S k → a ≤ k ∧ k < b) (h2 : ∀ k, u.ownBlock = some k → c ≤ k ∧ k < d) (hbc : b ≤ c) : ∀ k, u.ownBlock = some k → ¬ S k := fun k hk hs => by
  have := (h k hs).2
  have := (h2 k hk).1
  omega

def RetOrb (w : World) (xs : List Int) (e : Ending) (w' : World) : Prop :=
  ∃ v1 v2, e = .returned (.tuple #[v1, v2]) ∧ Own w' w.heap.size v1 xs ∧ Below w.heap.size w w'

set_option maxRecDepth 100000 in
set_option maxHeartbeats 4000000 in
theorem l4Orbit_any (p : Int) (y : Nat) (ao : Option Addr) (rs : List (List Int)) (n c : Nat) (w : World) (hn : rs.length = n) (hl : n ≤ 1048576) (hok : OrbOk p rs y) (hx : RowsAt w ao rs) :
    Calls Try.prog 29 #[.int .i64 p, .slice ao n c, .int .i64 y] w (RetOrb w (orbL rs y)) := by
  have HN := hid hn
  have HMO := hid hok.1
  have hp1 := hok.1.1
  have hp5 := hok.1.2.1
  have hyp := hok.2.2
  have hn3 : n ≤ 3 := by have := hok.1.2.2.1; omega
  obtain ⟨q, hq⟩ : ∃ q : Nat, p = q := Int.eq_ofNat_of_zero_le (by omega)
  have hlq : Hid ((noneL p).length = q) := by have := length_none (p := p) ⟨hp1, hp5⟩; unfold Hid; omega
  have hpn := hid (permOk_none (p := p) ⟨hp1, hp5⟩)
  have HQ := hid hq
  have hq5 : q ≤ 5 := by omega
  have hyq : y < q := by omega
  clear hok hn hq
  have b0 : Below w.heap.size w (w.alloc (.cells #[.int .i64 y] 3)) := (Below.refl _ _).alloc (Nat.le_refl _) _
  have of := Own.lit1 w y (Nat.le_refl _)
  go_enter Try.func29, Try.ntmps29
  go_wp2_with fail
  refine (specPermNone_any p _).mono fun e w1 h => ?_
  obtain ⟨ao1, c1, rfl, o1, b1'⟩ := h.to hlq.out
  clear h
  have b2' := b0.trans (b1'.mono b0.size)
  have of2 := of.below b1' (Nat.le_refl _)
  have g2 := GRow.one (o1.lower (B' := w.heap.size) b0.size) (B := w.heap.size) b2'.size
  have hlt1 := World.ownsRow.lt o1
  have HLT := hid hlt1
  have hfs := World.ownsRow.lt of2 w.heap.size rfl
  have B := b2'.alloc b2'.size (.cells #[.slice ao1 q c1] 28)
  have of3 := of2.alloc (.cells #[.slice ao1 q c1] 28)
  have hd3 : ∀ k, (Value.slice (some ⟨w.heap.size, 0, none⟩) 1 1).ownBlock = some k → ¬ (k = w1.heap.size ∨ (Value.slice ao1 q c1).ownBlock = some k) := fun k hk hs => by
    obtain rfl : w.heap.size = k := Option.some.inj hk
    rcases hs with hs | hs
    · omega
    · have := (HLT.out _ hs).1; rw [World.size_alloc] at this; omega
  have hst : OrbT w.heap.size (w1.alloc (.cells #[.slice ao1 q c1] 28)) q 1 (some ⟨w.heap.size, 0, none⟩) 1 (some ⟨w1.heap.size, 0, none⟩) 1 [(y : Int)] :=
    ⟨_, _, of3, g2, hd3, rfl, rfl, fun x hx => by rw [List.mem_singleton.1 hx]; exact ⟨hpn.out, hlq.out⟩, ⟨fun x hx => by rw [List.mem_singleton.1 hx]; omega, by simp⟩⟩
  have hrun : Hid (orbF rs 6 0 [(y : Int)] = orbL rs y) := rfl
  clear b0 of b1' b2' of2 g2 o1 hlt1 hfs of3 HLT hd3
  go_wp2_with fail
  go_loopw [8, 9, 10, 11, 12] (fun s5 s6 s8 _ _ wr => ∃ (k N : Nat) (a1 : Option Addr) (c1 : Nat) (a2 : Option Addr) (c2 : Nat) (out : List Int), s5 = .slice a1 N c1 ∧ s6 = .slice a2 N c2 ∧ s8 = .int .i64 k ∧ k ≤ N ∧ N ≤ 5 ∧ OrbT w.heap.size wr q N a1 c1 a2 c2 out ∧ Hid (orbF rs (6 - k) k out = orbL rs y) ∧ Below w.heap.size w wr) (fun _ _ s8 _ _ _ => 6 - (intOf s8).toNat)
  case atStart => exact ⟨0, 1, _, _, _, _, _, rfl, rfl, rfl, by omega, by omega, hst, hrun, B⟩
  case round =>
    clear hst hrun B
    obtain ⟨k, N, a1, c1, a2, c2, out, rfl, rfl, rfl, hk, hN, hst, hrun, hB⟩ := hrel
    by_cases hlt : k < N
    · obtain ⟨g1, rfl, _, hx0, hxq⟩ := hst.place hlt
      obtain ⟨x, hx1⟩ : ∃ x : Nat, nth out k = x := Int.eq_ofNat_of_zero_le hx0
      rw [hx1] at hxq
      have HX := hid hx1
      have hx5 : x < 5 := by omega
      have hrun2 : Hid (orbF rs (6 - (k + 1)) (k + 1) (rowO x (rs.drop 0) out) = orbL rs y) := by
        have h1 := hrun.out
        rw [orbF_in (by omega) (by have := hst.le.2.1; omega), HX.out] at h1
        exact h1
      clear hrun hx0 hx1
      go_wp2
      obtain ⟨wo, hwo⟩ : ∃ wo : World, wo = wr := ⟨_, rfl⟩
      subst hwo
      go_loopw [8, 9, 11, 12] (fun s5 s6 s38 _ wi => ∃ (j N' : Nat) (a1' : Option Addr) (c1' : Nat) (a2' : Option Addr) (c2' : Nat) (out' : List Int), s5 = .slice a1' N' c1' ∧ s6 = .slice a2' N' c2' ∧ s38 = .int .i64 j ∧ j ≤ n ∧ k < N' ∧ N' ≤ 5 ∧ OrbT w.heap.size wi q N' a1' c1' a2' c2' out' ∧ Hid (nth out' k = x) ∧ Hid (orbF rs (6 - (k + 1)) (k + 1) (rowO x (rs.drop j) out') = orbL rs y) ∧ Below w.heap.size w wi) (fun _ _ s38 _ _ => n - (intOf s38).toNat)
      case atStart => exact ⟨0, N, _, _, _, _, out, rfl, rfl, rfl, Nat.zero_le _, hlt, hN, hst, HX, hrun2, hB⟩
      case round =>
        clear hst hrun2 HX hB hlt hk hN
        obtain ⟨j, N, a1, c1, a2, c2, out, rfl, rfl, rfl, hj, hlt, hN, hst, hxo, hrun, hB⟩ := hrel
        by_cases hjn : j < n
        · have hjl : j < rs.length := by rw [HN.out]; exact hjn
          have hle := hst.le
          have hol := hid hle.2.1
          have hdis := hid hle.2.2
          clear hle
          obtain ⟨g1, rfl, hc1, _, _⟩ := hst.place hlt
          rw [hxo.out] at hc1
          obtain ⟨mb, mo, rfl, hr⟩ := (hx.below hB (Nat.le_refl _)) (by omega)
          obtain ⟨ma, mc, hcj, hl2, hcm, hin⟩ := hr j hjl
          have hrow := movesOk_row HMO.out hjl
          have hrl : (nthR rs j).length = q := by have := HQ.out; omega
          have HRL := hid hrl
          have HRP := hid hrow.2
          rw [hrl] at hcj hl2
          obtain ⟨mb2, mo2, rfl, hct⟩ := hin (by omega)
          have hct := hct x (by omega)
          have htr : 0 ≤ nth (nthR rs j) x ∧ nth (nthR rs j) x < q := by have := hrow.2.2.2.1 _ (nth_mem (xs := nthR rs j) (j := x) (by omega)); rwa [hrl] at this
          obtain ⟨t, ht⟩ : ∃ t : Nat, nth (nthR rs j) x = t := Int.eq_ofNat_of_zero_le htr.1
          rw [ht] at hct htr
          have HT := hid ht
          have htq : t < q := by omega
          clear hr hrow ht hrl
          go_wp2
          go_quiet (fail)
          rename_i nq
          have hst := hst.below (below_drewN (Below.refl wr.heap.size wr) nq)
          have hB := below_drewN hB nq
          have hi2 : IntsAt (wr.drewN nq) (some ⟨mb2, mo2, none⟩) (nthR rs j) := hin
          have hcj2 : (wr.drewN nq).cell? ⟨mb, mo + j, none⟩ = some (.slice (some ⟨mb2, mo2, none⟩) q mc) := hcj
          clear hc1 hct hcj hin
          generalize wr.drewN nq = wd at *
          obtain ⟨SS, bys, of, og, hdj, _, hbl, hbp, _⟩ := id hst
          have hof := of.ints
          by_cases hmem : (t : Int) ∈ out
          · have hh := hid (hasL_true hmem)
            have hrun2 : Hid (orbF rs (6 - (k + 1)) (k + 1) (rowO x (rs.drop (j + 1)) out) = orbL rs y) := by
              have h1 := hrun.out
              rw [drop_nthR hjl, rowO, HT.out, addO_old hmem] at h1
              exact h1
            clear hmem of og hdj hbl hbp
            go_wp2_with (go_at_call 30; refine (l1Has_any _ out N c1 t wd hol.out (by omega) hof).mono ?_; rintro e w3 ⟨rfl, rfl⟩; rw [hh.out])
            go_roundw
            case rel => exact ⟨j + 1, N, _, c1, a2, c2, out, rfl, rfl, by go_num, by omega, hlt, hN, hst, hxo, hrun2, hB⟩
            case measure => simp [intOf]; omega
          · have hh := hid (hasL_false hmem)
            have hrun2 : Hid (orbF rs (6 - (k + 1)) (k + 1) (rowO x (rs.drop (j + 1)) (out ++ [(t : Int)])) = orbL rs y) := by
              have h1 := hrun.out
              rw [drop_nthR hjl, rowO, HT.out, addO_new hmem] at h1
              exact h1
            have hdis2 := hid (dis_add hdis.out htr hmem)
            have hxo2 : Hid (nth (out ++ [(t : Int)]) k = x) := (nth_app1 (by rw [hol.out]; exact hlt)).trans hxo.out
            have hLN : Hid ((out ++ [(t : Int)]).length = N + 1) := by have := hol.out; simp [Hid]; omega
            have hN1 : N + 1 ≤ 5 := by have := dis_len hdis2.out; rw [hLN.out] at this; omega
            have HDJ := hid hdj
            have HBL := hid hbl
            have HBP := hid hbp
            have hogl := hid og.lt
            have hogh := hid og.head
            have hofl := hid (World.ownsRow.lt of)
            have of1 := of.alloc (.cells #[.int .i64 t] 3)
            have ol1 := Own.lit1 wd (t : Int) (Nat.le_refl _)
            have hWd : w.heap.size ≤ wd.heap.size := hB.size
            have hsz1 : w.heap.size ≤ (wd.alloc (.cells #[.int .i64 t] 3)).heap.size := by simp; omega
            clear hmem hdj hbl hbp of
            go_wp2_with fail
            refine (l1Has_any _ out N c1 t wd hol.out (by omega) hof).mono fun e w3 h => ?_
            rw [hh.out] at h
            obtain ⟨rfl, rfl⟩ := h
            clear hof
            go_wp2_with (at_builtin; refine wpList_appendL rfl _ _ rfl rfl of1 rfl ol1 hsz1 ?hl1 ?_)
            case hl1 => rw [hol.out]; simp; omega
            intro v5 w5 of5 hg5 hat5
            obtain ⟨a5, c5, hv5, _, _⟩ := of5.shapeN hLN.out
            subst hv5
            have hAT5 := hid hat5
            have B5 := (hB.alloc hWd (.cells #[.int .i64 t] 3)).grown hg5 hsz1 (fun r e => (hofl.out r e).1)
            have og5 := (og.alloc (.cells #[.int .i64 t] 3)).kept hg5 (fun k e hs => HDJ.out k e hs)
            have h15 : wd.heap.size + 1 ≤ w5.heap.size := by have := hg5.size; rwa [World.size_alloc] at this
            obtain ⟨g2, u2, e2, hc2, o2, _⟩ := og5.row (k := k) (by rw [HBL.out]; exact hlt)
            subst e2
            have hp2 := HBP.out _ (nthR_mem (rs := bys) (k := k) (by rw [HBL.out]; exact hlt))
            obtain ⟨r2, rc2, rfl, hi5, hqr⟩ := o2.shapeN hp2.2
            obtain ⟨mb3, mo3, e3, hr3⟩ := (hx.below B5 (Nat.le_refl _)) (by omega)
            cases e3
            obtain ⟨ma3, mc3, hc5, hl3, _, hin5⟩ := hr3 j hjl
            rw [HRL.out] at hc5 hl3
            obtain ⟨x2, hx2⟩ : ∃ x2, nthR bys k = x2 := ⟨_, rfl⟩
            rw [hx2] at hp2 hi5
            have HP2 := hid hp2.1
            have HL2 := hid hp2.2
            have hal : Hid ((joinL x2 (nthR rs j)).length = q) := (length_joinL _ _).trans HL2.out
            have hpj := hid (permOk_join HP2.out HRP.out (by rw [HL2.out, HRL.out]))
            have hth : Hid (thenL x2 (nthR rs j) = joinL x2 (nthR rs j)) := thenL_in ⟨HP2.out, HRP.out, by rw [HL2.out, HRL.out]⟩
            have hofl5 := hid (World.ownsRow.lt of5)
            have hd1 : decide (k < N) = true := decide_eq_true hlt
            clear hx2 hp2 o2 og of1 ol1 hg5 hat5 hst hB hr3 hcj2 hi2
            have of5 : Own w5.drew w.heap.size _ _ := of5
            have og5 : GRow w5.drew w.heap.size _ _ _ := og5
            have B5 := B5.drew
            have hi5 : IntsAt w5.drew r2 x2 := hi5
            have hin5 : IntsAt w5.drew ma3 (nthR rs j) := hin5
            have hofl5 : Hid (∀ k, (Value.slice a5 (N + 1) c5).ownBlock = some k → w.heap.size ≤ k ∧ k < w5.drew.heap.size) := hofl5
            have h15 : wd.heap.size + 1 ≤ w5.drew.heap.size := h15
            go_wp2
            go_upto_region 12 with fail
            go_region_law (first
              | (refine step_appendG rfl (.tmp 48) (.tmp 58) rfl rfl (og6.alloc (.cells #[.slice aj q cj] 28)) (oj6.alloc (.cells #[.slice aj q cj] 28)) hnu6 (by simp; omega) ⟨w6.heap.size, 0, none⟩ 1 rfl (by rw [cellNew]; rfl) (by rw [HBL.out]; omega) ?_
                 intro v7 w7 og7 hg7)
              | (go_simp
                 go_wp2_with (go_at_call 33; refine (specPermThen_any r2 ma3 x2 (nthR rs j) q q rc2 mc3 w5.drew HL2.out HRL.out (by omega) (by omega) hqr hl3 hi5 hin5).mono fun e w6 h => ?_; rw [hth.out] at h; obtain ⟨aj, cj, rfl, oj, b6⟩ := h.to hal.out; clear h; have hojl := hid (World.ownsRow.lt oj); have og6 := og5.below b6 (Nat.le_refl _); have h56 := b6.size; have oj6 := oj.lower (B' := w.heap.size) (by omega); have hnu6 := hid (nu_of hogl.out (World.ownsRow.lt oj) (by omega)))))
            all_goals
              have of6 := of5.below b6 (Nat.le_refl _)
              have B6 := B5.trans (b6.mono B5.size)
              have HBN : Hid ((bys ++ [joinL x2 (nthR rs j)]).length = N + 1) := by have := HBL.out; simp [Hid]; omega
              obtain ⟨a7, c7, rfl, _, _⟩ := og7.shapeN HBN.out
              have hg2S := hogh.out g2 rfl
              have hg2l := hogl.out g2 hg2S
              have hv5k : Hid (∀ k, (Value.slice a5 (N + 1) c5).ownBlock = some k → (k = g1 ∨ k = wd.heap.size + 1) ∧ k < w5.drew.heap.size) := fun k hk => by
                refine ⟨?_, (hofl5.out k hk).2⟩
                rcases hAT5.out with e | e
                · rw [e] at hk; exact .inl (Option.some.inj hk).symm
                · rw [e] at hk; (try rw [World.size_alloc] at hk); exact .inr (Option.some.inj hk).symm
              have HG1 := hid (HDJ.out g1 rfl)
              have hg1l := (hofl.out g1 rfl).2
              have of7 := (of6.alloc (.cells #[.slice aj q cj] 28)).kept hg7 (by
                cases hb : (Value.slice a5 (N + 1) c5).ownBlock with
                | none => exact .inl rfl
                | some k =>
                  refine .inr fun e => ?_
                  have hk : k = g2 := Option.some.inj e
                  rcases (hv5k.out k hb).1 with e1 | e1
                  · exact HG1.out (by rw [← e1, hk]; exact hg2S)
                  · omega)
              have B7 := (B6.alloc B6.size (.cells #[.slice aj q cj] 28)).grown hg7 (by have := B6.size; simp; omega) (fun r e => by have : g2 = r := Option.some.inj e; omega)
              have hst7 : OrbT w.heap.size w7 q (N + 1) a5 c5 a7 c7 (out ++ [(t : Int)]) := by
                refine ⟨_, _, of7, og7, fun k hk hs => ?_, hLN.out, HBN.out, fun z hz => ?_, hdis2.out⟩
                · have h1 := hv5k.out k hk
                  rcases hs with hs | hs | ⟨_, hs⟩
                  · rcases h1.1 with e | e
                    · rw [e] at hs; exact HG1.out hs
                    · have := (hogl.out k hs).2; omega
                  · have := (hojl.out k hs).1; omega
                  · (try rw [World.size_alloc] at hs); omega
                · rcases List.mem_append.1 hz with hz | hz
                  · exact HBP.out z hz
                  · rw [List.mem_singleton.1 hz]; exact ⟨hpj.out, hal.out⟩
              clear of6 og6 B6 oj6 og7 hg7 of7 hg2S of5 og5 B5 hi5 hin5 b6 oj hc2 hc5
              go_wp2
              go_roundw
              case rel => exact ⟨j + 1, N + 1, a5, c5, a7, c7, _, rfl, rfl, by go_num, by omega, by omega, hN1, hst7, hxo2, hrun2, B7⟩
              case measure => simp [intOf]; omega
        · have hd : decide (j < n) = false := decide_eq_false (by omega)
          have hrun2 : Hid (orbF rs (6 - (k + 1)) (k + 1) out = orbL rs y) := by
            have h1 := hrun.out
            rwa [List.drop_eq_nil_of_le (by rw [HN.out]; omega), rowO] at h1
          go_wp2
          go_roundw
          case rel => exact ⟨k + 1, N, a1, c1, a2, c2, out, rfl, rfl, by go_num, by omega, hN, hst, hrun2, hB⟩
          case measure => simp [intOf]; omega
    · have hd : decide (k < N) = false := decide_eq_false hlt
      have hfin : out = orbL rs y := by
        have h1 := hrun.out
        have h2 := hst.le.2.1
        rwa [orbF_out (by omega)] at h1
      obtain ⟨SS, bys, of, _⟩ := hst
      rw [hfin] at of
      clear hfin
      go_wp2
      go_ret2
      exact ⟨_, _, rfl, of, hB⟩

set_option maxRecDepth 100000 in
set_option maxHeartbeats 4000000 in
theorem specOrbitOf_any (p y : Int) (ao : Option Addr) (rs : List (List Int)) (n c : Nat) (w : World) (hn : rs.length = n) (hl : n ≤ 1048576) (hls : ∀ r ∈ rs, r.length ≤ 1048576) (hx : RowsAt w ao rs) :
    Calls Try.prog 12 #[.int .i64 p, .slice ao n c, .int .i64 y] w (RetOwn w (orbR p rs y)) := by
  have HN := hid hn
  have HLS := hid hls
  clear hn hls
  have o0 := Own.lit0 w (Nat.le_refl w.heap.size)
  have B0 := (Below.refl w.heap.size w).alloc (Nat.le_refl _) (.cells #[] 3)
  by_cases hok : OrbOk p rs y
  rotate_left
  · have hL := hid (orbR_out hok)
    by_cases hmo : MovesOk p rs
    · have hb := movesB_true hmo
      have hp5 := hmo.2.1
      have hp1 := hmo.1
      have HR : Hid (inR 0 (p - 1) y = false) := inR_out fun h => hok ⟨hmo, by omega, by omega⟩
      clear hok hmo
      go_enter Try.func12, Try.ntmps12
      go_wp2_with fail
      refine (specMovesValid_any p ao rs n c _ HN.out hl HLS.out (hx.below B0 (Nat.le_refl _))).mono fun e w1 h => ?_
      rw [hb] at h
      obtain ⟨rfl, b⟩ := h
      have o := o0.below b (Nat.le_refl _)
      have B := B0.trans (b.mono B0.size)
      clear o0 B0 b
      go_wp2_with (go_at_call 28; refine (l1In_any _ _ _ _).mono ?_; rintro e w' ⟨rfl, rfl⟩; rw [HR.out])
      go_ret
      rw [hL.out]
      exact RetOwn.mk (xs := []) rfl o B
    · have hb := movesB_false hmo
      go_enter Try.func12, Try.ntmps12
      go_wp2_with fail
      refine (specMovesValid_any p ao rs n c _ HN.out hl HLS.out (hx.below B0 (Nat.le_refl _))).mono fun e w1 h => ?_
      rw [hb] at h
      obtain ⟨rfl, b⟩ := h
      have o := o0.below b (Nat.le_refl _)
      have B := B0.trans (b.mono B0.size)
      clear o0 B0 b
      go_wp2_with fail
      go_ret
      rw [hL.out]
      exact RetOwn.mk (xs := []) rfl o B
  have hL := hid (orbR_in hok)
  have hb := movesB_true hok.1
  have HOK := hid hok
  have hp1 := hok.1.1
  have hp5 := hok.1.2.1
  obtain ⟨q, hq⟩ : ∃ q : Nat, p = q := Int.eq_ofNat_of_zero_le (by omega)
  obtain ⟨x, hxx⟩ : ∃ x : Nat, y = x := Int.eq_ofNat_of_zero_le hok.2.1
  have HR : Hid (inR 0 (p - 1) y = true) := inR_in (by have := hok.2; omega)
  subst hq hxx
  clear hok
  go_enter Try.func12, Try.ntmps12
  go_wp2_with fail
  refine (specMovesValid_any (q : Int) ao rs n c _ HN.out hl HLS.out (hx.below B0 (Nat.le_refl _))).mono fun e w1 h => ?_
  rw [hb] at h
  obtain ⟨rfl, b⟩ := h
  have o := o0.below b (Nat.le_refl _)
  have B := B0.trans (b.mono B0.size)
  clear o0 B0 b hb
  go_wp2_with (go_at_call 28; refine (l1In_any _ _ _ _).mono ?_; rintro e w' ⟨rfl, rfl⟩; rw [HR.out])
  refine (l4Orbit_any (q : Int) x ao rs n c _ HN.out hl HOK.out (hx.below B (Nat.le_refl _))).mono fun e w2 h => ?_
  obtain ⟨v1, v2, rfl, ov, b⟩ := h
  have o0' := o
  have hBs := B.size
  have o := o.below b (Nat.le_refl _)
  have B := B.trans (b.mono B.size)
  have hdis := hid (orbL_ok HOK.out)
  generalize orbL rs x = out at *
  have hq : ((q : Int)).toNat = q := by simp
  rw [hq] at hdis hL
  obtain ⟨N, hN⟩ : ∃ N, out.length = N := ⟨_, rfl⟩
  have hN5 : N ≤ 5 := by have := dis_len hdis.out; omega
  have HNN := hid hN
  obtain ⟨a1, c1, rfl, hoi, _⟩ := ov.shapeN hN
  have hap : Hid (∀ k, (Value.slice (some ⟨w.heap.size, 0, none⟩) 0 0).ownBlock = some k → (Value.slice a1 N c1).ownBlock ≠ some k) := fun k hk e => by
    have hk' : w.heap.size = k := by simpa [Value.ownBlock] using hk
    subst hk'
    have h2 := (World.ownsRow.lt ov w.heap.size e).1
    have h3 := (World.ownsRow.lt o0' w.heap.size rfl).2
    omega
  have ov := ov.lower (B' := w.heap.size) hBs
  have HLO := hid (World.ownsRow.lt ov)
  clear hq b hN o0'
  go_wp2_with fail
  go_loopw [7, 10] (fun v i wr => ∃ k : Nat, k ≤ q ∧ i = .int .i64 k ∧ Own wr w.heap.size v (selL out k) ∧ Own wr w.heap.size (.slice a1 N c1) out ∧ Hid (∀ k, v.ownBlock = some k → (Value.slice a1 N c1).ownBlock ≠ some k) ∧ w2.heap.size ≤ wr.heap.size ∧ Below w.heap.size w wr) (fun _ i _ => q - (intOf i).toNat)
  case atStart => exact ⟨0, Nat.zero_le _, rfl, o, ov, hap, Nat.le_refl _, B⟩
  case round =>
    clear o B ov hap hoi
    obtain ⟨k, hk, rfl, ho, hv, hap, hsz2, hB⟩ := hrel
    by_cases hlt : k < q
    · have hsl := length_selL out k
      have hvi := hv.ints
      have hwr := hB.size
      by_cases hmem : (k : Int) ∈ out
      · have hh := hid (hasL_true hmem)
        have hsel : Hid (selL out (k + 1) = selL out k ++ [(k : Int)]) := by unfold Hid; rw [selL, if_pos hmem]
        have ol := Own.lit1 wr (k : Int) (Nat.le_refl _)
        have hsz : w.heap.size ≤ (wr.alloc (.cells #[.int .i64 k] 3)).heap.size := by simp; omega
        have ho1 := ho.alloc (.cells #[.int .i64 k] 3)
        clear hmem ho
        go_wp2_with fail
        refine (l1Has_any a1 out N c1 (k : Int) wr HNN.out (by omega) hvi).mono fun e w3 h => ?_
        rw [hh.out] at h
        obtain ⟨rfl, rfl⟩ := h
        go_wp2_with (at_builtin; refine wpList_appendL rfl _ _ rfl rfl ho1 rfl ol hsz (by simp; omega) ?_)
        intro v2 w3 ho2 hg2 hat
        rw [← hsel.out] at ho2
        have hB2 := (hB.alloc hB.size (.cells #[.int .i64 k] 3)).grown hg2 hsz (fun r e => (World.ownsRow.lt ho1 r e).1)
        have hap' := hap
        have hv2 := (hv.alloc (.cells #[.int .i64 k] 3)).kept hg2 (by
          cases hb : (Value.slice a1 N c1).ownBlock with
          | none => exact .inl rfl
          | some g => exact .inr fun e => hap'.out g e.symm hb)
        have hap2 : Hid (∀ k, v2.ownBlock = some k → (Value.slice a1 N c1).ownBlock ≠ some k) := fun g hg e => by
          rcases hat with e2 | e2
          · exact hap'.out g (e2 ▸ hg) e
          · have h1 := (HLO.out g e).2
            rw [e2] at hg
            have h2 := Option.some.inj hg
            (try rw [World.size_alloc] at h2)
            omega
        have hs3 : w2.heap.size ≤ w3.heap.size := by have := hg2.size; rw [World.size_alloc] at this; omega
        clear ho1 hg2 hB ol hv hap hat hap' hvi
        go_wp2
        go_roundw
        case rel => exact ⟨k + 1, by omega, by go_num, ho2, hv2, hap2, hs3, hB2⟩
        case measure => simp [intOf]; omega
      · have hh := hid (hasL_false hmem)
        have hsel : Hid (selL out (k + 1) = selL out k) := by unfold Hid; rw [selL, if_neg hmem]
        rw [← hsel.out] at ho
        clear hmem
        go_wp2_with fail
        refine (l1Has_any a1 out N c1 (k : Int) wr HNN.out (by omega) hvi).mono fun e w3 h => ?_
        rw [hh.out] at h
        obtain ⟨rfl, rfl⟩ := h
        go_wp2
        go_roundw
        case rel => exact ⟨k + 1, by omega, by go_num, ho, hv, hap, hsz2, hB⟩
        case measure => simp [intOf]; omega
    · obtain rfl : k = q := by omega
      have hd9 : decide (k < k) = false := decide_eq_false (by omega)
      obtain ⟨ao2, c2, rfl, _, _⟩ := ho.shape
      have hfin := RetOwn.mk (w := w) rfl ho hB
      have HF := hid hfin
      clear hfin ho hv hap
      go_wp2
      go_ret
      rw [hL.out]
      exact HF.out

end Go.Proofs.Ytojkiajempdmfaa
