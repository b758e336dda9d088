/- The walks of WordPerm, the program's and the reference's. -/
import Derived.Test.YtkiealpfeaifiaaPn
import Derived.Test.YtkiealpfeaifiaaPj
import Derived.Test.YtkiealpfeaifiaaMv
namespace Go.Proofs.Ytkiealpfeaifiaa
open Go Go.RowKit

/-- What a word makes; none if one of its generators is not there. -/
def wordR (rs : List (List Int)) : List Int → List Int → Option (List Int)
  | acc, [] => some acc
  | acc, i :: is => if 0 ≤ i ∧ i < rs.length then wordR rs (joinL acc (nthR rs i.toNat)) is else none
def wordL (p : Int) (rs : List (List Int)) (ws : List Int) : List Int := if MovesOk p rs then (wordR rs (noneL p) ws).getD [] else []
theorem wordL_out {p : Int} {rs : List (List Int)} {ws : List Int} (h : ¬ MovesOk p rs) : wordL p rs ws = [] := if_neg h
theorem wordL_in {p : Int} {rs : List (List Int)} {ws : List Int} (h : MovesOk p rs) : wordL p rs ws = (wordR rs (noneL p) ws).getD [] := if_pos h
theorem wordR_yes {rs : List (List Int)} {acc ws : List Int} {k : Nat} (hk : k < ws.length) (h : 0 ≤ nth ws k ∧ nth ws k < rs.length) : wordR rs acc (ws.drop k) = wordR rs (joinL acc (nthR rs (nth ws k).toNat)) (ws.drop (k + 1)) := by
  rw [List.drop_eq_getElem_cons hk, ← nth_eq hk, wordR, if_pos h]
theorem wordR_no {rs : List (List Int)} {acc ws : List Int} {k : Nat} (hk : k < ws.length) (h : ¬ (0 ≤ nth ws k ∧ nth ws k < rs.length)) : wordR rs acc (ws.drop k) = none := by
  rw [List.drop_eq_getElem_cons hk, ← nth_eq hk, wordR, if_neg h]

theorem nth_inj' {n : Nat} {xs : List Int} (h : Dis n xs) {i j : Nat} (hi : i < xs.length) (hj : j < xs.length) (e : nth xs i = nth xs j) : i = j := by
  rw [nth_eq hi, nth_eq hj] at e
  exact (List.getElem_inj h.2).1 e

theorem dis_join {n : Nat} {xs ys : List Int} (hx : Dis n xs) (hy : Dis n ys) (hl : ys.length = n) : Dis n (joinL xs ys) := by
  refine ⟨fun x hx' => ?_, ?_⟩
  · obtain ⟨a, ha, rfl⟩ := List.mem_map.1 hx'
    have := hx.1 a ha
    exact hy.1 _ (nth_mem (by omega))
  · unfold joinL List.Nodup
    rw [List.pairwise_map]
    refine List.Pairwise.imp_of_mem (fun {a b} ha hb hab e => hab ?_) hx.2
    have h1 := hx.1 a ha
    have h2 := hx.1 b hb
    have := nth_inj' hy (by omega) (by omega) e
    omega

theorem permOk_join {xs ys : List Int} (hx : PermOk xs) (hy : PermOk ys) (hl : xs.length = ys.length) : PermOk (joinL xs ys) := by
  refine ⟨by rw [length_joinL]; exact hx.1, by rw [length_joinL]; exact hx.2.1, ?_⟩
  rw [length_joinL]
  exact dis_join hx.2.2 (by rw [hl]; exact hy.2.2) hl.symm

theorem permOk_none {p : Int} (h : 1 ≤ p ∧ p ≤ 5) : PermOk (noneL p) := by
  have hl : (noneL p).length = p.toNat := by rw [noneL_in h, length_iota]
  refine ⟨by omega, by omega, ?_⟩
  rw [hl, noneL_in h]
  refine ⟨fun x hx => ?_, ?_⟩
  · obtain ⟨j, hj, rfl⟩ := List.mem_map.1 hx
    have := List.mem_range.1 hj
    omega
  · unfold iota List.Nodup
    rw [List.pairwise_map]
    exact List.Pairwise.imp (fun {a b} h => by omega) (List.pairwise_lt_range)

theorem length_none {p : Int} (h : 1 ≤ p ∧ p ≤ 5) : ((noneL p).length : Int) = p := by rw [noneL_in h, length_iota]; omega

theorem length_wordR (rs : List (List Int)) : ∀ (ws acc ys : List Int), wordR rs acc ws = some ys → ys.length = acc.length
  | [], acc, ys, h => by rw [wordR] at h; cases h; rfl
  | i :: is, acc, ys, h => by
    rw [wordR] at h
    split at h
    · rw [length_wordR rs is _ _ h, length_joinL]
    · cases h
theorem length_wordL (p : Int) (rs : List (List Int)) (ws : List Int) : (wordL p rs ws).length ≤ 17592186044416 - 1048576 := by
  by_cases h : MovesOk p rs
  · rw [wordL_in h]
    cases hw : wordR rs (noneL p) ws with
    | none => simp
    | some ys =>
      have h1 := length_wordR rs ws _ ys hw
      have h2 := length_none (p := p) ⟨h.1, h.2.1⟩
      have h3 := h.2.1
      simp only [Option.getD_some]; omega
  · rw [wordL_out h]; simp

set_option maxRecDepth 100000 in
set_option maxHeartbeats 1000000 in
theorem implWordPerm_any (p : Int) (ao : Option Addr) (rs : List (List Int)) (n c : Nat) (to : Option Addr) (ws : List Int) (m d : Nat) (w : World) (hn : rs.length = n) (hl : n ≤ 1048576) (hls : ∀ r ∈ rs, r.length ≤ 1048576) (hx : RowsAt w ao rs)
    (hm : ws.length = m) (hlm : m ≤ 17592186044416) (ht : IntsAt w to ws) :
    Calls Try.prog 12 #[.int .i64 p, .slice ao n c, .slice to m d] w (RetOwn w (wordL p rs ws)) := by
  have HN := hid hn
  have HM := hid hm
  have HLS := hid hls
  clear hn hm hls
  by_cases hmo : MovesOk p rs
  rotate_left
  · have hL := hid (wordL_out (ws := ws) hmo)
    have hb := movesB_false hmo
    go_enter Try.func12, Try.ntmps12
    go_wp2_with fail
    refine (implMovesValid_any p ao rs n c w HN.out hl HLS.out hx).mono fun e w1 h => ?_
    rw [hb] at h
    obtain ⟨rfl, rfl⟩ := h
    go_wp2_with fail
    go_ret
    rw [hL.out]
    exact RetOwn.mk (xs := []) rfl (Own.nil _ _) (Below.refl _ _)
  have hL := hid (wordL_in (ws := ws) hmo)
  have hb := movesB_true hmo
  have HMO := hid hmo
  have hp1 := hmo.1
  have hp5 := hmo.2.1
  obtain ⟨q, hq⟩ : ∃ q : Nat, p = q := Int.eq_ofNat_of_zero_le (by omega)
  have hlq : Hid ((noneL p).length = q) := by have := length_none (p := p) ⟨hp1, hp5⟩; unfold Hid; omega
  have hpn := hid (permOk_none (p := p) ⟨hp1, hp5⟩)
  have HQ := hid hq
  have hq5 : q ≤ 5 := by omega
  clear hmo hq
  go_enter Try.func12, Try.ntmps12
  go_wp2_with fail
  refine (implMovesValid_any p ao rs n c w HN.out hl HLS.out hx).mono fun e w1 h => ?_
  rw [hb] at h
  obtain ⟨rfl, rfl⟩ := h
  clear hb
  go_wp2_with fail
  refine (implPermNone_any p w).mono fun e w1 h => ?_
  obtain ⟨ao1, c1, rfl, o1, B⟩ := h.to hlq.out
  clear h
  go_wp2
  go_loopw [7, 9, 18] (fun v _ i wr => ∃ (k : Nat) (acc : List Int) (ao' : Option Addr) (c' : Nat), k ≤ m ∧ i = .int .i64 k ∧ v = .slice ao' q c' ∧ Own wr w.heap.size (.slice ao' q c') acc ∧ Hid (acc.length = q) ∧ Hid (PermOk acc) ∧ Hid (wordR rs (noneL p) ws = wordR rs acc (ws.drop k)) ∧ Below w.heap.size w wr) (fun _ _ i _ => m - (intOf i).toNat)
  case atStart => exact ⟨0, noneL p, ao1, c1, Nat.zero_le _, rfl, rfl, o1, hlq, hpn, by rw [List.drop_zero]; rfl, B⟩
  case round =>
    obtain ⟨k, acc, ao', c', hk, rfl, rfl, hor, hal, hao, hrun, hB⟩ := hrel
    clear o1 B
    by_cases hlt : k < m
    · have hkl : k < ws.length := by rw [HM.out]; exact hlt
      obtain ⟨tb, toff, rfl, htc⟩ := (ht.below hB (Nat.le_refl _)) (by omega)
      have hck := htc k hkl
      clear htc
      by_cases hi : 0 ≤ nth ws k ∧ nth ws k < n
      · obtain ⟨j, hj⟩ : ∃ j : Nat, nth ws k = j := Int.eq_ofNat_of_zero_le hi.1
        have hjl : j < rs.length := by have := HN.out; omega
        have hr2 : Hid (wordR rs (noneL p) ws = wordR rs (joinL acc (nthR rs j)) (ws.drop (k + 1))) := by
          have h2 := hrun.out.trans (wordR_yes hkl (by rw [HN.out]; exact hi))
          rw [hj] at h2
          exact h2
        have hrow := movesOk_row HMO.out hjl
        have hrl : Hid ((nthR rs j).length = q) := by have := HQ.out; unfold Hid; omega
        have hpo2 := hid (permOk_join hao.out hrow.2 (by rw [hal.out, hrl.out]))
        have hal2 : Hid ((joinL acc (nthR rs j)).length = q) := (length_joinL _ _).trans hal.out
        have hrng : Hid (∀ x ∈ acc, 0 ≤ x ∧ x < q) := fun x hx => by have := hao.out.2.2.1 x hx; rw [hal.out] at this; exact this
        obtain ⟨b, off, rfl, hr⟩ := (hx.below hB (Nat.le_refl _)) (by omega)
        obtain ⟨a, cc, hcj, hl2, hcm, hin⟩ := hr j hjl
        rw [hrl.out] at hcj hl2
        rw [hj] at hck
        have hjn : j < n := by rw [← HN.out]; exact hjl
        have hd1 : decide ((j : Int) < 0) = false := decide_eq_false (by omega)
        have hd2 : decide ((n : Int) ≤ j) = false := decide_eq_false (by omega)
        have hac := hor.ints
        clear hr hrow hi hj
        go_wp2_with fail
        refine (permJoin_any ao' a acc (nthR rs j) q q c' cc wr hal.out hrl.out (by omega) hac hin hrng.out).mono fun e w2 h => ?_
        obtain ⟨ao2, c2, rfl, o2, b2⟩ := h.to hal2.out
        have o3 := o2.lower hB.size
        have hB2 := hB.trans (b2.mono hB.size)
        clear h o2 b2 hor hB hac hcj hin hck
        go_wp2
        go_roundw
        case rel => exact ⟨k + 1, joinL acc (nthR rs j), ao2, c2, by omega, by go_num, rfl, o3, hal2, hpo2, hr2, hB2⟩
        case measure => simp [intOf]; omega
      · have hnone : Hid (wordL p rs ws = []) := by
          have h2 := hrun.out.trans (wordR_no hkl (by rw [HN.out]; exact hi))
          exact hL.out.trans (by rw [h2]; rfl)
        by_cases h0 : nth ws k < 0
        · have hd1 : decide (nth ws k < 0) = true := decide_eq_true h0
          clear hi h0 hor
          go_wp2
          go_ret
          rw [hnone.out]
          exact RetOwn.mk (xs := []) rfl (Own.nil _ _) hB
        · have hd1 : decide (nth ws k < 0) = false := decide_eq_false h0
          have hd2 : decide ((n : Int) ≤ nth ws k) = true := decide_eq_true (by omega)
          clear hi h0 hor
          go_wp2
          go_ret
          rw [hnone.out]
          exact RetOwn.mk (xs := []) rfl (Own.nil _ _) hB
    · have hd : decide ((k : Int) < m) = false := decide_eq_false (by omega)
      have hfin : Hid (wordL p rs ws = acc) := hL.out.trans (by rw [hrun.out, List.drop_eq_nil_of_le (by rw [HM.out]; omega)]; rfl)
      go_wp2
      go_ret
      rw [hfin.out]
      exact RetOwn.mk hal.out hor hB

set_option maxRecDepth 100000 in
set_option maxHeartbeats 1000000 in
theorem specWordPerm_any (p : Int) (ao : Option Addr) (rs : List (List Int)) (n c : Nat) (to : Option Addr) (ws : List Int) (m d : Nat) (w : World) (hn : rs.length = n) (hl : n ≤ 1048576) (hls : ∀ r ∈ rs, r.length ≤ 1048576) (hx : RowsAt w ao rs)
    (hm : ws.length = m) (hlm : m ≤ 17592186044416) (ht : IntsAt w to ws) :
    Calls Try.prog 9 #[.int .i64 p, .slice ao n c, .slice to m d] w (RetOwn w (wordL p rs ws)) := by
  have HN := hid hn
  have HM := hid hm
  have HLS := hid hls
  clear hn hm hls
  obtain ⟨q, hq⟩ : ∃ q : Nat, (noneL p).length = q := ⟨_, rfl⟩
  have hlq := hid hq
  have hq5 : q ≤ 5 := by
    by_cases h : 1 ≤ p ∧ p ≤ 5
    · have := length_none h; omega
    · rw [noneL_out h] at hq; simp at hq; omega
  clear hq
  by_cases hmo : MovesOk p rs
  rotate_left
  · have hL := hid (wordL_out (ws := ws) hmo)
    have hb := hid (movesB_false hmo)
    clear hmo
    go_enter Try.func9, Try.ntmps9
    go_wp2_with fail
    refine (specPermNone_any p w).mono fun e w1 h => ?_
    obtain ⟨ao1, c1, rfl, o1, B⟩ := h.to hlq.out
    clear h o1
    go_wp2
    go_loopw [8, 11] (fun i _ wr => i = .int .i64 0 ∧ Below w.heap.size w wr) (fun _ _ _ => 0)
    case atStart => exact ⟨rfl, B⟩
    case round =>
      obtain ⟨rfl, hB⟩ := hrel
      clear B
      by_cases hlt : 0 < m
      · have hkl : 0 < ws.length := by rw [HM.out]; exact hlt
        obtain ⟨tb, toff, rfl, htc⟩ := (ht.below hB (Nat.le_refl _)) hkl
        have hck := htc 0 hkl
        rw [Nat.add_zero] at hck
        have hd : decide ((0 : Int) < m) = true := decide_eq_true (by omega)
        clear htc
        have Bf := hB.alloc hB.size (.cells #[] 3)
        cases hr : inR 0 ((n : Int) - 1) (nth ws 0) with
        | false =>
          have HR := hid hr
          clear hr
          go_wp2_with (go_at_call 29; refine (l1In_any _ _ _ _).mono ?_; rintro e w' ⟨rfl, rfl⟩; rw [HR.out])
          go_ret
          rw [hL.out]
          exact RetOwn.mk (xs := []) rfl (Own.lit0 _ hB.size) Bf
        | true =>
          have HR := hid hr
          clear hr Bf
          go_wp2_with (go_at_call 29; refine (l1In_any _ _ _ _).mono ?_; rintro e w' ⟨rfl, rfl⟩; rw [HR.out])
          refine (specMovesValid_any p ao rs n c wr HN.out hl HLS.out (hx.below hB (Nat.le_refl _))).mono fun e w2 h => ?_
          rw [hb.out] at h
          obtain ⟨rfl, b⟩ := h
          have B2 := hB.trans (b.mono hB.size)
          have Bf := B2.alloc B2.size (.cells #[] 3)
          clear b hck
          go_wp2
          go_ret
          rw [hL.out]
          exact RetOwn.mk (xs := []) rfl (Own.lit0 _ B2.size) Bf
      · have hd : decide ((0 : Int) < m) = false := decide_eq_false (by omega)
        go_wp2_with fail
        refine (specMovesValid_any p ao rs n c wr HN.out hl HLS.out (hx.below hB (Nat.le_refl _))).mono fun e w2 h => ?_
        rw [hb.out] at h
        obtain ⟨rfl, b⟩ := h
        have B2 := hB.trans (b.mono hB.size)
        have Bf := B2.alloc B2.size (.cells #[] 3)
        clear b
        go_wp2
        go_ret
        rw [hL.out]
        exact RetOwn.mk (xs := []) rfl (Own.lit0 _ B2.size) Bf
  have hL := hid (wordL_in (ws := ws) hmo)
  have hb := hid (movesB_true hmo)
  have HMO := hid hmo
  have hp1 := hmo.1
  have hp5 := hmo.2.1
  have hpn := hid (permOk_none (p := p) ⟨hp1, hp5⟩)
  have HQ : Hid ((q : Int) = p) := by have := length_none (p := p) ⟨hp1, hp5⟩; rw [hlq.out] at this; exact this
  clear hmo
  go_enter Try.func9, Try.ntmps9
  go_wp2_with fail
  refine (specPermNone_any p w).mono fun e w1 h => ?_
  obtain ⟨ao1, c1, rfl, o1, B⟩ := h.to hlq.out
  have hc1 : q ≤ c1 := by obtain ⟨_, _, e, _, h2⟩ := o1.shape; simp at e; rw [hlq.out] at e h2; omega
  clear h
  go_wp2
  go_loopw [7, 8, 11] (fun v i _ wr => ∃ (k : Nat) (acc : List Int) (ao' : Option Addr) (c' : Nat), k ≤ m ∧ i = .int .i64 k ∧ v = .slice ao' q c' ∧ q ≤ c' ∧ Own wr w.heap.size (.slice ao' q c') acc ∧ Hid (acc.length = q) ∧ Hid (PermOk acc) ∧ Hid (wordR rs (noneL p) ws = wordR rs acc (ws.drop k)) ∧ Below w.heap.size w wr) (fun _ i _ _ => m - (intOf i).toNat)
  case atStart => exact ⟨0, noneL p, ao1, c1, Nat.zero_le _, rfl, rfl, hc1, o1, hlq, hpn, by rw [List.drop_zero]; rfl, B⟩
  case round =>
    obtain ⟨k, acc, ao', c', hk, rfl, rfl, hqc, hor, hal, hao, hrun, hB⟩ := hrel
    clear o1 B
    by_cases hlt : k < m
    · have hkl : k < ws.length := by rw [HM.out]; exact hlt
      obtain ⟨tb, toff, rfl, htc⟩ := (ht.below hB (Nat.le_refl _)) (by omega)
      have hck := htc k hkl
      clear htc
      by_cases hi : 0 ≤ nth ws k ∧ nth ws k < n
      · obtain ⟨j, hj⟩ : ∃ j : Nat, nth ws k = j := Int.eq_ofNat_of_zero_le hi.1
        have hjl : j < rs.length := by have := HN.out; omega
        have hr2 : Hid (wordR rs (noneL p) ws = wordR rs (joinL acc (nthR rs j)) (ws.drop (k + 1))) := by
          have h2 := hrun.out.trans (wordR_yes hkl (by rw [HN.out]; exact hi))
          rw [hj] at h2
          exact h2
        have hrow := movesOk_row HMO.out hjl
        have hrl : Hid ((nthR rs j).length = q) := by have := HQ.out; unfold Hid; omega
        have hth : Hid (thenL acc (nthR rs j) = joinL acc (nthR rs j)) := thenL_in ⟨hao.out, hrow.2, by rw [hal.out, hrl.out]⟩
        have hpo2 := hid (permOk_join hao.out hrow.2 (by rw [hal.out, hrl.out]))
        have hal2 : Hid ((joinL acc (nthR rs j)).length = q) := (length_joinL _ _).trans hal.out
        rw [hj] at hck
        have hjn : j < n := by rw [← HN.out]; exact hjl
        have HR : Hid (inR 0 ((n : Int) - 1) j = true) := inR_in (by omega)
        have HJ := hid hj
        clear hrow hi hj
        go_wp2_with (go_at_call 29; refine (l1In_any _ _ _ _).mono ?_; rintro e w' ⟨rfl, rfl⟩; rw [HR.out])
        refine (specMovesValid_any p ao rs n c wr HN.out hl HLS.out (hx.below hB (Nat.le_refl _))).mono fun e w2 h => ?_
        rw [hb.out] at h
        obtain ⟨rfl, b⟩ := h
        have hor := hor.below b (Nat.le_refl _)
        have hB := hB.trans (b.mono hB.size)
        obtain ⟨tb2, toff2, et, htc⟩ := (ht.below hB (Nat.le_refl _)) (by omega)
        cases et
        have hck2 := htc k hkl
        rw [HJ.out] at hck2
        obtain ⟨b', off, rfl, hr⟩ := (hx.below hB (Nat.le_refl _)) (by omega)
        obtain ⟨a, cc, hcj, hl2, hcm, hin⟩ := hr j hjl
        rw [hrl.out] at hcj hl2
        have hac := hor.ints
        clear hr htc b hck
        go_wp2_with fail
        refine (specPermThen_any ao' a acc (nthR rs j) q q c' cc w2 hal.out hrl.out (by omega) (by omega) hqc hl2 hac hin).mono fun e w3 h => ?_
        rw [hth.out] at h
        obtain ⟨ao2, c2, rfl, o2, b2⟩ := h.to hal2.out
        have hc2 : q ≤ c2 := by obtain ⟨_, _, e, _, h2⟩ := o2.shape; simp at e; rw [hal2.out] at e h2; omega
        have o3 := o2.lower hB.size
        have hB2 := hB.trans (b2.mono hB.size)
        clear h o2 b2 hor hB hac hcj hin hck2
        go_wp2
        go_roundw
        case rel => exact ⟨k + 1, joinL acc (nthR rs j), ao2, c2, by omega, by go_num, rfl, hc2, o3, hal2, hpo2, hr2, hB2⟩
        case measure => simp [intOf]; omega
      · have hnone : Hid (wordL p rs ws = []) := by
          have h2 := hrun.out.trans (wordR_no hkl (by rw [HN.out]; exact hi))
          exact hL.out.trans (by rw [h2]; rfl)
        have HR : Hid (inR 0 ((n : Int) - 1) (nth ws k) = false) := inR_out (by omega)
        have Bf := hB.alloc hB.size (.cells #[] 3)
        clear hi hor
        go_wp2_with (go_at_call 29; refine (l1In_any _ _ _ _).mono ?_; rintro e w' ⟨rfl, rfl⟩; rw [HR.out])
        go_ret
        rw [hnone.out]
        exact RetOwn.mk (xs := []) rfl (Own.lit0 _ hB.size) Bf
    · have hd : decide ((k : Int) < m) = false := decide_eq_false (by omega)
      have hfin : Hid (wordL p rs ws = acc) := hL.out.trans (by rw [hrun.out, List.drop_eq_nil_of_le (by rw [HM.out]; omega)]; rfl)
      go_wp2_with fail
      refine (specMovesValid_any p ao rs n c wr HN.out hl HLS.out (hx.below hB (Nat.le_refl _))).mono fun e w2 h => ?_
      rw [hb.out] at h
      obtain ⟨rfl, b⟩ := h
      have hor := hor.below b (Nat.le_refl _)
      have hB := hB.trans (b.mono hB.size)
      clear b
      go_wp2
      go_ret
      rw [hfin.out]
      exact RetOwn.mk hal.out hor hB

end Go.Proofs.Ytkiealpfeaifiaa
