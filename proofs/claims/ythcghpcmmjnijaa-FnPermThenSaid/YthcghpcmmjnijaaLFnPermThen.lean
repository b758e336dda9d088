/- The walk of the law FnPermThen. -/
import Derived.Test.YthcghpcmmjnijaaPv
import Derived.Test.YthcghpcmmjnijaaPb
import Derived.Test.YthcghpcmmjnijaaPq
import Derived.Test.YthcghpcmmjnijaaSi
import Derived.Test.YthcghpcmmjnijaaAl
import Derived.Test.YthcghpcmmjnijaaDp
namespace Go.Proofs.Ythcghpcmmjnijaa
open Go Go.RowKit

theorem thenL_len_pos {xs ys : List Int} (h : ThenOk xs ys) : (thenL xs ys).length = xs.length ∧ 1 ≤ xs.length := by
  rw [thenL_in h, length_joinL]; exact ⟨rfl, h.1.1⟩

theorem then_ok {xs ys : List Int} (h : 0 < (thenL xs ys).length) : ThenOk xs ys := by
  refine Classical.byContradiction fun hn => ?_
  rw [thenL_out hn] at h
  simp at h

theorem then_perm {xs ys : List Int} (h : ThenOk xs ys) : PermOk (thenL xs ys) := by
  rw [thenL_in h]; exact permOk_join h.1 h.2.1 h.2.2

theorem then_back {xs ys : List Int} (h : ThenOk xs ys) : backL (thenL xs ys) = thenL (backL ys) (backL xs) := by
  have h1 := then_perm h
  rw [backL_in h1, backL_in h.1, backL_in h.2.1, thenL_in h, thenL_in ⟨permOk_turn h.2.1, permOk_turn h.1, by rw [length_turnL, length_turnL]; exact h.2.2.symm⟩]
  have h3 := h.2.1.2.2
  rw [← h.2.2] at h3
  exact turn_join h.1.2.2 h3 rfl h.2.2.symm

theorem then_assoc {xs ys zs : List Int} (h : ThenOk xs ys) (hz : PermOk zs) (hl : zs.length = xs.length) : thenL (thenL xs ys) zs = thenL xs (thenL ys zs) := by
  have h1 := then_perm h
  have h2 : ThenOk ys zs := ⟨h.2.1, hz, by rw [hl]; exact h.2.2.symm⟩
  have h3 := then_perm h2
  have l1 := (thenL_len_pos h).1
  have l2 := (thenL_len_pos h2).1
  rw [thenL_in (xs := thenL xs ys) ⟨h1, hz, by rw [l1]; exact hl.symm⟩, thenL_in (ys := thenL ys zs) ⟨h.1, h3, by rw [l2]; exact h.2.2⟩, thenL_in h, thenL_in h2]
  exact joinL_assoc h.1.2.2 h.2.2.symm

/-- The lengths of what a law computes stay small. -/
theorem len_small {xs : List Int} (h : xs.length ≤ 17592186044416 - 1048576) {n : Nat} (e : xs.length = n) : n ≤ 17592186044416 := by omega

set_option maxRecDepth 100000 in
set_option maxHeartbeats 4000000 in
theorem fnPermThen_walk (w : World) (ao : Option Addr) (bs : List Int) (l c : Nat) (hn : bs.length = l) (hlc : l ≤ c) (hcm : c ≤ 9223372036854775807) (hx : BytesAt w ao bs) (h8 : B8 bs)
    (bo : Option Addr) (cs : List Int) (k d : Nat) (hk : cs.length = k) (hkd : k ≤ d) (hdm : d ≤ 9223372036854775807) (hy : BytesAt w bo cs) (g8 : B8 cs) :
    Calls Try.prog 6 #[.slice ao l c, .slice bo k d] w fun e w' => e = .returned (.bool true) ∧ Below w.heap.size w w' := by
  by_cases hbig : 1048576 < l
  · have hd : decide ((1048576 : Int) < l) = true := decide_eq_true (by omega)
    clear hx hn h8 hy hk g8
    go_enter Try.func6, Try.ntmps6
    go_wp2
    go_ret
    exact ⟨rfl, Below.refl _ _⟩
  have hd : decide ((1048576 : Int) < l) = false := decide_eq_false (by omega)
  by_cases hbig2 : 1048576 < k
  · have hd : decide ((1048576 : Int) < k) = true := decide_eq_true (by omega)
    clear hx hn h8 hy hk g8
    go_enter Try.func6, Try.ntmps6
    go_wp2
    go_ret
    exact ⟨rfl, Below.refl _ _⟩
  have hd2 : decide ((1048576 : Int) < k) = false := decide_eq_false (by omega)
  have G8 := hid g8
  have HK := hid hk
  clear g8 hk
  go_enter Try.func6, Try.ntmps6
  go_wp2_with fail
  refine (drawPermThen_any ao bs l c w hn hlc hcm hx h8).mono fun e w1 h => ?_
  obtain ⟨ao1, m1, c1, xs, ao2, m2, c2, ys, rfl, hl1, hmc1, hm1, hl2, hmc2, hm2, o1, o2, B⟩ := h
  have hy1 := hy.below B (Nat.le_refl _)
  clear hx h8 hn hd hbig hd2 hbig2 hy
  obtain ⟨N, hN⟩ : ∃ N, (thenL xs ys).length = N := ⟨_, rfl⟩
  have hNl := len_small (length_thenL xs ys) hN
  have hthen : Hid (0 < N → ThenOk xs ys ∧ N = m1 ∧ m1 = m2) := fun h => by
    have h1 := then_ok (by rw [hN]; exact h)
    refine ⟨h1, ?_, ?_⟩
    · rw [← hN, ← hl1]; exact (thenL_len_pos h1).1
    · rw [← hl1, ← hl2]; exact h1.2.2
  have HN := hid hN
  have HL1 := hid hl1
  have HL2 := hid hl2
  clear hN hl1 hl2
  obtain ⟨X, hX⟩ : ∃ X, thenL xs ys = X := ⟨_, rfl⟩
  rw [hX] at HN
  have HX := hid hX
  clear hX
  go_wp2_with fail
  refine (implPermThen_any ao1 ao2 xs ys m1 m2 c1 c2 w1 HL1.out HL2.out (by omega) (by omega) o1.ints o2.ints).mono fun e w2 h => ?_
  rw [HX.out] at h
  obtain ⟨ao3, c3, rfl, o3, b3⟩ := h.to HN.out
  clear h
  have o1 := o1.below b3 (Nat.le_refl _)
  have o2 := o2.below b3 (Nat.le_refl _)
  have hy1 := hy1.below b3 (Nat.le_refl _)
  have B := B.trans (b3.mono B.size)
  clear b3
  go_wp2_with fail
  refine (specPermThen_any ao1 ao2 xs ys m1 m2 c1 c2 w2 HL1.out HL2.out (by omega) (by omega) hmc1 hmc2 o1.ints o2.ints).mono fun e w3 h => ?_
  rw [HX.out] at h
  obtain ⟨ao4, c4, rfl, o4, b4⟩ := h.to HN.out
  clear h
  have o1 := o1.below b4 (Nat.le_refl _)
  have o2 := o2.below b4 (Nat.le_refl _)
  have o3 := o3.below b4 (Nat.le_refl _)
  have hy1 := hy1.below b4 (Nat.le_refl _)
  have B := B.trans (b4.mono B.size)
  clear b4
  go_wp2_with fail
  refine (sameInts_self ao3 ao4 _ N c3 c4 w3 HN.out (by omega) o3.ints o4.ints).mono fun e w4 h => ?_
  obtain ⟨rfl, hq⟩ := h
  have o1 := o1.qt hq
  have o2 := o2.qt hq
  have o3 := o3.qt hq
  have hy1 := hy1.below (hq.below w3.heap.size) (Nat.le_refl _)
  have B := B.trans (hq.below _)
  clear hq o4
  by_cases h0 : N = 0
  · subst h0
    clear o1 o2 o3 hy1
    go_wp2_with fail
    refine (alive_any w4).mono fun e w6 h => ?_
    obtain ⟨rfl, hb⟩ := h
    have B := B.trans (hb.mono B.size)
    clear hb
    go_wp2
    go_ret
    exact ⟨rfl, B⟩
  obtain ⟨hto, rfl, rfl⟩ := hthen.out (by omega)
  have hbk : Hid (backL X = thenL (backL ys) (backL xs)) := by unfold Hid; rw [← HX.out]; exact then_back hto
  have hXp : Hid (permB X = true) := by unfold Hid; rw [← HX.out]; exact permB_true (then_perm hto)
  have hXc : Hid (∀ zs, PermOk zs → zs.length = N → thenL X zs = thenL xs (thenL ys zs)) := fun zs hz hl => by rw [← HX.out]; exact then_assoc hto hz (by rw [HL1.out]; exact hl)
  have hb0 : ((N : Int) == 0) = false := by simp; omega
  clear hto hthen h0
  obtain ⟨bx, hbx⟩ : ∃ bx, (backL X).length = bx := ⟨_, rfl⟩
  have lbx := len_small (length_backL X) hbx
  have HBX := hid hbx
  obtain ⟨by', hby⟩ : ∃ n, (backL ys).length = n := ⟨_, rfl⟩
  have lby := len_small (length_backL ys) hby
  have HBY := hid hby
  obtain ⟨ba, hba⟩ : ∃ n, (backL xs).length = n := ⟨_, rfl⟩
  have lba := len_small (length_backL xs) hba
  have HBA := hid hba
  clear hbx hby hba
  go_wp2_with fail
  refine (implPermBack_any ao3 X N c3 w4 HN.out (by omega) o3.ints).mono fun e w5 h => ?_
  obtain ⟨ao5, c5, rfl, o5, b5⟩ := h.to HBX.out
  clear h
  have o1 := o1.below b5 (Nat.le_refl _)
  have o2 := o2.below b5 (Nat.le_refl _)
  have o3 := o3.below b5 (Nat.le_refl _)
  have hy1 := hy1.below b5 (Nat.le_refl _)
  have B := B.trans (b5.mono B.size)
  clear b5
  go_wp2_with fail
  refine (implPermBack_any ao2 ys N c2 w5 HL2.out (by omega) o2.ints).mono fun e w6 h => ?_
  obtain ⟨ao6, c6, rfl, o6, b6⟩ := h.to HBY.out
  clear h
  have o1 := o1.below b6 (Nat.le_refl _)
  have o2 := o2.below b6 (Nat.le_refl _)
  have o3 := o3.below b6 (Nat.le_refl _)
  have o5 := o5.below b6 (Nat.le_refl _)
  have hy1 := hy1.below b6 (Nat.le_refl _)
  have B := B.trans (b6.mono B.size)
  clear b6
  go_wp2_with fail
  refine (implPermBack_any ao1 xs N c1 w6 HL1.out (by omega) o1.ints).mono fun e w7 h => ?_
  obtain ⟨ao7, c7, rfl, o7, b7⟩ := h.to HBA.out
  clear h
  have o1 := o1.below b7 (Nat.le_refl _)
  have o2 := o2.below b7 (Nat.le_refl _)
  have o3 := o3.below b7 (Nat.le_refl _)
  have o5 := o5.below b7 (Nat.le_refl _)
  have o6 := o6.below b7 (Nat.le_refl _)
  have hy1 := hy1.below b7 (Nat.le_refl _)
  have B := B.trans (b7.mono B.size)
  clear b7
  go_wp2_with fail
  refine (implPermThen_any ao6 ao7 _ _ by' ba c6 c7 w7 HBY.out HBA.out (by omega) (by omega) o6.ints o7.ints).mono fun e w8 h => ?_
  rw [← hbk.out] at h
  obtain ⟨ao8, c8, rfl, o8, b8⟩ := h.to HBX.out
  clear h
  have o1 := o1.below b8 (Nat.le_refl _)
  have o2 := o2.below b8 (Nat.le_refl _)
  have o3 := o3.below b8 (Nat.le_refl _)
  have o5 := o5.below b8 (Nat.le_refl _)
  have hy1 := hy1.below b8 (Nat.le_refl _)
  have B := B.trans (b8.mono B.size)
  clear b8 o6 o7
  go_wp2_with fail
  refine (sameInts_self ao5 ao8 _ bx c5 c8 w8 HBX.out (by omega) o5.ints o8.ints).mono fun e w9 h => ?_
  obtain ⟨rfl, hq⟩ := h
  have o1 := o1.qt hq
  have o2 := o2.qt hq
  have o3 := o3.qt hq
  have hy1 := hy1.below (hq.below w8.heap.size) (Nat.le_refl _)
  have B := B.trans (hq.below _)
  clear hq o5 o8 HBX HBY HBA hbk
  go_wp2_with fail
  refine (drawPermThen_any bo cs k d w9 HK.out hkd hdm hy1 G8.out).mono fun e w10 h => ?_
  obtain ⟨ao9, m3, c9, zs, ao10, m4, c10, _, rfl, hl3, hmc3, hm3, _, _, _, o9, _, b9⟩ := h
  have o1 := o1.below b9 (Nat.le_refl _)
  have o2 := o2.below b9 (Nat.le_refl _)
  have o3 := o3.below b9 (Nat.le_refl _)
  have B := B.trans (b9.mono B.size)
  have HL3 := hid hl3
  clear b9 hy1 hl3
  go_wp2_with fail
  refine (specPermValid_any ao9 zs m3 c9 w10 HL3.out (by omega) hmc3 o9.ints).mono fun e w11 h => ?_
  cases hpv : permB zs with
  | false =>
    rw [hpv] at h
    obtain ⟨rfl, hq⟩ := h
    have o3 := o3.qt hq
    have B := B.trans (hq.below _)
    clear hq o1 o2 o9
    go_wp2_with fail
    refine (implPermValid_any ao3 X N c3 w11 HN.out (by omega) o3.ints).mono fun e w12 h => ?_
    rw [hXp.out] at h
    obtain ⟨rfl, rfl⟩ := h
    go_wp2
    go_ret
    exact ⟨rfl, B⟩
  | true =>
    rw [hpv] at h
    obtain ⟨rfl, hq⟩ := h
    have o1 := o1.qt hq
    have o2 := o2.qt hq
    have o3 := o3.qt hq
    have o9 := o9.qt hq
    have B := B.trans (hq.below _)
    clear hq
    by_cases hm : m3 = N
    · subst hm
      have hass := hid (hXc.out zs (permB_iff.1 hpv) HL3.out)
      have hbm : ((m3 : Int) != m3) = false := by simp
      clear hXc hpv
      obtain ⟨P, hP⟩ : ∃ n, (thenL X zs).length = n := ⟨_, rfl⟩
      have lP := len_small (length_thenL X zs) hP
      have HP := hid hP
      obtain ⟨Q, hQ⟩ : ∃ n, (thenL ys zs).length = n := ⟨_, rfl⟩
      have lQ := len_small (length_thenL ys zs) hQ
      have HQ := hid hQ
      clear hP hQ
      go_wp2_with fail
      refine (implPermThen_any ao3 ao9 X zs m3 m3 c3 c9 w11 HN.out HL3.out (by omega) (by omega) o3.ints o9.ints).mono fun e w12 h => ?_
      obtain ⟨ao12, c12, rfl, o12, b12⟩ := h.to HP.out
      clear h
      have o1 := o1.below b12 (Nat.le_refl _)
      have o2 := o2.below b12 (Nat.le_refl _)
      have o9 := o9.below b12 (Nat.le_refl _)
      have B := B.trans (b12.mono B.size)
      clear b12 o3
      go_wp2_with fail
      refine (implPermThen_any ao2 ao9 ys zs m3 m3 c2 c9 w12 HL2.out HL3.out (by omega) (by omega) o2.ints o9.ints).mono fun e w13 h => ?_
      obtain ⟨ao13, c13, rfl, o13, b13⟩ := h.to HQ.out
      clear h
      have o1 := o1.below b13 (Nat.le_refl _)
      have o12 := o12.below b13 (Nat.le_refl _)
      have B := B.trans (b13.mono B.size)
      clear b13 o2 o9
      go_wp2_with fail
      refine (implPermThen_any ao1 ao13 xs _ m3 Q c1 c13 w13 HL1.out HQ.out (by omega) (by omega) o1.ints o13.ints).mono fun e w14 h => ?_
      rw [← hass.out] at h
      obtain ⟨ao14, c14, rfl, o14, b14⟩ := h.to HP.out
      clear h
      have o12 := o12.below b14 (Nat.le_refl _)
      have B := B.trans (b14.mono B.size)
      clear b14 o1 o13
      go_wp2_with fail
      refine (sameInts_self ao12 ao14 _ P c12 c14 w14 HP.out (by omega) o12.ints o14.ints).mono fun e w15 h => ?_
      obtain ⟨rfl, hq⟩ := h
      have B := B.trans (hq.below _)
      clear hq o12 o14
      go_wp2
      go_ret
      exact ⟨rfl, B⟩
    · have hbm : ((m3 : Int) != N) = true := by simp; omega
      clear o1 o2 o9 hXc
      go_wp2_with fail
      refine (implPermValid_any ao3 X N c3 w11 HN.out (by omega) o3.ints).mono fun e w12 h => ?_
      rw [hXp.out] at h
      obtain ⟨rfl, rfl⟩ := h
      go_wp2
      go_ret
      exact ⟨rfl, B⟩

end Go.Proofs.Ythcghpcmmjnijaa
