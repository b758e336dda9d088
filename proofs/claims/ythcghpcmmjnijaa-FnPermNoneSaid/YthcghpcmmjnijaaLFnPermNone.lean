/- The walk of the law FnPermNone. -/
import Derived.Test.YthcghpcmmjnijaaPn
import Derived.Test.YthcghpcmmjnijaaPb
import Derived.Test.YthcghpcmmjnijaaSi
import Derived.Test.YthcghpcmmjnijaaAl
import Derived.Test.YthcghpcmmjnijaaDn
namespace Go.Proofs.Ythcghpcmmjnijaa
open Go Go.RowKit

theorem noneL_facts {p : Int} (h : 1 ≤ p ∧ p ≤ 5) : permB (noneL p) = true ∧ backL (noneL p) = noneL p := by
  have : p = 1 ∨ p = 2 ∨ p = 3 ∨ p = 4 ∨ p = 5 := by omega
  rcases this with rfl | rfl | rfl | rfl | rfl <;> decide

theorem noneL_nth (p : Int) {k : Nat} (hk : k < (noneL p).length) : nth (noneL p) k = k := by
  by_cases h : 1 ≤ p ∧ p ≤ 5
  · rw [noneL_in h] at hk ⊢
    rw [length_iota] at hk
    rw [nth_iota hk]; omega
  · rw [noneL_out h] at hk; simp at hk

set_option maxRecDepth 100000 in
set_option maxHeartbeats 2000000 in
theorem fnPermNone_walk (w : World) (ao : Option Addr) (bs : List Int) (l c : Nat) (hn : bs.length = l) (hlc : l ≤ c) (hcm : c ≤ 9223372036854775807) (hx : BytesAt w ao bs) (h8 : B8 bs) :
    Calls Try.prog 4 #[.slice ao l c] w fun e w' => e = .returned (.bool true) ∧ Below w.heap.size w w' := by
  by_cases hbig : 1048576 < l
  · have hd : decide ((1048576 : Int) < l) = true := decide_eq_true (by omega)
    clear hx hn h8
    go_enter Try.func4, Try.ntmps4
    go_wp2
    go_ret
    exact ⟨rfl, Below.refl _ _⟩
  have hd : decide ((1048576 : Int) < l) = false := decide_eq_false (by omega)
  go_enter Try.func4, Try.ntmps4
  go_wp2_with fail
  refine (drawPermNone_any ao bs l c w hn hlc hcm hx h8).mono fun e w1 h => ?_
  obtain ⟨p, rfl, p0, p1, B⟩ := h
  clear hx h8 hn hd hbig
  obtain ⟨n, hn⟩ : ∃ n, (noneL p).length = n := ⟨_, rfl⟩
  have hin : Hid ((1 ≤ p ∧ p ≤ 5 → (n : Int) = p) ∧ (¬ (1 ≤ p ∧ p ≤ 5) → n = 0)) := by
    rw [← hn]
    exact ⟨fun h => by rw [noneL_in h, length_iota]; omega, fun h => by rw [noneL_out h]; rfl⟩
  have hn5 : n ≤ 5 := by
    by_cases h : 1 ≤ p ∧ p ≤ 5
    · have := hin.out.1 h; omega
    · have := hin.out.2 h; omega
  have hfac : Hid (1 ≤ p ∧ p ≤ 5 → permB (noneL p) = true ∧ backL (noneL p) = noneL p) := noneL_facts
  have hnthp : Hid (∀ k, k < n → nth (noneL p) k = k) := fun k hk => noneL_nth p (by omega)
  have HN := hid hn
  clear hn
  go_wp2_with fail
  refine (implPermNone_any p w1).mono fun e w2 h => ?_
  obtain ⟨ao0, c0, rfl, o0, b0⟩ := h.to HN.out
  clear h
  have B := B.trans (b0.mono B.size)
  go_wp2_with fail
  refine (specPermNone_any p w2).mono fun e w3 h => ?_
  obtain ⟨ao1, c1, rfl, o1, b1⟩ := h.to HN.out
  clear h
  have o0 := o0.below b1 (Nat.le_refl _)
  have B := B.trans (b1.mono B.size)
  clear b0 b1
  go_wp2_with fail
  refine (sameInts_self ao0 ao1 (noneL p) n c0 c1 w3 HN.out (by omega) o0.ints o1.ints).mono fun e w4 h => ?_
  obtain ⟨rfl, hq⟩ := h
  have o0 := o0.qt hq
  have B := B.trans (hq.below _)
  clear o1 hq
  go_wp2
  go_loop [5] (fun i => ∃ k : Nat, k ≤ n ∧ i = .int .i64 k) (fun i => n - (intOf i).toNat)
  case atStart => exact ⟨0, Nat.zero_le _, rfl⟩
  case round =>
    obtain ⟨k, hk, rfl⟩ := hrel
    by_cases hlt : k < n
    · obtain ⟨b, off, rfl, hc⟩ := o0.ints (by rw [HN.out]; omega)
      have hck := hc k (by rw [HN.out]; omega)
      rw [hnthp.out k hlt] at hck
      have hb : ((k : Int) != k) = false := by simp
      clear hc o0
      go_wp2
      go_round
      case rel => exact ⟨k + 1, by omega, by go_num⟩
      case measure => simp [intOf]; omega
    · obtain rfl : k = n := by omega
      by_cases hpin : 1 ≤ p ∧ p ≤ 5
      · obtain rfl : p = k := (hin.out.1 hpin).symm
        obtain ⟨h1, h2⟩ := hfac.out hpin
        have hb : (((k : Int)) == 0) = false := by simp; omega
        have hb2 : (((k : Int)) == k) = true := by simp
        clear hin hfac hnthp hlt
        go_wp2_with fail
        refine (implPermValid_any ao0 _ k c0 w4 HN.out (by omega) o0.ints).mono fun e w5 h => ?_
        rw [h1] at h
        obtain ⟨rfl, rfl⟩ := h
        go_wp2_with fail
        refine (implPermBack_any ao0 _ k c0 w4 HN.out (by omega) o0.ints).mono fun e w5 h => ?_
        rw [h2] at h
        obtain ⟨ao2, c2, rfl, o2, b2⟩ := h.to HN.out
        clear h
        have o0 := o0.below b2 (Nat.le_refl _)
        have B := B.trans (b2.mono B.size)
        clear b2
        go_wp2_with fail
        refine (sameInts_self ao2 ao0 _ k c2 c0 w5 HN.out (by omega) o2.ints o0.ints).mono fun e w6 h => ?_
        obtain ⟨rfl, hq⟩ := h
        have B := B.trans (hq.below _)
        clear o0 o2 hq
        go_wp2_with fail
        refine (alive_any w6).mono fun e w7 h => ?_
        obtain ⟨rfl, hb7⟩ := h
        have B := B.trans (hb7.mono B.size)
        clear hb7
        go_wp2
        go_ret
        exact ⟨rfl, B⟩
      · obtain rfl : k = 0 := hin.out.2 hpin
        go_wp2_with fail
        refine (alive_any w4).mono fun e w7 h => ?_
        obtain ⟨rfl, hb7⟩ := h
        have B := B.trans (hb7.mono B.size)
        clear hb7
        go_wp2
        go_ret
        exact ⟨rfl, B⟩

end Go.Proofs.Ythcghpcmmjnijaa
