/- The walks of what is in both, and in just one, of two sets. -/
import Derived.Test.YtgmjffplinpobaaLb
namespace Go.Proofs.Ytgmjffplinpobaa
open Go Go.RowKit

theorem and_lt_pow {a b k : Nat} (h : a < 2 ^ k ∨ b < 2 ^ k) : a &&& b < 2 ^ k := by
  rcases h with h | h
  · exact Nat.lt_of_le_of_lt Nat.and_le_left h
  · exact Nat.lt_of_le_of_lt Nat.and_le_right h
theorem both_step (a b k : Nat) : (a &&& b) % 2 ^ (k + 1) = (a &&& b) % 2 ^ k + bitN a k * bitN b k * 2 ^ k := by
  rw [mod_pow_step, bitN_and, Nat.mul_comm (2 ^ k)]
theorem pow_10 {a k : Nat} (ha : a < 1024) (h : 2 ^ k ≤ a) : k < 10 := by
  refine Nat.lt_of_not_le fun hk => ?_
  have : 2 ^ 10 ≤ 2 ^ k := Nat.pow_le_pow_right (by decide) hk
  omega

theorem wrap_nat2 (M q : Nat) (h : M + q ≤ 2048) : IntKind.i64.wrap ((M : Int) + q) = (M : Int) + q := IntWalk.i64_in _ (by omega)

set_option maxRecDepth 100000 in
theorem l1Both_any (a b : Nat) (w : World) (ha : a < 1024) (hb : b < 1024) :
    Calls Try.prog 36 #[.int .i64 a, .int .i64 b] w fun e w' => e = .returned (.int .i64 ((a &&& b : Nat) : Int)) ∧ w = w' := by
  have HA := hid ha
  have HB := hid hb
  clear ha hb
  go_enter Try.func36, Try.ntmps36
  go_wp2
  go_loop [5, 6] (fun s i => ∃ k : Nat, k ≤ 10 ∧ s = .int .i64 ((a &&& b) % 2 ^ k : Nat) ∧ i = .int .i64 k) (fun _ i => 10 - (intOf i).toNat)
  case atStart => exact ⟨0, by omega, by simp [Nat.mod_one], rfl⟩
  case round =>
    obtain ⟨k, hk, rfl, rfl⟩ := hrel
    have hp : wrap64 (2 ^ k) = ((2 ^ k : Nat) : Int) := wrap_pow (by omega)
    have hst := hid (both_step a b k)
    have h10 : 2 ^ k ≤ 1024 := Nat.pow_le_pow_right (n := 2) (by decide) hk
    have hab : (a &&& b) % 2 ^ k < 2 ^ k := Nat.mod_lt _ (Nat.pow_pos (by decide))
    have hfin : (a < 2 ^ k ∨ b < 2 ^ k) → (a &&& b) % 2 ^ k = a &&& b := fun h => Nat.mod_eq_of_lt (and_lt_pow h)
    have HK : Hid (2 ^ k ≤ a → k < 10) := pow_10 HA.out
    have HP := hid hp
    obtain ⟨M, hM⟩ : ∃ M, (a &&& b) % 2 ^ k = M := ⟨_, rfl⟩
    obtain ⟨p, hpp⟩ : ∃ p, 2 ^ k = p := ⟨_, rfl⟩
    rw [hM] at hst hab hfin
    rw [hM]
    rw [hpp] at HP hst h10 hab hfin HK
    have HPP := hid hpp
    clear hM hp hpp
    by_cases h1 : p ≤ a
    · have hd1 : decide (wrap64 (2 ^ k) ≤ (a : Int)) = true := by rw [HP.out]; exact decide_eq_true (by omega)
      by_cases h2 : p ≤ b
      · have hd2 : decide (wrap64 (2 ^ k) ≤ (b : Int)) = true := by rw [HP.out]; exact decide_eq_true (by omega)
        have hk1 := HK.out h1
        have hbl := bitN_le a k
        have hbr := bitN_le b k
        obtain ⟨x, hx⟩ : ∃ x, bitN a k = x := ⟨_, rfl⟩
        obtain ⟨y, hy⟩ : ∃ y, bitN b k = y := ⟨_, rfl⟩
        rw [hx, hy] at hst
        rw [hx] at hbl
        rw [hy] at hbr
        have HX := hid hx
        have HY := hid hy
        have hxy : x * y ≤ 1 := Nat.mul_le_mul hbl hbr
        obtain ⟨z, hz⟩ : ∃ z, x * y = z := ⟨_, rfl⟩
        rw [hz] at hst hxy
        have hz2 : (x : Int) * y = (z : Int) := by rw [← hz]; simp
        have hm : IntKind.i64.wrap ((x : Int) * y) = (z : Int) := by rw [hz2]; exact IntWalk.i64_in _ (by omega)
        have hzp : z * p ≤ p := by rcases (show z = 0 ∨ z = 1 by omega) with rfl | rfl <;> omega
        obtain ⟨q, hq⟩ : ∃ q, z * p = q := ⟨_, rfl⟩
        rw [hq] at hst hzp
        have hsh : wrap64 ((z : Int) * 2 ^ k) = (q : Int) := by
          have e : ((z : Int) * 2 ^ k) = (q : Int) := by rw [← hq, ← HPP.out]; simp
          rw [e]; exact IntWalk.wrap64_in _ ⟨by omega, by omega⟩
        clear hx hy hz hz2 hq hfin
        have hMq : M + q ≤ 2048 := Nat.le_trans (Nat.add_le_add (Nat.le_of_lt hab) hzp) (Nat.add_le_add h10 h10)
        have hw := wrap_nat2 M q hMq
        go_wp2_with fail
        refine (l1Bit_any a k w (by have := HA.out; omega) (by omega)).mono fun e w1 h => ?_
        obtain ⟨rfl, rfl⟩ := h
        rw [HX.out]
        go_wp2_with fail
        refine (l1Bit_any b k w (by have := HB.out; omega) (by omega)).mono fun e w1 h => ?_
        obtain ⟨rfl, rfl⟩ := h
        rw [HY.out]
        go_wp2
        go_round
        case rel => exact ⟨k + 1, by omega, by rw [hst.out]; go_num, by go_num⟩
        case measure => simp [intOf]; omega
      · have hd2 : decide (wrap64 (2 ^ k) ≤ (b : Int)) = false := by rw [HP.out]; exact decide_eq_false (by omega)
        have hf := hid (hfin (.inr (by omega)))
        clear hfin
        go_wp2
        go_ret
        exact ⟨ret_int (by rw [hf.out]), rfl⟩
    · have hd1 : decide (wrap64 (2 ^ k) ≤ (a : Int)) = false := by rw [HP.out]; exact decide_eq_false (by omega)
      have hf := hid (hfin (.inl (by omega)))
      clear hfin
      go_wp2
      go_ret
      exact ⟨ret_int (by rw [hf.out]), rfl⟩

theorem l1Other_any (a b : Nat) (w : World) (ha : a < 1024) (hb : b < 1024) :
    Calls Try.prog 51 #[.int .i64 a, .int .i64 b] w fun e w' => e = .returned (.int .i64 ((a ^^^ b : Nat) : Int)) ∧ w = w' := by
  have hx := add_xor a b
  have hal : a &&& b ≤ a := Nat.and_le_left
  have HC : Hid (Calls Try.prog 36 #[.int .i64 a, .int .i64 b] w fun e w' => e = .returned (.int .i64 ((a &&& b : Nat) : Int)) ∧ w = w') := l1Both_any a b w ha hb
  generalize a &&& b = z at *
  generalize a ^^^ b = x at *
  have h1 : IntKind.i64.wrap ((a : Int) + b) = (a : Int) + b := IntWalk.i64_in _ (by omega)
  have h2 : IntKind.i64.wrap (2 * (z : Int)) = 2 * (z : Int) := IntWalk.i64_in _ (by omega)
  have h3 : IntKind.i64.wrap ((a : Int) + b - 2 * z) = (a : Int) + b - 2 * z := IntWalk.i64_in _ (by omega)
  have hfin : Hid ((a : Int) + b - 2 * z = x) := by unfold Hid; omega
  clear hx
  go_enter Try.func51, Try.ntmps51
  go_wp2_with fail
  refine HC.out.mono fun e w1 h => ?_
  obtain ⟨rfl, rfl⟩ := h
  go_wp2
  go_ret
  exact ⟨ret_int hfin.out, rfl⟩

set_option maxRecDepth 100000 in
theorem both_any (a b : Nat) (w : World) (ha : a < 1024) (_hb : b < 1024) :
    Calls Try.prog 42 #[.int .i64 a, .int .i64 b] w fun e w' => e = .returned (.int .i64 ((a &&& b : Nat) : Int)) ∧ w = w' := by
  have hal : a &&& b ≤ a := Nat.and_le_left
  have hlt : a &&& b < 2 ^ 40 := by show _ < 1099511627776; omega
  have HF : Hid ((a &&& b) % 2 ^ 40 = a &&& b) := Nat.mod_eq_of_lt hlt
  have HM : Hid (∀ k, (a &&& b) % 2 ^ k < 1024) := fun k => Nat.lt_of_le_of_lt (Nat.mod_le _ _) (by omega)
  clear hlt
  go_enter Try.func42, Try.ntmps42
  go_wp2
  go_loop [5, 6] (fun s i => ∃ k : Nat, k ≤ 40 ∧ s = .int .i64 ((a &&& b) % 2 ^ k : Nat) ∧ i = .int .i64 k) (fun _ i => 40 - (intOf i).toNat)
  case atStart => exact ⟨0, by omega, by simp [Nat.mod_one], rfl⟩
  case round =>
    obtain ⟨k, hk, rfl, rfl⟩ := hrel
    by_cases hlt : k < 40
    · have hst := hid (both_step a b k)
      have hb1 := shr_test a k
      have hb2 := shr_test b k
      have ht1 := hid (bitN_test a k)
      have ht2 := hid (bitN_test b k)
      have hml := HM.out k
      have hd : decide ((k : Int) < 40) = true := decide_eq_true (by omega)
      obtain ⟨M, hM⟩ : ∃ M, (a &&& b) % 2 ^ k = M := ⟨_, rfl⟩
      rw [hM] at hst hml
      rw [hM]
      clear hM
      cases ha1 : a.testBit k with
      | false =>
        rw [ha1] at hb1 ht1
        have hn : Hid ((a &&& b) % 2 ^ (k + 1) = M) := by unfold Hid; rw [hst.out, ht1.out]; simp
        clear ht1 ht2 ha1 hb2 hst
        go_wp2
        go_round
        case rel => exact ⟨k + 1, by omega, by rw [hn.out], by go_num⟩
        case measure => simp [intOf]; omega
      | true =>
        rw [ha1] at hb1 ht1
        cases ha2 : b.testBit k with
        | false =>
          rw [ha2] at hb2 ht2
          have hn : Hid ((a &&& b) % 2 ^ (k + 1) = M) := by unfold Hid; rw [hst.out, ht2.out]; simp
          clear ht1 ht2 ha1 ha2 hst
          go_wp2
          go_round
          case rel => exact ⟨k + 1, by omega, by rw [hn.out], by go_num⟩
          case measure => simp [intOf]; omega
        | true =>
          rw [ha2] at hb2 ht2
          have hn : Hid ((a &&& b) % 2 ^ (k + 1) = M + 2 ^ k) := by unfold Hid; rw [hst.out, ht1.out, ht2.out]; simp
          have hp : wrap64 (2 ^ k) = ((2 ^ k : Nat) : Int) := wrap_pow (by omega)
          have h62 := pow_lt_62 (t := k) (by omega)
          have HP := hid hp
          obtain ⟨p, hpp⟩ : ∃ p, 2 ^ k = p := ⟨_, rfl⟩
          rw [hpp] at hn HP h62
          have hw : IntKind.i64.wrap ((M : Int) + wrap64 (2 ^ k)) = ((M + p : Nat) : Int) := by
            rw [HP.out]; exact (IntWalk.i64_in _ (by omega)).trans (by omega)
          clear ht1 ht2 ha1 ha2 hst hp hpp
          go_wp2
          go_round
          case rel => exact ⟨k + 1, by omega, by rw [hn.out]; go_num, by go_num⟩
          case measure => simp [intOf]; omega
    · obtain rfl : k = 40 := by omega
      rw [HF.out]
      go_wp2
      go_ret
      exact ⟨rfl, rfl⟩

theorem other_any (a b : Nat) (w : World) (ha : a < 1024) (hb : b < 1024) :
    Calls Try.prog 17 #[.int .i64 a, .int .i64 b] w fun e w' => e = .returned (.int .i64 ((a ^^^ b : Nat) : Int)) ∧ w = w' := by
  have hx := add_xor a b
  have hal : a &&& b ≤ a := Nat.and_le_left
  have HC : Hid (Calls Try.prog 42 #[.int .i64 a, .int .i64 b] w fun e w' => e = .returned (.int .i64 ((a &&& b : Nat) : Int)) ∧ w = w') := both_any a b w ha hb
  generalize a &&& b = z at *
  generalize a ^^^ b = x at *
  have h1 : IntKind.i64.wrap ((a : Int) + b) = (a : Int) + b := IntWalk.i64_in _ (by omega)
  have h2 : IntKind.i64.wrap (2 * (z : Int)) = 2 * (z : Int) := IntWalk.i64_in _ (by omega)
  have h3 : IntKind.i64.wrap ((a : Int) + b - 2 * z) = (a : Int) + b - 2 * z := IntWalk.i64_in _ (by omega)
  have hfin : Hid ((a : Int) + b - 2 * z = x) := by unfold Hid; omega
  clear hx
  go_enter Try.func17, Try.ntmps17
  go_wp2_with fail
  refine HC.out.mono fun e w1 h => ?_
  obtain ⟨rfl, rfl⟩ := h
  go_wp2
  go_ret
  exact ⟨ret_int hfin.out, rfl⟩

end Go.Proofs.Ytgmjffplinpobaa
