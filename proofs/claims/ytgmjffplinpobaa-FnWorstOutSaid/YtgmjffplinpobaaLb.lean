/- The walks of the helpers on bits. -/
import Derived.Test.YtgmjffplinpobaaLa
import Derived.Test.YtgmjffplinpobaaInts
namespace Go.Proofs.Ytgmjffplinpobaa
open Go Go.RowKit

theorem l1Bit_any (m k : Nat) (w : World) (_hm : m < 2 ^ 62) (hk : k ≤ 61) :
    Calls Try.prog 44 #[.int .i64 m, .int .i64 k] w fun e w' => e = .returned (.int .i64 (bitN m k)) ∧ w = w' := by
  have h := hid (shr_tmod m k)
  go_enter Try.func44, Try.ntmps44
  go_wp2
  go_ret
  exact ⟨ret_int h.out, rfl⟩

theorem countBits_any (m : Nat) (w : World) (hm : m < 1024) :
    Calls Try.prog 34 #[.int .i64 m] w fun e w' => e = .returned (.int .i64 (pc m)) ∧ w = w' := by
  have HM := hid hm
  have hb9 := pc_le m
  obtain ⟨P, hP⟩ : ∃ P, pc m = P := ⟨_, rfl⟩
  rw [hP] at hb9
  rw [hP]
  have HP := hid hP
  clear hm hP
  go_enter Try.func34, Try.ntmps34
  go_wp2
  go_loop [0, 3] (fun s n => ∃ a b : Nat, s = .int .i64 a ∧ n = .int .i64 b ∧ a < 1024 ∧ Hid (b + pc a = P)) (fun s _ => (intOf s).toNat)
  case atStart => exact ⟨m, 0, rfl, rfl, HM.out, by unfold Hid; rw [HP.out]; omega⟩
  case round =>
    obtain ⟨a, b, rfl, rfl, ha, hb⟩ := hrel
    have hbP : b ≤ P := by have := hb.out; omega
    by_cases h0 : a = 0
    · subst h0
      have hz : ((0 : Int) != 0) = false := by simp
      have hf : b = P := by have := hb.out; rw [pc_zero] at this; omega
      go_wp2
      go_ret
      exact ⟨rfl, rfl⟩
    · have hz : ((a : Int) != 0) = true := by simp; omega
      have h1 : (a : Int) - 1 = ((a - 1 : Nat) : Int) := by omega
      have h2 : bits .and .i64 (a : Int) ((a : Int) - 1) = ((a &&& (a - 1) : Nat) : Int) := by rw [h1]; exact i64_and (by omega) (by omega)
      have h3 := hid (and_pred_lt a ha (by omega))
      have h4 := hid (pc_pred a ha (by omega))
      have H2 := hid h2
      clear h1 h2
      go_wp2
      go_round
      case rel => exact ⟨a &&& (a - 1), b + 1, by rw [H2.out], by go_num, by have := h3.out; omega, by have := hb.out; have := h4.out; unfold Hid; omega⟩
      case measure => rw [H2.out]; have := h3.out; simp [intOf]; omega

theorem l1Many_any (m : Nat) (w : World) (hm : m < 1024) :
    Calls Try.prog 35 #[.int .i64 m] w fun e w' => e = .returned (.int .i64 (pc m)) ∧ w = w' := by
  have HM := hid hm
  have hb9 := pc_le m
  obtain ⟨P, hP⟩ : ∃ P, pc m = P := ⟨_, rfl⟩
  rw [hP] at hb9
  rw [hP]
  have HP := hid hP
  clear hm hP
  go_enter Try.func35, Try.ntmps35
  go_wp2
  go_loop [0, 3] (fun s n => ∃ a b : Nat, s = .int .i64 a ∧ n = .int .i64 b ∧ a < 1024 ∧ Hid (b + pc a = P)) (fun s _ => (intOf s).toNat)
  case atStart => exact ⟨m, 0, rfl, rfl, HM.out, by unfold Hid; rw [HP.out]; omega⟩
  case round =>
    obtain ⟨a, b, rfl, rfl, ha, hb⟩ := hrel
    have hbP : b ≤ P := by have := hb.out; omega
    by_cases h0 : a = 0
    · subst h0
      have hf : b = P := by have := hb.out; rw [pc_zero] at this; omega
      go_wp2
      go_ret
      exact ⟨rfl, rfl⟩
    · have hz : decide ((0 : Int) < a) = true := decide_eq_true (by omega)
      have h1 : (a : Int).tmod 2 = ((a % 2 : Nat) : Int) := by rw [Int.tmod_eq_emod_of_nonneg (by omega)]; omega
      have h4 := hid (pc_half ha)
      have H2 : Hid ((a : Int) / 2 = ((a / 2 : Nat) : Int)) := by unfold Hid; omega
      have hw : IntKind.i64.wrap ((b : Int) + (a : Int).tmod 2) = (b : Int) + ((a % 2 : Nat) : Int) := by rw [h1]; exact IntWalk.i64_in _ (by omega)
      clear h1
      go_wp2
      go_round
      case rel => exact ⟨a / 2, b + a % 2, by rw [H2.out], by go_num, by omega, by have := hb.out; have := h4.out; unfold Hid; omega⟩
      case measure => rw [H2.out]; simp [intOf]; omega

theorem bits_any (m : Nat) (w : World) (hm : m < 1024) :
    Calls Try.prog 16 #[.int .i64 m] w fun e w' => e = .returned (.int .i64 (pc m)) ∧ w = w' := by
  have HP := hid (pcT_forty hm)
  have HL := hid (pcT_le m)
  clear hm
  go_enter Try.func16, Try.ntmps16
  go_wp2
  go_loop [3, 4] (fun s i => ∃ j : Nat, j ≤ 40 ∧ s = .int .i64 (pcT m j) ∧ i = .int .i64 j) (fun _ i => 40 - (intOf i).toNat)
  case atStart => exact ⟨0, by omega, rfl, rfl⟩
  case round =>
    obtain ⟨j, hj, rfl, rfl⟩ := hrel
    have hle := HL.out j
    have hst : Hid (pcT m (j + 1) = pcT m j + bitN m j) := rfl
    have htb := shr_test m j
    by_cases hlt : j < 40
    · have hd : decide ((j : Int) < 40) = true := decide_eq_true (by omega)
      have hbt := hid (bitN_test m j)
      cases hb : m.testBit j with
      | true =>
        rw [hb] at htb hbt
        have hn : Hid (pcT m (j + 1) = pcT m j + 1) := by unfold Hid; rw [hst.out, hbt.out]; rfl
        clear hb hst hbt
        go_wp2
        go_round
        case rel => exact ⟨j + 1, by omega, by rw [hn.out]; go_num, by go_num⟩
        case measure => simp [intOf]; omega
      | false =>
        rw [hb] at htb hbt
        have hn : Hid (pcT m (j + 1) = pcT m j) := by unfold Hid; rw [hst.out, hbt.out]; rfl
        clear hb hst hbt
        go_wp2
        go_round
        case rel => exact ⟨j + 1, by omega, by rw [hn.out], by go_num⟩
        case measure => simp [intOf]; omega
    · obtain rfl : j = 40 := by omega
      clear htb hst
      go_wp2
      go_ret
      exact ⟨ret_int (by rw [HP.out]), rfl⟩

end Go.Proofs.Ytgmjffplinpobaa
