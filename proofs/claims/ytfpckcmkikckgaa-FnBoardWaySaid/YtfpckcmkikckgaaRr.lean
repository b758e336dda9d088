/- The walk of l3Rank. -/
import Derived.Test.YtfpckcmkikckgaaRk
import Derived.Test.YtfpckcmkikckgaaBv
namespace Go.Proofs.Ytfpckcmkikckgaa
open Go Go.RowKit

theorem lessN_snoc (a x : Int) : ∀ l : List Int, lessN a (l ++ [x]) = lessN a l + if x < a then 1 else 0
  | [] => by simp [lessN]
  | y :: l => by rw [List.cons_append, lessN, lessN, lessN_snoc a x l]; omega

theorem drop_take_s {xs : List Int} {k m : Nat} (h : k + m < xs.length) : (xs.drop k).take (m + 1) = (xs.drop k).take m ++ [nth xs (k + m)] := by
  rw [List.take_add_one, nth_eq h]
  simp [h]

theorem rk_le {n r : Nat} {xs l : List Int} (hn : xs.length = n) (h6 : n ≤ 6) (h : rkL 0 xs = rkL r l) : r ≤ 720 := by
  have h1 := rank_lt hn
  have h2 := fct_le h6
  have h3 := rkL_split l r
  have h4 := Nat.le_mul_of_pos_right r (fct_pos l.length)
  unfold rankL at h1
  omega

set_option maxRecDepth 100000 in
set_option maxHeartbeats 1000000 in
theorem l3Rank_any (ao : Option Addr) (xs : List Int) (n c : Nat) (w : World) (hn : xs.length = n) (h6 : n ≤ 6) (hx : IntsAt w ao xs) :
    Calls Try.prog 38 #[.slice ao n c] w fun e w' => e = .returned (.int .i64 (rankL xs)) ∧ Qt w w' := by
  have HN := hid hn
  clear hn
  go_enter Try.func38, Try.ntmps38
  go_wp2_with fail
  go_loopw [3, 4, 5, 6] (fun rv kv _ _ wr => ∃ k r : Nat, kv = .int .i64 k ∧ rv = .int .i64 r ∧ k ≤ n ∧ Hid (rkL 0 xs = rkL r (xs.drop k)) ∧ Qt w wr) (fun _ kv _ _ _ => n - (intOf kv).toNat)
  case atStart => exact ⟨0, 0, rfl, rfl, Nat.zero_le _, by simp [Hid], Qt.refl _⟩
  case round =>
    obtain ⟨k, r, rfl, rfl, hk, hr, hq⟩ := hrel
    have hr7 := rk_le HN.out h6 hr.out
    by_cases hlt : k < n
    · have hd : decide ((k : Int) < n) = true := decide_eq_true (by omega)
      have hkl : Hid (k < xs.length) := by unfold Hid; rw [HN.out]; exact hlt
      obtain ⟨wo, hwo⟩ : ∃ wo : World, wo = wr := ⟨_, rfl⟩
      subst hwo
      go_wp2_with fail
      go_loopw [5, 6] (fun lv jv wi => ∃ m l : Nat, jv = .int .i64 ((k : Int) + 1 + m) ∧ lv = .int .i64 l ∧ k + 1 + m ≤ n ∧ l ≤ m ∧ Hid (l = lessN (nth xs k) ((xs.drop (k + 1)).take m)) ∧ Qt w wi) (fun _ jv _ => n - (intOf jv).toNat)
      case atStart => exact ⟨0, 0, by simp, rfl, by omega, Nat.le_refl _, by simp [Hid, lessN], hq⟩
      case round =>
        obtain ⟨m, l, rfl, rfl, hm, hl, hls, hq⟩ := hrel
        by_cases hlm : k + 1 + m < n
        · have hd2 : decide ((k : Int) + 1 + m < n) = true := decide_eq_true (by omega)
          have hq2 := hx.qt hq
          obtain ⟨b, off, rfl, hc⟩ := hq2 (by rw [HN.out]; omega)
          have ck := hc k (by rw [HN.out]; omega)
          have cj := hc (k + 1 + m) (by rw [HN.out]; omega)
          have hs := hid (drop_take_s (xs := xs) (k := k + 1) (m := m) (by rw [HN.out]; omega))
          have hsn := hid (lessN_snoc (nth xs k) (nth xs (k + 1 + m)) ((xs.drop (k + 1)).take m))
          have e1 : ((k : Int) + 1 + m).toNat = k + 1 + m := by omega
          have hi0 : (0 : Int) ≤ (k : Int) + 1 + m := by omega
          have hi1 : (k : Int) + 1 + m < n := by omega
          clear hc hq2
          cases ht : decide (nth xs (k + 1 + m) < nth xs k) with
          | true =>
            have hnew : Hid (l + 1 = lessN (nth xs k) ((xs.drop (k + 1)).take (m + 1))) := by
              unfold Hid; rw [hs.out, hsn.out, if_pos (of_decide_eq_true ht), ← hls.out]
            go_wp2
            go_quiet (fail)
            go_wp2
            go_roundw
            case rel => exact ⟨m + 1, l + 1, by go_num, by go_num, by omega, by omega, hnew, hq.drewN _⟩
            case measure => simp [intOf]; omega
          | false =>
            have hnew : Hid (l = lessN (nth xs k) ((xs.drop (k + 1)).take (m + 1))) := by
              unfold Hid; rw [hs.out, hsn.out, if_neg (of_decide_eq_false ht), ← hls.out]; rfl
            go_wp2
            go_quiet (fail)
            go_wp2
            go_roundw
            case rel => exact ⟨m + 1, l, by go_num, rfl, by omega, by omega, hnew, hq.drewN _⟩
            case measure => simp [intOf]; omega
        · have hd2 : decide ((k : Int) + 1 + m < n) = false := decide_eq_false (by omega)
          have hfull : Hid (l = lessN (nth xs k) (xs.drop (k + 1))) := by
            have := hls.out
            rwa [List.take_of_length_le (by rw [List.length_drop, HN.out]; omega)] at this
          have hnext : Hid (rkL 0 xs = rkL (r * (n - k) + l) (xs.drop (k + 1))) := by
            unfold Hid
            rw [hr.out, List.drop_eq_getElem_cons hkl.out, rkL_cons, ← nth_eq hkl.out, List.length_drop, HN.out, ← hfull.out, show n - (k + 1) + 1 = n - k by omega]
          have hle := Nat.mul_le_mul (show r ≤ 720 from hr7) (show n - k ≤ 6 by omega)
          have hp : (r : Int) * ((n : Int) - k) = ((r * (n - k) : Nat) : Int) := by
            rw [Int.natCast_mul, Int.natCast_sub hk]
          have hps : ((r * (n - k) + l : Nat) : Int) = ((r * (n - k) : Nat) : Int) + l := rfl
          have HP := hid hps
          clear hps hr hls
          generalize r * (n - k) = p at *
          go_wp2
          go_roundw
          case rel => exact ⟨k + 1, p + l, by go_num, by rw [HP.out], by omega, hnext, hq⟩
          case measure => simp [intOf]; omega
    · obtain rfl : k = n := by omega
      have hd : decide ((k : Int) < k) = false := by simp
      have hfin : Hid (rankL xs = r) := by
        have := hr.out
        rwa [List.drop_eq_nil_of_le (by rw [HN.out]; exact Nat.le_refl _), rkL_nil] at this
      go_wp2
      go_ret
      exact ⟨by rw [hfin.out]; rfl, hq⟩

end Go.Proofs.Ytfpckcmkikckgaa
