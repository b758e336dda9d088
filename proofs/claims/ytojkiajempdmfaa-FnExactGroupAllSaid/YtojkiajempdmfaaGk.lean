/- The walks of GroupAll and FixedSum, the program's. -/
import Derived.Test.YtojkiajempdmfaaGj
namespace Go.Proofs.Ytojkiajempdmfaa
open Go Go.RowKit

set_option maxRecDepth 100000 in
set_option maxHeartbeats 1000000 in
theorem implGroupAll_any (p : Int) (ao : Option Addr) (rs : List (List Int)) (n c : Nat) (w : World) (hn : rs.length = n) (hl : n ≤ 1048576) (hls : ∀ r ∈ rs, r.length ≤ 1048576) (hx : RowsAt w ao rs) :
    Calls Try.prog 21 #[.int .i64 p, .slice ao n c] w (RetRows w (allL p rs)) := by
  have HN := hid hn
  have HLS := hid hls
  clear hn hls
  by_cases hmo : MovesOk p rs
  rotate_left
  · have hL := hid (allL_out hmo)
    have hb := movesB_false hmo
    go_enter Try.func21, Try.ntmps21
    go_wp2_with fail
    refine (implMovesValid_any p ao rs n c w HN.out hl HLS.out hx).mono fun e w1 h => ?_
    rw [hb] at h
    obtain ⟨rfl, rfl⟩ := h
    go_wp2_with fail
    go_ret
    rw [hL.out]
    exact RetRows.mk (GRow.nil _ _) (Below.refl _ _)
  have hL := hid (allL_in hmo)
  have hb := movesB_true hmo
  have HMO := hid hmo
  clear hmo
  go_enter Try.func21, Try.ntmps21
  go_wp2_with fail
  refine (implMovesValid_any p ao rs n c w HN.out hl HLS.out hx).mono fun e w1 h => ?_
  rw [hb] at h
  obtain ⟨rfl, rfl⟩ := h
  clear hb
  go_wp2_with fail
  refine (groupWords_any p ao rs n c w HN.out hl HMO.out hx).mono fun e w1 h => ?_
  obtain ⟨v1, v2, S, rfl, G, B⟩ := h
  go_wp2
  go_ret
  rw [hL.out]
  exact RetRows.mk G B

set_option maxRecDepth 100000 in
set_option maxHeartbeats 1000000 in
theorem implFixedSum_any (p : Int) (ao : Option Addr) (rs : List (List Int)) (n c : Nat) (w : World) (hn : rs.length = n) (hl : n ≤ 1048576) (hls : ∀ r ∈ rs, r.length ≤ 1048576) (hx : RowsAt w ao rs) :
    Calls Try.prog 19 #[.int .i64 p, .slice ao n c] w fun e w' => e = .returned (.int .i64 (fixI p rs)) ∧ Below w.heap.size w w' := by
  have HN := hid hn
  have HLS := hid hls
  clear hn hls
  by_cases hmo : MovesOk p rs
  rotate_left
  · have hL := hid (fixI_out hmo)
    have hb := movesB_false hmo
    go_enter Try.func19, Try.ntmps19
    go_wp2_with fail
    refine (implMovesValid_any p ao rs n c w HN.out hl HLS.out hx).mono fun e w1 h => ?_
    rw [hb] at h
    obtain ⟨rfl, rfl⟩ := h
    go_wp2_with fail
    go_ret
    exact ⟨by rw [hL.out]; rfl, Below.refl _ _⟩
  have hL := hid (fixI_in hmo)
  have hb := movesB_true hmo
  have HMO := hid hmo
  have hp1 := hmo.1
  have hp5 := hmo.2.1
  have HOK := hid (allG_ok hmo)
  obtain ⟨q, hq⟩ : ∃ q : Nat, p = q := Int.eq_ofNat_of_zero_le (by omega)
  have hqt : p.toNat = q := by omega
  rw [hqt] at hL HOK
  have hq5 : q ≤ 5 := by omega
  have hN := gOk_len HOK.out
  clear hmo hq hqt
  go_enter Try.func19, Try.ntmps19
  go_wp2_with fail
  refine (implMovesValid_any p ao rs n c w HN.out hl HLS.out hx).mono fun e w1 h => ?_
  rw [hb] at h
  obtain ⟨rfl, rfl⟩ := h
  clear hb
  go_wp2_with fail
  refine (groupWords_any p ao rs n c w HN.out hl HMO.out hx).mono fun e w1 h => ?_
  obtain ⟨v1, v2, S, rfl, G, B⟩ := h
  generalize allG p rs = out at *
  obtain ⟨N, hNN⟩ : ∃ N, out.length = N := ⟨_, rfl⟩
  rw [hNN] at hN
  have hol := hid hNN
  obtain ⟨a1, c1, rfl, hat, _, _⟩ := G.shapeN hNN
  clear hNN G
  go_wp2
  go_loop [5, 9, 10, 11, 24] (fun s5 _ _ _ s24 => ∃ k s : Nat, k ≤ N ∧ s24 = .int .i64 k ∧ s5 = .int .i64 s ∧ s ≤ 5 * k ∧ Hid (sumF out q k = s)) (fun _ _ _ _ s24 => N - (intOf s24).toNat)
  case atStart => exact ⟨0, 0, Nat.zero_le _, rfl, rfl, by omega, rfl⟩
  case round =>
    obtain ⟨k, s, hk, rfl, rfl, hs, hsum⟩ := hrel
    by_cases hlt : k < N
    · have hkl : k < out.length := by rw [hol.out]; exact hlt
      obtain ⟨b, off, rfl, hr⟩ := hat (by omega)
      obtain ⟨a, cc, hck, hl2, hcm, hin⟩ := hr k hkl
      have hrow := (HOK.out.2 _ (nthR_mem hkl)).2
      have HROW := hid hrow
      rw [hrow] at hck hl2
      have hnext : Hid (sumF out q (k + 1) = s + fixT (nthR out k) q) := by unfold Hid; rw [sumF, hsum.out]
      obtain ⟨x, hx0⟩ : ∃ x, nthR out k = x := ⟨_, rfl⟩
      rw [hx0] at hin hnext HROW
      clear hr hrow hx0
      go_wp2
      go_loop [5, 10, 11, 30] (fun s5 _ _ s30 => ∃ j t : Nat, j ≤ q ∧ s30 = .int .i64 j ∧ s5 = .int .i64 (s + t) ∧ t ≤ j ∧ Hid (fixT x j = t)) (fun _ _ _ s30 => q - (intOf s30).toNat)
      case atStart => exact ⟨0, 0, Nat.zero_le _, rfl, by simp, Nat.le_refl _, rfl⟩
      case round =>
        obtain ⟨j, t, hj, rfl, rfl, ht, hfix⟩ := hrel
        by_cases hjq : j < q
        · obtain ⟨b2, off2, rfl, hc⟩ := hin (by rw [HROW.out]; omega)
          have hcj := hc j (by rw [HROW.out]; exact hjq)
          clear hc
          by_cases he : nth x j = j
          · have hn2 : Hid (fixT x (j + 1) = t + 1) := by unfold Hid; rw [fixT, hfix.out, if_pos he]
            rw [he] at hcj
            have hbe : ((j : Int) == j) = true := by simp
            clear he
            go_wp2
            go_round
            case rel => exact ⟨j + 1, t + 1, by omega, by go_num, by go_num, by omega, hn2⟩
            case measure => simp [intOf]; omega
          · have hn2 : Hid (fixT x (j + 1) = t) := by unfold Hid; rw [fixT, hfix.out, if_neg he]; rfl
            have hbe : ((j : Int) == nth x j) = false := by simp; omega
            clear he
            go_wp2
            go_round
            case rel => exact ⟨j + 1, t, by omega, by go_num, rfl, by omega, hn2⟩
            case measure => simp [intOf]; omega
        · obtain rfl : j = q := by omega
          rw [hfix.out] at hnext
          have hd : decide ((j : Int) < j) = false := decide_eq_false (by omega)
          go_wp2
          go_round
          case rel => exact ⟨k + 1, s + t, by omega, by go_num, by go_num, by omega, hnext⟩
          case measure => simp [intOf]; omega
    · have hd : decide ((k : Int) < N) = false := decide_eq_false (by omega)
      have hfin : Hid ((sumF out q out.length : Nat) = s) := by
        have h1 := hsum.out
        rwa [show k = out.length from by rw [hol.out]; omega] at h1
      go_wp2
      go_ret
      exact ⟨by rw [hL.out, hfin.out]; rfl, B⟩

end Go.Proofs.Ytojkiajempdmfaa
