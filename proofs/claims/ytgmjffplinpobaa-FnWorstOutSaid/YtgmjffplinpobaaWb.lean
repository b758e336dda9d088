/- The walk of spec.WorstOut. -/
import Derived.Test.YtgmjffplinpobaaWa
namespace Go.Proofs.Ytgmjffplinpobaa
open Go Go.RowKit

set_option maxRecDepth 100000 in
set_option maxHeartbeats 2000000 in
theorem specWorstOut_any (ao : Option Addr) (xs : List Int) (n c : Nat) (w : World) (hn : xs.length = n) (hl : n ≤ 17592186044416) (hx : IntsAt w ao xs) :
    Calls Try.prog 29 #[.agg #[.slice ao n c]] w fun e w' => e = .returned (.int .i64 (worstW xs)) ∧ Below w.heap.size w w' := by
  have HN := hid hn
  have B := (Below.refl w.heap.size w).alloc (Nat.le_refl _) (.cells #[.slice ao n c] 25)
  have bk := Blk.new w #[.slice ao n c] 25
  have hfin := hid (worstW_in (xs := xs))
  have hfin0 := hid (worstW_out (xs := xs))
  clear hn
  go_enter Try.func29, Try.ntmps29
  go_wp2_with fail
  generalize (w.alloc (.cells #[.slice ao n c] 25)) = w1 at *
  cases hg : grB xs with
  | false =>
    have hf := hid (hfin0.out hg)
    have hg' := hid hg
    clear hg
    go_loopw [3, 4, 5, 6] (fun v i _ _ wr => i = .int .i64 0 ∧ v = .int .i64 (-1) ∧ wr = w1) (fun _ _ _ _ _ => 0)
    case atStart => exact ⟨rfl, rfl, rfl⟩
    case round =>
      obtain ⟨rfl, rfl, rfl⟩ := hrel
      have e0 := bk.at 0 rfl
      by_cases h9 : 9 < n
      · have hd9 : (9 : Int) < n := by omega
        go_wp2_with fail
        refine (specGraphValid_any ao xs n c _ HN.out hl (hx.below B (Nat.le_refl _))).mono fun e w2 h => ?_
        rw [hg'.out] at h
        obtain ⟨rfl, b⟩ := h
        have B := B.trans (b.mono B.size)
        go_wp2
        go_ret
        exact ⟨ret_int hf.out.symm, B⟩
      · have hd9 : ¬ ((9 : Int) < n) := by omega
        have hp : wrap64 (2 ^ n) = ((2 ^ n : Nat) : Int) := wrap_pow (by omega)
        have hp1 : 1 ≤ 2 ^ n := Nat.one_le_two_pow
        generalize 2 ^ n = P at *
        have hd0 : decide ((0 : Int) < P) = true := decide_eq_true (by omega)
        go_wp2_with fail
        refine (specGraphValid_any ao xs n c _ HN.out hl (hx.below B (Nat.le_refl _))).mono fun e w2 h => ?_
        rw [hg'.out] at h
        obtain ⟨rfl, b⟩ := h
        have B := B.trans (b.mono B.size)
        go_wp2
        go_ret
        exact ⟨ret_int hf.out.symm, B⟩
  | true =>
    have hok := hid (grB_iff.1 hg)
    have hn9 := hok.out.max
    rw [HN.out] at hn9
    have hp : wrap64 (2 ^ n) = ((2 ^ n : Nat) : Int) := wrap_pow (by omega)
    have h512 := pow9 hn9
    obtain ⟨P, hP⟩ : ∃ P, 2 ^ n = P := ⟨_, rfl⟩
    rw [hP] at hp h512
    have HP := hid hP
    have HF : Hid (worstW xs = wst xs P) := by unfold Hid; rw [hfin.out hok.out, HN.out, hP]
    have hg' := hid hg
    have h9n : ¬ ((9 : Int) < n) := by omega
    clear hg hP
    go_loopw [3, 4, 5, 6] (fun v i _ _ wr => ∃ k : Nat, k ≤ P ∧ i = .int .i64 k ∧ v = .int .i64 (wst xs k) ∧ Blk wr w.heap.size #[.slice ao n c] 25 ∧ Below w.heap.size w wr) (fun _ i _ _ _ => P - (intOf i).toNat)
    case atStart => exact ⟨0, Nat.zero_le _, rfl, rfl, bk, B⟩
    case round =>
      obtain ⟨k, hk, rfl, rfl, hbk, hB⟩ := hrel
      clear bk B
      have e0 := hbk.at 0 rfl
      by_cases hlt : k < P
      · have hd : decide ((k : Int) < P) = true := decide_eq_true (by omega)
        have hr := wst_rng xs k
        have hin := hid (wst_in (xs := xs) (L := k))
        have hno := hid (wst_not (xs := xs) (L := k))
        have hob : Hid (0 ≤ outI xs k → outI xs k < 1024) := fun h => by
          have hs := setB_nat hok.out (L := k) (by rw [HN.out, HP.out]; exact hlt)
          have := (bst_rng xs k (2 ^ xs.length)).2
          rw [outI_in hs]
          rw [HN.out, HP.out] at this ⊢
          omega
        go_wp2_with fail
        refine (specGraphValid_any ao xs n c wr HN.out hl (hx.below hB (Nat.le_refl _))).mono fun e w2 h => ?_
        rw [hg'.out] at h
        obtain ⟨rfl, b⟩ := h
        have hbk := hbk.below b (Nat.le_refl _)
        have hB := hB.trans (b.mono hB.size)
        clear b e0
        have e0 := hbk.at 0 rfl
        go_wp2_with fail
        refine (specOutBy_any ao xs n c k w2 HN.out hl (hx.below hB (Nat.le_refl _))).mono fun e w3 h => ?_
        obtain ⟨rfl, b⟩ := h
        have hbi := hbk.below b (Nat.le_refl _)
        have hBi := hB.trans (b.mono hB.size)
        clear e0 b hbk hB
        obtain ⟨v, hv⟩ : ∃ v, outI xs k = v := ⟨_, rfl⟩
        rw [hv] at hin hno hob ⊢
        clear hv
        by_cases h0 : 0 ≤ v
        · have hd0 : decide (0 ≤ v) = true := decide_eq_true h0
          have hv9 := hob.out h0
          have hs := hid (hin.out h0)
          obtain ⟨b0, rfl⟩ := Int.eq_ofNat_of_zero_le h0
          rw [Int.toNat_natCast] at hs
          have hpb := pc_le b0
          generalize wst xs k = u at *
          go_wp2_with fail
          refine (l1Many_any b0 w3 (by omega)).mono fun e w4 h => ?_
          obtain ⟨rfl, rfl⟩ := h
          by_cases hm : u < (pc b0 : Int)
          · have hmx : max u (pc b0 : Int) = (pc b0 : Int) := by omega
            rw [hmx] at hs
            go_wp2
            go_roundw
            case rel => exact ⟨k + 1, by omega, by go_num, by rw [hs.out], hbi, hBi⟩
            case measure => simp [intOf]; omega
          · have hmx : max u (pc b0 : Int) = u := by omega
            rw [hmx] at hs
            go_wp2
            go_roundw
            case rel => exact ⟨k + 1, by omega, by go_num, by rw [hs.out], hbi, hBi⟩
            case measure => simp [intOf]; omega
        · have hd0 : decide (0 ≤ v) = false := decide_eq_false h0
          have hs := hid (hno.out (by omega))
          go_wp2
          go_roundw
          case rel => exact ⟨k + 1, by omega, by go_num, by rw [hs.out], hbi, hBi⟩
          case measure => simp [intOf]; omega
      · obtain rfl : k = P := by omega
        have hd : decide ((k : Int) < k) = false := by simp
        rw [← HF.out]
        obtain ⟨v, hv⟩ : ∃ v, worstW xs = v := ⟨_, rfl⟩
        rw [hv]
        have HV := hid hv
        clear hv
        go_wp2
        go_ret
        exact ⟨ret_int HV.out.symm, hB⟩

end Go.Proofs.Ytgmjffplinpobaa
