/- The least set that puts lights out: both walks. -/
import Derived.Test.YtgmjffplinpobaaLk
namespace Go.Proofs.Ytgmjffplinpobaa
open Go Go.RowKit

/-- The best set below k. -/
def bst (xs : List Int) (L : Int) : Nat → Int
  | 0 => -1
  | k + 1 => if (press xs k : Int) = L ∧ (bst xs L k < 0 ∨ pc k < pc (bst xs L k).toNat) then k else bst xs L k
theorem bst_in {xs : List Int} {L : Int} {k : Nat} (h : (press xs k : Int) = L ∧ (bst xs L k < 0 ∨ pc k < pc (bst xs L k).toNat)) : bst xs L (k + 1) = k := if_pos h
theorem bst_not {xs : List Int} {L : Int} {k : Nat} (h : ¬ ((press xs k : Int) = L ∧ (bst xs L k < 0 ∨ pc k < pc (bst xs L k).toNat))) : bst xs L (k + 1) = bst xs L k := if_neg h
theorem bst_rng (xs : List Int) (L : Int) : ∀ k, -1 ≤ bst xs L k ∧ bst xs L k < k
  | 0 => ⟨Int.le_refl _, by show (-1 : Int) < 0; omega⟩
  | k + 1 => by
    have h := bst_rng xs L k
    by_cases e : (press xs k : Int) = L ∧ (bst xs L k < 0 ∨ pc k < pc (bst xs L k).toNat)
    · rw [bst_in e]; omega
    · rw [bst_not e]; omega
noncomputable def outI (xs : List Int) (L : Int) : Int := if setB xs L = true then bst xs L (2 ^ xs.length) else -1
theorem outI_in {xs : List Int} {L : Int} (h : setB xs L = true) : outI xs L = bst xs L (2 ^ xs.length) := if_pos h
theorem outI_out {xs : List Int} {L : Int} (h : setB xs L = false) : outI xs L = -1 := if_neg (by rw [h]; simp)

set_option maxRecDepth 100000 in
set_option maxHeartbeats 1000000 in
theorem implOutBy_any (ao : Option Addr) (xs : List Int) (n c : Nat) (L : Int) (w : World) (hn : xs.length = n) (hl : n ≤ 17592186044416) (hx : IntsAt w ao xs) :
    Calls Try.prog 10 #[.agg #[.slice ao n c], .int .i64 L] w fun e w' => e = .returned (.tuple #[.int .i64 (outI xs L), .bool (decide (0 ≤ outI xs L))]) ∧ Below w.heap.size w w' := by
  have HN := hid hn
  have B := (Below.refl w.heap.size w).alloc (Nat.le_refl _) (.cells #[.slice ao n c] 25)
  have bk := Blk.new w #[.slice ao n c] 25
  have e0 := bk.at 0 rfl
  have hfin := hid (outI_in (xs := xs) (L := L))
  have hfin0 := hid (outI_out (xs := xs) (L := L))
  clear hn
  go_enter Try.func10, Try.ntmps10
  go_wp2_with fail
  generalize (w.alloc (.cells #[.slice ao n c] 25)) = w0 at *
  refine (implSetValid_any ao xs n c L w0 HN.out hl (hx.below B (Nat.le_refl _))).mono fun e w1 h => ?_
  cases hg : setB xs L with
  | false =>
    rw [hg] at h
    obtain ⟨rfl, b⟩ := h
    have hf := hid (hfin0.out hg)
    have B := B.trans (b.mono B.size)
    clear e0 b bk
    go_wp2_with fail
    exact bodyPost_ret (v := .tuple #[.int .i64 (-1), .bool false]) (by simp [results, Try.results10, go_sem]) rfl ⟨by rw [hf.out]; rfl, B⟩
  | true =>
    rw [hg] at h
    obtain ⟨rfl, b⟩ := h
    have hok := hid (setB_iff.1 hg).1
    have B := B.trans (b.mono B.size)
    have bk := bk.below b (Nat.le_refl _)
    have hn9 := hok.out.max
    rw [HN.out] at hn9
    have hp : wrap64 (2 ^ n) = ((2 ^ n : Nat) : Int) := wrap_pow (by omega)
    have h512 := pow9 hn9
    obtain ⟨P, hP⟩ : ∃ P, 2 ^ n = P := ⟨_, rfl⟩
    rw [hP] at hp h512
    have HF : Hid (outI xs L = bst xs L P) := by unfold Hid; rw [hfin.out hg, HN.out, hP]
    have HP := hid hp
    clear b hg e0 hP hp
    have e0 := bk.at 0 rfl
    go_wp2_with fail
    clear e0
    go_loopw [6, 7, 16] (fun v _ i wr => ∃ k : Nat, k ≤ P ∧ i = .int .i64 k ∧ v = .int .i64 (bst xs L k) ∧ Blk wr w.heap.size #[.slice ao n c] 25 ∧ Below w.heap.size w wr) (fun _ _ i _ => P - (intOf i).toNat)
    case atStart => exact ⟨0, Nat.zero_le _, rfl, rfl, bk, B⟩
    case round =>
      obtain ⟨k, hk, rfl, rfl, hbk, hB⟩ := hrel
      clear bk B
      have e0 := hbk.at 0 rfl
      by_cases hlt : k < P
      · have hd : decide ((k : Int) < wrap64 (2 ^ n)) = true := by rw [HP.out]; exact decide_eq_true (by omega)
        have hr := bst_rng xs L k
        go_wp2_with fail
        refine (pressesChange_any ao xs n c k wr HN.out hok.out (by omega) (hx.below hB (Nat.le_refl _))).mono fun e w3 h => ?_
        obtain ⟨rfl, b⟩ := h
        have hbi := hbk.below b (Nat.le_refl _)
        have hBi := hB.trans (b.mono hB.size)
        clear e0 b hbk hB
        by_cases hq : (press xs k : Int) = L
        · have hqb : (((press xs k : Nat) : Int) != L) = false := by rw [hq]; simp
          by_cases hv : bst xs L k < 0
          · have hs := hid (bst_in ⟨hq, .inl hv⟩)
            have hvb : decide (bst xs L k < 0) = true := decide_eq_true hv
            clear hq hv hr
            generalize bst xs L k = v at *
            go_wp2
            go_roundw
            case rel => exact ⟨k + 1, by omega, by go_num, by rw [hs.out], hbi, hBi⟩
            case measure => simp [intOf]; omega
          · have hvb : decide (bst xs L k < 0) = false := decide_eq_false hv
            obtain ⟨m, hm⟩ := Int.eq_ofNat_of_zero_le (Int.not_lt.1 hv)
            have hin := hid (bst_in (xs := xs) (L := L) (k := k))
            have hno := hid (bst_not (xs := xs) (L := L) (k := k))
            rw [hm] at hvb hr hin hno ⊢
            rw [Int.toNat_natCast] at hin hno
            have hmv : ¬ ((m : Int) < 0) := by omega
            have hm9 : m < 1024 := by omega
            by_cases hpc : pc k < pc m
            · have hpb : decide ((pc k : Int) < pc m) = true := decide_eq_true (by omega)
              have hs := hid (hin.out ⟨hq, .inr hpc⟩)
              clear hm hq hv
              go_wp2_with fail
              refine (countBits_any k w3 (by omega)).mono fun e w4 h => ?_
              obtain ⟨rfl, rfl⟩ := h
              go_wp2_with fail
              refine (countBits_any m w3 hm9).mono fun e w4 h => ?_
              obtain ⟨rfl, rfl⟩ := h
              go_wp2
              go_roundw
              case rel => exact ⟨k + 1, by omega, by go_num, by rw [hs.out], hbi, hBi⟩
              case measure => simp [intOf]; omega
            · have hpb : decide ((pc k : Int) < pc m) = false := decide_eq_false (by omega)
              have hs := hid (hno.out fun h => by rcases h.2 with h | h <;> omega)
              clear hm hq hv
              go_wp2_with fail
              refine (countBits_any k w3 (by omega)).mono fun e w4 h => ?_
              obtain ⟨rfl, rfl⟩ := h
              go_wp2_with fail
              refine (countBits_any m w3 hm9).mono fun e w4 h => ?_
              obtain ⟨rfl, rfl⟩ := h
              go_wp2
              go_roundw
              case rel => exact ⟨k + 1, by omega, by go_num, by rw [hs.out], hbi, hBi⟩
              case measure => simp [intOf]; omega
        · have hqb : (((press xs k : Nat) : Int) != L) = true := by simpa using hq
          have hs := hid (bst_not (xs := xs) (L := L) (k := k) fun h => hq h.1)
          clear hq
          go_wp2
          go_roundw
          case rel => exact ⟨k + 1, by omega, by go_num, by rw [hs.out], hbi, hBi⟩
          case measure => simp [intOf]; omega
      · obtain rfl : k = P := by omega
        have hd : decide ((k : Int) < wrap64 (2 ^ n)) = false := by rw [HP.out]; simp
        rw [← HF.out]
        obtain ⟨v, hv⟩ : ∃ v, outI xs L = v := ⟨_, rfl⟩
        rw [hv]
        have HV := hid hv
        clear hv
        go_wp2
        exact bodyPost_ret (v := .tuple #[.int .i64 v, .bool (decide (0 ≤ v))]) (by simp [results, Try.results10, go_sem]) rfl ⟨by rw [HV.out], hB⟩

set_option maxRecDepth 100000 in
set_option maxHeartbeats 2000000 in
theorem specOutBy_any (ao : Option Addr) (xs : List Int) (n c : Nat) (L : Int) (w : World) (hn : xs.length = n) (hl : n ≤ 17592186044416) (hx : IntsAt w ao xs) :
    Calls Try.prog 13 #[.agg #[.slice ao n c], .int .i64 L] w fun e w' => e = .returned (.tuple #[.int .i64 (outI xs L), .bool (decide (0 ≤ outI xs L))]) ∧ Below w.heap.size w w' := by
  have HN := hid hn
  have B := (Below.refl w.heap.size w).alloc (Nat.le_refl _) (.cells #[.slice ao n c] 25)
  have bk := Blk.new w #[.slice ao n c] 25
  have hfin := hid (outI_in (xs := xs) (L := L))
  have hfin0 := hid (outI_out (xs := xs) (L := L))
  clear hn
  go_enter Try.func13, Try.ntmps13
  go_wp2_with fail
  generalize (w.alloc (.cells #[.slice ao n c] 25)) = w1 at *
  cases hg : setB xs L with
  | false =>
    have hf := hid (hfin0.out hg)
    have hg' := hid hg
    clear hg
    go_loopw [6, 7] (fun v i wr => i = .int .i64 0 ∧ v = .int .i64 (-1) ∧ wr = w1) (fun _ _ _ => 0)
    case atStart => exact ⟨rfl, rfl, rfl⟩
    case round =>
      obtain ⟨rfl, rfl, rfl⟩ := hrel
      have e0 := bk.at 0 rfl
      by_cases h9 : 9 < n
      · have hd9 : (9 : Int) < n := by omega
        go_wp2_with fail
        refine (specSetValid_any ao xs n c L _ HN.out hl (hx.below B (Nat.le_refl _))).mono fun e w2 h => ?_
        rw [hg'.out] at h
        obtain ⟨rfl, b⟩ := h
        have B := B.trans (b.mono B.size)
        go_wp2
        exact bodyPost_ret (v := .tuple #[.int .i64 (-1), .bool false]) (by simp [results, Try.results13, go_sem]) rfl ⟨by rw [hf.out]; rfl, B⟩
      · have hd9 : ¬ ((9 : Int) < n) := by omega
        have hp : wrap64 (2 ^ n) = ((2 ^ n : Nat) : Int) := wrap_pow (by omega)
        have hp1 : 1 ≤ 2 ^ n := Nat.one_le_two_pow
        generalize 2 ^ n = P at *
        have hd0 : decide ((0 : Int) < P) = true := decide_eq_true (by omega)
        go_wp2_with fail
        refine (specSetValid_any ao xs n c L _ HN.out hl (hx.below B (Nat.le_refl _))).mono fun e w2 h => ?_
        rw [hg'.out] at h
        obtain ⟨rfl, b⟩ := h
        have B := B.trans (b.mono B.size)
        go_wp2
        exact bodyPost_ret (v := .tuple #[.int .i64 (-1), .bool false]) (by simp [results, Try.results13, go_sem]) rfl ⟨by rw [hf.out]; rfl, B⟩
  | true =>
    have hok := hid (setB_iff.1 hg).1
    have hn9 := hok.out.max
    rw [HN.out] at hn9
    have hp : wrap64 (2 ^ n) = ((2 ^ n : Nat) : Int) := wrap_pow (by omega)
    have h512 := pow9 hn9
    obtain ⟨P, hP⟩ : ∃ P, 2 ^ n = P := ⟨_, rfl⟩
    rw [hP] at hp h512
    have HF : Hid (outI xs L = bst xs L P) := by unfold Hid; rw [hfin.out hg, HN.out, hP]
    have hg' := hid hg
    have h9n : ¬ ((9 : Int) < n) := by omega
    clear hg hP
    go_loopw [6, 7] (fun v i wr => ∃ k : Nat, k ≤ P ∧ i = .int .i64 k ∧ v = .int .i64 (bst xs L k) ∧ Blk wr w.heap.size #[.slice ao n c] 25 ∧ Below w.heap.size w wr) (fun _ i _ => P - (intOf i).toNat)
    case atStart => exact ⟨0, Nat.zero_le _, rfl, rfl, bk, B⟩
    case round =>
      obtain ⟨k, hk, rfl, rfl, hbk, hB⟩ := hrel
      clear bk B
      have e0 := hbk.at 0 rfl
      by_cases hlt : k < P
      · have hd : decide ((k : Int) < P) = true := decide_eq_true (by omega)
        have hr := bst_rng xs L k
        go_wp2_with fail
        refine (specSetValid_any ao xs n c L wr HN.out hl (hx.below hB (Nat.le_refl _))).mono fun e w2 h => ?_
        rw [hg'.out] at h
        obtain ⟨rfl, b⟩ := h
        have hbk := hbk.below b (Nat.le_refl _)
        have hB := hB.trans (b.mono hB.size)
        clear b e0
        have e0 := hbk.at 0 rfl
        go_wp2_with fail
        refine (l2Press_any ao xs n c k w2 HN.out hok.out (by omega) (hx.below hB (Nat.le_refl _))).mono fun e w3 h => ?_
        obtain ⟨rfl, b⟩ := h
        have hbi := hbk.below b (Nat.le_refl _)
        have hBi := hB.trans (b.mono hB.size)
        clear e0 b hbk hB
        by_cases hq : (press xs k : Int) = L
        · have hqb : (((press xs k : Nat) : Int) == L) = true := by rw [hq]; simp
          by_cases hv : bst xs L k < 0
          · have hs := hid (bst_in ⟨hq, .inl hv⟩)
            have hvb : decide (bst xs L k < 0) = true := decide_eq_true hv
            clear hq hv hr
            generalize bst xs L k = v at *
            go_wp2
            go_roundw
            case rel => exact ⟨k + 1, by omega, by go_num, by rw [hs.out], hbi, hBi⟩
            case measure => simp [intOf]; omega
          · have hvb : decide (bst xs L k < 0) = false := decide_eq_false hv
            obtain ⟨m, hm⟩ := Int.eq_ofNat_of_zero_le (Int.not_lt.1 hv)
            have hin := hid (bst_in (xs := xs) (L := L) (k := k))
            have hno := hid (bst_not (xs := xs) (L := L) (k := k))
            rw [hm] at hvb hr hin hno ⊢
            rw [Int.toNat_natCast] at hin hno
            have hmv : ¬ ((m : Int) < 0) := by omega
            have hm9 : m < 1024 := by omega
            by_cases hpc : pc k < pc m
            · have hpb : decide ((pc k : Int) < pc m) = true := decide_eq_true (by omega)
              have hs := hid (hin.out ⟨hq, .inr hpc⟩)
              clear hm hq hv
              go_wp2_with fail
              refine (l1Many_any k w3 (by omega)).mono fun e w4 h => ?_
              obtain ⟨rfl, rfl⟩ := h
              go_wp2_with fail
              refine (l1Many_any m w3 hm9).mono fun e w4 h => ?_
              obtain ⟨rfl, rfl⟩ := h
              go_wp2
              go_roundw
              case rel => exact ⟨k + 1, by omega, by go_num, by rw [hs.out], hbi, hBi⟩
              case measure => simp [intOf]; omega
            · have hpb : decide ((pc k : Int) < pc m) = false := decide_eq_false (by omega)
              have hs := hid (hno.out fun h => by rcases h.2 with h | h <;> omega)
              clear hm hq hv
              go_wp2_with fail
              refine (l1Many_any k w3 (by omega)).mono fun e w4 h => ?_
              obtain ⟨rfl, rfl⟩ := h
              go_wp2_with fail
              refine (l1Many_any m w3 hm9).mono fun e w4 h => ?_
              obtain ⟨rfl, rfl⟩ := h
              go_wp2
              go_roundw
              case rel => exact ⟨k + 1, by omega, by go_num, by rw [hs.out], hbi, hBi⟩
              case measure => simp [intOf]; omega
        · have hqb : (((press xs k : Nat) : Int) == L) = false := by simpa using hq
          have hs := hid (bst_not (xs := xs) (L := L) (k := k) fun h => hq h.1)
          clear hq
          go_wp2
          go_roundw
          case rel => exact ⟨k + 1, by omega, by go_num, by rw [hs.out], hbi, hBi⟩
          case measure => simp [intOf]; omega
      · obtain rfl : k = P := by omega
        have hd : decide ((k : Int) < k) = false := by simp
        rw [← HF.out]
        obtain ⟨v, hv⟩ : ∃ v, outI xs L = v := ⟨_, rfl⟩
        rw [hv]
        have HV := hid hv
        clear hv
        go_wp2
        exact bodyPost_ret (v := .tuple #[.int .i64 v, .bool (decide (0 ≤ v))]) (by simp [results, Try.results13, go_sem]) rfl ⟨by rw [HV.out], hB⟩

end Go.Proofs.Ytgmjffplinpobaa
