/- The walk of the law FnWorstOut. -/
import Derived.Test.YtgmjffplinpobaaWb
import Derived.Test.YtgmjffplinpobaaWc
import Derived.Test.YtgmjffplinpobaaWd
import Derived.Test.YtgmjffplinpobaaLz
import Derived.Test.YtgmjffplinpobaaAl
namespace Go.Proofs.Ytgmjffplinpobaa
open Go Go.RowKit

/-- Do some lights below k need just v presses? -/
noncomputable def smB (xs : List Int) (v : Int) : Nat → Bool
  | 0 => false
  | k + 1 => smB xs v k || (decide (0 ≤ outI xs k) && ((pc (outI xs k).toNat : Int) == v))
theorem smB_old {xs : List Int} {v : Int} {k : Nat} (h : smB xs v k = true) : smB xs v (k + 1) = true := by rw [smB, h]; rfl
theorem smB_in {xs : List Int} {v : Int} {k : Nat} (h0 : 0 ≤ outI xs k) (h1 : (pc (outI xs k).toNat : Int) = v) : smB xs v (k + 1) = true := by
  rw [smB, decide_eq_true h0, h1]; simp
theorem smB_not {xs : List Int} {v : Int} {k : Nat} (h : smB xs v k = false) (h1 : ¬ (0 ≤ outI xs k ∧ (pc (outI xs k).toNat : Int) = v)) : smB xs v (k + 1) = false := by
  rw [smB, h]
  by_cases h0 : 0 ≤ outI xs k
  · rw [decide_eq_true h0]; simp; exact fun e => h1 ⟨h0, e⟩
  · rw [decide_eq_false h0]; rfl
theorem smB_mem {xs : List Int} {v : Int} : ∀ {k L : Nat}, L < k → 0 ≤ outI xs L → (pc (outI xs L).toNat : Int) = v → smB xs v k = true
  | k + 1, L, h, h0, h1 => by
    by_cases e : L = k
    · subst e; exact smB_in h0 h1
    · exact smB_old (smB_mem (by omega) h0 h1)
theorem smB_end {xs : List Int} (h : GrOk xs) : smB xs (worstW xs) (2 ^ xs.length) = true := by
  obtain ⟨L, h1, h2, h3⟩ := wst_at (wst_nonneg h)
  rw [worstW_in h]
  exact smB_mem h1 h2 h3

set_option maxRecDepth 100000 in
set_option maxHeartbeats 2000000 in
theorem fnWorstOut_walk (w : World) (ao : Option Addr) (bs : List Int) (l c : Nat) (hn : bs.length = l) (hlc : l ≤ c) (hcm : c ≤ 9223372036854775807) (hx : BytesAt w ao bs) (h8 : B8 bs) :
    Calls Try.prog 6 #[.slice ao l c] w fun e w' => e = .returned (.bool true) ∧ Below w.heap.size w w' := by
  by_cases hbig : 1048576 < l
  · have hd : decide ((1048576 : Int) < l) = true := decide_eq_true (by omega)
    clear hx hn h8
    go_enter Try.func6, Try.ntmps6
    go_wp2
    go_ret
    exact ⟨rfl, Below.refl _ _⟩
  have hd : decide ((1048576 : Int) < l) = false := decide_eq_false (by omega)
  go_enter Try.func6, Try.ntmps6
  go_wp2_with fail
  refine (drawWorstOut_any ao bs l c w hn hlc hcm hx h8).mono fun e w1 h => ?_
  obtain ⟨ao1, m, c1, ys, rfl, hl, hmc, hm, o, B⟩ := h
  clear hx h8 hn hd hbig
  have HL := hid hl
  clear hl
  have bk := Blk.new w1 #[.slice ao1 m c1] 25
  have o := o.alloc (.cells #[.slice ao1 m c1] 25)
  have B := B.alloc B.size (.cells #[.slice ao1 m c1] 25)
  go_wp2_with fail
  generalize (w1.alloc (.cells #[.slice ao1 m c1] 25)) = W at *
  generalize w1.heap.size = gb at *
  refine (implWorstOut_any ao1 ys m c1 W HL.out (by omega) o.ints).mono fun e w2 h => ?_
  obtain ⟨v, hv⟩ : ∃ v, worstW ys = v := ⟨_, rfl⟩
  rw [hv] at h
  have HV := hid hv
  clear hv
  obtain ⟨rfl, b⟩ := h
  have o := o.below b (Nat.le_refl _)
  have bk := bk.below b (Nat.le_refl _)
  have B := B.trans (b.mono B.size)
  clear b
  have e0 := bk.at 0 rfl
  go_wp2_with fail
  clear e0
  refine (specWorstOut_any ao1 ys m c1 w2 HL.out (by omega) o.ints).mono fun e w3 h => ?_
  rw [HV.out] at h
  obtain ⟨rfl, b⟩ := h
  have o := o.below b (Nat.le_refl _)
  have bk := bk.below b (Nat.le_refl _)
  have B := B.trans (b.mono B.size)
  clear b
  have hvv : (v != v) = false := by simp
  have e0 := bk.at 0 rfl
  cases hg : grB ys with
  | false =>
    obtain rfl : v = -1 := by rw [← HV.out]; exact worstW_out hg
    have HG := hid hg
    clear hg
    go_wp2_with fail
    clear e0
    refine (implGraphValid_any ao1 ys m c1 w3 HL.out (by omega) o.ints).mono fun e w4 h => ?_
    rw [HG.out] at h
    obtain ⟨rfl, b⟩ := h
    have B := B.trans (b.mono B.size)
    clear b o bk
    go_wp2_with fail
    refine (alive_any w4).mono fun e w5 h => ?_
    obtain ⟨rfl, b⟩ := h
    have B := B.trans (b.mono B.size)
    clear b
    go_wp2
    go_ret
    exact ⟨rfl, B⟩
  | true =>
    have hok := hid (grB_iff.1 hg)
    have hm9 := hok.out.max
    rw [HL.out] at hm9
    have h512 := pow9 hm9
    have hp : wrap64 (2 ^ m) = ((2 ^ m : Nat) : Int) := wrap_pow (by omega)
    have hv0 : 0 ≤ v := by rw [← HV.out, worstW_in hok.out]; exact wst_nonneg hok.out
    have hv10 : v ≤ 10 := by rw [← HV.out, worstW_in hok.out]; exact (wst_rng ys _).2
    have hle : Hid (∀ k : Nat, k < 2 ^ m → 0 ≤ outI ys k → outI ys k < 1024 ∧ (pc (outI ys k).toNat : Int) ≤ v) := fun k hk h0 => by
      have hs := setB_nat hok.out (L := k) (by rw [HL.out]; exact hk)
      have h1 := (bst_rng ys k (2 ^ ys.length)).2
      have h2 := wst_le (xs := ys) (k := 2 ^ ys.length) (L := k) (by rw [HL.out]; exact hk) h0
      rw [← worstW_in hok.out, HV.out] at h2
      refine ⟨?_, h2⟩
      rw [outI_in hs]
      rw [HL.out] at h1 ⊢
      omega
    have hend : smB ys v (2 ^ m) = true := by have := smB_end hok.out; rw [HV.out, HL.out] at this; exact this
    have hrk : Hid (∀ R : Nat, RkEnd ys R → decide (v ≤ R) = true) := fun R hR => by
      have := wst_rank hok.out hR
      rw [← worstW_in hok.out, HV.out] at this
      exact decide_eq_true this
    obtain ⟨P, hP⟩ : ∃ P, 2 ^ m = P := ⟨_, rfl⟩
    rw [hP] at h512 hp hle hend
    have HE := hid hend
    have hdv : decide (v < 0) = false := decide_eq_false (by omega)
    clear hg hP hend
    go_wp2_with fail
    clear e0
    go_loopw [5, 6, 7, 8] (fun s i _ _ wr => ∃ k : Nat, k ≤ P ∧ i = .int .i64 k ∧ s = .bool (smB ys v k) ∧ Below w3.heap.size w3 wr) (fun _ i _ _ _ => P - (intOf i).toNat)
    case atStart => exact ⟨0, Nat.zero_le _, rfl, rfl, Below.refl _ _⟩
    case round =>
      obtain ⟨k, hk, rfl, rfl, hb⟩ := hrel
      have o := o.below hb (Nat.le_refl _)
      have bk := bk.below hb (Nat.le_refl _)
      have B := B.trans (hb.mono B.size)
      have e0 := bk.at 0 rfl
      by_cases hlt : k < P
      · have hd : decide ((k : Int) < P) = true := decide_eq_true (by omega)
        have hle1 := hid (hle.out k hlt)
        have hin := hid (smB_in (xs := ys) (v := v) (k := k))
        have hold := hid (smB_old (xs := ys) (v := v) (k := k))
        have hno := hid (smB_not (xs := ys) (v := v) (k := k))
        go_wp2_with fail
        refine (implOutBy_any ao1 ys m c1 k wr HL.out (by omega) o.ints).mono fun e w4 h => ?_
        obtain ⟨rfl, b⟩ := h
        have hb := hb.trans (b.mono hb.size)
        clear b o bk e0 B
        generalize outI ys k = u at *
        by_cases h0 : 0 ≤ u
        · have hdu : decide (0 ≤ u) = true := decide_eq_true h0
          obtain ⟨hu1, hu2⟩ := hle1.out h0
          have hin := hid (hin.out h0)
          obtain ⟨b0, rfl⟩ := Int.eq_ofNat_of_zero_le h0
          rw [Int.toNat_natCast] at hin hno hu2
          have hpd : decide (v < (pc b0 : Int)) = false := decide_eq_false (by omega)
          have hpb := pc_le b0
          cases hs : smB ys v k with
          | true =>
            have hnx := hid (hold.out hs)
            clear hold hno hin hs
            go_wp2_with fail
            refine (bits_any b0 _ (by omega)).mono fun e w5 h => ?_
            obtain ⟨rfl, rfl⟩ := h
            go_wp2
            go_roundw
            case rel => exact ⟨k + 1, by omega, by go_num, by rw [hnx.out], hb⟩
            case measure => simp [intOf]; omega
          | false =>
            by_cases hq : (pc b0 : Int) = v
            · have hqb : ((pc b0 : Int) == v) = true := by rw [hq]; simp
              have hnx := hid (hin.out hq)
              clear hold hno hin hs hq
              go_wp2_with fail
              refine (bits_any b0 _ (by omega)).mono fun e w5 h => ?_
              obtain ⟨rfl, rfl⟩ := h
              go_wp2_with fail
              refine (bits_any b0 _ (by omega)).mono fun e w5 h => ?_
              obtain ⟨rfl, rfl⟩ := h
              go_wp2
              go_roundw
              case rel => exact ⟨k + 1, by omega, by go_num, by rw [hnx.out], hb⟩
              case measure => simp [intOf]; omega
            · have hqb : ((pc b0 : Int) == v) = false := by simpa using hq
              have hnx := hid (hno.out hs fun h => hq h.2)
              clear hold hno hin hs hq
              go_wp2_with fail
              refine (bits_any b0 _ (by omega)).mono fun e w5 h => ?_
              obtain ⟨rfl, rfl⟩ := h
              go_wp2_with fail
              refine (bits_any b0 _ (by omega)).mono fun e w5 h => ?_
              obtain ⟨rfl, rfl⟩ := h
              go_wp2
              go_roundw
              case rel => exact ⟨k + 1, by omega, by go_num, by rw [hnx.out], hb⟩
              case measure => simp [intOf]; omega
        · have hdu : decide (0 ≤ u) = false := decide_eq_false h0
          cases hs : smB ys v k with
          | true =>
            have hnx := hid (hold.out hs)
            clear hold hno hin hs hle1
            go_wp2
            go_roundw
            case rel => exact ⟨k + 1, by omega, by go_num, by rw [hnx.out], hb⟩
            case measure => simp [intOf]; omega
          | false =>
            have hnx := hid (hno.out hs fun h => h0 h.1)
            clear hold hno hin hs hle1
            go_wp2
            go_roundw
            case rel => exact ⟨k + 1, by omega, by go_num, by rw [hnx.out], hb⟩
            case measure => simp [intOf]; omega
      · obtain rfl : k = P := by omega
        have hd : decide ((k : Int) < k) = false := by simp
        rw [HE.out]
        have hrl : (iN (rwl ys m)).length = m := by rw [length_iN, length_rwl]
        go_wp2_with fail
        refine (implRowsOf_any ao1 ys m c1 wr HL.out hok.out o.ints).mono fun e w6 h => ?_
        obtain ⟨a3, c3, rfl, o3, b⟩ := h.to hrl
        have B := B.trans (b.mono B.size)
        clear h b e0 hrl o bk
        go_wp2_with fail
        refine (implRankOf_any a3 ys m c3 w6 HL.out hok.out o3.ints).mono fun e w7 h => ?_
        obtain ⟨⟨R, rfl, hR⟩, b⟩ := h
        have B := B.trans (b.mono B.size)
        have hRd := hrk.out R hR
        clear b o3 hR
        go_wp2
        go_ret
        exact ⟨rfl, B⟩

end Go.Proofs.Ytgmjffplinpobaa
