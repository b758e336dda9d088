/- The walk of the law FnOutBy. -/
import Derived.Test.YtgmjffplinpobaaLs
import Derived.Test.YtgmjffplinpobaaLt
import Derived.Test.YtgmjffplinpobaaLu
import Derived.Test.YtgmjffplinpobaaAl
namespace Go.Proofs.Ytgmjffplinpobaa
open Go Go.RowKit

set_option maxRecDepth 100000 in
set_option maxHeartbeats 2000000 in
theorem fnOutBy_walk (w : World) (ao : Option Addr) (bs : List Int) (l c : Nat) (hn : bs.length = l) (hlc : l ≤ c) (hcm : c ≤ 9223372036854775807) (hx : BytesAt w ao bs) (h8 : B8 bs) :
    Calls Try.prog 4 #[.slice ao l c] w fun e w' => e = .returned (.bool true) ∧ Below w.heap.size w w' := by
  by_cases hbig : 1048576 < l
  · have hd : decide ((1048576 : Int) < l) = true := decide_eq_true (by omega)
    clear hx hn h8
    go_enter Try.func4, Try.ntmps4
    go_wp2
    go_ret
    exact ⟨rfl, Below.refl _ _⟩
  have hd : decide ((1048576 : Int) < l) = false := decide_eq_false (by omega)
  go_enter Try.func4, Try.ntmps4
  go_wp2_with fail
  refine (drawOutBy_any ao bs l c w hn hlc hcm hx h8).mono fun e w1 h => ?_
  obtain ⟨ao1, m, c1, ys, s, rfl, hl, hmc, hm, o, B⟩ := h
  clear hx h8 hn hd hbig
  have HL := hid hl
  clear hl
  have bk := Blk.new w1 #[.slice ao1 m c1] 25
  have o := o.alloc (.cells #[.slice ao1 m c1] 25)
  have B := B.alloc B.size (.cells #[.slice ao1 m c1] 25)
  go_wp2_with fail
  generalize (w1.alloc (.cells #[.slice ao1 m c1] 25)) = W at *
  generalize w1.heap.size = gb at *
  refine (implOutBy_any ao1 ys m c1 s W HL.out (by omega) o.ints).mono fun e w2 h => ?_
  obtain ⟨v, hv⟩ : ∃ v, outI ys s = v := ⟨_, rfl⟩
  rw [hv] at h
  have HV := hid hv
  clear hv
  obtain ⟨rfl, b⟩ := h
  have o := o.below b (Nat.le_refl _)
  have bk := bk.below b (Nat.le_refl _)
  have B := B.trans (b.mono B.size)
  clear b
  have e0 := bk.at 0 rfl
  go_wp2_with fail
  clear e0
  refine (specOutBy_any ao1 ys m c1 s w2 HL.out (by omega) o.ints).mono fun e w3 h => ?_
  rw [HV.out] at h
  obtain ⟨rfl, b⟩ := h
  have o := o.below b (Nat.le_refl _)
  have bk := bk.below b (Nat.le_refl _)
  have B := B.trans (b.mono B.size)
  clear b
  have hvv : (v != v) = false := by simp
  have hvw : (decide (0 ≤ v) != decide (0 ≤ v)) = false := by simp
  have e0 := bk.at 0 rfl
  go_wp2_with fail
  clear e0
  refine (specSetValid_any ao1 ys m c1 s w3 HL.out (by omega) o.ints).mono fun e w4 h => ?_
  cases hg : setB ys s with
  | false =>
    rw [hg] at h
    obtain ⟨rfl, b⟩ := h
    have B := B.trans (b.mono B.size)
    obtain rfl : v = -1 := by rw [← HV.out]; exact outI_out hg
    clear b o bk hg
    go_wp2_with fail
    refine (alive_any w4).mono fun e w5 h => ?_
    obtain ⟨rfl, b⟩ := h
    have B := B.trans (b.mono B.size)
    clear b
    go_wp2
    go_ret
    exact ⟨rfl, B⟩
  | true =>
    rw [hg] at h
    obtain ⟨rfl, b⟩ := h
    have hsb := setB_iff.1 hg
    have hok := hid hsb.1
    have hm9 := hok.out.max
    rw [HL.out] at hm9
    have h512 := pow9 hm9
    have hp1 : 1 ≤ 2 ^ m := Nat.one_le_two_pow
    have hp : wrap64 (2 ^ m) = ((2 ^ m : Nat) : Int) := wrap_pow (by omega)
    have hp2 : IntKind.i64.wrap ((2 : Int) ^ m) = ((2 ^ m : Nat) : Int) := wrap_powk (by omega)
    have hall := out_ones hok.out
    rw [HL.out] at hall
    obtain ⟨P, hP⟩ : ∃ P, 2 ^ m = P := ⟨_, rfl⟩
    rw [hP] at h512 hp1 hp hp2 hall
    have HP := hid hP
    have hps : IntKind.i64.wrap ((P : Int) - 1) = (P : Int) - 1 := IntWalk.i64_in _ (by omega)
    have hpc : (P : Int) - 1 = ((P - 1 : Nat) : Int) := by omega
    have HG := hid hg
    rw [← hpc] at hall
    have o := o.below b (Nat.le_refl _)
    have bk := bk.below b (Nat.le_refl _)
    have B := B.trans (b.mono B.size)
    have e0 := bk.at 0 rfl
    have hgl := bk.lt
    have hHL := HL.out
    have hm17 : m ≤ 17592186044416 := by omega
    have hda : Hid (decide (0 ≤ outI ys ((P : Int) - 1)) = true) := decide_eq_true hall
    clear b hg hP hpc
    go_wp2
    go_region_held3 (fun w' => (∀ b o, b < w4.heap.size → w'.cell? ⟨b, o, none⟩ = w4.cell? ⟨b, o, none⟩) ∧ Below w4.heap.size w4 w')
      (first | with_reducible exact sb_drew _ | with_reducible exact sb_call ‹_› bv | with_reducible assumption)
      (first | (go_at_call 10; (with_reducible refine (implOutBy_any ao1 ys m c1 ((P : Int) - 1) _ hHL hm17 (o.below (sb_below ‹_›) (Nat.le_refl _)).ints).mono fun e w5 h => ?_); rw [hda.out] at h; obtain ⟨rfl, bv⟩ := h))
    all_goals rename_i hH
    all_goals
      have bz := hH.2
      have o := o.below bz (Nat.le_refl _)
      have bk := bk.below bz (Nat.le_refl _)
      have B := B.trans (bz.mono B.size)
      clear hH bz bv e0 hall hda hps hp hp2
      have e0 := bk.at 0 rfl
      by_cases h0 : 0 ≤ v
      · obtain ⟨b0, hb0, hb1, hb2, hb3⟩ := out_some HG.out (by rw [HV.out]; exact h0)
        rw [HV.out] at hb0
        subst hb0
        rw [HL.out, HP.out] at hb1
        rw [HL.out, HP.out] at hb3
        have HB2 := hid hb2
        have HB3 := hid hb3
        have hset : Hid (setB ys b0 = true) := by
          unfold Hid; rw [setB_iff, HL.out, HP.out]; exact ⟨hok.out, by omega, by omega⟩
        clear hb2 hb3
        go_wp2_with fail
        refine (implQuietSets_any ao1 ys m c1 _ HL.out (by omega) o.ints).mono fun e w6 h => ?_
        obtain ⟨Q, hQ⟩ : ∃ Q, (quietL ys).length = Q := ⟨_, rfl⟩
        have hQ5 := quietL_len ys
        rw [hQ] at hQ5
        have HQ := hid hQ
        obtain ⟨aq, cq, rfl, oq, b⟩ := h.to hQ
        have o := o.below b (Nat.le_refl _)
        have bk := bk.below b (Nat.le_refl _)
        have B := B.trans (b.mono B.size)
        have hmem : Hid (∀ j, j < Q → ∃ q : Nat, nth (quietL ys) j = q ∧ q < P ∧ press ys q = 0) := fun j hj => by
          obtain ⟨q, h1, h2, h3⟩ := (mem_quietL hok.out).1 (nth_mem (xs := quietL ys) (j := j) (by omega))
          rw [HL.out, HP.out] at h2
          exact ⟨q, h1, h2, h3⟩
        have hxq := oq.ints
        clear h b hQ e0 oq
        go_wp2_with fail
        go_loop [12] (fun i => ∃ k : Nat, k ≤ Q ∧ i = .int .i64 k) (fun i => Q - (intOf i).toNat)
        case atStart => exact ⟨0, Nat.zero_le _, rfl⟩
        case round =>
          obtain ⟨k, hk, rfl⟩ := hrel
          by_cases hlt : k < Q
          · obtain ⟨bq, off, rfl, hc⟩ := hxq (by rw [HQ.out]; omega)
            have hck := hc k (by rw [HQ.out]; exact hlt)
            obtain ⟨q, hq1, hq2, hq3⟩ := hmem.out k hlt
            rw [hq1] at hck
            have hle := HB3.out q hq2 hq3
            have hxl : b0 ^^^ q < 1024 := Nat.xor_lt_two_pow (n := 10) (by omega) (by omega)
            have hnl : ¬ (pc (b0 ^^^ q) < pc b0) := by omega
            have hnd : decide ((pc (b0 ^^^ q) : Int) < pc b0) = false := decide_eq_false (by omega)
            clear hc hq1 hq3 hle
            go_wp2_with fail
            refine (other_any b0 q _ (by omega) (by omega)).mono fun e w7 h => ?_
            obtain ⟨rfl, rfl⟩ := h
            obtain ⟨x, hx⟩ : ∃ x, b0 ^^^ q = x := ⟨_, rfl⟩
            rw [hx] at hxl hnl hnd ⊢
            clear hx
            go_wp2_with fail
            refine (bits_any x _ hxl).mono fun e w7 h => ?_
            obtain ⟨rfl, rfl⟩ := h
            go_wp2_with fail
            refine (bits_any b0 _ (by omega)).mono fun e w7 h => ?_
            obtain ⟨rfl, rfl⟩ := h
            go_wp2
            go_round
            case rel => exact ⟨k + 1, by omega, by go_num⟩
            case measure => simp [intOf]; omega
          · obtain rfl : k = Q := by omega
            have e0 := bk.at 0 rfl
            have hse : (((press ys b0 : Nat) : Int) == s) = true := by rw [HB2.out]; simp
            go_wp2_with fail
            refine (implPressSet_any ao1 ys m c1 b0 _ HL.out (by omega) hset.out (by omega) o.ints).mono fun e w7 h => ?_
            obtain ⟨rfl, b⟩ := h
            have B := B.trans (b.mono B.size)
            clear b o bk e0
            generalize ((press ys b0 : Nat) : Int) = z at *
            go_wp2
            go_ret
            exact ⟨rfl, B⟩
      · obtain rfl : v = -1 := by rw [← HV.out]; exact out_neg (by rw [HV.out]; exact h0)
        clear o bk
        go_wp2
        go_ret
        exact ⟨rfl, B⟩

end Go.Proofs.Ytgmjffplinpobaa
