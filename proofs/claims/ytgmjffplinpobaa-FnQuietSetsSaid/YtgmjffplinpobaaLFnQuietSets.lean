/- The walk of the law FnQuietSets. -/
import Derived.Test.YtgmjffplinpobaaHa
import Derived.Test.YtgmjffplinpobaaLz
import Derived.Test.YtgmjffplinpobaaSi
import Derived.Test.YtgmjffplinpobaaAl
namespace Go.Proofs.Ytgmjffplinpobaa
open Go Go.RowKit

set_option maxRecDepth 100000 in
set_option maxHeartbeats 2000000 in
theorem fnQuietSets_walk (w : World) (ao : Option Addr) (bs : List Int) (l c : Nat) (hn : bs.length = l) (hlc : l ≤ c) (hcm : c ≤ 9223372036854775807) (hx : BytesAt w ao bs) (h8 : B8 bs) :
    Calls Try.prog 5 #[.slice ao l c] w fun e w' => e = .returned (.bool true) ∧ Below w.heap.size w w' := by
  by_cases hbig : 1048576 < l
  · have hd : decide ((1048576 : Int) < l) = true := decide_eq_true (by omega)
    clear hx hn h8
    go_enter Try.func5, Try.ntmps5
    go_wp2
    go_ret
    exact ⟨rfl, Below.refl _ _⟩
  have hd : decide ((1048576 : Int) < l) = false := decide_eq_false (by omega)
  go_enter Try.func5, Try.ntmps5
  go_wp2_with fail
  refine (drawQuietSets_any ao bs l c w hn hlc hcm hx h8).mono fun e w1 h => ?_
  obtain ⟨ao1, m, c1, ys, rfl, hl, hmc, hm, o, B⟩ := h
  clear hx h8 hn hd hbig
  have HL := hid hl
  clear hl
  have bk := Blk.new w1 #[.slice ao1 m c1] 25
  have o := o.alloc (.cells #[.slice ao1 m c1] 25)
  have B := B.alloc B.size (.cells #[.slice ao1 m c1] 25)
  go_wp2_with fail
  generalize (w1.alloc (.cells #[.slice ao1 m c1] 25)) = W at *
  generalize w1.heap.size = gb at *
  obtain ⟨Q, hQ⟩ : ∃ Q, (quietL ys).length = Q := ⟨_, rfl⟩
  have hQ5 := quietL_len ys
  rw [hQ] at hQ5
  have HQ := hid hQ
  refine (implQuietSets_any ao1 ys m c1 W HL.out (by omega) o.ints).mono fun e w2 h => ?_
  obtain ⟨aq, cq, rfl, oq, b⟩ := h.to hQ
  have o := o.below b (Nat.le_refl _)
  have bk := bk.below b (Nat.le_refl _)
  have B := B.trans (b.mono B.size)
  clear b h
  have e0 := bk.at 0 rfl
  go_wp2_with fail
  clear e0
  refine (specQuietSets_any ao1 ys m c1 w2 HL.out (by omega) o.ints).mono fun e w3 h => ?_
  obtain ⟨a2, cs, rfl, os, b⟩ := h.to hQ
  have o := o.below b (Nat.le_refl _)
  have oq := oq.below b (Nat.le_refl _)
  have bk := bk.below b (Nat.le_refl _)
  have B := B.trans (b.mono B.size)
  clear b h hQ
  go_wp2_with fail
  refine (sameInts_self aq a2 (quietL ys) Q cq cs w3 HQ.out (by omega) oq.ints os.ints).mono fun e w4 h => ?_
  obtain ⟨rfl, hq⟩ := h
  have o := o.qt hq
  have oq := oq.qt hq
  have bk := bk.qt hq
  have B := B.trans (hq.below _)
  clear hq os
  have e0 := bk.at 0 rfl
  go_wp2_with fail
  clear e0
  refine (specGraphValid_any ao1 ys m c1 w4 HL.out (by omega) o.ints).mono fun e w5 h => ?_
  cases hg : grB ys with
  | false =>
    rw [hg] at h
    obtain ⟨rfl, b⟩ := h
    have B := B.trans (b.mono B.size)
    obtain rfl : Q = 0 := by rw [← HQ.out, quietL_out hg]; rfl
    clear b o oq bk hg
    go_wp2_with fail
    refine (alive_any w5).mono fun e w6 h => ?_
    obtain ⟨rfl, b⟩ := h
    have B := B.trans (b.mono B.size)
    clear b
    go_wp2
    go_ret
    exact ⟨rfl, B⟩
  | true =>
    rw [hg] at h
    obtain ⟨rfl, b⟩ := h
    have hok := hid (grB_iff.1 hg)
    have o := o.below b (Nat.le_refl _)
    have oq := oq.below b (Nat.le_refl _)
    have bk := bk.below b (Nat.le_refl _)
    have B := B.trans (b.mono B.size)
    clear b hg
    go_wp2_with fail
    have hmem : Hid (∀ j, j < Q → ∃ q : Nat, nth (quietL ys) j = q ∧ q < 512 ∧ press ys q = 0 ∧ pc q % 2 = 0 ∧ setB ys q = true) := fun j hj => by
      obtain ⟨q, h1, h2, h3⟩ := (mem_quietL hok.out).1 (nth_mem (xs := quietL ys) (j := j) (by rw [HQ.out]; exact hj))
      have h512 := pow9 hok.out.max
      refine ⟨q, h1, by omega, h3, hok.out.quiet_pc h3 h2, setB_iff.2 ⟨hok.out, by omega, ?_⟩⟩
      generalize 2 ^ ys.length = P at *
      omega
    have hm17 : m ≤ 17592186044416 := by omega
    go_loopw [5] (fun i wr => ∃ k : Nat, k ≤ Q ∧ i = .int .i64 k ∧ Below w5.heap.size w5 wr) (fun i _ => Q - (intOf i).toNat)
    case atStart => exact ⟨0, Nat.zero_le _, rfl, Below.refl _ _⟩
    case round =>
      obtain ⟨k, hk, rfl, hb⟩ := hrel
      have o := o.below hb (Nat.le_refl _)
      have oq := oq.below hb (Nat.le_refl _)
      have bk := bk.below hb (Nat.le_refl _)
      have B := B.trans (hb.mono B.size)
      have e0 := bk.at 0 rfl
      by_cases hlt : k < Q
      · obtain ⟨q, hq1, hq2, hq3, hq4, hq5⟩ := hmem.out k hlt
        obtain ⟨bq, off, rfl, hc⟩ := oq.ints (by rw [HQ.out]; omega)
        have hck := hc k (by rw [HQ.out]; exact hlt)
        rw [hq1] at hck
        have hbl := World.block_lt_of_cell? _ _ hck
        have hgl := bk.lt
        have HG5 := hid hq5
        have hdq : Hid (decide (press ys q = 0) = true) := decide_eq_true hq3
        have hp1 : ((pc q : Int).tmod 2 == 1) = false := by
          have : (pc q : Int).tmod 2 = 0 := by rw [Int.tmod_eq_emod_of_nonneg (by omega)]; omega
          rw [this]; rfl
        have hp2 : ((pc q : Int) % 2 == 1) = false := by
          have : (pc q : Int) % 2 = 0 := by omega
          rw [this]; rfl
        have hq10 : q < 1024 := by omega
        have hq62 : q < 2 ^ 62 := by omega
        have hHL := HL.out
        have hoW := hid o
        clear hc hq1 hq3 hq4 hq5
        go_wp2
        go_region_held3 (fun w' => (∀ b o, b < wr.heap.size → w'.cell? ⟨b, o, none⟩ = wr.cell? ⟨b, o, none⟩) ∧ Below wr.heap.size wr w')
          (first | with_reducible exact sb_drew _ | with_reducible exact sb_call ‹_› bv | with_reducible assumption)
          (first | (go_at_call 23; (with_reducible refine (implQuiet_any ao1 ys m c1 q _ hHL hm17 HG5.out hq62 (hoW.out.below (sb_below ‹_›) (Nat.le_refl _)).ints).mono fun e wv h => ?_); rw [hdq.out] at h; obtain ⟨rfl, bv⟩ := h)
                 | (go_at_call 16; (with_reducible refine (bits_any q _ hq10).mono fun e wv h => ?_); obtain ⟨rfl, rfl⟩ := h))
        all_goals rename_i hH
        all_goals
          have hb2 := hb.trans (hH.2.mono hb.size)
          clear hH
          go_wp2
          go_roundw
          case rel => exact ⟨k + 1, by omega, by go_num, hb2⟩
          case measure => simp [intOf]; omega
      · obtain rfl : k = Q := by omega
        have hrl : (iN (rwl ys m)).length = m := by rw [length_iN, length_rwl]
        go_wp2_with fail
        refine (implRowsOf_any ao1 ys m c1 wr HL.out hok.out o.ints).mono fun e w6 h => ?_
        obtain ⟨a3, c3, rfl, o3, b⟩ := h.to hrl
        have o := o.below b (Nat.le_refl _)
        have oq := oq.below b (Nat.le_refl _)
        have bk := bk.below b (Nat.le_refl _)
        have B := B.trans (b.mono B.size)
        clear h b e0 hrl
        go_wp2_with fail
        refine (implRankOf_any a3 ys m c3 w6 HL.out hok.out o3.ints).mono fun e w7 h => ?_
        obtain ⟨⟨R, rfl, hR⟩, b⟩ := h
        have o := o.below b (Nat.le_refl _)
        have oq := oq.below b (Nat.le_refl _)
        have bk := bk.below b (Nat.le_refl _)
        have B := B.trans (b.mono B.size)
        have hle := hR.le
        have hqt := hR.quiet hok.out
        have hm9 := hok.out.max
        rw [HL.out] at hle hqt hm9
        rw [HQ.out] at hqt
        obtain ⟨d, hd⟩ : ∃ d, m - R = d := ⟨_, rfl⟩
        rw [hd] at hqt
        have hd2 : (m : Int) - R = (d : Int) := by omega
        have hp : wrap64 (2 ^ d) = ((2 ^ d : Nat) : Int) := wrap_pow (by omega)
        rw [← hqt] at hp
        have hRm : decide ((R : Int) ≤ m) = true := decide_eq_true (by omega)
        have hkk : ((k : Int) == k) = true := by simp
        clear b o3 hqt hd hR
        go_wp2_with fail
        refine (ascend_any aq (quietL ys) k cq w7 HQ.out (by omega) oq.ints (quietL_asc hok.out)).mono fun e w8 h => ?_
        obtain ⟨rfl, hq⟩ := h
        have bk := bk.qt hq
        have B := B.trans (hq.below _)
        have e0 := bk.at 0 rfl
        clear hq o oq
        go_wp2
        go_ret
        exact ⟨rfl, B⟩

end Go.Proofs.Ytgmjffplinpobaa
