/- Valid graphs: the reference's walk; valid sets. -/
import Derived.Test.YtgmjffplinpobaaLg
namespace Go.Proofs.Ytgmjffplinpobaa
open Go Go.RowKit

theorem wrap_powk {t : Nat} (ht : t ≤ 61) : IntKind.i64.wrap ((2 : Int) ^ t) = ((2 ^ t : Nat) : Int) := by
  have h := pow_lt_62 ht
  have h1 : ((2 : Int) ^ t) = ((2 ^ t : Nat) : Int) := by simp
  rw [h1]
  generalize 2 ^ t = z at *
  exact IntWalk.i64_in _ (by omega)
theorem bitN_of {m k : Nat} {b : Bool} (h : m.testBit k = b) : bitN m k = b.toNat := by rw [bitN_test, h]

set_option maxRecDepth 100000 in
set_option maxHeartbeats 1000000 in
theorem specGraphValid_any (ao : Option Addr) (xs : List Int) (n c : Nat) (w : World) (hn : xs.length = n) (hl : n ≤ 17592186044416) (hx : IntsAt w ao xs) :
    Calls Try.prog 22 #[.agg #[.slice ao n c]] w fun e w' => e = .returned (.bool (grB xs)) ∧ Below w.heap.size w w' := by
  have HN := hid hn
  have bel := (Below.refl w.heap.size w).alloc (Nat.le_refl _) (.cells #[.slice ao n c] 25)
  have bk := Blk.new w #[.slice ao n c] 25
  have hx := hx.below bel (Nat.le_refl _)
  clear hn
  have e0 := bk.at 0 rfl
  by_cases h19 : 1 ≤ n ∧ n ≤ 9
  · have hn1 := h19.1
    have hn9 := h19.2
    have hin : inR 1 9 (n : Int) = true := by unfold inR; rw [decide_eq_true (by omega), decide_eq_true (by omega)]; rfl
    obtain ⟨b, off, rfl, hc⟩ := hx (by rw [HN.out]; omega)
    have HC := hid hc
    have hp : wrap64 (2 ^ n) = ((2 ^ n : Nat) : Int) := wrap_pow (by omega)
    have hp2 : IntKind.i64.wrap ((2 : Int) ^ n) = ((2 ^ n : Nat) : Int) := wrap_powk (by omega)
    have h512 := pow9 hn9
    have hp1 : 1 ≤ 2 ^ n := Nat.one_le_two_pow
    obtain ⟨P, hP⟩ : ∃ P, 2 ^ n = P := ⟨_, rfl⟩
    rw [hP] at h512 hp1
    rw [hP] at hp hp2
    have HPP := hid hP
    have hps : IntKind.i64.wrap ((P : Int) - 1) = (P : Int) - 1 := IntWalk.i64_in _ (by omega)
    clear hP hc hx h19
    go_enter Try.func22, Try.ntmps22
    go_wp2_with fail
    refine (l1In_any _ _ _ _).mono fun e w1 h => ?_
    obtain ⟨rfl, rfl⟩ := h
    rw [hin]
    go_wp2_with fail
    generalize (w.alloc (.cells #[.slice (some ⟨b, off, none⟩) n c] 25)) = W at *
    have HE := hid e0
    clear bk e0
    go_loopw [4, 5] (fun i _ wr => (∃ k : Nat, k ≤ n ∧ i = .int .i64 k ∧ Hid (∀ j, j < k → RowIn n xs j) ∧ Hid (∀ a b, a < k → b < a → (gN xs a).testBit b = (gN xs b).testBit a)) ∧ Qt W wr) (fun i _ _ => n - (intOf i).toNat)
    case atStart => exact ⟨⟨0, Nat.zero_le _, rfl, fun j hj => absurd hj (by omega), fun a b ha => absurd ha (by omega)⟩, Qt.refl W⟩
    case round =>
      obtain ⟨⟨k, hk, rfl, hr, hs⟩, hq⟩ := hrel
      have belW := bel
      have bel := bel.trans (hq.below _)
      have e0 := (hq.cell _).trans HE.out
      by_cases hlt : k < n
      · have hck := (hq.cell _).trans (HC.out k (by rw [HN.out]; exact hlt))
        have hbad : Hid (¬ RowIn n xs k → grB xs = false) := fun h => grB_out fun ho => h (by have := ho.rows k (by rw [HN.out]; exact hlt); rwa [HN.out] at this)
        have hnext : Hid (RowIn n xs k → ∀ j, j < k + 1 → RowIn n xs j) := fun h j hj => by
          by_cases e : j = k
          · subst e; exact h
          · exact hr.out j (by omega)
        have hRI : Hid (RowIn n xs k ↔ 0 ≤ nth xs k ∧ nth xs k < (P : Nat) ∧ (nth xs k).toNat.testBit k = false) := by unfold Hid RowIn gN; rw [HPP.out]
        have hckW := HC.out k (by rw [HN.out]; exact hlt)
        obtain ⟨v, hV⟩ : ∃ v, nth xs k = v := ⟨_, rfl⟩
        rw [hV] at hck hckW hRI
        have HV := hid hV
        clear hV
        by_cases hv : 0 ≤ v ∧ v < P
        · have hiv : inR 0 ((P : Int) - 1) v = true := by unfold inR; rw [decide_eq_true hv.1, decide_eq_true (by omega)]; rfl
          obtain ⟨m, rfl⟩ := Int.eq_ofNat_of_zero_le hv.1
          have hmP : m < P := by omega
          cases hb : m.testBit k with
          | true =>
            have hbn := bitN_of hb
            have hf := hid (hbad.out fun h => by have := (hRI.out.1 h).2.2; rw [Int.toNat_natCast, hb] at this; cases this)
            clear hb hv
            go_wp2
            go_quiet (first | (go_at_call 41; exact quiet_same (l1In_any _ _ _ _)) | (go_at_call 44; exact quiet_same (l1Bit_any _ _ _ (by omega) (by omega))))
            go_wp2
            go_ret
            exact ⟨ret_bool hf.out.symm, below_drewN bel _⟩
          | false =>
            have hbn := bitN_of hb
            have hRK := hid (hRI.out.2 ⟨hv.1, hv.2, by rw [Int.toNat_natCast]; exact hb⟩)
            have hrn := hid (hnext.out hRK.out)
            have HMk : Hid (gN xs k = m) := by unfold Hid gN; rw [HV.out]; simp
            clear hb hv hbad hnext hRI
            go_wp2
            go_quiet (first | (go_at_call 41; exact quiet_same (l1In_any _ _ _ _)) | (go_at_call 44; exact quiet_same (l1Bit_any _ _ _ (by omega) (by omega))))
            go_wp2
            have HCK := hid hckW
            have BEL := hid belW
            clear hckW belW
            go_loopw [5] (fun i wr => (∃ j : Nat, j ≤ k ∧ i = .int .i64 j ∧ Hid (∀ b, b < j → (gN xs k).testBit b = (gN xs b).testBit k)) ∧ Qt W wr) (fun i _ => k - (intOf i).toNat)
            case atStart => exact ⟨⟨0, Nat.zero_le _, rfl, fun j hj => absurd hj (by omega)⟩, hq.drewN _⟩
            case round =>
              clear hq e0 hck bel
              obtain ⟨⟨j, hj, rfl, ht⟩, hq⟩ := hrel
              have bel := BEL.out.trans (hq.below _)
              have e0 := (hq.cell _).trans HE.out
              have hck := (hq.cell _).trans HCK.out
              by_cases hlj : j < k
              · have hcj := (hq.cell _).trans (HC.out j (by rw [HN.out]; omega))
                have hrj := (hr.out j hlj).nat
                rw [hrj.1] at hcj
                have hj9 := hrj.2
                rw [HPP.out] at hj9
                obtain ⟨m', hm'⟩ : ∃ m', gN xs j = m' := ⟨_, rfl⟩
                rw [hm'] at hcj hj9
                have HM' := hid hm'
                clear hrj hm' hbn
                have hx1 : bitN m j = (m.testBit j).toNat := bitN_test m j
                have hx2 : bitN m' k = (m'.testBit k).toNat := bitN_test m' k
                by_cases heq : m.testBit j = m'.testBit k
                · have hn : Hid (∀ b, b < j + 1 → (gN xs k).testBit b = (gN xs b).testBit k) := fun b hb => by
                    by_cases e : b = j
                    · subst e; rw [HMk.out, HM'.out]; exact heq
                    · exact ht.out b (by omega)
                  rw [← heq] at hx2
                  generalize (m.testBit j).toNat = y at *
                  have hne : ((y : Int) != y) = false := by simp
                  clear heq
                  go_wp2
                  go_quiet (first | (go_at_call 44; exact quiet_same (l1Bit_any _ _ _ (by omega) (by omega))))
                  go_wp2
                  go_roundw
                  case rel => exact ⟨⟨j + 1, by omega, by go_num, hn⟩, hq.drewN _⟩
                  case measure => simp [intOf]; omega
                · have hf : Hid (grB xs = false) := grB_out fun ho => heq (by have := ho.sym k j (by rw [HN.out]; exact hlt) (by rw [HN.out]; omega); rwa [HMk.out, HM'.out] at this)
                  have hne : (((m.testBit j).toNat : Int) != ((m'.testBit k).toNat : Int)) = true := by
                    cases h1 : m.testBit j <;> cases h2 : m'.testBit k <;> first | rfl | (rw [h1, h2] at heq; exact absurd rfl heq)
                  generalize (m.testBit j).toNat = y at *
                  generalize (m'.testBit k).toNat = z at *
                  clear heq
                  go_wp2
                  go_quiet (first | (go_at_call 44; exact quiet_same (l1Bit_any _ _ _ (by omega) (by omega))))
                  go_wp2
                  go_ret
                  exact ⟨ret_bool hf.out.symm, below_drewN bel _⟩
              · obtain rfl : j = k := by omega
                have hn : Hid (∀ a b, a < j + 1 → b < a → (gN xs a).testBit b = (gN xs b).testBit a) := fun a b ha hb => by
                  by_cases e : a = j
                  · subst e; exact ht.out b hb
                  · exact hs.out a b (by omega) hb
                go_wp2
                go_roundw
                case rel => exact ⟨⟨j + 1, by omega, by go_num, hrn, hn⟩, hq⟩
                case measure => simp [intOf]; omega
        · have hiv : inR 0 ((P : Int) - 1) v = false := by
            unfold inR
            by_cases h0 : 0 ≤ v
            · rw [decide_eq_false (p := v ≤ (P : Int) - 1) (by omega)]; simp
            · rw [decide_eq_false h0]; rfl
          have hf := hid (hbad.out fun h => hv ⟨(hRI.out.1 h).1, (hRI.out.1 h).2.1⟩)
          clear hv
          go_wp2
          go_quiet (first | (go_at_call 41; exact quiet_same (l1In_any _ _ _ _)))
          go_wp2
          go_ret
          exact ⟨ret_bool hf.out.symm, below_drewN bel _⟩
      · obtain rfl : k = n := by omega
        have hf : Hid (grB xs = true) := grB_in ⟨by rw [HN.out]; exact hn1, by rw [HN.out]; exact hn9, fun j hj => by rw [HN.out] at hj ⊢; exact hr.out j hj, fun a j ha hj => by
          rw [HN.out] at ha hj
          rcases Nat.lt_trichotomy a j with h | h | h
          · exact (hs.out j a hj h).symm
          · subst h; rfl
          · exact hs.out a j ha h⟩
        go_wp2
        go_ret
        exact ⟨ret_bool hf.out.symm, bel⟩
  · have hf : Hid (grB xs = false) := grB_out fun ho => h19 (by have := ho.pos; have := ho.max; rw [HN.out] at *; omega)
    have hin : inR 1 9 (n : Int) = false := by
      unfold inR
      by_cases h1 : 1 ≤ n
      · rw [decide_eq_false (p := (n : Int) ≤ 9) (by omega)]; simp
      · rw [decide_eq_false (p := (1 : Int) ≤ n) (by omega)]; rfl
    go_enter Try.func22, Try.ntmps22
    go_wp2_with fail
    refine (l1In_any _ _ _ _).mono fun e w1 h => ?_
    obtain ⟨rfl, rfl⟩ := h
    rw [hin]
    go_wp2
    go_ret
    exact ⟨ret_bool hf.out.symm, bel⟩

end Go.Proofs.Ytgmjffplinpobaa
