/- The walks of PermValid, the program's and the reference's. -/
import Derived.Test.YtojkiajempdmfaaInts
import Derived.Test.YtojkiajempdmfaaBits
namespace Go.Proofs.Ytojkiajempdmfaa
open Go Go.RowKit

/-- A valid permutation. -/
def PermOk (xs : List Int) : Prop := 1 ≤ xs.length ∧ xs.length ≤ 5 ∧ Dis xs.length xs
instance (xs : List Int) : Decidable (PermOk xs) := by unfold PermOk; infer_instance
def permB (xs : List Int) : Bool := decide (PermOk xs)

theorem permB_true {xs : List Int} (h : PermOk xs) : permB xs = true := by simpa [permB] using h
theorem permB_false {xs : List Int} (h : ¬ PermOk xs) : permB xs = false := by simpa [permB] using h

set_option maxRecDepth 100000 in
theorem implPermValid_any (ao : Option Addr) (xs : List Int) (n c : Nat) (w : World) (hn : xs.length = n) (hl : n ≤ 17592186044416) (hx : IntsAt w ao xs) :
    Calls Try.prog 36 #[.slice ao n c] w fun e w' => e = .returned (.bool (permB xs)) ∧ w = w' := by
  have HN := hid hn
  clear hn
  by_cases h1 : 1 ≤ n
  · by_cases h5 : n ≤ 5
    · have hd1 : decide ((n : Int) < 1) = false := decide_eq_false (by omega)
      have hd5 : decide ((5 : Int) < n) = false := decide_eq_false (by omega)
      go_enter Try.func36, Try.ntmps36
      go_wp2
      go_loop [3, 5, 16] (fun sv _ i => ∃ k m : Nat, k ≤ n ∧ i = .int .i64 k ∧ sv = .int .i64 m ∧ Hid (m = mask (xs.take k)) ∧ m < 4611686018427387904 ∧ Hid (Dis n (xs.take k))) (fun _ _ i => n - (intOf i).toNat)
      case atStart => exact ⟨0, 0, Nat.zero_le _, rfl, rfl, by simp [Hid, mask], by omega, by simpa [Hid] using Dis.nil n⟩
      case round =>
        obtain ⟨k, m, hk, rfl, rfl, hm, hm2, hd⟩ := hrel
        by_cases hlt : k < n
        · have hkl : k < xs.length := by rw [HN.out]; exact hlt
          obtain ⟨b, off, rfl, hc⟩ := hx (by rw [HN.out]; omega)
          have hck := hc k hkl
          have hstep := hid (dis_step hkl hd.out)
          have hsnoc := hid (take_succ_nth hkl)
          have hbad : Hid (¬ Dis n (xs.take (k + 1)) → permB xs = false) := fun h => permB_false fun hp => not_dis h (by have := hp.2.2; rwa [HN.out] at this)
          clear hc hx
          generalize hX : nth xs k = x at *
          clear hX
          by_cases hx0 : 0 ≤ x
          · by_cases hx1 : x < n
            · obtain ⟨t, rfl⟩ := Int.eq_ofNat_of_zero_le hx0
              have ht : t < n := by omega
              have hbt := bit_test (m := m) (t := t) hm2
              have hbo := hid (bit_or (m := m) (t := t) hm2 (by omega))
              have htest : Hid (m.testBit t = decide ((t : Int) ∈ xs.take k)) := by unfold Hid; rw [hm.out]; exact mask_test _ hd.out.1 t
              have hz1 : decide ((t : Int) < 0) = false := decide_eq_false (by omega)
              have hz2 : decide ((n : Int) ≤ t) = false := decide_eq_false (by omega)
              by_cases hmem : (t : Int) ∈ xs.take k
              · have hb : (bits .and .i64 ((m : Int) / 2 ^ t) 1 == 1) = true := by rw [hbt, htest.out]; simpa using hmem
                have hfin := hid (hbad.out fun h => (hstep.out.1 h).2 hmem)
                clear hbt hmem
                go_wp2
                go_ret
                exact ⟨by rw [hfin.out]; rfl, rfl⟩
              · have hb : (bits .and .i64 ((m : Int) / 2 ^ t) 1 == 1) = false := by rw [hbt, htest.out]; simpa using hmem
                have hnext := hid (hstep.out.2 ⟨⟨hx0, hx1⟩, hmem⟩)
                have hm' : Hid (m ||| 2 ^ t = mask (xs.take (k + 1))) := by unfold Hid; rw [hsnoc.out, mask_snoc, hm.out]; rfl
                have hlt' : m ||| 2 ^ t < 4611686018427387904 := Nat.or_lt_two_pow (n := 62) hm2 (pow_lt_62 (by omega))
                clear hbt hmem
                go_wp2
                go_round
                case rel => exact ⟨k + 1, m ||| 2 ^ t, by omega, by go_num, by rw [hbo.out], hm', hlt', hnext⟩
                case measure => simp [intOf]; omega
            · have hfin := hid (hbad.out fun h => by have := (hstep.out.1 h).1; omega)
              have hz1 : decide (x < 0) = false := decide_eq_false (by omega)
              have hz2 : decide ((n : Int) ≤ x) = true := decide_eq_true (by omega)
              go_wp2
              go_ret
              exact ⟨by rw [hfin.out]; rfl, rfl⟩
          · have hfin := hid (hbad.out fun h => by have := (hstep.out.1 h).1; omega)
            have hz1 : decide (x < 0) = true := decide_eq_true (by omega)
            go_wp2
            go_ret
            exact ⟨by rw [hfin.out]; rfl, rfl⟩
        · have hfin : Hid (permB xs = true) := permB_true ⟨by rw [HN.out]; exact h1, by rw [HN.out]; exact h5, by have := hd.out; rw [List.take_of_length_le (by rw [HN.out]; omega)] at this; rwa [HN.out]⟩
          go_wp2
          go_ret
          exact ⟨by rw [hfin.out]; rfl, rfl⟩
    · have hfin : Hid (permB xs = false) := permB_false fun h => by have := h.2.1; rw [HN.out] at this; omega
      have hd1 : decide ((n : Int) < 1) = false := decide_eq_false (by omega)
      have hd5 : decide ((5 : Int) < n) = true := decide_eq_true (by omega)
      go_enter Try.func36, Try.ntmps36
      go_wp2
      go_ret
      exact ⟨by rw [hfin.out]; rfl, rfl⟩
  · have hfin : Hid (permB xs = false) := permB_false fun h => by have := h.1; rw [HN.out] at this; omega
    have hd1 : decide ((n : Int) < 1) = true := decide_eq_true (by omega)
    go_enter Try.func36, Try.ntmps36
    go_wp2
    go_ret
    exact ⟨by rw [hfin.out]; rfl, rfl⟩

set_option maxRecDepth 100000 in
set_option maxHeartbeats 400000 in
theorem specPermValid_any (ao : Option Addr) (xs : List Int) (n c : Nat) (w : World) (hn : xs.length = n) (hl : n ≤ 17592186044416) (hnc : n ≤ c) (hx : IntsAt w ao xs) :
    Calls Try.prog 35 #[.slice ao n c] w fun e w' => e = .returned (.bool (permB xs)) ∧ Qt w w' := by
  have HN := hid hn
  clear hn
  go_enter Try.func35, Try.ntmps35
  go_wp2
  go_loopw [3] (fun i wr => ∃ k : Nat, k ≤ n ∧ i = .int .i64 k ∧ Qt w wr ∧ Hid (Dis n (xs.take k))) (fun i _ => n - (intOf i).toNat)
  case atStart => exact ⟨0, Nat.zero_le _, rfl, Qt.refl w, by simpa [Hid] using Dis.nil n⟩
  case round =>
    obtain ⟨k, hk, rfl, hq, hd⟩ := hrel
    have hx := hx.qt hq
    by_cases hlt : k < n
    · have hkl : k < xs.length := by rw [HN.out]; exact hlt
      have hx1 := hx.take k
      have hl1 : Hid ((xs.take k).length = k) := by unfold Hid; simp; omega
      obtain ⟨b, off, rfl, hc⟩ := hx (by rw [HN.out]; omega)
      have hck := hc k hkl
      have hstep := hid (dis_step hkl hd.out)
      have hbad : Hid (¬ Dis n (xs.take (k + 1)) → permB xs = false) := fun h => permB_false fun hp => not_dis h (by have := hp.2.2; rwa [HN.out] at this)
      clear hc hx
      generalize hX : nth xs k = x at *
      clear hX
      by_cases hin : 0 ≤ x ∧ x ≤ (n : Int) - 1
      · have hI : inR 0 ((n : Int) - 1) x = true := by simpa [inR] using hin
        by_cases hmem : x ∈ xs.take k
        · have hH : hasL (xs.take k) x = true := by simpa [hasL] using hmem
          have hfin := hid (hbad.out fun h => (hstep.out.1 h).2 hmem)
          clear hmem hin
          go_wp2
          go_quiet (first | (go_at_call 28; exact quiet_same (l1In_any _ _ _ _)) | (go_at_call 30; exact quiet_same (l1Has_any _ _ _ _ _ _ hl1.out (by omega) hx1)))
          go_wp2
          go_ret
          exact ⟨by rw [hfin.out]; rfl, hq.drewN _⟩
        · have hH : hasL (xs.take k) x = false := by simpa [hasL] using hmem
          have hnext := hid (hstep.out.2 ⟨⟨hin.1, by omega⟩, hmem⟩)
          clear hmem hin
          go_wp2
          go_quiet (first | (go_at_call 28; exact quiet_same (l1In_any _ _ _ _)) | (go_at_call 30; exact quiet_same (l1Has_any _ _ _ _ _ _ hl1.out (by omega) hx1)))
          go_wp2
          go_roundw
          case rel => exact ⟨k + 1, by omega, by go_num, hq.drewN _, hnext⟩
          case measure => simp [intOf]; omega
      · have hI : inR 0 ((n : Int) - 1) x = false := by simp only [inR, ← Bool.decide_and]; exact decide_eq_false hin
        have hfin := hid (hbad.out fun h => hin (by have := (hstep.out.1 h).1; omega))
        clear hin
        go_wp2
        go_quiet (first | (go_at_call 28; exact quiet_same (l1In_any _ _ _ _)) | (go_at_call 30; exact quiet_same (l1Has_any _ _ _ _ _ _ hl1.out (by omega) hx1)))
        go_wp2
        go_ret
        exact ⟨by rw [hfin.out]; rfl, hq.drewN _⟩
    · have hdn : Hid (Dis n xs) := by have := hd.out; rwa [List.take_of_length_le (by rw [HN.out]; omega)] at this
      have hfin : Hid (inR 1 5 n = permB xs) := by
        have h1 := HN.out
        have h2 := hdn.out
        subst h1
        simp only [Hid, inR, permB, PermOk, ← Bool.decide_and]
        exact decide_eq_decide.2 ⟨fun h => ⟨by omega, by omega, h2⟩, fun h => by omega⟩
      go_wp2_with (go_at_call 28; refine (l1In_any _ _ _ _).mono ?_; rintro e w' ⟨rfl, rfl⟩)
      go_ret
      exact ⟨by rw [← hfin.out]; rfl, hq⟩

end Go.Proofs.Ytojkiajempdmfaa
