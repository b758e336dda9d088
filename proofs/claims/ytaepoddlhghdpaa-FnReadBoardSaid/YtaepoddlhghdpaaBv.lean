/- The walks of BoardValid, the program's and the reference's. -/
import Derived.Test.YtaepoddlhghdpaaInts
import Derived.Test.YtaepoddlhghdpaaBits
import Derived.Deep.QuietTactic
import Derived.BigQuiet
namespace Go.Proofs.Ytaepoddlhghdpaa
open Go Go.RowKit

/-- A valid board. -/
def BoardOk (wide : Int) (xs : List Int) : Prop := 2 ≤ xs.length ∧ xs.length ≤ 9 ∧ 1 ≤ wide ∧ (xs.length : Int) % wide = 0 ∧ Dis xs.length xs
instance (wide : Int) (xs : List Int) : Decidable (BoardOk wide xs) := by unfold BoardOk; infer_instance
def boardB (wide : Int) (xs : List Int) : Bool := decide (BoardOk wide xs)

theorem boardB_iff {wide : Int} {xs : List Int} : boardB wide xs = true ↔ BoardOk wide xs := by simp [boardB]
theorem boardB_not {wide : Int} {xs : List Int} : boardB wide xs = false ↔ ¬ BoardOk wide xs := by simp [boardB]

set_option maxRecDepth 100000 in
set_option maxHeartbeats 400000 in
theorem implBoardValid_any (wide : Int) (ao : Option Addr) (xs : List Int) (n c : Nat) (w : World) (hn : xs.length = n) (hl : n ≤ 17592186044416) (hx : IntsAt w ao xs) :
    Calls Try.prog 17 #[.agg #[.int .i64 wide, .slice ao n c]] w fun e w' => e = .returned (.bool (boardB wide xs)) ∧ Below w.heap.size w w' := by
  have HN := hid hn
  clear hn
  have B := (Below.refl w.heap.size w).alloc (Nat.le_refl _) (.cells #[.int .i64 wide, .slice ao n c] 27)
  by_cases h2 : 2 ≤ n
  rotate_left
  · have hfin : Hid (boardB wide xs = false) := boardB_not.2 fun h => by have := h.1; rw [HN.out] at this; omega
    have hd1 : decide ((n : Int) < 2) = true := decide_eq_true (by omega)
    go_enter Try.func17, Try.ntmps17
    go_wp2
    go_ret
    exact ⟨by rw [hfin.out]; rfl, B⟩
  have hd1 : decide ((n : Int) < 2) = false := decide_eq_false (by omega)
  by_cases h9 : n ≤ 9
  rotate_left
  · have hfin : Hid (boardB wide xs = false) := boardB_not.2 fun h => by have := h.2.1; rw [HN.out] at this; omega
    have hd2 : decide ((9 : Int) < n) = true := decide_eq_true (by omega)
    go_enter Try.func17, Try.ntmps17
    go_wp2
    go_ret
    exact ⟨by rw [hfin.out]; rfl, B⟩
  have hd2 : decide ((9 : Int) < n) = false := decide_eq_false (by omega)
  by_cases hw : 1 ≤ wide
  rotate_left
  · have hfin : Hid (boardB wide xs = false) := boardB_not.2 fun h => hw h.2.2.1
    have hd3 : decide (wide < 1) = true := decide_eq_true (by omega)
    go_enter Try.func17, Try.ntmps17
    go_wp2
    go_ret
    exact ⟨by rw [hfin.out]; rfl, B⟩
  have hd3 : decide (wide < 1) = false := decide_eq_false (by omega)
  by_cases hr : (n : Int) % wide = 0
  rotate_left
  · have hfin : Hid (boardB wide xs = false) := boardB_not.2 fun h => hr (by have := h.2.2.2.1; rwa [HN.out] at this)
    have hd4 : ((n : Int) % wide != 0) = true := by simpa using hr
    clear hr
    go_enter Try.func17, Try.ntmps17
    go_wp2
    go_ret
    exact ⟨by rw [hfin.out]; rfl, B⟩
  have hd4 : ((n : Int) % wide != 0) = false := by simpa using hr
  have HR := hid hr
  clear hr
  have hbad : Hid (¬ Dis n xs → boardB wide xs = false) := fun h => boardB_not.2 fun h' => h (by have := h'.2.2.2.2; rwa [HN.out] at this)
  go_enter Try.func17, Try.ntmps17
  go_wp2
  go_loop [4, 6, 31] (fun sv _ i => ∃ k m : Nat, k ≤ n ∧ i = .int .i64 k ∧ sv = .int .i64 m ∧ Hid (m = mask (xs.take k)) ∧ m < 4611686018427387904 ∧ Hid (Dis n (xs.take k))) (fun _ _ i => n - (intOf i).toNat)
  case atStart => exact ⟨0, 0, Nat.zero_le _, rfl, rfl, by simp [Hid, mask], by omega, by simpa [Hid] using Dis.nil n⟩
  case round =>
    obtain ⟨k, m, hk, rfl, rfl, hm, hm2, hd⟩ := hrel
    by_cases hlt : k < n
    · have hkl : k < xs.length := by rw [HN.out]; exact hlt
      obtain ⟨b, off, rfl, hc⟩ := (hx.below B (Nat.le_refl _)) (by omega)
      have hck := hc k hkl
      have hstep := hid (dis_step hkl hd.out)
      have hsnoc := hid (take_succ_nth hkl)
      have hbad' : Hid (¬ Dis n (xs.take (k + 1)) → boardB wide xs = false) := fun h => hbad.out (not_dis h)
      clear hc hx
      generalize hX : nth xs k = x at *
      clear hX
      by_cases hx0 : 0 ≤ x
      · by_cases hx1 : x < n
        · obtain ⟨t, rfl⟩ := Int.eq_ofNat_of_zero_le hx0
          have ht : t < n := by omega
          have hbt := bit_test (m := m) (t := t) hm2
          have hbo := hid (bit_or (m := m) (t := t) hm2 (by omega))
          have htest : Hid (m.testBit t = decide ((t : Int) ∈ xs.take k)) := by unfold Hid; rw [hm.out]; exact mask_test _ hd.out.1 t
          have hz1 : decide ((t : Int) < 0) = false := decide_eq_false (by omega)
          have hz2 : decide ((n : Int) ≤ t) = false := decide_eq_false (by omega)
          by_cases hmem : (t : Int) ∈ xs.take k
          · have hb : (bits .and .i64 ((m : Int) / 2 ^ t) 1 == 1) = true := by rw [hbt, htest.out]; simpa using hmem
            have hfin := hid (hbad'.out fun h => (hstep.out.1 h).2 hmem)
            clear hbt hmem
            go_wp2
            go_ret
            exact ⟨by rw [hfin.out]; rfl, B⟩
          · have hb : (bits .and .i64 ((m : Int) / 2 ^ t) 1 == 1) = false := by rw [hbt, htest.out]; simpa using hmem
            have hnext := hid (hstep.out.2 ⟨⟨hx0, hx1⟩, hmem⟩)
            have hm' : Hid (m ||| 2 ^ t = mask (xs.take (k + 1))) := by unfold Hid; rw [hsnoc.out, mask_snoc, hm.out]; rfl
            have hlt' : m ||| 2 ^ t < 4611686018427387904 := Nat.or_lt_two_pow (n := 62) hm2 (pow_lt_62 (by omega))
            clear hbt hmem
            go_wp2
            go_round
            case rel => exact ⟨k + 1, m ||| 2 ^ t, by omega, by go_num, by rw [hbo.out], hm', hlt', hnext⟩
            case measure => simp [intOf]; omega
        · have hfin := hid (hbad'.out fun h => by have := (hstep.out.1 h).1; omega)
          have hz1 : decide (x < 0) = false := decide_eq_false (by omega)
          have hz2 : decide ((n : Int) ≤ x) = true := decide_eq_true (by omega)
          go_wp2
          go_ret
          exact ⟨by rw [hfin.out]; rfl, B⟩
      · have hfin := hid (hbad'.out fun h => by have := (hstep.out.1 h).1; omega)
        have hz1 : decide (x < 0) = true := decide_eq_true (by omega)
        go_wp2
        go_ret
        exact ⟨by rw [hfin.out]; rfl, B⟩
    · have hfin : Hid (boardB wide xs = true) := boardB_iff.2 ⟨by rw [HN.out]; exact h2, by rw [HN.out]; exact h9, hw, by rw [HN.out]; exact HR.out, by have := hd.out; rw [List.take_of_length_le (by rw [HN.out]; omega)] at this; rwa [HN.out]⟩
      go_wp2
      go_ret
      exact ⟨by rw [hfin.out]; rfl, B⟩

theorem inR_true {lo hi n : Int} (h : lo ≤ n ∧ n ≤ hi) : inR lo hi n = true := by simpa [inR] using h
theorem inR_false {lo hi n : Int} (h : ¬ (lo ≤ n ∧ n ≤ hi)) : inR lo hi n = false := by simp only [inR, ← Bool.decide_and]; exact decide_eq_false h

set_option maxRecDepth 100000 in
set_option maxHeartbeats 1000000 in
theorem specBoardValid_any (wide : Int) (ao : Option Addr) (xs : List Int) (n c : Nat) (w : World) (hn : xs.length = n) (hl : n ≤ 17592186044416) (hnc : n ≤ c) (hx : IntsAt w ao xs) :
    Calls Try.prog 22 #[.agg #[.int .i64 wide, .slice ao n c]] w fun e w' => e = .returned (.bool (boardB wide xs)) ∧ Below w.heap.size w w' := by
  have HN := hid hn
  clear hn
  have B := (Below.refl w.heap.size w).alloc (Nat.le_refl _) (.cells #[.int .i64 wide, .slice ao n c] 27)
  by_cases h2 : 2 ≤ (n : Int) ∧ (n : Int) ≤ 9
  rotate_left
  · have hfin : Hid (boardB wide xs = false) := boardB_not.2 fun h => h2 (by have h0 := h.1; have h1 := h.2.1; rw [HN.out] at h0 h1; omega)
    have hi1 := inR_false h2
    clear h2
    go_enter Try.func22, Try.ntmps22
    go_wp2_with fail
    refine (l1In_any _ _ _ _).mono fun e w1 h => ?_
    rw [hi1] at h
    obtain ⟨rfl, rfl⟩ := h
    go_wp2_with fail
    go_ret
    exact ⟨by rw [hfin.out]; rfl, B⟩
  have hi1 := inR_true h2
  obtain ⟨h2a, h2b⟩ := h2
  by_cases hw : 1 ≤ wide ∧ wide ≤ n
  rotate_left
  · have hfin : Hid (boardB wide xs = false) := boardB_not.2 fun h => hw (by
      have h0 := h.2.2.1
      have h1 := h.2.2.2.1
      rw [HN.out] at h1
      refine ⟨h0, Int.le_of_dvd (by omega) (Int.dvd_of_emod_eq_zero h1)⟩)
    have hi2 := inR_false hw
    clear hw
    go_enter Try.func22, Try.ntmps22
    go_wp2_with fail
    refine (l1In_any _ _ _ _).mono fun e w1 h => ?_
    rw [hi1] at h
    obtain ⟨rfl, rfl⟩ := h
    go_wp2_with fail
    refine (l1In_any _ _ _ _).mono fun e w1 h => ?_
    rw [hi2] at h
    obtain ⟨rfl, rfl⟩ := h
    go_wp2_with fail
    go_ret
    exact ⟨by rw [hfin.out]; rfl, B⟩
  have hi2 := inR_true hw
  obtain ⟨hwa, hwb⟩ := hw
  by_cases hr : (n : Int) % wide = 0
  rotate_left
  · have hfin : Hid (boardB wide xs = false) := boardB_not.2 fun h => hr (by have := h.2.2.2.1; rwa [HN.out] at this)
    have hd4 : ((n : Int) % wide != 0) = true := by simpa using hr
    clear hr
    go_enter Try.func22, Try.ntmps22
    go_wp2_with fail
    refine (l1In_any _ _ _ _).mono fun e w1 h => ?_
    rw [hi1] at h
    obtain ⟨rfl, rfl⟩ := h
    go_wp2_with fail
    refine (l1In_any _ _ _ _).mono fun e w1 h => ?_
    rw [hi2] at h
    obtain ⟨rfl, rfl⟩ := h
    go_wp2_with fail
    go_ret
    exact ⟨by rw [hfin.out]; rfl, B⟩
  have hd4 : ((n : Int) % wide != 0) = false := by simpa using hr
  have HR := hid hr
  clear hr
  have hbad : Hid (¬ Dis n xs → boardB wide xs = false) := fun h => boardB_not.2 fun h' => h (by have := h'.2.2.2.2; rwa [HN.out] at this)
  have hx1 := hx.below B (Nat.le_refl _)
  have cb0 := cellNew w #[.int .i64 wide, .slice ao n c] 27 0
  have cb1 := cellNew w #[.int .i64 wide, .slice ao n c] 27 1
  go_enter Try.func22, Try.ntmps22
  go_wp2_with fail
  refine (l1In_any _ _ _ _).mono fun e w1 h => ?_
  rw [hi1] at h
  obtain ⟨rfl, rfl⟩ := h
  go_wp2_with fail
  refine (l1In_any _ _ _ _).mono fun e w1 h => ?_
  rw [hi2] at h
  obtain ⟨rfl, rfl⟩ := h
  go_wp2_with fail
  clear hd4
  generalize (w.alloc (.cells #[.int .i64 wide, .slice ao n c] 27)) = W at *
  go_loopw [4] (fun i wr => ∃ k : Nat, k ≤ n ∧ i = .int .i64 k ∧ Qt W wr ∧ Hid (Dis n (xs.take k))) (fun i _ => n - (intOf i).toNat)
  case atStart => exact ⟨0, Nat.zero_le _, rfl, Qt.refl W, by simpa [Hid] using Dis.nil n⟩
  case round =>
    obtain ⟨k, hk, rfl, hq, hd⟩ := hrel
    have B := B.trans (hq.below _)
    have hx := hx1.qt hq
    have cw0 : wr.cell? ⟨w.heap.size, 0, none⟩ = some (.int .i64 wide) := (hq.cell _).trans cb0
    have cw1 : wr.cell? ⟨w.heap.size, 1, none⟩ = some (.slice ao n c) := (hq.cell _).trans cb1
    clear cb0 cb1 hx1
    by_cases hlt : k < n
    · have hkl : k < xs.length := by rw [HN.out]; exact hlt
      have hx1 := hx.take k
      have hl1 : Hid ((xs.take k).length = k) := by unfold Hid; simp; omega
      obtain ⟨b, off, rfl, hc⟩ := hx (by omega)
      have hck := hc k hkl
      have hstep := hid (dis_step hkl hd.out)
      have hbad' : Hid (¬ Dis n (xs.take (k + 1)) → boardB wide xs = false) := fun h => hbad.out (not_dis h)
      clear hc hx
      generalize hX : nth xs k = x at *
      clear hX
      by_cases hin : 0 ≤ x ∧ x ≤ (n : Int) - 1
      · have hI := inR_true hin
        by_cases hmem : x ∈ xs.take k
        · have hH : hasL (xs.take k) x = true := by simpa [hasL] using hmem
          have hfin := hid (hbad'.out fun h => (hstep.out.1 h).2 hmem)
          clear hmem hin
          go_wp2
          go_quiet (first | (go_at_call 39; exact quiet_same (l1In_any _ _ _ _)) | (go_at_call 40; exact quiet_same (l1Has_any _ _ _ _ _ _ hl1.out (by omega) hx1)))
          go_wp2
          go_ret
          exact ⟨by rw [hfin.out]; rfl, below_drewN B _⟩
        · have hH : hasL (xs.take k) x = false := by simpa [hasL] using hmem
          have hnext := hid (hstep.out.2 ⟨⟨hin.1, by omega⟩, hmem⟩)
          clear hmem hin
          go_wp2
          go_quiet (first | (go_at_call 39; exact quiet_same (l1In_any _ _ _ _)) | (go_at_call 40; exact quiet_same (l1Has_any _ _ _ _ _ _ hl1.out (by omega) hx1)))
          go_wp2
          go_roundw
          case rel => exact ⟨k + 1, by omega, by go_num, hq.drewN _, hnext⟩
          case measure => simp [intOf]; omega
      · have hI := inR_false hin
        have hfin := hid (hbad'.out fun h => hin (by have := (hstep.out.1 h).1; omega))
        clear hin
        go_wp2
        go_quiet (first | (go_at_call 39; exact quiet_same (l1In_any _ _ _ _)) | (go_at_call 40; exact quiet_same (l1Has_any _ _ _ _ _ _ hl1.out (by omega) hx1)))
        go_wp2
        go_ret
        exact ⟨by rw [hfin.out]; rfl, below_drewN B _⟩
    · have hfin : Hid (boardB wide xs = true) := boardB_iff.2 ⟨by rw [HN.out]; omega, by rw [HN.out]; omega, hwa, by rw [HN.out]; exact HR.out, by have := hd.out; rw [List.take_of_length_le (by rw [HN.out]; omega)] at this; rwa [HN.out]⟩
      go_wp2
      go_ret
      exact ⟨by rw [hfin.out]; rfl, B⟩

end Go.Proofs.Ytaepoddlhghdpaa
