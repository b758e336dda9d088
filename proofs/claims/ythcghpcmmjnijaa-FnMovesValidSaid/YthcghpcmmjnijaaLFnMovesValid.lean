/- The walk of the law FnMovesValid. -/
import Derived.Test.YthcghpcmmjnijaaMv
import Derived.Test.YthcghpcmmjnijaaAl
import Derived.Test.YthcghpcmmjnijaaDv
namespace Go.Proofs.Ythcghpcmmjnijaa
open Go Go.RowKit

theorem rows_tail {w : World} {g : Nat} {r : List Int} {rs : List (List Int)} (h : RowsAt w (some ⟨g, 0, none⟩) (r :: rs)) : RowsAt w (some ⟨g, 1, none⟩) rs := by
  intro h0
  obtain ⟨b, off, e, hr⟩ := h (by simp)
  simp only [Option.some.injEq, Addr.mk.injEq, and_true] at e
  obtain ⟨rfl, rfl⟩ := e
  refine ⟨g, 1, rfl, fun j hj => ?_⟩
  obtain ⟨a, c, h1, h2⟩ := hr (j + 1) (by simpa using hj)
  exact ⟨a, c, by rw [show 1 + j = 0 + (j + 1) by omega]; exact h1, h2⟩

theorem moves_tail {p : Int} {r : List Int} {rs : List (List Int)} (h : movesB p (r :: rs) = true) : movesB p rs = true := by
  have h2 : MovesOk p (r :: rs) := of_decide_eq_true h
  exact movesB_true ⟨h2.1, h2.2.1, by have := h2.2.2.1; simp at this; omega, fun x hx => h2.2.2.2 x (List.mem_cons_of_mem _ hx)⟩

theorem moves_nil (p : Int) : movesB p [] = (decide (1 ≤ p) && decide (p ≤ 5)) := by
  rw [Bool.eq_iff_iff, Bool.and_eq_true, decide_eq_true_iff, decide_eq_true_iff]
  constructor
  · intro h
    have h2 : MovesOk p [] := of_decide_eq_true h
    exact ⟨h2.1, h2.2.1⟩
  · intro h
    exact movesB_true ⟨h.1, h.2, by simp, fun x hx => absurd hx (by simp)⟩

set_option maxRecDepth 100000 in
set_option maxHeartbeats 2000000 in
theorem fnMovesValid_walk (w : World) (ao : Option Addr) (bs : List Int) (l c : Nat) (hn : bs.length = l) (hlc : l ≤ c) (hcm : c ≤ 9223372036854775807) (hx : BytesAt w ao bs) (h8 : B8 bs) :
    Calls Try.prog 8 #[.slice ao l c] w fun e w' => e = .returned (.bool true) ∧ Below w.heap.size w w' := by
  by_cases hbig : 1048576 < l
  · have hd : decide ((1048576 : Int) < l) = true := decide_eq_true (by omega)
    clear hx hn h8
    go_enter Try.func8, Try.ntmps8
    go_wp2
    go_ret
    exact ⟨rfl, Below.refl _ _⟩
  have hd : decide ((1048576 : Int) < l) = false := decide_eq_false (by omega)
  go_enter Try.func8, Try.ntmps8
  go_wp2_with fail
  refine (drawMovesValid_any ao bs l c w hn hlc hcm hx h8).mono fun e w1 h => ?_
  obtain ⟨p, g, c1, rs, k, rfl, hl, hkc, hc1, hk8, hls, hrows, B⟩ := h
  clear hx h8 hn hd hbig
  obtain ⟨mb, hmb⟩ : ∃ mb, movesB p rs = mb := ⟨_, rfl⟩
  have HMB := hid hmb
  have HL := hid hl
  have HLS := hid hls
  clear hmb hl hls
  go_wp2_with fail
  refine (implMovesValid_any p (some ⟨g, 0, none⟩) rs k c1 w1 HL.out (by omega) HLS.out hrows).mono fun e w2 h => ?_
  rw [HMB.out] at h
  obtain ⟨rfl, rfl⟩ := h
  go_wp2_with fail
  refine (specMovesValid_any p (some ⟨g, 0, none⟩) rs k c1 w1 HL.out (by omega) HLS.out hrows).mono fun e w2 h => ?_
  rw [HMB.out] at h
  obtain ⟨rfl, b⟩ := h
  have hrows := hrows.below b (Nat.le_refl _)
  have B := B.trans (b.mono B.size)
  clear b
  have hbb : (mb != mb) = false := by simp
  have hnl := hid (moves_nil p)
  cases mb with
  | false =>
    clear hrows
    by_cases p1 : 1 ≤ p
    · have d1 : decide (1 ≤ p) = true := decide_eq_true p1
      by_cases p5 : p ≤ 5
      · have d5 : decide (p ≤ 5) = true := decide_eq_true p5
        have hnb : Hid (movesB p [] = true) := by unfold Hid; rw [hnl.out, d1, d5]; rfl
        clear p1 p5
        go_wp2_with fail
        refine (implMovesValid_any p none [] 0 0 w2 rfl (by omega) (fun r hr => absurd hr (by simp)) (fun h0 => absurd h0 (by simp))).mono fun e w3 h => ?_
        rw [hnb.out] at h
        obtain ⟨rfl, rfl⟩ := h
        go_wp2_with fail
        refine (alive_any w2).mono fun e w3 h => ?_
        obtain ⟨rfl, b⟩ := h
        have B := B.trans (b.mono B.size)
        clear b
        go_wp2
        go_ret
        exact ⟨rfl, B⟩
      · have d5 : decide (p ≤ 5) = false := decide_eq_false p5
        have hnb : Hid (movesB p [] = false) := by unfold Hid; rw [hnl.out, d1, d5]; rfl
        clear p1 p5
        go_wp2_with fail
        refine (implMovesValid_any p none [] 0 0 w2 rfl (by omega) (fun r hr => absurd hr (by simp)) (fun h0 => absurd h0 (by simp))).mono fun e w3 h => ?_
        rw [hnb.out] at h
        obtain ⟨rfl, rfl⟩ := h
        go_wp2_with fail
        refine (alive_any w2).mono fun e w3 h => ?_
        obtain ⟨rfl, b⟩ := h
        have B := B.trans (b.mono B.size)
        clear b
        go_wp2
        go_ret
        exact ⟨rfl, B⟩
    · have d1 : decide (1 ≤ p) = false := decide_eq_false p1
      have hnb : Hid (movesB p [] = false) := by unfold Hid; rw [hnl.out, d1]; rfl
      clear p1
      go_wp2_with fail
      refine (implMovesValid_any p none [] 0 0 w2 rfl (by omega) (fun r hr => absurd hr (by simp)) (fun h0 => absurd h0 (by simp))).mono fun e w3 h => ?_
      rw [hnb.out] at h
      obtain ⟨rfl, rfl⟩ := h
      go_wp2_with fail
      refine (alive_any w2).mono fun e w3 h => ?_
      obtain ⟨rfl, b⟩ := h
      have B := B.trans (b.mono B.size)
      clear b
      go_wp2
      go_ret
      exact ⟨rfl, B⟩
  | true =>
    by_cases hk0 : k = 0
    · subst hk0
      clear hrows
      by_cases p1 : 1 ≤ p
      · have d1 : decide (1 ≤ p) = true := decide_eq_true p1
        by_cases p5 : p ≤ 5
        · have d5 : decide (p ≤ 5) = true := decide_eq_true p5
          have hnb : Hid (movesB p [] = true) := by unfold Hid; rw [hnl.out, d1, d5]; rfl
          clear p1 p5
          go_wp2_with fail
          refine (implMovesValid_any p none [] 0 0 w2 rfl (by omega) (fun r hr => absurd hr (by simp)) (fun h0 => absurd h0 (by simp))).mono fun e w3 h => ?_
          rw [hnb.out] at h
          obtain ⟨rfl, rfl⟩ := h
          go_wp2_with fail
          refine (alive_any w2).mono fun e w3 h => ?_
          obtain ⟨rfl, b⟩ := h
          have B := B.trans (b.mono B.size)
          clear b
          go_wp2
          go_ret
          exact ⟨rfl, B⟩
        · have d5 : decide (p ≤ 5) = false := decide_eq_false p5
          have hnb : Hid (movesB p [] = false) := by unfold Hid; rw [hnl.out, d1, d5]; rfl
          clear p1 p5
          go_wp2_with fail
          refine (implMovesValid_any p none [] 0 0 w2 rfl (by omega) (fun r hr => absurd hr (by simp)) (fun h0 => absurd h0 (by simp))).mono fun e w3 h => ?_
          rw [hnb.out] at h
          obtain ⟨rfl, rfl⟩ := h
          go_wp2_with fail
          refine (alive_any w2).mono fun e w3 h => ?_
          obtain ⟨rfl, b⟩ := h
          have B := B.trans (b.mono B.size)
          clear b
          go_wp2
          go_ret
          exact ⟨rfl, B⟩
      · have d1 : decide (1 ≤ p) = false := decide_eq_false p1
        have hnb : Hid (movesB p [] = false) := by unfold Hid; rw [hnl.out, d1]; rfl
        clear p1
        go_wp2_with fail
        refine (implMovesValid_any p none [] 0 0 w2 rfl (by omega) (fun r hr => absurd hr (by simp)) (fun h0 => absurd h0 (by simp))).mono fun e w3 h => ?_
        rw [hnb.out] at h
        obtain ⟨rfl, rfl⟩ := h
        go_wp2_with fail
        refine (alive_any w2).mono fun e w3 h => ?_
        obtain ⟨rfl, b⟩ := h
        have B := B.trans (b.mono B.size)
        clear b
        go_wp2
        go_ret
        exact ⟨rfl, B⟩
    · have hkb : ((k : Int) == 0) = false := by simp; omega
      have hd1 : decide ((1 : Int) ≤ k) = true := decide_eq_true (by omega)
      obtain ⟨r0, rs1, e⟩ : ∃ r0 rs1, rs = r0 :: rs1 := by
        cases hrs : rs with
        | nil => exfalso; have := HL.out; rw [hrs] at this; simp at this; omega
        | cons a b => exact ⟨a, b, rfl⟩
      subst e
      have HMB1 := hid (moves_tail HMB.out)
      have HL1 : Hid (rs1.length = k - 1) := by have := HL.out; simp at this; simp [Hid]; omega
      have HLS1 : Hid (∀ r ∈ rs1, r.length ≤ 1048576) := fun r hr => HLS.out r (List.mem_cons_of_mem _ hr)
      have hrt := rows_tail hrows
      clear hrows HL HLS HMB
      generalize rs1 = rs at *
      by_cases hc2 : c1 = 1
      · subst hc2
        obtain rfl : k = 1 := by omega
        have hr0 : RowsAt w2 (some ⟨g, 0, none⟩) rs := fun h0 => by have := HL1.out; omega
        clear hrt hk0
        by_cases p1 : 1 ≤ p
        · have d1 : decide (1 ≤ p) = true := decide_eq_true p1
          by_cases p5 : p ≤ 5
          · have d5 : decide (p ≤ 5) = true := decide_eq_true p5
            have hnb : Hid (movesB p [] = true) := by unfold Hid; rw [hnl.out, d1, d5]; rfl
            clear p1 p5
            go_wp2_with fail
            refine (implMovesValid_any p (some ⟨g, 0, none⟩) rs 0 0 w2 HL1.out (by omega) HLS1.out hr0).mono fun e w3 h => ?_
            rw [HMB1.out] at h
            obtain ⟨rfl, rfl⟩ := h
            go_wp2_with fail
            refine (implMovesValid_any p none [] 0 0 w2 rfl (by omega) (fun r hr => absurd hr (by simp)) (fun h0 => absurd h0 (by simp))).mono fun e w3 h => ?_
            rw [hnb.out] at h
            obtain ⟨rfl, rfl⟩ := h
            go_wp2_with fail
            refine (alive_any w2).mono fun e w3 h => ?_
            obtain ⟨rfl, b⟩ := h
            have B := B.trans (b.mono B.size)
            clear b
            go_wp2
            go_ret
            exact ⟨rfl, B⟩
          · have d5 : decide (p ≤ 5) = false := decide_eq_false p5
            have hnb : Hid (movesB p [] = false) := by unfold Hid; rw [hnl.out, d1, d5]; rfl
            clear p1 p5
            go_wp2_with fail
            refine (implMovesValid_any p (some ⟨g, 0, none⟩) rs 0 0 w2 HL1.out (by omega) HLS1.out hr0).mono fun e w3 h => ?_
            rw [HMB1.out] at h
            obtain ⟨rfl, rfl⟩ := h
            go_wp2_with fail
            refine (implMovesValid_any p none [] 0 0 w2 rfl (by omega) (fun r hr => absurd hr (by simp)) (fun h0 => absurd h0 (by simp))).mono fun e w3 h => ?_
            rw [hnb.out] at h
            obtain ⟨rfl, rfl⟩ := h
            go_wp2_with fail
            refine (alive_any w2).mono fun e w3 h => ?_
            obtain ⟨rfl, b⟩ := h
            have B := B.trans (b.mono B.size)
            clear b
            go_wp2
            go_ret
            exact ⟨rfl, B⟩
        · have d1 : decide (1 ≤ p) = false := decide_eq_false p1
          have hnb : Hid (movesB p [] = false) := by unfold Hid; rw [hnl.out, d1]; rfl
          clear p1
          go_wp2_with fail
          refine (implMovesValid_any p (some ⟨g, 0, none⟩) rs 0 0 w2 HL1.out (by omega) HLS1.out hr0).mono fun e w3 h => ?_
          rw [HMB1.out] at h
          obtain ⟨rfl, rfl⟩ := h
          go_wp2_with fail
          refine (implMovesValid_any p none [] 0 0 w2 rfl (by omega) (fun r hr => absurd hr (by simp)) (fun h0 => absurd h0 (by simp))).mono fun e w3 h => ?_
          rw [hnb.out] at h
          obtain ⟨rfl, rfl⟩ := h
          go_wp2_with fail
          refine (alive_any w2).mono fun e w3 h => ?_
          obtain ⟨rfl, b⟩ := h
          have B := B.trans (b.mono B.size)
          clear b
          go_wp2
          go_ret
          exact ⟨rfl, B⟩
      · have hkn : ¬ ((k : Int) < 1) := by omega
        have hk1 : 1 ≤ k := by omega
        clear hk0
        by_cases p1 : 1 ≤ p
        · have d1 : decide (1 ≤ p) = true := decide_eq_true p1
          by_cases p5 : p ≤ 5
          · have d5 : decide (p ≤ 5) = true := decide_eq_true p5
            have hnb : Hid (movesB p [] = true) := by unfold Hid; rw [hnl.out, d1, d5]; rfl
            clear p1 p5
            go_wp2_with fail
            refine (implMovesValid_any p (some ⟨g, 1, none⟩) rs (k - 1) (c1 - 1) w2 HL1.out (by omega) HLS1.out hrt).mono fun e w3 h => ?_
            rw [HMB1.out] at h
            obtain ⟨rfl, rfl⟩ := h
            go_wp2_with fail
            refine (implMovesValid_any p none [] 0 0 w2 rfl (by omega) (fun r hr => absurd hr (by simp)) (fun h0 => absurd h0 (by simp))).mono fun e w3 h => ?_
            rw [hnb.out] at h
            obtain ⟨rfl, rfl⟩ := h
            go_wp2_with fail
            refine (alive_any w2).mono fun e w3 h => ?_
            obtain ⟨rfl, b⟩ := h
            have B := B.trans (b.mono B.size)
            clear b
            go_wp2
            go_ret
            exact ⟨rfl, B⟩
          · have d5 : decide (p ≤ 5) = false := decide_eq_false p5
            have hnb : Hid (movesB p [] = false) := by unfold Hid; rw [hnl.out, d1, d5]; rfl
            clear p1 p5
            go_wp2_with fail
            refine (implMovesValid_any p (some ⟨g, 1, none⟩) rs (k - 1) (c1 - 1) w2 HL1.out (by omega) HLS1.out hrt).mono fun e w3 h => ?_
            rw [HMB1.out] at h
            obtain ⟨rfl, rfl⟩ := h
            go_wp2_with fail
            refine (implMovesValid_any p none [] 0 0 w2 rfl (by omega) (fun r hr => absurd hr (by simp)) (fun h0 => absurd h0 (by simp))).mono fun e w3 h => ?_
            rw [hnb.out] at h
            obtain ⟨rfl, rfl⟩ := h
            go_wp2_with fail
            refine (alive_any w2).mono fun e w3 h => ?_
            obtain ⟨rfl, b⟩ := h
            have B := B.trans (b.mono B.size)
            clear b
            go_wp2
            go_ret
            exact ⟨rfl, B⟩
        · have d1 : decide (1 ≤ p) = false := decide_eq_false p1
          have hnb : Hid (movesB p [] = false) := by unfold Hid; rw [hnl.out, d1]; rfl
          clear p1
          go_wp2_with fail
          refine (implMovesValid_any p (some ⟨g, 1, none⟩) rs (k - 1) (c1 - 1) w2 HL1.out (by omega) HLS1.out hrt).mono fun e w3 h => ?_
          rw [HMB1.out] at h
          obtain ⟨rfl, rfl⟩ := h
          go_wp2_with fail
          refine (implMovesValid_any p none [] 0 0 w2 rfl (by omega) (fun r hr => absurd hr (by simp)) (fun h0 => absurd h0 (by simp))).mono fun e w3 h => ?_
          rw [hnb.out] at h
          obtain ⟨rfl, rfl⟩ := h
          go_wp2_with fail
          refine (alive_any w2).mono fun e w3 h => ?_
          obtain ⟨rfl, b⟩ := h
          have B := B.trans (b.mono B.size)
          clear b
          go_wp2
          go_ret
          exact ⟨rfl, B⟩

end Go.Proofs.Ythcghpcmmjnijaa
