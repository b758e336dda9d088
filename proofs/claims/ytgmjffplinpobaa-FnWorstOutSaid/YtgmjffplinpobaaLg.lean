/- Valid graphs: the program's walk and the reference's. -/
import Derived.Test.YtgmjffplinpobaaLc
import Derived.Deep.RegionHeld3
namespace Go.Proofs.Ytgmjffplinpobaa
open Go Go.RowKit

theorem shr_and {m t : Nat} (hm : m < 2 ^ 62) : bits .and .i64 ((m : Int) / 2 ^ t) 1 = (bitN m t : Nat) := by
  have h1 : ((m : Int) / 2 ^ t) = ((m / 2 ^ t : Nat) : Int) := by simp
  have h2 : m / 2 ^ t < 2 ^ 62 := Nat.lt_of_le_of_lt (Nat.div_le_self _ _) hm
  have h3 : bits .and .i64 (((m / 2 ^ t : Nat) : Int)) 1 = ((m / 2 ^ t &&& 1 : Nat) : Int) := i64_and h2 (by decide : (1 : Nat) < 2 ^ 62)
  rw [h1, h3, Nat.and_one_is_mod]; rfl

/-- The set of those beside a point. -/
def gN (xs : List Int) (k : Nat) : Nat := (nth xs k).toNat
/-- One of a graph's sets is fine by itself. -/
def RowIn (n : Nat) (xs : List Int) (k : Nat) : Prop := 0 ≤ nth xs k ∧ nth xs k < (2 ^ n : Nat) ∧ (gN xs k).testBit k = false
structure GrOk (xs : List Int) : Prop where
  pos : 1 ≤ xs.length
  max : xs.length ≤ 9
  rows : ∀ k, k < xs.length → RowIn xs.length xs k
  sym : ∀ k j, k < xs.length → j < xs.length → (gN xs k).testBit j = (gN xs j).testBit k
open Classical in
noncomputable def grB (xs : List Int) : Bool := decide (GrOk xs)
open Classical in
theorem grB_in {xs : List Int} (h : GrOk xs) : grB xs = true := by unfold grB; exact decide_eq_true h
open Classical in
theorem grB_out {xs : List Int} (h : ¬ GrOk xs) : grB xs = false := by unfold grB; exact decide_eq_false h
open Classical in
theorem grB_iff {xs : List Int} : grB xs = true ↔ GrOk xs := by unfold grB; exact decide_eq_true_iff
theorem RowIn.nat {n : Nat} {xs : List Int} {k : Nat} (h : RowIn n xs k) : nth xs k = (gN xs k : Nat) ∧ gN xs k < 2 ^ n := by
  unfold gN; have := h.1; have := h.2.1; omega
theorem pow9 {n : Nat} (h : n ≤ 9) : 2 ^ n ≤ 512 := Nat.pow_le_pow_right (n := 2) (by decide) h

set_option maxRecDepth 100000 in
set_option maxHeartbeats 1000000 in
theorem implGraphValid_any (ao : Option Addr) (xs : List Int) (n c : Nat) (w : World) (hn : xs.length = n) (hl : n ≤ 17592186044416) (hx : IntsAt w ao xs) :
    Calls Try.prog 30 #[.agg #[.slice ao n c]] w fun e w' => e = .returned (.bool (grB xs)) ∧ Below w.heap.size w w' := by
  have HN := hid hn
  have bel := (Below.refl w.heap.size w).alloc (Nat.le_refl _) (.cells #[.slice ao n c] 25)
  have bk := Blk.new w #[.slice ao n c] 25
  have hx := hx.below bel (Nat.le_refl _)
  clear hn
  by_cases h19 : 1 ≤ n ∧ n ≤ 9
  · have hd1 : decide ((n : Int) < 1) = false := decide_eq_false (by omega)
    have hd2 : decide ((9 : Int) < n) = false := decide_eq_false (by omega)
    have hn1 := h19.1
    have hn9 := h19.2
    obtain ⟨b, off, rfl, hc⟩ := hx (by rw [HN.out]; omega)
    have HC := hid hc
    have HP : Hid (wrap64 (2 ^ n) = ((2 ^ n : Nat) : Int)) := wrap_pow (by omega)
    have h512 := pow9 hn9
    obtain ⟨P, hP⟩ : ∃ P, 2 ^ n = P := ⟨_, rfl⟩
    rw [hP] at HP h512
    have HPP := hid hP
    clear hP hc hx h19
    have e0 := bk.at 0 rfl
    go_enter Try.func30, Try.ntmps30
    go_wp2_with fail
    generalize (w.alloc (.cells #[.slice (some ⟨b, off, none⟩) n c] 25)) = W at *
    clear bk
    go_loop [4, 5, 21] (fun _ _ i => ∃ k : Nat, k ≤ n ∧ i = .int .i64 k ∧ Hid (∀ j, j < k → RowIn n xs j)) (fun _ _ i => n - (intOf i).toNat)
    case atStart => exact ⟨0, Nat.zero_le _, rfl, fun j hj => absurd hj (by omega)⟩
    case round =>
      obtain ⟨k, hk, rfl, hr⟩ := hrel
      by_cases hlt : k < n
      · have hck := HC.out k (by rw [HN.out]; exact hlt)
        have hbad : Hid (¬ RowIn n xs k → grB xs = false) := fun h => grB_out fun ho => h (by have := ho.rows k (by rw [HN.out]; exact hlt); rwa [HN.out] at this)
        have hnext : Hid (RowIn n xs k → ∀ j, j < k + 1 → RowIn n xs j) := fun h j hj => by
          by_cases e : j = k
          · subst e; exact h
          · exact hr.out j (by omega)
        have hRI : Hid (RowIn n xs k ↔ 0 ≤ nth xs k ∧ nth xs k < (P : Nat) ∧ (nth xs k).toNat.testBit k = false) := by unfold Hid RowIn gN; rw [HPP.out]
        clear hr
        generalize hV : nth xs k = v at *
        clear hV
        by_cases h0 : 0 ≤ v
        · have hz1 : decide (v < 0) = false := decide_eq_false (by omega)
          by_cases h1 : v < P
          · have hz2 : decide (wrap64 (2 ^ n) ≤ v) = false := by rw [HP.out]; exact decide_eq_false (by omega)
            obtain ⟨m, rfl⟩ := Int.eq_ofNat_of_zero_le h0
            have hbt := bit_test (m := m) (t := k) (by omega)
            cases hb : m.testBit k with
            | true =>
              rw [hb] at hbt
              have hf := hid (hbad.out fun h => by have := (hRI.out.1 h).2.2; rw [Int.toNat_natCast, hb] at this; cases this)
              clear hb
              go_wp2
              go_ret
              exact ⟨ret_bool hf.out.symm, bel⟩
            | false =>
              rw [hb] at hbt
              have hf := hid (hnext.out (hRI.out.2 ⟨h0, h1, by rw [Int.toNat_natCast]; exact hb⟩))
              clear hb
              go_wp2
              go_round
              case rel => exact ⟨k + 1, by omega, by go_num, hf⟩
              case measure => simp [intOf]; omega
          · have hz2 : decide (wrap64 (2 ^ n) ≤ v) = true := by rw [HP.out]; exact decide_eq_true (by omega)
            have hf := hid (hbad.out fun h => h1 (hRI.out.1 h).2.1)
            go_wp2
            go_ret
            exact ⟨ret_bool hf.out.symm, bel⟩
        · have hz1 : decide (v < 0) = true := decide_eq_true (by omega)
          have hf := hid (hbad.out fun h => h0 (hRI.out.1 h).1)
          go_wp2
          go_ret
          exact ⟨ret_bool hf.out.symm, bel⟩
      · obtain rfl : k = n := by omega
        go_wp2
        go_loopw [6, 7, 8, 45] (fun _ _ _ i wr => (∃ q : Nat, q ≤ k ∧ i = .int .i64 q ∧ Hid (∀ a, a < q → ∀ j, j < k → (gN xs a).testBit j = (gN xs j).testBit a)) ∧ ∃ d, wr = W.drewN d) (fun _ _ _ i _ => k - (intOf i).toNat)
        case atStart => exact ⟨⟨0, Nat.zero_le _, rfl, fun j hj => absurd hj (by omega)⟩, 0, rfl⟩
        case round =>
          obtain ⟨⟨q, hq, rfl, hs⟩, d, rfl⟩ := hrel
          by_cases hlq : q < k
          · have hck := HC.out q (by rw [HN.out]; exact hlq)
            have hri := (hr.out q hlq).nat
            rw [hri.1] at hck
            have hm9 := hri.2
            rw [HPP.out] at hm9
            obtain ⟨m, hm⟩ : ∃ m, gN xs q = m := ⟨_, rfl⟩
            rw [hm] at hck hm9
            have HM := hid hm
            clear hri hm
            go_wp2
            go_loopw [8, 51] (fun _ i wr => (∃ j : Nat, j ≤ k ∧ i = .int .i64 j ∧ Hid (∀ a, a < j → (gN xs q).testBit a = (gN xs a).testBit q)) ∧ ∃ d, wr = W.drewN d) (fun _ i _ => k - (intOf i).toNat)
            case atStart => exact ⟨⟨0, Nat.zero_le _, rfl, fun j hj => absurd hj (by omega)⟩, d, rfl⟩
            case round =>
              clear d
              obtain ⟨⟨j, hj, rfl, ht⟩, d, rfl⟩ := hrel
              by_cases hlj : j < k
              · have hcj := HC.out j (by rw [HN.out]; exact hlj)
                have hrj := (hr.out j hlj).nat
                rw [hrj.1] at hcj
                have hj9 := hrj.2
                rw [HPP.out] at hj9
                obtain ⟨m', hm'⟩ : ∃ m', gN xs j = m' := ⟨_, rfl⟩
                rw [hm'] at hcj hj9
                have HM' := hid hm'
                have e1 := shr_and (m := m) (t := j) (by omega)
                have e2 := shr_and (m := m') (t := q) (by omega)
                rw [bitN_test] at e1 e2
                clear hrj hm'
                by_cases heq : m.testBit j = m'.testBit q
                · have hne : (bits .and .i64 ((m : Int) / 2 ^ j) 1 != bits .and .i64 ((m' : Int) / 2 ^ q) 1) = false := by rw [e1, e2, heq]; simp
                  have hn : Hid (∀ a, a < j + 1 → (gN xs q).testBit a = (gN xs a).testBit q) := fun a ha => by
                    by_cases e : a = j
                    · subst e; rw [HM.out, HM'.out]; exact heq
                    · exact ht.out a (by omega)
                  clear heq e1 e2
                  go_wp2
                  go_quiet (fail)
                  go_wp2
                  go_roundw
                  case rel => exact ⟨⟨j + 1, by omega, by go_num, hn⟩, _, rfl⟩
                  case measure => simp [intOf]; omega
                · have hne : (bits .and .i64 ((m : Int) / 2 ^ j) 1 != bits .and .i64 ((m' : Int) / 2 ^ q) 1) = true := by
                    rw [e1, e2]
                    cases h1 : m.testBit j <;> cases h2 : m'.testBit q <;> first | rfl | (rw [h1, h2] at heq; exact absurd rfl heq)
                  have hf : Hid (grB xs = false) := grB_out fun ho => heq (by have := ho.sym q j (by rw [HN.out]; exact hlq) (by rw [HN.out]; exact hlj); rwa [HM.out, HM'.out] at this)
                  clear heq e1 e2
                  go_wp2
                  go_quiet (fail)
                  go_wp2
                  go_ret
                  exact ⟨ret_bool hf.out.symm, below_drewN (below_drewN bel _) _⟩
              · obtain rfl : j = k := by omega
                have hn : Hid (∀ a, a < q + 1 → ∀ i, i < j → (gN xs a).testBit i = (gN xs i).testBit a) := fun a ha i hi => by
                  by_cases e : a = q
                  · subst e; exact ht.out i hi
                  · exact hs.out a (by omega) i hi
                go_wp2
                go_roundw
                case rel => exact ⟨⟨q + 1, by omega, by go_num, hn⟩, _, rfl⟩
                case measure => simp [intOf]; omega
          · obtain rfl : q = k := by omega
            have hf : Hid (grB xs = true) := grB_in ⟨by rw [HN.out]; exact hn1, by rw [HN.out]; exact hn9, fun j hj => by rw [HN.out] at hj ⊢; exact hr.out j hj, fun a j ha hj => by rw [HN.out] at ha hj; exact hs.out a ha j hj⟩
            go_wp2
            go_ret
            exact ⟨ret_bool hf.out.symm, below_drewN bel _⟩
  · have hf : Hid (grB xs = false) := grB_out fun ho => h19 (by have := ho.pos; have := ho.max; rw [HN.out] at *; omega)
    by_cases h1 : 1 ≤ n
    · have hd1 : decide ((n : Int) < 1) = false := decide_eq_false (by omega)
      have hd2 : decide ((9 : Int) < n) = true := decide_eq_true (by omega)
      have e0 := bk.at 0 rfl
      go_enter Try.func30, Try.ntmps30
      go_wp2
      go_ret
      exact ⟨ret_bool hf.out.symm, bel⟩
    · have hd1 : decide ((n : Int) < 1) = true := decide_eq_true (by omega)
      have e0 := bk.at 0 rfl
      go_enter Try.func30, Try.ntmps30
      go_wp2
      go_ret
      exact ⟨ret_bool hf.out.symm, bel⟩

end Go.Proofs.Ytgmjffplinpobaa
