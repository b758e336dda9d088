/- Valid sets; presses. -/
import Derived.Test.YtgmjffplinpobaaLh
import Derived.Test.YtgmjffplinpobaaRd
namespace Go.Proofs.Ytgmjffplinpobaa
open Go Go.RowKit

noncomputable def setB (xs : List Int) (s : Int) : Bool := grB xs && (decide (0 ≤ s) && decide (s < (2 ^ xs.length : Nat)))
theorem setB_iff {xs : List Int} {s : Int} : setB xs s = true ↔ GrOk xs ∧ 0 ≤ s ∧ s < (2 ^ xs.length : Nat) := by
  unfold setB; rw [Bool.and_eq_true, Bool.and_eq_true, decide_eq_true_eq, decide_eq_true_eq, grB_iff]
theorem setB_out {xs : List Int} {s : Int} (h : grB xs = false) : setB xs s = false := by unfold setB; rw [h]; rfl

set_option maxRecDepth 100000 in
theorem implSetValid_any (ao : Option Addr) (xs : List Int) (n c : Nat) (s : Int) (w : World) (hn : xs.length = n) (hl : n ≤ 17592186044416) (hx : IntsAt w ao xs) :
    Calls Try.prog 33 #[.agg #[.slice ao n c], .int .i64 s] w fun e w' => e = .returned (.bool (setB xs s)) ∧ Below w.heap.size w w' := by
  have HN := hid hn
  have bel := (Below.refl w.heap.size w).alloc (Nat.le_refl _) (.cells #[.slice ao n c] 25)
  have bk := Blk.new w #[.slice ao n c] 25
  have hx := hx.below bel (Nat.le_refl _)
  clear hn
  have e0 := bk.at 0 rfl
  go_enter Try.func33, Try.ntmps33
  go_wp2_with fail
  refine (implGraphValid_any ao xs n c _ HN.out hl hx).mono fun e w1 h => ?_
  cases hg : grB xs with
  | false =>
    rw [hg] at h
    obtain ⟨rfl, b⟩ := h
    have bel := bel.trans (b.mono bel.size)
    have hf := hid (setB_out (s := s) hg)
    clear b bk e0 hg
    go_wp2
    go_ret
    exact ⟨ret_bool hf.out.symm, bel⟩
  | true =>
    rw [hg] at h
    obtain ⟨rfl, b⟩ := h
    have bel := bel.trans (b.mono bel.size)
    have bk := bk.below b (Nat.le_refl _)
    have hf : Hid (setB xs s = (decide (0 ≤ s) && decide (s < (2 ^ n : Nat)))) := by unfold Hid setB; rw [hg, HN.out]; rfl
    have hn9 := (grB_iff.1 hg).max
    rw [HN.out] at hn9
    have hp : wrap64 (2 ^ n) = ((2 ^ n : Nat) : Int) := wrap_pow (by omega)
    have e0 := bk.at 0 rfl
    clear b hg
    generalize 2 ^ n = P at *
    by_cases h0 : 0 ≤ s
    · have hd0 : decide (0 ≤ s) = true := decide_eq_true h0
      rw [hd0] at hf
      go_wp2
      go_ret
      exact ⟨ret_bool (by rw [hf.out]; rfl), bel⟩
    · have hd0 : decide (0 ≤ s) = false := decide_eq_false h0
      rw [hd0] at hf
      go_wp2
      go_ret
      exact ⟨ret_bool (by rw [hf.out]; rfl), bel⟩

set_option maxRecDepth 100000 in
theorem specSetValid_any (ao : Option Addr) (xs : List Int) (n c : Nat) (s : Int) (w : World) (hn : xs.length = n) (hl : n ≤ 17592186044416) (hx : IntsAt w ao xs) :
    Calls Try.prog 14 #[.agg #[.slice ao n c], .int .i64 s] w fun e w' => e = .returned (.bool (setB xs s)) ∧ Below w.heap.size w w' := by
  have HN := hid hn
  have bel := (Below.refl w.heap.size w).alloc (Nat.le_refl _) (.cells #[.slice ao n c] 25)
  have bk := Blk.new w #[.slice ao n c] 25
  have hx := hx.below bel (Nat.le_refl _)
  clear hn
  have e0 := bk.at 0 rfl
  go_enter Try.func14, Try.ntmps14
  go_wp2_with fail
  refine (specGraphValid_any ao xs n c _ HN.out hl hx).mono fun e w1 h => ?_
  cases hg : grB xs with
  | false =>
    rw [hg] at h
    obtain ⟨rfl, b⟩ := h
    have bel := bel.trans (b.mono bel.size)
    have hf := hid (setB_out (s := s) hg)
    clear b bk e0 hg
    go_wp2
    go_ret
    exact ⟨ret_bool hf.out.symm, bel⟩
  | true =>
    rw [hg] at h
    obtain ⟨rfl, b⟩ := h
    have bel := bel.trans (b.mono bel.size)
    have bk := bk.below b (Nat.le_refl _)
    have hf : Hid (setB xs s = (decide (0 ≤ s) && decide (s < (2 ^ n : Nat)))) := by unfold Hid setB; rw [hg, HN.out]; rfl
    have hn9 := (grB_iff.1 hg).max
    rw [HN.out] at hn9
    have hp : wrap64 (2 ^ n) = ((2 ^ n : Nat) : Int) := wrap_pow (by omega)
    have h512 := pow9 hn9
    have hp1 : 1 ≤ 2 ^ n := Nat.one_le_two_pow
    have e0 := bk.at 0 rfl
    clear b hg
    obtain ⟨P, hP⟩ : ∃ P, 2 ^ n = P := ⟨_, rfl⟩
    rw [hP] at hf hp h512 hp1
    have hps : IntKind.i64.wrap ((P : Int) - 1) = (P : Int) - 1 := IntWalk.i64_in _ (by omega)
    clear hP
    go_wp2_with fail
    refine (l1In_any _ _ _ _).mono fun e w2 h => ?_
    obtain ⟨rfl, rfl⟩ := h
    go_wp2
    go_ret
    refine ⟨ret_bool ?_, bel⟩
    rw [hf.out]
    unfold inR
    congr 1
    by_cases h : s ≤ (P : Int) - 1
    · rw [decide_eq_true h, decide_eq_true (by omega)]
    · rw [decide_eq_false h, decide_eq_false (by omega)]

/-- The lights that a press changes. -/
def row (xs : List Int) (k : Nat) : Nat := gN xs k ^^^ 2 ^ k
/-- The lights that a set's presses change: those of the first k points. -/
def prs (xs : List Int) (set : Nat) : Nat → Nat
  | 0 => 0
  | k + 1 => if set.testBit k = true then prs xs set k ^^^ row xs k else prs xs set k
theorem prs_in {xs : List Int} {set k : Nat} (h : set.testBit k = true) : prs xs set (k + 1) = prs xs set k ^^^ row xs k := if_pos h
theorem prs_not {xs : List Int} {set k : Nat} (h : set.testBit k = false) : prs xs set (k + 1) = prs xs set k := if_neg (by rw [h]; simp)
theorem GrOk.lt {xs : List Int} (h : GrOk xs) {k : Nat} (hk : k < xs.length) : nth xs k = (gN xs k : Nat) ∧ gN xs k < 2 ^ xs.length := (h.rows k hk).nat
theorem GrOk.row_lt {xs : List Int} (h : GrOk xs) {k : Nat} (hk : k < xs.length) : row xs k < 2 ^ xs.length :=
  Nat.xor_lt_two_pow (h.lt hk).2 (Nat.pow_lt_pow_right (by decide) hk)
theorem GrOk.prs_lt {xs : List Int} (h : GrOk xs) (set : Nat) : ∀ k, k ≤ xs.length → prs xs set k < 2 ^ xs.length
  | 0, _ => Nat.pow_pos (by decide)
  | k + 1, hk => by
    cases hb : set.testBit k with
    | true => rw [prs_in hb]; exact Nat.xor_lt_two_pow (h.prs_lt set k (by omega)) (h.row_lt (by omega))
    | false => rw [prs_not hb]; exact h.prs_lt set k (by omega)
/-- A set without the point: the sum is what is in just one. -/
theorem GrOk.row_add {xs : List Int} (h : GrOk xs) {k : Nat} (hk : k < xs.length) : gN xs k + 2 ^ k = row xs k := by
  have h1 := add_xor (gN xs k) (2 ^ k)
  have h2 := (h.rows k hk).2.2
  have h3 : gN xs k &&& 2 ^ k = 0 := by
    refine Nat.eq_of_testBit_eq fun i => ?_
    rw [Nat.testBit_and, Nat.testBit_two_pow, Nat.zero_testBit]
    by_cases e : k = i
    · subst e; rw [h2]; rfl
    · simp [e]
  rw [h3] at h1
  unfold row; omega

set_option maxRecDepth 100000 in
theorem pressChange_any (ao : Option Addr) (xs : List Int) (n c k : Nat) (w : World) (hn : xs.length = n) (hok : GrOk xs) (hk : k < n) (hx : IntsAt w ao xs) :
    Calls Try.prog 46 #[.agg #[.slice ao n c], .int .i64 k] w fun e w' => e = .returned (.int .i64 (row xs k : Nat)) ∧ Below w.heap.size w w' := by
  have bel := (Below.refl w.heap.size w).alloc (Nat.le_refl _) (.cells #[.slice ao n c] 25)
  have bk := Blk.new w #[.slice ao n c] 25
  have hx := hx.below bel (Nat.le_refl _)
  have hn9 := hok.max
  obtain ⟨b, off, rfl, hc⟩ := hx (by omega)
  have hck := hc k (by omega)
  have hlt := hok.lt (k := k) (by omega)
  have h512 := pow9 (n := xs.length) hn9
  rw [hlt.1] at hck
  have h2 := hlt.2
  have hp : wrap64 (2 ^ k) = ((2 ^ k : Nat) : Int) := wrap_pow (by omega)
  have hp2 : IntKind.i64.wrap ((2 : Int) ^ k) = ((2 ^ k : Nat) : Int) := wrap_powk (by omega)
  have h62 := pow_lt_62 (t := k) (by omega)
  have hxr : bits .xor .i64 (gN xs k : Int) ((2 ^ k : Nat) : Int) = ((row xs k : Nat) : Int) := i64_xor (by omega) h62
  have e0 := bk.at 0 rfl
  rw [hn] at hn9
  have hkn : (k : Int) < n := by omega
  generalize row xs k = R at *
  generalize gN xs k = m at *
  generalize 2 ^ k = p at *
  clear hlt hc hx hok hn bk
  go_enter Try.func46, Try.ntmps46
  go_wp2
  go_quiet (fail)
  go_wp2
  go_ret
  exact ⟨rfl, below_drewN bel _⟩

end Go.Proofs.Ytgmjffplinpobaa
