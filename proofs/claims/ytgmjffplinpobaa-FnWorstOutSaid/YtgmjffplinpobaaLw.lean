/- Plain law: how many quiet sets there are. -/
import Derived.Test.YtgmjffplinpobaaLv
namespace Go.Proofs.Ytgmjffplinpobaa
open Go Go.RowKit

theorem bitN_of0 {m k : Nat} (h : m.testBit k = false) : bitN m k = 0 := by rw [bitN_test, h]; rfl
theorem bitN_of1 {m k : Nat} (h : m.testBit k = true) : bitN m k = 1 := by rw [bitN_test, h]; rfl
/-- How many numbers below k pass a test. -/
def cntP (p : Nat → Bool) : Nat → Nat
  | 0 => 0
  | k + 1 => cntP p k + (p k).toNat
theorem cntP_congr {p q : Nat → Bool} : ∀ k, (∀ j, j < k → p j = q j) → cntP p k = cntP q k
  | 0, _ => rfl
  | k + 1, h => by rw [cntP, cntP, cntP_congr k (fun j hj => h j (by omega)), h k (by omega)]
theorem cntP_add (p : Nat → Bool) (a : Nat) : ∀ b, cntP p (a + b) = cntP p a + cntP (fun j => p (a + j)) b
  | 0 => rfl
  | b + 1 => by rw [← Nat.add_assoc, cntP, cntP_add p a b, cntP]; omega
theorem cntP_two (p q : Nat → Bool) : ∀ k, cntP (fun j => p j && q j) k + cntP (fun j => p j && !(q j)) k = cntP p k
  | 0 => rfl
  | k + 1 => by
    have ih := cntP_two p q k
    rw [cntP, cntP, cntP]
    cases hp : p k <;> cases hq : q k <;> simp <;> omega
theorem cntP_true : ∀ k, cntP (fun _ => true) k = k
  | 0 => rfl
  | k + 1 => by rw [cntP, cntP_true k]; rfl
theorem pow_add_xor {n q : Nat} (h : q < 2 ^ n) : 2 ^ n + q = 2 ^ n ^^^ q := by
  have h1 := add_xor (2 ^ n) q
  have h2 : 2 ^ n &&& q = 0 := by
    refine Nat.eq_of_testBit_eq fun i => ?_
    rw [Nat.testBit_and, Nat.testBit_two_pow, Nat.zero_testBit]
    by_cases e : n = i
    · subst e; rw [Nat.testBit_lt_two_pow h]; simp
    · simp [e]
  omega
/-- Exchanging bits only changes the order. -/
theorem cntP_xor : ∀ (n : Nat) (g : Nat → Bool) (q0 : Nat), q0 < 2 ^ n → cntP (fun q => g (q ^^^ q0)) (2 ^ n) = cntP g (2 ^ n)
  | 0, g, q0, h => by
    have : q0 = 0 := by omega
    subst this
    exact cntP_congr _ fun j _ => by rw [Nat.xor_zero]
  | n + 1, g, q0, h => by
    have h2 : 2 ^ (n + 1) = 2 ^ n + 2 ^ n := by rw [Nat.pow_succ]; omega
    rw [h2, cntP_add, cntP_add]
    by_cases hq : q0 < 2 ^ n
    · rw [cntP_xor n g q0 hq]
      congr 1
      rw [← cntP_xor n (fun j => g (2 ^ n + j)) q0 hq]
      refine cntP_congr _ fun j hj => ?_
      show g ((2 ^ n + j) ^^^ q0) = g (2 ^ n + (j ^^^ q0))
      rw [pow_add_xor hj, pow_add_xor (Nat.xor_lt_two_pow hj hq), Nat.xor_assoc]
    · obtain ⟨r, hr⟩ : ∃ r, q0 = 2 ^ n + r := ⟨q0 - 2 ^ n, by omega⟩
      have hrn : r < 2 ^ n := by omega
      subst hr
      rw [Nat.add_comm (cntP g (2 ^ n))]
      congr 1
      · rw [← cntP_xor n (fun j => g (2 ^ n + j)) r hrn]
        refine cntP_congr _ fun j hj => ?_
        show g (j ^^^ (2 ^ n + r)) = g (2 ^ n + (j ^^^ r))
        rw [pow_add_xor hrn, pow_add_xor (Nat.xor_lt_two_pow hj hrn), ← Nat.xor_assoc, Nat.xor_comm j, Nat.xor_assoc]
      · rw [← cntP_xor n g r hrn]
        refine cntP_congr _ fun j hj => ?_
        show g ((2 ^ n + j) ^^^ (2 ^ n + r)) = g (j ^^^ r)
        rw [pow_add_xor hj, pow_add_xor hrn, Nat.xor_comm (2 ^ n) j, Nat.xor_assoc, ← Nat.xor_assoc (2 ^ n), Nat.xor_self, Nat.zero_xor]
/-- A test that an exchange turns round halves. -/
theorem cntP_half {n q0 : Nat} {p f : Nat → Bool} (h0 : q0 < 2 ^ n) (hp : ∀ q, p (q ^^^ q0) = p q) (hf : ∀ q, f (q ^^^ q0) = !(f q)) : cntP (fun q => p q && !(f q)) (2 ^ n) * 2 = cntP p (2 ^ n) := by
  have h1 := cntP_two p f (2 ^ n)
  have h2 := cntP_xor n (fun q => p q && f q) q0 h0
  have h3 : cntP (fun q => p (q ^^^ q0) && f (q ^^^ q0)) (2 ^ n) = cntP (fun q => p q && !(f q)) (2 ^ n) := cntP_congr _ fun j _ => by rw [hp, hf]
  omega

/-- Does a set meet each chosen one of the first k rows evenly? -/
def allB (ls : List Nat) (ch q : Nat) : Nat → Bool
  | 0 => true
  | k + 1 => allB ls ch q k && !(ch.testBit k && dot q (ng ls k))
theorem allB_iff {ls : List Nat} {ch q : Nat} : ∀ {k}, allB ls ch q k = true ↔ ∀ j, j < k → ch.testBit j = true → dot q (ng ls j) = false
  | 0 => ⟨fun _ j hj => absurd hj (by omega), fun _ => rfl⟩
  | k + 1 => by
    rw [allB, Bool.and_eq_true, allB_iff]
    constructor
    · rintro ⟨h1, h2⟩ j hj hc
      by_cases e : j = k
      · subst e; rw [hc] at h2; simpa using h2
      · exact h1 j (by omega) hc
    · intro h
      refine ⟨fun j hj => h j (by omega), ?_⟩
      cases hc : ch.testBit k with
      | false => rfl
      | true => rw [h k (by omega) hc]; rfl
theorem RkS.piv_lt {xs : List Int} {ls : List Nat} {ch l k j : Nat} (h : RkS xs ls ch l) (hk : k < xs.length) (hb : (ng ls k).testBit j = true) : j < xs.length := Nat.lt_of_not_le fun hle => by
  rw [Nat.testBit_lt_two_pow (Nat.lt_of_lt_of_le (h.lt k hk) (Nat.pow_le_pow_right (by decide) hle))] at hb; cases hb
theorem RkS.count {xs : List Int} {ls : List Nat} {ch l : Nat} (h : RkS xs ls ch l) (hn9 : xs.length ≤ 9) : ∀ k, k ≤ xs.length → cntP (fun q => allB ls ch q k) (2 ^ xs.length) * 2 ^ pcT ch k = 2 ^ xs.length
  | 0, _ => by rw [show cntP (fun q => allB ls ch q 0) (2 ^ xs.length) = 2 ^ xs.length from cntP_true _]; simp [pcT]
  | k + 1, hk => by
    have ih := h.count hn9 k (by omega)
    cases hc : ch.testBit k with
    | false =>
      rw [pcT, bitN_of0 hc, Nat.add_zero]
      refine Eq.trans (congrArg (· * 2 ^ pcT ch k) (cntP_congr _ fun j _ => ?_)) ih
      rw [allB, hc]; simp
    | true =>
      obtain ⟨P, hP⟩ := h.piv
      obtain ⟨_, h2⟩ := hP k (by omega) hc
      have hbk : (ng ls k).testBit (P k) = true := by rw [h2 k (by omega)]; exact decide_eq_true rfl
      have hPn := h.piv_lt (by omega) hbk
      have hd : ∀ q j, j < xs.length → dot (q ^^^ 2 ^ P k) (ng ls j) = (dot q (ng ls j) ^^ decide (j = k)) := fun q j hj => by
        rw [dot_xor', dot_bit _ (by omega), h2 j hj]
      have hhalf := cntP_half (n := xs.length) (q0 := 2 ^ P k) (p := fun q => allB ls ch q k) (f := fun q => dot q (ng ls k)) (Nat.pow_lt_pow_right (by decide) hPn)
        (fun q => by
          rw [Bool.eq_iff_iff, allB_iff, allB_iff]
          constructor
          · intro ha j hj hcj
            have := ha j hj hcj
            rw [hd q j (by omega), decide_eq_false (by omega)] at this
            simpa using this
          · intro ha j hj hcj
            rw [hd q j (by omega), decide_eq_false (by omega), ha j hj hcj]; rfl)
        (fun q => by rw [hd q k (by omega), decide_eq_true rfl]; cases dot q (ng ls k) <;> rfl)
      rw [pcT, bitN_of1 hc, Nat.pow_succ]
      have e : cntP (fun q => allB ls ch q (k + 1)) (2 ^ xs.length) = cntP (fun q => allB ls ch q k && !(dot q (ng ls k))) (2 ^ xs.length) := cntP_congr _ fun j _ => by rw [allB, hc, Bool.true_and]
      rw [e]
      refine Eq.trans ?_ ih
      rw [← hhalf, Nat.mul_assoc, Nat.mul_comm (2 ^ pcT ch k) 2]

/-- Where the elimination ends. -/
structure RkEnd (xs : List Int) (R : Nat) : Prop where
  le : R ≤ xs.length
  many : cntP (fun q => decide (press xs q = 0)) (2 ^ xs.length) * 2 ^ R = 2 ^ xs.length
  few : ∀ v, (∃ s, press xs s = v) → ∃ s, s < 2 ^ xs.length ∧ press xs s = v ∧ pc s ≤ R

theorem pcT_stay {m n : Nat} (h : m < 2 ^ n) : ∀ d, pcT m (n + d) = pcT m n
  | 0 => rfl
  | d + 1 => by
    have : m.testBit (n + d) = false := Nat.testBit_lt_two_pow (Nat.lt_of_lt_of_le h (Nat.pow_le_pow_right (by decide) (by omega)))
    show pcT m (n + d) + bitN m (n + d) = _
    rw [bitN_of0 this, pcT_stay h d]; rfl
theorem pcT_pc {m n : Nat} (hn : n ≤ 9) (h : m < 2 ^ n) : pcT m n = pc m := by
  have h1 := pcT_stay h (10 - n)
  rw [show n + (10 - n) = 10 by omega] at h1
  rw [← h1, pcT_ten m (by have := pow9 hn; omega)]
theorem pcT_sub {s c : Nat} (h : ∀ j, s.testBit j = true → c.testBit j = true) : ∀ k, pcT s k ≤ pcT c k
  | 0 => Nat.le_refl _
  | k + 1 => by
    have ih := pcT_sub h k
    show pcT s k + bitN s k ≤ pcT c k + bitN c k
    cases hs : s.testBit k with
    | false => rw [bitN_of0 hs]; omega
    | true => rw [bitN_of1 hs, bitN_of1 (h k hs)]; omega
/-- The start. -/
theorem RkS.start {xs : List Int} (h : GrOk xs) {ls : List Nat} (hl : ls.length = xs.length) (hr : ∀ k, k < xs.length → ng ls k = row xs k) : RkS xs ls 0 0 :=
  ⟨hl, fun k hk => by rw [hr k hk]; exact h.row_lt hk, Nat.pow_pos (by decide), fun q => ⟨fun ha k hk => by rw [← hr k hk]; exact ha k hk, fun ha k hk => by rw [hr k hk]; exact ha k hk⟩,
    fun k hk => by rw [hr k hk, Nat.xor_self]; exact Sub.zero xs 0, fun _ _ _ j hj => absurd hj (by omega), fun _ => 0, fun k _ hc => by rw [Nat.zero_testBit] at hc; cases hc⟩
theorem sub_all {xs : List Int} {ch : Nat} (h : ∀ k, k < xs.length → Sub xs ch (row xs k)) (s : Nat) : ∀ k, k ≤ xs.length → Sub xs ch (prs xs s k)
  | 0, _ => Sub.zero xs ch
  | k + 1, hk => by
    cases hb : s.testBit k with
    | true => rw [prs_in hb]; exact (sub_all h s k (by omega)).xor (h k (by omega))
    | false => rw [prs_not hb]; exact sub_all h s k (by omega)
/-- The end. -/
theorem RkS.finish {xs : List Int} {ls : List Nat} {ch : Nat} (hok : GrOk xs) (h : RkS xs ls ch 9) : RkEnd xs (pc ch) := by
  have hpc := pcT_pc hok.max h.chl
  have hz : ∀ k, k < xs.length → ch.testBit k = false → ng ls k = 0 := fun k hk hc => by
    refine Nat.eq_of_testBit_eq fun j => ?_
    rw [Nat.zero_testBit]
    by_cases hj : j < 9
    · exact h.zero k hk hc j hj
    · exact Nat.testBit_lt_two_pow (Nat.lt_of_lt_of_le (h.lt k hk) (Nat.pow_le_pow_right (by decide) (by have := hok.max; omega)))
  refine ⟨?_, ?_, fun v hv => ?_⟩
  · rw [← hpc]; exact pcT_le ch _
  · have hc := h.count hok.max xs.length (Nat.le_refl _)
    rw [hpc] at hc
    refine Eq.trans (congrArg (· * 2 ^ pc ch) (cntP_congr _ fun q _ => ?_)) hc
    rw [Bool.eq_iff_iff, decide_eq_true_eq, allB_iff, hok.quiet_iff q]
    have e : (∀ r ∈ rws xs xs.length, dot q r = false) ↔ (∀ k, k < xs.length → dot q (row xs k) = false) :=
      ⟨fun ha k hk => ha _ (mem_rws.2 ⟨k, hk, rfl⟩), fun ha r hr => by obtain ⟨j, hj, rfl⟩ := mem_rws.1 hr; exact ha j hj⟩
    rw [e, ← h.perp q]
    constructor
    · intro ha j hj _; exact ha j hj
    · intro ha k hk
      cases hc : ch.testBit k with
      | true => exact ha k hk hc
      | false => rw [hz k hk hc]; exact dot_zero q
  · obtain ⟨s, rfl⟩ := hv
    have hrow : ∀ k, k < xs.length → Sub xs ch (row xs k) := fun k hk => by
      cases hc : ch.testBit k with
      | true => exact Sub.row hk hc
      | false =>
        have := h.sub k hk
        rw [hz k hk hc, Nat.zero_xor] at this
        exact this
    obtain ⟨t, h1, h2, h3⟩ := sub_all hrow s xs.length (Nat.le_refl _)
    refine ⟨t, h1, h3, ?_⟩
    rw [← pcT_pc hok.max h1, ← hpc]
    exact pcT_sub h2 _

theorem qtL_cnt (xs : List Int) : ∀ k, (qtL xs k).length = cntP (fun q => decide (press xs q = 0)) k
  | 0 => rfl
  | k + 1 => by
    have ih := qtL_cnt xs k
    by_cases e : press xs k = 0
    · rw [qtL_in e, List.length_append, ih, cntP, decide_eq_true e]; rfl
    · rw [qtL_not e, ih, cntP, decide_eq_false e]; rfl
/-- The number of quiet sets. -/
theorem RkEnd.quiet {xs : List Int} {R : Nat} (hok : GrOk xs) (h : RkEnd xs R) : (quietL xs).length = 2 ^ (xs.length - R) := by
  rw [quietL_in hok, qtL_cnt]
  have hm := h.many
  have e : 2 ^ xs.length = 2 ^ (xs.length - R) * 2 ^ R := by rw [← Nat.pow_add]; congr 1; have := h.le; omega
  generalize cntP (fun q => decide (press xs q = 0)) (2 ^ xs.length) = C at *
  rw [e] at hm
  exact Nat.eq_of_mul_eq_mul_right (Nat.pow_pos (by decide)) hm

end Go.Proofs.Ytgmjffplinpobaa
