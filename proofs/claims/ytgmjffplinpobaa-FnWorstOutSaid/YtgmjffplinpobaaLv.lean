/- Plain law of the program's elimination. -/
import Derived.Test.YtgmjffplinpobaaLt
namespace Go.Proofs.Ytgmjffplinpobaa
open Go Go.RowKit

/-- An entry of a list of sets. -/
def ng (ls : List Nat) (k : Nat) : Nat := ls.getD k 0
theorem ng_set {ls : List Nat} {k j x : Nat} (hk : k < ls.length) : ng (ls.set k x) j = if j = k then x else ng ls j := by
  unfold ng
  by_cases e : j = k
  · subst e; simp [List.getD, hk]
  · rw [if_neg e]; simp [List.getD, Ne.symm e]

/-- The inner loop: the chosen row p is added to those of the first k rows that have the light l. -/
def el (ls : List Nat) (p l : Nat) : Nat → List Nat
  | 0 => ls
  | k + 1 => if k ≠ p ∧ (ng (el ls p l k) k).testBit l = true then (el ls p l k).set k (ng (el ls p l k) k ^^^ ng (el ls p l k) p) else el ls p l k
theorem el_len (ls : List Nat) (p l : Nat) : ∀ k, (el ls p l k).length = ls.length
  | 0 => rfl
  | k + 1 => by
    rw [el]; split
    · rw [List.length_set]; exact el_len ls p l k
    · exact el_len ls p l k
theorem el_get {ls : List Nat} {p l : Nat} (j : Nat) : ∀ k, k ≤ ls.length → ng (el ls p l k) j = if j < k ∧ j ≠ p ∧ (ng ls j).testBit l = true then ng ls j ^^^ ng ls p else ng ls j
  | 0, _ => by rw [if_neg (by omega)]; rfl
  | k + 1, hk => by
    have ihj := el_get (ls := ls) (p := p) (l := l) j k (by omega)
    have ihk := el_get (ls := ls) (p := p) (l := l) k k (by omega)
    have ihp := el_get (ls := ls) (p := p) (l := l) p k (by omega)
    rw [if_neg (by omega)] at ihk
    rw [if_neg (by simp)] at ihp
    rw [el]
    by_cases hc : k ≠ p ∧ (ng (el ls p l k) k).testBit l = true
    · rw [if_pos hc, ng_set (by rw [el_len]; omega), ihk, ihp]
      rw [ihk] at hc
      by_cases e : j = k
      · subst e; rw [if_pos rfl, if_pos ⟨by omega, hc.1, hc.2⟩]
      · rw [if_neg e, ihj]
        by_cases h : j < k ∧ j ≠ p ∧ (ng ls j).testBit l = true
        · rw [if_pos h, if_pos ⟨by omega, h.2⟩]
        · rw [if_neg h, if_neg (fun h2 => h ⟨by omega, h2.2⟩)]
    · rw [if_neg hc, ihj]
      rw [ihk] at hc
      by_cases h : j < k ∧ j ≠ p ∧ (ng ls j).testBit l = true
      · rw [if_pos h, if_pos ⟨by omega, h.2⟩]
      · rw [if_neg h, if_neg]
        rintro ⟨h1, h2, h3⟩
        by_cases e : j = k
        · subst e; exact hc ⟨h2, h3⟩
        · exact h ⟨by omega, h2, h3⟩

/-- A sum of rows of a set ch. -/
def Sub (xs : List Int) (ch v : Nat) : Prop := ∃ s, s < 2 ^ xs.length ∧ (∀ j, s.testBit j = true → ch.testBit j = true) ∧ press xs s = v
theorem prs_zero (xs : List Int) : ∀ k, prs xs 0 k = 0
  | 0 => rfl
  | k + 1 => by rw [prs_not (Nat.zero_testBit k), prs_zero xs k]
theorem Sub.zero (xs : List Int) (ch : Nat) : Sub xs ch 0 :=
  ⟨0, Nat.pow_pos (by decide), fun j h => (by rw [Nat.zero_testBit] at h; cases h), prs_zero xs _⟩
theorem Sub.xor {xs : List Int} {ch u v : Nat} (hu : Sub xs ch u) (hv : Sub xs ch v) : Sub xs ch (u ^^^ v) := by
  obtain ⟨s, h1, h2, h3⟩ := hu
  obtain ⟨t, k1, k2, k3⟩ := hv
  refine ⟨s ^^^ t, Nat.xor_lt_two_pow h1 k1, fun j hj => ?_, by rw [press_xor, h3, k3]⟩
  rw [Nat.testBit_xor] at hj
  cases hs : s.testBit j with
  | true => exact h2 j hs
  | false => rw [hs] at hj; exact k2 j (by simpa using hj)
theorem Sub.mono {xs : List Int} {ch ch' u : Nat} (hu : Sub xs ch u) (h : ∀ j, ch.testBit j = true → ch'.testBit j = true) : Sub xs ch' u := by
  obtain ⟨s, h1, h2, h3⟩ := hu
  exact ⟨s, h1, fun j hj => h j (h2 j hj), h3⟩
theorem prs_one (xs : List Int) (p : Nat) : ∀ k, prs xs (2 ^ p) k = if p < k then row xs p else 0
  | 0 => rfl
  | k + 1 => by
    have ih := prs_one xs p k
    have hb := Nat.testBit_two_pow (n := p) (m := k)
    by_cases e : p = k
    · subst e
      rw [prs_in (by rw [hb]; exact decide_eq_true rfl), ih, if_neg (by omega), if_pos (by omega), Nat.zero_xor]
    · rw [prs_not (by rw [hb]; exact decide_eq_false e), ih]
      by_cases h : p < k
      · rw [if_pos h, if_pos (by omega)]
      · rw [if_neg h, if_neg (by omega)]
theorem Sub.row {xs : List Int} {ch p : Nat} (hp : p < xs.length) (h : ch.testBit p = true) : Sub xs ch (row xs p) :=
  ⟨2 ^ p, Nat.pow_lt_pow_right (by decide) hp, fun j hj => (by rw [Nat.testBit_two_pow] at hj; have := of_decide_eq_true hj; subst this; exact h), (by unfold press; rw [prs_one, if_pos hp])⟩

/-- Where the elimination stands. -/
structure RkS (xs : List Int) (ls : List Nat) (ch l : Nat) : Prop where
  len : ls.length = xs.length
  lt : ∀ k, k < xs.length → ng ls k < 2 ^ xs.length
  chl : ch < 2 ^ xs.length
  perp : ∀ q, (∀ k, k < xs.length → dot q (ng ls k) = false) ↔ (∀ k, k < xs.length → dot q (row xs k) = false)
  sub : ∀ k, k < xs.length → Sub xs ch (ng ls k ^^^ row xs k)
  zero : ∀ k, k < xs.length → ch.testBit k = false → ∀ j, j < l → (ng ls k).testBit j = false
  piv : ∃ P : Nat → Nat, ∀ k, k < xs.length → ch.testBit k = true → P k < l ∧ ∀ j, j < xs.length → (ng ls j).testBit (P k) = decide (j = k)

/-- No row is chosen. -/
theorem RkS.skip {xs : List Int} {ls : List Nat} {ch l : Nat} (h : RkS xs ls ch l) (hn : ∀ k, k < xs.length → ch.testBit k = false → (ng ls k).testBit l = false) : RkS xs ls ch (l + 1) :=
  { h with
    zero := fun k hk hc j hj => by
      by_cases e : j = l
      · subst e; exact hn k hk hc
      · exact h.zero k hk hc j (by omega)
    piv := by
      obtain ⟨P, hP⟩ := h.piv
      exact ⟨P, fun k hk hc => ⟨by have := (hP k hk hc).1; omega, (hP k hk hc).2⟩⟩ }
/-- Row p is chosen. -/
theorem RkS.pick {xs : List Int} {ls : List Nat} {ch l p : Nat} (h : RkS xs ls ch l) (hp : p < xs.length) (hc : ch.testBit p = false) (hb : (ng ls p).testBit l = true) : RkS xs (el ls p l xs.length) (ch ||| 2 ^ p) (l + 1) := by
  have hg := fun j => el_get (ls := ls) (p := p) (l := l) j xs.length (by rw [h.len]; exact Nat.le_refl _)
  have hgp : ng (el ls p l xs.length) p = ng ls p := by rw [hg, if_neg (by simp)]
  have hz := h.zero p hp hc
  have hch : ∀ k, (ch ||| 2 ^ p).testBit k = (ch.testBit k || decide (p = k)) := fun k => by rw [Nat.testBit_or, Nat.testBit_two_pow]
  -- bits below l stay
  have hlow : ∀ j i, i < l → (ng (el ls p l xs.length) j).testBit i = (ng ls j).testBit i := fun j i hi => by
    rw [hg]; split
    · rw [Nat.testBit_xor, hz i hi]; simp
    · rfl
  have hcol : ∀ j, j < xs.length → (ng (el ls p l xs.length) j).testBit l = decide (j = p) := fun j hj => by
    rw [hg]
    by_cases e : j = p
    · subst e; rw [if_neg (by simp), hb]; simp
    · rw [decide_eq_false e]
      cases hjb : (ng ls j).testBit l with
      | true => rw [if_pos ⟨hj, e, rfl⟩, Nat.testBit_xor, hjb, hb]; rfl
      | false => rw [if_neg (by simp), hjb]
  refine ⟨by rw [el_len]; exact h.len, fun k hk => ?_, ?_, fun q => ?_, fun k hk => ?_, fun k hk hck j hj => ?_, ?_⟩
  · rw [hg]; split
    · exact Nat.xor_lt_two_pow (h.lt k hk) (h.lt p hp)
    · exact h.lt k hk
  · exact Nat.or_lt_two_pow h.chl (Nat.pow_lt_pow_right (by decide) hp)
  · rw [← h.perp q]
    constructor
    · intro ha k hk
      have h1 := ha k hk
      have h2 := ha p hp
      rw [hgp] at h2
      rw [hg] at h1
      split at h1
      · rw [dot_xor, h2] at h1; simpa using h1
      · exact h1
    · intro ha k hk
      rw [hg]; split
      · rw [dot_xor, ha k hk, ha p hp]; rfl
      · exact ha k hk
  · have hm : ∀ j, ch.testBit j = true → (ch ||| 2 ^ p).testBit j = true := fun j hj => by rw [hch, hj]; rfl
    have h1 := (h.sub k hk).mono hm
    have h2 := (h.sub p hp).mono hm
    have h3 : Sub xs (ch ||| 2 ^ p) (row xs p) := Sub.row hp (by rw [hch]; simp)
    have h4 := h2.xor h3
    rw [xor_back] at h4
    rw [hg]; split
    · have := h1.xor h4
      rw [Nat.xor_assoc, Nat.xor_comm (row xs k), ← Nat.xor_assoc] at this
      exact this
    · exact h1
  · rw [hch] at hck
    have hck1 : ch.testBit k = false := by cases e : ch.testBit k <;> rw [e] at hck <;> simp at hck ⊢
    have hkp : k ≠ p := fun e => by subst e; rw [hck1] at hck; simp at hck
    by_cases e : j = l
    · subst e; rw [hcol k hk]; exact decide_eq_false hkp
    · rw [hlow k j (by omega)]; exact h.zero k hk hck1 j (by omega)
  · obtain ⟨P, hP⟩ := h.piv
    refine ⟨fun k => if k = p then l else P k, fun k hk hck => ?_⟩
    show (if k = p then l else P k) < l + 1 ∧ ∀ j, j < xs.length → (ng (el ls p l xs.length) j).testBit (if k = p then l else P k) = decide (j = k)
    by_cases e : k = p
    · subst e; rw [if_pos rfl]; exact ⟨by omega, fun j hj => hcol j hj⟩
    · rw [if_neg e]
      rw [hch, decide_eq_false (fun h => e h.symm), Bool.or_false] at hck
      obtain ⟨h1, h2⟩ := hP k hk hck
      exact ⟨by omega, fun j hj => by rw [hlow j _ h1]; exact h2 j hj⟩

end Go.Proofs.Ytgmjffplinpobaa
