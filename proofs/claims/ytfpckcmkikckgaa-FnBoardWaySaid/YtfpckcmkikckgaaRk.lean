/- Plain law: no two boards of one size have the same rank. -/
import Derived.Test.YtfpckcmkikckgaaTp
namespace Go.Proofs.Ytfpckcmkikckgaa
open Go Go.RowKit

/-- The factorial. -/
def fct : Nat → Nat
  | 0 => 1
  | n + 1 => (n + 1) * fct n
theorem fct_pos : ∀ n, 0 < fct n
  | 0 => by decide
  | n + 1 => Nat.mul_pos (by omega) (fct_pos n)

/-- The rank of what is left of a board, behind a rank a. -/
def rkL : Nat → List Int → Nat
  | a, [] => a
  | a, x :: l => rkL (a * (l.length + 1) + lessN x l) l
def rankL (xs : List Int) : Nat := rkL 0 xs

theorem rkL_nil (a : Nat) : rkL a [] = a := rfl
theorem rkL_cons (a : Nat) (x : Int) (l : List Int) : rkL a (x :: l) = rkL (a * (l.length + 1) + lessN x l) l := rfl

theorem rkL_split : ∀ (l : List Int) (a : Nat), rkL a l = a * fct l.length + rkL 0 l
  | [], a => by simp [rkL_nil, fct]
  | x :: l, a => by
    rw [rkL_cons, rkL_cons, rkL_split l, rkL_split l (0 * (l.length + 1) + lessN x l), List.length_cons, fct, Nat.zero_mul, Nat.zero_add, Nat.add_mul, Nat.mul_assoc]
    omega

theorem lessN_le (a : Int) : ∀ l : List Int, lessN a l ≤ l.length
  | [] => by simp [lessN]
  | x :: l => by have := lessN_le a l; rw [lessN, List.length_cons]; split <;> omega

theorem rkL_lt : ∀ l : List Int, rkL 0 l < fct l.length
  | [] => by simp [rkL_nil, fct]
  | x :: l => by
    have h1 := rkL_lt l
    have h2 := lessN_le x l
    rw [rkL_cons, rkL_split, List.length_cons, fct, Nat.zero_mul, Nat.zero_add, Nat.add_mul, Nat.one_mul]
    have h3 : lessN x l * fct l.length ≤ l.length * fct l.length := Nat.mul_le_mul_right _ h2
    omega

theorem lessN_mono {a b : Int} (h : a ≤ b) : ∀ l : List Int, lessN a l ≤ lessN b l
  | [] => by simp [lessN]
  | x :: l => by have := lessN_mono h l; rw [lessN, lessN]; split <;> split <;> omega

theorem lessN_lt {a b : Int} (h : a < b) : ∀ l : List Int, a ∈ l → lessN a l < lessN b l
  | [], hm => by cases hm
  | x :: l, hm => by
    rw [lessN, lessN]
    rcases List.mem_cons.1 hm with rfl | hm
    · have := lessN_mono (Int.le_of_lt h) l
      rw [if_neg (by omega), if_pos h]; omega
    · have := lessN_lt h l hm
      split <;> split <;> omega

theorem lessN_self (a : Int) (l : List Int) : lessN a (a :: l) = lessN a l := by rw [lessN, if_neg (by omega), Nat.zero_add]

theorem head_of_less {x y : Int} {l l' : List Int} (hp : (x :: l).Perm (y :: l')) (h : lessN x l = lessN y l') : ¬ x < y := fun hxy => by
  have hm : x ∈ l' := by
    rcases List.mem_cons.1 (hp.mem_iff.1 (List.mem_cons_self (a := x) (l := l))) with e | e
    · omega
    · exact e
  have h1 := lessN_perm (a := x) hp
  rw [lessN_self, lessN, if_neg (by omega), Nat.zero_add] at h1
  have := lessN_lt hxy l' hm
  omega

theorem rkL_inj : ∀ (l l' : List Int), l.Perm l' → l.Nodup → rkL 0 l = rkL 0 l' → l = l'
  | [], l', hp, _, _ => (List.nil_perm.1 hp).symm
  | x :: l, [], hp, _, _ => by simp at hp
  | x :: l, y :: l', hp, hd, h => by
    have hl : l.length = l'.length := by simpa using hp.length_eq
    rw [rkL_cons, rkL_cons, rkL_split, rkL_split l', Nat.zero_mul, Nat.zero_add, Nat.zero_mul, Nat.zero_add, ← hl] at h
    have h1 := rkL_lt l
    have h2 := rkL_lt l'
    rw [← hl] at h2
    have hpos := fct_pos l.length
    have hq : lessN x l = lessN y l' := by
      have e1 := congrArg (· / fct l.length) h
      simp only [Nat.mul_comm _ (fct l.length), Nat.mul_add_div hpos, Nat.div_eq_of_lt h1, Nat.div_eq_of_lt h2] at e1
      omega
    have hr : rkL 0 l = rkL 0 l' := by rw [hq] at h; omega
    have hxy : x = y := by
      have a1 := head_of_less hp hq
      have a2 := head_of_less hp.symm hq.symm
      omega
    subst hxy
    rw [rkL_inj l l' (List.perm_cons x |>.1 hp) (List.nodup_cons.1 hd).2 hr]

theorem rank_lt {xs : List Int} {n : Nat} (h : xs.length = n) : rankL xs < fct n := h ▸ rkL_lt xs

/-- Two boards of one size with one rank are one. -/
theorem rank_inj {n : Nat} {xs ys : List Int} (hx : Dis n xs) (hy : Dis n ys) (lx : xs.length = n) (ly : ys.length = n) (h : rankL xs = rankL ys) : xs = ys := by
  refine rkL_inj xs ys ((List.perm_ext_iff_of_nodup hx.2 hy.2).2 fun a => ⟨fun ha => ?_, fun ha => ?_⟩) hx.2 h
  · have hb := hx.1 a ha
    have := dis_mem hy ly (t := a.toNat) (by omega)
    rwa [Int.toNat_of_nonneg hb.1] at this
  · have hb := hy.1 a ha
    have := dis_mem hx lx (t := a.toNat) (by omega)
    rwa [Int.toNat_of_nonneg hb.1] at this

theorem fct_le {n : Nat} (h : n ≤ 6) : fct n ≤ 720 := by
  match n, h with
  | 0, _ => decide
  | 1, _ => decide
  | 2, _ => decide
  | 3, _ => decide
  | 4, _ => decide
  | 5, _ => decide
  | 6, _ => decide
  | k + 7, h => omega

end Go.Proofs.Ytfpckcmkikckgaa
