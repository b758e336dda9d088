/- Plain law: exchanging two different numbers of a list changes the parity of its inversions. -/
import Derived.Test.YtfpckcmkikckgaaTo
namespace Go.Proofs.Ytfpckcmkikckgaa
open Go Go.RowKit

/-- How many of a list's numbers are less than a. -/
def lessN (a : Int) : List Int → Nat
  | [] => 0
  | x :: l => (if x < a then 1 else 0) + lessN a l

/-- The inversions of a list. -/
def invL : List Int → Nat
  | [] => 0
  | a :: l => lessN a l + invL l

theorem lessN_perm {a : Int} {l l' : List Int} (h : l.Perm l') : lessN a l = lessN a l' := by
  induction h with
  | nil => rfl
  | cons x _ ih => simp only [lessN, ih]
  | swap x y l => simp only [lessN]; omega
  | trans _ _ ih1 ih2 => exact ih1.trans ih2

theorem nth_cons_zero (a : Int) (l : List Int) : nth (a :: l) 0 = a := rfl
theorem nth_cons_succ (a : Int) (l : List Int) (j : Nat) : nth (a :: l) (j + 1) = nth l j := rfl

theorem sum_less (a : Int) : ∀ l : List Int, sumTo (fun j => if nth l j < a then 1 else 0) l.length = lessN a l
  | [] => rfl
  | x :: l => by
    rw [List.length_cons, Nat.add_comm, sumTo_shift, lessN, ← sum_less a l]
    have h1 : sumTo (fun j => if nth (x :: l) j < a then 1 else 0) 1 = if x < a then 1 else 0 := by rw [sumTo_succ, sumTo_zero, nth_cons_zero, Nat.zero_add]
    rw [h1]
    congr 1
    exact sumTo_congr fun j _ => by rw [Nat.add_comm, nth_cons_succ]

theorem invR_list : ∀ xs : List Int, invR xs xs.length = invL xs
  | [] => rfl
  | a :: l => by
    unfold invR
    rw [show (a :: l).length = 1 + l.length from by simp; omega, sumTo_shift, invL, ← invR_list l, ← sum_less a l]
    congr 1
    · rw [sumTo_succ, sumTo_zero, Nat.zero_add]
      refine (congrArg (sumTo _) (by omega)).trans (sumTo_congr fun j _ => ?_)
      unfold gt1
      rw [nth_cons_zero, show 0 + 1 + j = j + 1 from by omega, nth_cons_succ]
    · unfold invR
      refine sumTo_congr fun i _ => ?_
      refine (congrArg (sumTo _) (show 1 + l.length - (1 + i + 1) = l.length - (i + 1) from by omega)).trans (sumTo_congr fun j _ => ?_)
      unfold gt1
      rw [show 1 + i + 1 + j = (i + 1 + j) + 1 from by omega, show 1 + i = i + 1 from by omega, nth_cons_succ, nth_cons_succ]

theorem inv_adj {a b : Int} (hab : a ≠ b) (l2 : List Int) : ∀ l1 : List Int, (invL (l1 ++ a :: b :: l2) + invL (l1 ++ b :: a :: l2)) % 2 = 1
  | [] => by
    simp only [List.nil_append, invL, lessN]
    by_cases h : a < b
    · rw [if_pos h, if_neg (by omega)]; omega
    · rw [if_neg h, if_pos (by omega)]; omega
  | x :: l1 => by
    have h := inv_adj hab l2 l1
    have hp : (l1 ++ a :: b :: l2).Perm (l1 ++ b :: a :: l2) := List.Perm.append_left l1 (List.Perm.swap b a l2)
    simp only [List.cons_append, invL, lessN_perm (a := x) hp]
    omega

/-- A number moved across a list. -/
theorem inv_across {a : Int} (l2 : List Int) : ∀ (m l1 : List Int), a ∉ m → (invL (l1 ++ a :: (m ++ l2)) + invL (l1 ++ m ++ a :: l2)) % 2 = m.length % 2
  | [], l1, _ => by simp; omega
  | b :: m, l1, h => by
    have h1 : a ≠ b := fun e => h (by simp [e])
    have h2 := inv_adj h1 (m ++ l2) l1
    have h3 := inv_across (a := a) l2 m (l1 ++ [b]) (fun e => h (List.mem_cons_of_mem _ e))
    simp only [List.append_assoc, List.cons_append, List.nil_append, List.length_cons] at h3 ⊢
    omega

theorem inv_swap {a b : Int} (hab : a ≠ b) (l1 m l2 : List Int) (ha : a ∉ m) (hb : b ∉ m) : (invL (l1 ++ a :: (m ++ b :: l2)) + invL (l1 ++ b :: (m ++ a :: l2))) % 2 = 1 := by
  have h1 := inv_across (b :: l2) m l1 ha
  have h2 := inv_adj hab l2 (l1 ++ m)
  have h3 := inv_across (a :: l2) m l1 hb
  omega

/-- A list at two of its places. -/
theorem split2 {xs : List Int} {p q : Nat} (hpq : p < q) (hq : q < xs.length) : ∃ l1 m l2, xs = l1 ++ nth xs p :: (m ++ nth xs q :: l2) ∧ l1.length = p ∧ m.length = q - p - 1 := by
  refine ⟨xs.take p, (xs.drop (p + 1)).take (q - p - 1), xs.drop (q + 1), ?_, by rw [List.length_take]; omega, by rw [List.length_take, List.length_drop]; omega⟩
  have e1 : xs = xs.take p ++ xs.drop p := (List.take_append_drop p xs).symm
  have e2 : xs.drop p = nth xs p :: xs.drop (p + 1) := by rw [List.drop_eq_getElem_cons (by omega), nth_eq (by omega)]
  have e3 : xs.drop (p + 1) = (xs.drop (p + 1)).take (q - p - 1) ++ (xs.drop (p + 1)).drop (q - p - 1) := (List.take_append_drop _ _).symm
  have e4 : (xs.drop (p + 1)).drop (q - p - 1) = nth xs q :: xs.drop (q + 1) := by
    rw [List.drop_drop, show p + 1 + (q - p - 1) = q from by omega, List.drop_eq_getElem_cons hq, nth_eq hq]
  rw [← e4, ← e3, ← e2, ← e1]

/-- Two of a list's places exchanged. -/
def xch (xs : List Int) (p q : Nat) : List Int := (xs.set p (nth xs q)).set q (nth xs p)
theorem length_xch (xs : List Int) (p q : Nat) : (xch xs p q).length = xs.length := by simp [xch]

theorem xch_split {l1 m l2 : List Int} {a b : Int} {p q : Nat} (h1 : l1.length = p) (h2 : m.length = q - p - 1) (hpq : p < q) :
    ((l1 ++ a :: (m ++ b :: l2)).set p b).set q a = l1 ++ b :: (m ++ a :: l2) := by
  rw [List.set_append_right _ _ (by omega), h1, Nat.sub_self, List.set_cons_zero, List.set_append_right _ _ (by omega), h1, show q - p = (q - p - 1) + 1 from by omega, List.set_cons_succ, List.set_append_right _ _ (by omega), h2, Nat.sub_self, List.set_cons_zero]

theorem xch_facts {xs : List Int} {p q : Nat} (hpq : p < q) (hq : q < xs.length) (hd : xs.Nodup) : (invL xs + invL (xch xs p q)) % 2 = 1 ∧ xs.Perm (xch xs p q) := by
  obtain ⟨l1, m, l2, e, h1, h2⟩ := split2 hpq hq
  have ex : xch xs p q = l1 ++ nth xs q :: (m ++ nth xs p :: l2) := by
    have := xch_split (l1 := l1) (m := m) (l2 := l2) (a := nth xs p) (b := nth xs q) h1 h2 hpq
    rw [← e] at this
    exact this
  generalize nth xs p = a at *
  generalize nth xs q = b at *
  have hd' := hd
  rw [e] at hd'
  have hd2 := (List.nodup_append.1 hd').2.1
  rw [List.nodup_cons] at hd2
  have hd3 := (List.nodup_append.1 hd2.2)
  have ham : a ∉ m := fun h => hd2.1 (List.mem_append_left _ h)
  have hab : a ≠ b := fun h => hd2.1 (List.mem_append_right _ (by rw [h]; simp))
  have hbm : b ∉ m := fun h => hd3.2.2 b h b (by simp) rfl
  rw [ex, e]
  refine ⟨inv_swap hab l1 m l2 ham hbm, List.Perm.append_left l1 ?_⟩
  have p1 : (a :: (m ++ b :: l2)).Perm (a :: b :: (m ++ l2)) := List.Perm.cons a List.perm_middle
  have p2 : (b :: (m ++ a :: l2)).Perm (b :: a :: (m ++ l2)) := List.Perm.cons b List.perm_middle
  exact (p1.trans (List.Perm.swap b a _)).trans p2.symm

theorem boardOk_perm {wide : Int} {xs ys : List Int} (h : BoardOk wide xs) (hp : xs.Perm ys) : BoardOk wide ys := by
  have hl := hp.length_eq
  obtain ⟨h1, h2, h3, h4, h5, h6⟩ := h
  refine ⟨by omega, by omega, h3, by rw [← hl]; exact h4, fun x hx => ?_, (hp.nodup_iff).1 h6⟩
  rw [← hl]; exact h5 x (hp.mem_iff.2 hx)

/-- Any exchange changes the parity. -/
theorem odd_xch {wide : Int} {xs : List Int} {p q : Nat} (h : BoardOk wide xs) (hpq : p < q) (hq : q < xs.length) : BoardOk wide (xch xs p q) ∧ (oddB wide (xch xs p q) = !(oddB wide xs)) := by
  obtain ⟨f1, f2⟩ := xch_facts hpq hq h.2.2.2.2.2
  have h2 := boardOk_perm h f2
  refine ⟨h2, ?_⟩
  rw [oddB_in (boardB_iff.2 h), oddB_in (boardB_iff.2 h2), invR_list, invR_list]
  unfold oddN
  rcases Nat.mod_two_eq_zero_or_one (invL xs) with e | e
  · have e2 : invL (xch xs p q) % 2 = 1 := by omega
    rw [e, e2]; rfl
  · have e2 : invL (xch xs p q) % 2 = 0 := by omega
    rw [e, e2]; rfl

end Go.Proofs.Ytfpckcmkikckgaa
