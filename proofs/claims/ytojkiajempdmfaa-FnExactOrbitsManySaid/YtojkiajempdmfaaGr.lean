/- Plain law: orbits are classes; how many there are. -/
import Derived.Test.YtojkiajempdmfaaGo
namespace Go.Proofs.Ytojkiajempdmfaa
open Go Go.RowKit

theorem nodup_sub_len : ∀ (l l' : List Int), l.Nodup → (∀ x ∈ l, x ∈ l') → l.length ≤ l'.length
  | [], _, _, _ => Nat.zero_le _
  | x :: l, l', hd, h => by
    have h1 := nodup_sub_len l (l'.erase x) (List.nodup_cons.1 hd).2 fun y hy => by
      have hne : y ≠ x := fun e => (List.nodup_cons.1 hd).1 (e ▸ hy)
      exact (List.mem_erase_of_ne hne).2 (h y (List.mem_cons_of_mem _ hy))
    have hx := h x (by simp)
    rw [List.length_erase_of_mem hx] at h1
    have := List.length_pos_of_mem hx
    simp only [List.length_cons]; omega

/-- A set of places that no generator leaves. -/
def Clsd (rs : List (List Int)) (q : Nat) (T : Int → Prop) : Prop := ∀ x : Nat, x < q → T x → ∀ m ∈ rs, T (nth m x)

theorem rowO_mem (y : Nat) : ∀ (rs : List (List Int)) (out : List Int), (∀ x ∈ out, x ∈ rowO y rs out) ∧ (∀ m ∈ rs, nth m y ∈ rowO y rs out) ∧ ∃ ext, rowO y rs out = out ++ ext
  | [], out => ⟨fun x h => h, fun m h => absurd h (by simp), [], by simp [rowO]⟩
  | m :: rs, out => by
    rw [rowO]
    obtain ⟨h1, h2, ext, h3⟩ := rowO_mem y rs (addO out (nth m y))
    have ha : (∀ x ∈ out, x ∈ addO out (nth m y)) ∧ nth m y ∈ addO out (nth m y) ∧ ∃ e, addO out (nth m y) = out ++ e := by
      by_cases h : nth m y ∈ out
      · rw [addO_old h]; exact ⟨fun _ h => h, h, [], by simp⟩
      · rw [addO_new h]; exact ⟨fun x hx => List.mem_append_left _ hx, by simp, [nth m y], rfl⟩
    obtain ⟨e, he⟩ := ha.2.2
    refine ⟨fun x hx => h1 x (ha.1 x hx), fun z hz => ?_, e ++ ext, by rw [h3, he, List.append_assoc]⟩
    rcases List.mem_cons.1 hz with rfl | hz
    · exact h1 _ ha.2.1
    · exact h2 z hz

theorem rowO_sub {T : Int → Prop} (y : Nat) : ∀ (rs : List (List Int)) (out : List Int), (∀ x ∈ out, T x) → (∀ m ∈ rs, T (nth m y)) → ∀ x ∈ rowO y rs out, T x
  | [], out, h, _ => h
  | m :: rs, out, h, hm => by
    rw [rowO]
    refine rowO_sub y rs _ (fun x hx => ?_) fun z hz => hm z (List.mem_cons_of_mem _ hz)
    by_cases hin : nth m y ∈ out
    · rw [addO_old hin] at hx; exact h x hx
    · rw [addO_new hin] at hx
      rcases List.mem_append.1 hx with hx | hx
      · exact h x hx
      · rw [List.mem_singleton.1 hx]; exact hm m (by simp)

theorem orbF_sub {rs : List (List Int)} {q : Nat} {T : Int → Prop} (hT : Clsd rs q T) (hm : ∀ m ∈ rs, PermOk m ∧ m.length = q) : ∀ (f k : Nat) (out : List Int), Dis q out → (∀ x ∈ out, T x) → ∀ x ∈ orbF rs f k out, T x
  | 0, _, _, _, h => h
  | f + 1, k, out, hd, h => by
    rw [orbF]
    by_cases hk : k < out.length
    · rw [if_pos hk]
      have hx := hd.1 _ (nth_mem hk)
      refine orbF_sub hT hm f _ _ (rowO_ok _ (by omega) rs out hd hm) (rowO_sub _ rs out h fun m hm' => ?_)
      exact hT _ (by omega) (by rw [Int.toNat_of_nonneg hx.1]; exact h _ (nth_mem hk)) m hm'
    · rw [if_neg hk]; exact h

theorem orbF_clsd {rs : List (List Int)} {q : Nat} (hq : q ≤ 5) (hm : ∀ m ∈ rs, PermOk m ∧ m.length = q) : ∀ (f k : Nat) (out : List Int), Dis q out → 6 ≤ f + k → (∀ i, i < k → i < out.length → ∀ m ∈ rs, nth m (nth out i).toNat ∈ out) →
    (∀ x ∈ out, x ∈ orbF rs f k out) ∧ ∀ i, i < (orbF rs f k out).length → ∀ m ∈ rs, nth m (nth (orbF rs f k out) i).toNat ∈ orbF rs f k out
  | 0, k, out, hd, hf, h => by
    have := dis_len hd
    exact ⟨fun _ h => h, fun i hi m hm' => h i (by have hi' : i < out.length := hi; omega) hi m hm'⟩
  | f + 1, k, out, hd, hf, h => by
    have hl := dis_len hd
    rw [orbF]
    by_cases hk : k < out.length
    · rw [if_pos hk]
      have hx := hd.1 _ (nth_mem hk)
      obtain ⟨h1, h2, ext, h3⟩ := rowO_mem (nth out k).toNat rs out
      have hxn : (nth out k).toNat < q := by omega
      have ih := orbF_clsd hq hm f (k + 1) _ (rowO_ok _ hxn rs out hd hm) (by omega) fun i hi hil m hm' => by
        have hio : i < out.length := by omega
        have hn : nth (rowO (nth out k).toNat rs out) i = nth out i := by rw [h3]; exact nth_app1 hio
        rw [hn]
        by_cases e : i = k
        · subst e; exact h2 m hm'
        · exact h1 _ (h i (by omega) hio m hm')
      exact ⟨fun x hx => ih.1 x (h1 x hx), ih.2⟩
    · rw [if_neg hk]
      exact ⟨fun _ h => h, fun i hi m hm' => h i (by omega) hi m hm'⟩

structure Orbs (p : Int) (rs : List (List Int)) (q : Nat) : Prop where
  ok : MovesOk p rs
  len : p = q
  five : q ≤ 5
  rows : ∀ m ∈ rs, PermOk m ∧ m.length = q
theorem orbs_of {p : Int} {rs : List (List Int)} {q : Nat} (h : MovesOk p rs) (hq : p = q) : Orbs p rs q :=
  ⟨h, hq, by have := h.2.1; omega, fun m hm => ⟨(h.2.2.2 m hm).2, by have := (h.2.2.2 m hm).1; omega⟩⟩

theorem Orbs.dis {p : Int} {rs : List (List Int)} {q : Nat} (h : Orbs p rs q) {x : Nat} (hx : x < q) : Dis q (orbL rs x) := by
  have := orbL_ok (p := p) (rs := rs) (x := x) ⟨h.ok, by omega, by have := h.len; omega⟩
  rwa [h.len, Int.toNat_natCast] at this
theorem one_dis {q x : Nat} (hx : x < q) : Dis q [(x : Int)] := ⟨fun y hy => by rw [List.mem_singleton.1 hy]; omega, by simp⟩
theorem Orbs.self {p : Int} {rs : List (List Int)} {q : Nat} (h : Orbs p rs q) {x : Nat} (hx : x < q) : (x : Int) ∈ orbL rs x :=
  (orbF_clsd h.five h.rows 6 0 [(x : Int)] (one_dis hx) (by omega) (fun i hi => absurd hi (by omega))).1 _ (by simp)
theorem Orbs.clsd {p : Int} {rs : List (List Int)} {q : Nat} (h : Orbs p rs q) {x : Nat} (hx : x < q) : Clsd rs q (fun t => t ∈ orbL rs x) := fun z _ hz m hm => by
  have hc := (orbF_clsd h.five h.rows 6 0 [(x : Int)] (one_dis hx) (by omega) (fun i hi => absurd hi (by omega))).2
  obtain ⟨i, hi, e⟩ := List.getElem_of_mem hz
  have h1 := hc i hi m hm
  have e2 : nth (orbF rs 6 0 [(x : Int)]) i = (z : Int) := (nth_eq (xs := orbF rs 6 0 [(x : Int)]) hi).trans e
  rw [e2, Int.toNat_natCast] at h1
  exact h1
theorem Orbs.least {p : Int} {rs : List (List Int)} {q : Nat} (h : Orbs p rs q) {x : Nat} (hx : x < q) {T : Int → Prop} (hT : Clsd rs q T) (h0 : T x) : ∀ t ∈ orbL rs x, T t :=
  orbF_sub hT h.rows 6 0 [(x : Int)] (one_dis hx) (fun y hy => by rw [List.mem_singleton.1 hy]; exact h0)
theorem Orbs.trans {p : Int} {rs : List (List Int)} {q : Nat} (h : Orbs p rs q) {x y : Nat} (hx : x < q) (hy : y < q) (hm : (y : Int) ∈ orbL rs x) : ∀ t ∈ orbL rs y, t ∈ orbL rs x :=
  h.least hy (h.clsd hx) hm

/-- What a permutation does not bring into a set that it keeps. -/
theorem Orbs.outside {p : Int} {rs : List (List Int)} {q : Nat} (h : Orbs p rs q) {x : Nat} (hx : x < q) : Clsd rs q (fun t => t ∉ orbL rs x) := fun z hz hn m hm hin => by
  have hd := h.dis hx
  have hmm := h.rows m hm
  have hdm : Dis q m := by have := hmm.1.2.2; rwa [hmm.2] at this
  have hsub : ∀ y ∈ (orbL rs x).map (fun t => nth m t.toNat), y ∈ orbL rs x := fun y hy => by
    obtain ⟨t, ht, rfl⟩ := List.mem_map.1 hy
    have hb := hd.1 t ht
    exact h.clsd hx t.toNat (by omega) (by rw [Int.toNat_of_nonneg hb.1]; exact ht) m hm
  have hnd : ((orbL rs x).map (fun t => nth m t.toNat)).Nodup := by
    unfold List.Nodup
    rw [List.pairwise_map]
    refine List.Pairwise.imp_of_mem (fun {a b} ha hb hab e => hab ?_) hd.2
    have h1 := hd.1 a ha
    have h2 := hd.1 b hb
    have := nth_inj hdm (i := a.toNat) (j := b.toNat) (by omega) (by omega) e
    omega
  have hmem : nth m z ∈ (orbL rs x).map (fun t => nth m t.toNat) := by
    refine Classical.byContradiction fun hno => ?_
    have := nodup_sub_len (nth m z :: (orbL rs x).map (fun t => nth m t.toNat)) (orbL rs x) (List.nodup_cons.2 ⟨hno, hnd⟩) fun y hy => by
      rcases List.mem_cons.1 hy with rfl | hy
      · exact hin
      · exact hsub y hy
    simp at this
    omega
  obtain ⟨t, ht, e⟩ := List.mem_map.1 hmem
  have hb := hd.1 t ht
  have := nth_inj hdm (i := t.toNat) (j := z) (by omega) (by omega) e
  exact hn (by rw [← this, Int.toNat_of_nonneg hb.1]; exact ht)

theorem Orbs.symm {p : Int} {rs : List (List Int)} {q : Nat} (h : Orbs p rs q) {x y : Nat} (hx : x < q) (hy : y < q) (hm : (y : Int) ∈ orbL rs x) : (x : Int) ∈ orbL rs y := by
  refine Classical.byContradiction fun hno => ?_
  exact h.least hx (h.outside hy) hno _ hm (h.self hy)

/-- Whether a place is the first of its orbit. -/
def minB (rs : List (List Int)) (i : Nat) : Bool := decide (∀ t ∈ orbL rs i, (i : Int) ≤ t)
/-- How many of the places below k are. -/
def cntM (rs : List (List Int)) : Nat → Nat
  | 0 => 0
  | k + 1 => cntM rs k + if minB rs k then 1 else 0
theorem cntM_le (rs : List (List Int)) : ∀ k, cntM rs k ≤ k
  | 0 => Nat.le_refl _
  | k + 1 => by have := cntM_le rs k; rw [cntM]; split <;> omega
def orbsI (p : Int) (rs : List (List Int)) : Int := if MovesOk p rs then cntM rs p.toNat else -1
theorem orbsI_out {p : Int} {rs : List (List Int)} (h : ¬ MovesOk p rs) : orbsI p rs = -1 := if_neg h
theorem orbsI_in {p : Int} {rs : List (List Int)} (h : MovesOk p rs) : orbsI p rs = cntM rs p.toNat := if_pos h

/-- A place was met in an orbit before exactly if it is not the first of its own. -/
theorem Orbs.met {p : Int} {rs : List (List Int)} {q : Nat} (h : Orbs p rs q) {i : Nat} (hi : i < q) : (∃ j, j < i ∧ (i : Int) ∈ orbL rs j) ↔ minB rs i = false := by
  constructor
  · rintro ⟨j, hj, hm⟩
    refine decide_eq_false fun hall => ?_
    have := hall _ (h.symm (x := j) (y := i) (by omega) hi hm)
    omega
  · intro hf
    have hno := of_decide_eq_false hf
    obtain ⟨t, ht⟩ := Classical.not_forall.1 hno
    obtain ⟨ht, hlt⟩ := Classical.not_imp.1 ht
    have hb := (h.dis hi).1 t ht
    refine ⟨t.toNat, by omega, h.symm hi (by omega) (by rw [Int.toNat_of_nonneg hb.1]; exact ht)⟩

/-- The places met in the orbits of the first k places. -/
def MetTo (rs : List (List Int)) (k : Nat) (xs : List Int) : Prop := ∀ t : Nat, (t : Int) ∈ xs ↔ ∃ j, j < k ∧ (t : Int) ∈ orbL rs j
theorem metTo_zero (rs : List (List Int)) : MetTo rs 0 [] := fun t => ⟨fun h => absurd h (by simp), fun ⟨j, hj, _⟩ => by omega⟩
theorem Orbs.metSkip {p : Int} {rs : List (List Int)} {q : Nat} (h : Orbs p rs q) {k : Nat} (hk : k < q) {xs : List Int} (hx : MetTo rs k xs) (hm : (k : Int) ∈ xs) : MetTo rs (k + 1) xs := fun t => by
  rw [hx t]
  constructor
  · rintro ⟨j, hj, ht⟩; exact ⟨j, by omega, ht⟩
  · rintro ⟨j, hj, ht⟩
    by_cases e : j = k
    · subst e
      obtain ⟨i, hi, hki⟩ := (hx j).1 hm
      exact ⟨i, hi, h.trans (x := i) (y := j) (by omega) hk hki _ ht⟩
    · exact ⟨j, by omega, ht⟩
theorem metTo_add {rs : List (List Int)} {k : Nat} {xs ys : List Int} (hx : MetTo rs k xs) (hy : ∀ t : Nat, (t : Int) ∈ ys ↔ (t : Int) ∈ xs ∨ (t : Int) ∈ orbL rs k) : MetTo rs (k + 1) ys := fun t => by
  rw [hy t, hx t]
  constructor
  · rintro (⟨j, hj, ht⟩ | ht)
    · exact ⟨j, by omega, ht⟩
    · exact ⟨k, by omega, ht⟩
  · rintro ⟨j, hj, ht⟩
    by_cases e : j = k
    · subst e; exact .inr ht
    · exact .inl ⟨j, by omega, ht⟩

theorem selL_first (xs : List Int) : ∀ k, (selL xs k = [] ∧ ∀ t : Nat, t < k → (t : Int) ∉ xs) ∨ ∃ h : Nat, 0 < (selL xs k).length ∧ nth (selL xs k) 0 = h ∧ h < k ∧ (h : Int) ∈ xs ∧ ∀ t : Nat, t < h → (t : Int) ∉ xs
  | 0 => .inl ⟨rfl, fun t h => absurd h (by omega)⟩
  | k + 1 => by
    rw [selL]
    rcases selL_first xs k with ⟨h1, h2⟩ | ⟨h, h1, h2, h3, h4, h5⟩
    · by_cases hk : (k : Int) ∈ xs
      · rw [if_pos hk, h1]
        exact .inr ⟨k, by simp, by simp [nth], by omega, hk, h2⟩
      · rw [if_neg hk]
        refine .inl ⟨h1, fun t ht => ?_⟩
        by_cases e : t = k
        · subst e; exact hk
        · exact h2 t (by omega)
    · refine .inr ⟨h, ?_, ?_, by omega, h4, h5⟩
      · split
        · rw [List.length_append]; omega
        · exact h1
      · split
        · rw [nth_app1 h1]; exact h2
        · exact h2

/-- The first place of an orbit in order. -/
theorem Orbs.first {p : Int} {rs : List (List Int)} {q : Nat} (h : Orbs p rs q) {k : Nat} (hk : k < q) : 0 < (selL (orbL rs k) q).length ∧ (nth (selL (orbL rs k) q) 0 == (k : Int)) = minB rs k := by
  rcases selL_first (orbL rs k) q with ⟨_, h2⟩ | ⟨a, h1, h2, h3, h4, h5⟩
  · exact absurd (h.self hk) (h2 k hk)
  · refine ⟨h1, ?_⟩
    rw [h2, Bool.eq_iff_iff, beq_iff_eq]
    unfold minB
    rw [decide_eq_true_eq]
    constructor
    · intro e t ht
      have hb := (h.dis hk).1 t ht
      refine Classical.byContradiction fun hlt => ?_
      exact h5 t.toNat (by omega) (by rw [Int.toNat_of_nonneg hb.1]; exact ht)
    · intro hall
      have h6 := hall _ h4
      have h7 : ¬ k < a := fun hlt => h5 k hlt (h.self hk)
      omega

end Go.Proofs.Ytojkiajempdmfaa
