/- Plain law: all permutations that generators make. -/
import Derived.Test.YtojkiajempdmfaaWp
namespace Go.Proofs.Ytojkiajempdmfaa
open Go Go.RowKit

/-- A list with a permutation more, if it is not there. -/
def addG (out : List (List Int)) (p : List Int) : List (List Int) := if p ∈ out then out else out ++ [p]
/-- What the generators make of one permutation. -/
def rowG (x : List Int) : List (List Int) → List (List Int) → List (List Int)
  | [], out => out
  | m :: rs, out => rowG x rs (addG out (joinL x m))
/-- All that is reached, at most f more rounds. -/
def grp (rs : List (List Int)) : Nat → Nat → List (List Int) → List (List Int)
  | 0, _, out => out
  | f + 1, k, out => if k < out.length then grp rs f (k + 1) (rowG (nthR out k) rs out) else out
def allG (p : Int) (rs : List (List Int)) : List (List Int) := grp rs 3200 0 [noneL p]

theorem grp_out {rs out : List (List Int)} {f k : Nat} (h : out.length ≤ k) : grp rs f k out = out := by
  cases f with
  | zero => rfl
  | succ f => rw [grp, if_neg (by omega)]
theorem grp_in {rs out : List (List Int)} {f k : Nat} (hf : 0 < f) (h : k < out.length) : grp rs f k out = grp rs (f - 1) (k + 1) (rowG (nthR out k) rs out) := by
  cases f with
  | zero => omega
  | succ f => rw [grp, if_pos h]; rfl

/-- Different permutations of q places. -/
def GOk (q : Nat) (out : List (List Int)) : Prop := out.Nodup ∧ ∀ x ∈ out, PermOk x ∧ x.length = q

theorem addG_old {out : List (List Int)} {p : List Int} (h : p ∈ out) : addG out p = out := if_pos h
theorem addG_new {out : List (List Int)} {p : List Int} (h : p ∉ out) : addG out p = out ++ [p] := if_neg h
theorem gOk_add {q : Nat} {out : List (List Int)} {p : List Int} (h : GOk q out) (hn : p ∉ out) (hp : PermOk p) (hl : p.length = q) : GOk q (out ++ [p]) := by
  refine ⟨?_, fun x hx => ?_⟩
  · rw [List.nodup_append]
    refine ⟨h.1, by simp, fun a ha b hb => ?_⟩
    rw [List.mem_singleton.1 hb]
    exact fun e => hn (e ▸ ha)
  · rcases List.mem_append.1 hx with hx | hx
    · exact h.2 x hx
    · rw [List.mem_singleton.1 hx]; exact ⟨hp, hl⟩

/-- A list's number. -/
def codeL : List Int → Nat
  | [] => 0
  | x :: l => x.toNat + 5 * codeL l
theorem codeL_lt : ∀ l : List Int, (∀ x ∈ l, 0 ≤ x ∧ x < 5) → codeL l < 5 ^ l.length
  | [], _ => by decide
  | x :: l, h => by
    have h1 := h x (by simp)
    have h2 := codeL_lt l fun y hy => h y (List.mem_cons_of_mem _ hy)
    rw [codeL, List.length_cons, Nat.pow_succ]
    omega
theorem codeL_inj : ∀ l l' : List Int, l.length = l'.length → (∀ x ∈ l, 0 ≤ x ∧ x < 5) → (∀ x ∈ l', 0 ≤ x ∧ x < 5) → codeL l = codeL l' → l = l'
  | [], [], _, _, _, _ => rfl
  | [], _ :: _, h, _, _, _ => by simp at h
  | _ :: _, [], h, _, _, _ => by simp at h
  | x :: l, y :: l', hl, h, h', he => by
    have h1 := h x (by simp)
    have h2 := h' y (by simp)
    rw [codeL, codeL] at he
    have hx : x = y := by omega
    have := codeL_inj l l' (by simpa using hl) (fun z hz => h z (List.mem_cons_of_mem _ hz)) (fun z hz => h' z (List.mem_cons_of_mem _ hz)) (by omega)
    rw [hx, this]

theorem gOk_len {q : Nat} {out : List (List Int)} (h : GOk q out) : out.length ≤ 3125 := by
  have h5 : ∀ x ∈ out, ∀ y ∈ x, 0 ≤ y ∧ y < 5 := fun x hx y hy => by
    have h1 := (h.2 x hx).1
    have h2 := h1.2.2.1 y hy
    have h3 := h1.2.1
    omega
  have h1 := nodup_lt 3125 (out.map codeL) (by
    unfold List.Nodup
    rw [List.pairwise_map]
    refine List.Pairwise.imp_of_mem (fun {a b} ha hb hab e => hab ?_) h.1
    exact codeL_inj a b (by rw [(h.2 a ha).2, (h.2 b hb).2]) (h5 a ha) (h5 b hb) e) fun x hx => by
      obtain ⟨y, hy, rfl⟩ := List.mem_map.1 hx
      have h1 := codeL_lt y (h5 y hy)
      have h2 := (h.2 y hy).1.2.1
      have h3 : 5 ^ y.length ≤ 5 ^ 5 := Nat.pow_le_pow_right (by omega) h2
      have h4 : (5 : Nat) ^ 5 = 3125 := by decide
      omega
  rwa [List.length_map] at h1

theorem gOk_none {p : Int} {q : Nat} (h : 1 ≤ p ∧ p ≤ 5) (hq : (noneL p).length = q) : GOk q [noneL p] :=
  ⟨by simp, fun x hx => by rw [List.mem_singleton.1 hx]; exact ⟨permOk_none h, hq⟩⟩

theorem nthR_app1 {rs : List (List Int)} {p : List Int} {k : Nat} (h : k < rs.length) : nthR (rs ++ [p]) k = nthR rs k := by
  rw [nthR_eq (by simp; omega), nthR_eq h, List.getElem_append_left h]
theorem nthR_app2 {rs : List (List Int)} {p : List Int} : nthR (rs ++ [p]) rs.length = p := by
  rw [nthR_eq (by simp)]; simp
theorem nthR_mem {rs : List (List Int)} {k : Nat} (h : k < rs.length) : nthR rs k ∈ rs := by rw [nthR_eq h]; exact List.getElem_mem _

/-- A list is among the first k. -/
theorem mem_take_succ {rs : List (List Int)} {k : Nat} (h : k < rs.length) (p : List Int) : p ∈ rs.take (k + 1) ↔ p ∈ rs.take k ∨ p = nthR rs k := by
  rw [List.take_add_one, nthR_eq h, List.getElem?_eq_getElem h, Option.toList_some, List.mem_append, List.mem_singleton]

/-- How many of the first j places are left where they are. -/
def fixT (x : List Int) : Nat → Nat
  | 0 => 0
  | j + 1 => fixT x j + if nth x j = j then 1 else 0
theorem fixT_le (x : List Int) : ∀ j, fixT x j ≤ j
  | 0 => Nat.le_refl _
  | j + 1 => by have := fixT_le x j; rw [fixT]; split <;> omega
/-- The sum of these over the first k permutations. -/
def sumF (out : List (List Int)) (q : Nat) : Nat → Nat
  | 0 => 0
  | k + 1 => sumF out q k + fixT (nthR out k) q
theorem sumF_le (out : List (List Int)) (q : Nat) : ∀ k, sumF out q k ≤ q * k
  | 0 => Nat.le_refl _
  | k + 1 => by have := sumF_le out q k; have := fixT_le (nthR out k) q; rw [sumF, Nat.mul_succ]; omega
def fixI (p : Int) (rs : List (List Int)) : Int := if MovesOk p rs then sumF (allG p rs) p.toNat (allG p rs).length else -1
theorem fixI_out {p : Int} {rs : List (List Int)} (h : ¬ MovesOk p rs) : fixI p rs = -1 := if_neg h
theorem fixI_in {p : Int} {rs : List (List Int)} (h : MovesOk p rs) : fixI p rs = sumF (allG p rs) p.toNat (allG p rs).length := if_pos h
def allL (p : Int) (rs : List (List Int)) : List (List Int) := if MovesOk p rs then allG p rs else []
theorem allL_out {p : Int} {rs : List (List Int)} (h : ¬ MovesOk p rs) : allL p rs = [] := if_neg h
theorem allL_in {p : Int} {rs : List (List Int)} (h : MovesOk p rs) : allL p rs = allG p rs := if_pos h

theorem rowG_ok {q : Nat} {x : List Int} (hx : PermOk x) (hxl : x.length = q) : ∀ (rs out : List (List Int)), GOk q out → (∀ m ∈ rs, PermOk m ∧ m.length = q) → GOk q (rowG x rs out) ∧ out.length ≤ (rowG x rs out).length
  | [], out, h, _ => ⟨h, Nat.le_refl _⟩
  | m :: rs, out, h, hm => by
    have h1 := hm m (by simp)
    rw [rowG]
    by_cases hin : joinL x m ∈ out
    · rw [addG_old hin]
      exact rowG_ok hx hxl rs out h fun y hy => hm y (List.mem_cons_of_mem _ hy)
    · rw [addG_new hin]
      have h2 := rowG_ok hx hxl rs (out ++ [joinL x m]) (gOk_add h hin (permOk_join hx h1.1 (by rw [hxl, h1.2])) ((length_joinL _ _).trans hxl)) fun y hy => hm y (List.mem_cons_of_mem _ hy)
      refine ⟨h2.1, ?_⟩
      have := h2.2
      simp at this; omega

theorem grp_ok {q : Nat} {rs : List (List Int)} (hm : ∀ m ∈ rs, PermOk m ∧ m.length = q) : ∀ (f k : Nat) (out : List (List Int)), GOk q out → GOk q (grp rs f k out)
  | 0, _, _, h => h
  | f + 1, k, out, h => by
    rw [grp]
    by_cases hk : k < out.length
    · rw [if_pos hk]
      have hx := h.2 _ (nthR_mem hk)
      exact grp_ok hm f _ _ (rowG_ok hx.1 hx.2 rs out h hm).1
    · rw [if_neg hk]; exact h

theorem allG_ok {p : Int} {rs : List (List Int)} (h : MovesOk p rs) : GOk p.toNat (allG p rs) :=
  grp_ok (fun m hm => ⟨(h.2.2.2 m hm).2, by have := (h.2.2.2 m hm).1; omega⟩) _ _ _ (gOk_none ⟨h.1, h.2.1⟩ (by have := length_none (p := p) ⟨h.1, h.2.1⟩; omega))

end Go.Proofs.Ytojkiajempdmfaa
