/- Plain law: the orbit of a place. -/
import Derived.Test.YtojkiajempdmfaaGp
namespace Go.Proofs.Ytojkiajempdmfaa
open Go Go.RowKit

/-- A list with a place more, if it is not there. -/
def addO (out : List Int) (x : Int) : List Int := if x ∈ out then out else out ++ [x]
/-- To where the generators bring one place. -/
def rowO (y : Nat) : List (List Int) → List Int → List Int
  | [], out => out
  | m :: rs, out => rowO y rs (addO out (nth m y))
/-- All that is reached, at most f more rounds. -/
def orbF (rs : List (List Int)) : Nat → Nat → List Int → List Int
  | 0, _, out => out
  | f + 1, k, out => if k < out.length then orbF rs f (k + 1) (rowO (nth out k).toNat rs out) else out
def orbL (rs : List (List Int)) (x : Int) : List Int := orbF rs 6 0 [x]
theorem orbF_out {rs : List (List Int)} {out : List Int} {f k : Nat} (h : out.length ≤ k) : orbF rs f k out = out := by
  cases f with
  | zero => rfl
  | succ f => rw [orbF, if_neg (by omega)]
theorem orbF_in {rs : List (List Int)} {out : List Int} {f k : Nat} (hf : 0 < f) (h : k < out.length) : orbF rs f k out = orbF rs (f - 1) (k + 1) (rowO (nth out k).toNat rs out) := by
  cases f with
  | zero => omega
  | succ f => rw [orbF, if_pos h]; rfl
theorem addO_old {out : List Int} {x : Int} (h : x ∈ out) : addO out x = out := if_pos h
theorem addO_new {out : List Int} {x : Int} (h : x ∉ out) : addO out x = out ++ [x] := if_neg h

theorem dis_len {q : Nat} {out : List Int} (h : Dis q out) : out.length ≤ q := by
  have h1 := nodup_lt q (out.map Int.toNat) (by
    unfold List.Nodup
    rw [List.pairwise_map]
    refine List.Pairwise.imp_of_mem (fun {a b} ha hb hab e => hab ?_) h.2
    have := h.1 a ha
    have := h.1 b hb
    omega) fun x hx => by
      obtain ⟨y, hy, rfl⟩ := List.mem_map.1 hx
      have := h.1 y hy
      omega
  rwa [List.length_map] at h1
theorem dis_add {q : Nat} {out : List Int} {x : Int} (h : Dis q out) (hx : 0 ≤ x ∧ x < q) (hn : x ∉ out) : Dis q (out ++ [x]) := by
  refine ⟨fun y hy => ?_, ?_⟩
  · rcases List.mem_append.1 hy with hy | hy
    · exact h.1 y hy
    · rw [List.mem_singleton.1 hy]; exact hx
  · rw [List.nodup_append]
    refine ⟨h.2, by simp, fun a ha b hb => ?_⟩
    rw [List.mem_singleton.1 hb]
    exact fun e => hn (e ▸ ha)

/-- The places of a list, ascending, below k. -/
def selL (xs : List Int) : Nat → List Int
  | 0 => []
  | k + 1 => if (k : Int) ∈ xs then selL xs k ++ [(k : Int)] else selL xs k
theorem length_selL (xs : List Int) : ∀ k, (selL xs k).length ≤ k
  | 0 => Nat.le_refl _
  | k + 1 => by have := length_selL xs k; rw [selL]; split <;> simp <;> omega

def OrbOk (p : Int) (rs : List (List Int)) (x : Int) : Prop := MovesOk p rs ∧ 0 ≤ x ∧ x < p
instance (p : Int) (rs : List (List Int)) (x : Int) : Decidable (OrbOk p rs x) := by unfold OrbOk; infer_instance
def orbR (p : Int) (rs : List (List Int)) (x : Int) : List Int := if OrbOk p rs x then selL (orbL rs x) p.toNat else []
theorem orbR_in {p : Int} {rs : List (List Int)} {x : Int} (h : OrbOk p rs x) : orbR p rs x = selL (orbL rs x) p.toNat := if_pos h
theorem orbR_out {p : Int} {rs : List (List Int)} {x : Int} (h : ¬ OrbOk p rs x) : orbR p rs x = [] := if_neg h
theorem length_orbR (p : Int) (rs : List (List Int)) (x : Int) : (orbR p rs x).length ≤ 17592186044416 - 1048576 := by
  by_cases h : OrbOk p rs x
  · rw [orbR_in h]; have := length_selL (orbL rs x) p.toNat; have := h.1.2.1; omega
  · rw [orbR_out h]; simp

theorem rowO_ok {q : Nat} (y : Nat) (hy : y < q) : ∀ (rs : List (List Int)) (out : List Int), Dis q out → (∀ m ∈ rs, PermOk m ∧ m.length = q) → Dis q (rowO y rs out)
  | [], out, h, _ => h
  | m :: rs, out, h, hm => by
    have h1 := hm m (by simp)
    have h2 : 0 ≤ nth m y ∧ nth m y < q := by have := h1.1.2.2.1 _ (nth_mem (xs := m) (j := y) (by omega)); rwa [h1.2] at this
    rw [rowO]
    by_cases hin : nth m y ∈ out
    · rw [addO_old hin]; exact rowO_ok y hy rs out h fun z hz => hm z (List.mem_cons_of_mem _ hz)
    · rw [addO_new hin]; exact rowO_ok y hy rs _ (dis_add h h2 hin) fun z hz => hm z (List.mem_cons_of_mem _ hz)
theorem orbF_ok {q : Nat} {rs : List (List Int)} (hm : ∀ m ∈ rs, PermOk m ∧ m.length = q) : ∀ (f k : Nat) (out : List Int), Dis q out → Dis q (orbF rs f k out)
  | 0, _, _, h => h
  | f + 1, k, out, h => by
    rw [orbF]
    by_cases hk : k < out.length
    · rw [if_pos hk]
      have hx := h.1 _ (nth_mem hk)
      exact orbF_ok hm f _ _ (rowO_ok _ (by omega) rs out h hm)
    · rw [if_neg hk]; exact h
theorem orbL_ok {p : Int} {rs : List (List Int)} {x : Int} (h : OrbOk p rs x) : Dis p.toNat (orbL rs x) :=
  orbF_ok (fun m hm => ⟨(h.1.2.2.2 m hm).2, by have := (h.1.2.2.2 m hm).1; omega⟩) _ _ _ ⟨fun y hy => by rw [List.mem_singleton.1 hy]; have := h.2; omega, by simp⟩

end Go.Proofs.Ytojkiajempdmfaa
