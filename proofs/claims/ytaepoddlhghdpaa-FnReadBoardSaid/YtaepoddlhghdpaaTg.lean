/- The walks of TilesRun, the program's and the reference's. -/
import Derived.Test.YtaepoddlhghdpaaTd
namespace Go.Proofs.Ytaepoddlhghdpaa
open Go Go.RowKit

theorem sw1_inj {t a b : Int} (h : sw1 t a = sw1 t b) : a = b := by
  unfold sw1 at h
  by_cases h1 : a = t <;> by_cases h2 : a = 0 <;> by_cases h3 : b = t <;> by_cases h4 : b = 0 <;> simp [h1, h2, h3, h4] at h ⊢ <;> omega

theorem boardOk_moved {wide : Int} {xs : List Int} {t : Int} (h : BoardOk wide xs) : BoardOk wide (movedL wide xs t) := by
  cases hc : canB wide xs t with
  | false => rw [movedL_no hc]; exact h
  | true =>
    rw [movedL_yes hc]
    have ht := ((canB_iff h).1 hc).1
    have hl : (swapL xs t).length = xs.length := by rw [swapL, List.length_map]
    refine ⟨by rw [hl]; exact h.1, by rw [hl]; exact h.2.1, h.2.2.1, by rw [hl]; exact h.2.2.2.1, ?_⟩
    rw [hl]
    refine ⟨fun x hx => ?_, ?_⟩
    · obtain ⟨y, hy, rfl⟩ := List.mem_map.1 hx
      have := h.2.2.2.2.1 y hy
      have h2 := h.1
      split
      · omega
      · split <;> omega
    · exact List.Pairwise.map _ (fun a b hab e => hab (sw1_inj (t := t) e)) h.2.2.2.2.2

/-- Some tiles moved one after the other: none if one may not be moved. -/
def runOpt (wide : Int) : List Int → List Int → Option (List Int)
  | xs, [] => some xs
  | xs, t :: ts => if canB wide xs t = true then runOpt wide (movedL wide xs t) ts else none

theorem runOpt_nil (wide : Int) (xs : List Int) : runOpt wide xs [] = some xs := rfl
theorem runOpt_yes {wide : Int} {xs ts : List Int} {k : Nat} (hk : k < ts.length) (h : canB wide xs (nth ts k) = true) : runOpt wide xs (ts.drop k) = runOpt wide (movedL wide xs (nth ts k)) (ts.drop (k + 1)) := by
  rw [List.drop_eq_getElem_cons hk, ← nth_eq hk, runOpt, if_pos h]
theorem runOpt_no {wide : Int} {xs ts : List Int} {k : Nat} (hk : k < ts.length) (h : canB wide xs (nth ts k) = false) : runOpt wide xs (ts.drop k) = none := by
  rw [List.drop_eq_getElem_cons hk, ← nth_eq hk, runOpt, if_neg (by rw [h]; simp)]

theorem runOpt_len (wide : Int) : ∀ (ts xs ys : List Int), runOpt wide xs ts = some ys → ys.length = xs.length
  | [], xs, ys, h => by rw [runOpt_nil] at h; cases h; rfl
  | t :: ts, xs, ys, h => by
    rw [runOpt] at h
    split at h
    · rw [runOpt_len wide ts _ _ h, length_movedL]
    · cases h

/-- TilesRun's answer. -/
def trO (wide : Int) (xs ts : List Int) : Option (List Int) := if BoardOk wide xs ∧ ts.length ≤ 99 then runOpt wide xs ts else none
def trW (wide : Int) (xs ts : List Int) : Int := match trO wide xs ts with | some _ => wide | none => 0
def trL (wide : Int) (xs ts : List Int) : List Int := match trO wide xs ts with | some ys => ys | none => []
def trB (wide : Int) (xs ts : List Int) : Bool := match trO wide xs ts with | some _ => true | none => false
theorem trO_out {wide : Int} {xs ts : List Int} (h : ¬ (BoardOk wide xs ∧ ts.length ≤ 99)) : trO wide xs ts = none := if_neg h
theorem trO_in {wide : Int} {xs ts : List Int} (h : BoardOk wide xs) (h2 : ts.length ≤ 99) : trO wide xs ts = runOpt wide xs ts := if_pos ⟨h, h2⟩
theorem tr_none {wide : Int} {xs ts : List Int} (h : trO wide xs ts = none) : trW wide xs ts = 0 ∧ trL wide xs ts = [] ∧ trB wide xs ts = false := by unfold trW trL trB; rw [h]; exact ⟨rfl, rfl, rfl⟩
theorem tr_some {wide : Int} {xs ts ys : List Int} (h : trO wide xs ts = some ys) : trW wide xs ts = wide ∧ trL wide xs ts = ys ∧ trB wide xs ts = true := by unfold trW trL trB; rw [h]; exact ⟨rfl, rfl, rfl⟩
theorem length_trL (wide : Int) (xs ts : List Int) : (trL wide xs ts).length ≤ 17592186044416 - 1048576 := by
  cases h : trO wide xs ts with
  | none => rw [(tr_none h).2.1]; simp
  | some ys =>
    rw [(tr_some h).2.1]
    by_cases h2 : BoardOk wide xs ∧ ts.length ≤ 99
    · rw [trO_in h2.1 h2.2] at h
      have := runOpt_len wide ts xs ys h
      have := h2.1.2.1
      omega
    · rw [trO_out h2] at h; cases h

theorem grown_below {w w' : World} {g L : Nat} (hg : w.grownBy w' (some g)) (hL : L ≤ g) (hw : L ≤ w.heap.size := by omega) : Below L w w' :=
  ⟨hg.os, hg.tape, hg.output, hg.size, fun k hk => hg.block k (by omega) (fun e => by have := Option.some.inj e; omega)⟩

/-- The zero board, with false. -/
theorem RetBB.zero {w w' : World} {wide : Int} {xs ts : List Int} (h : trO wide xs ts = none) (hb : Below w.heap.size w w') :
    RetBB w (trW wide xs ts) (trL wide xs ts) (trB wide xs ts) (.returned (.tuple #[.agg #[.int .i64 0, .slice none 0 0], .bool false])) w' := by
  obtain ⟨h1, h2, h3⟩ := tr_none h
  rw [h1, h2, h3]
  exact RetBB.mk (xs := []) rfl (Nat.le_refl _) (Own.nil _ _) hb

end Go.Proofs.Ytaepoddlhghdpaa
