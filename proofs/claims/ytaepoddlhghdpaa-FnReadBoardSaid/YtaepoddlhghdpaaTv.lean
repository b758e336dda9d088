/- The walk of moveTile: a tile moved in place. -/
import Derived.Test.YtaepoddlhghdpaaTm
import Derived.Deep.RegionHeld3
namespace Go.Proofs.Ytaepoddlhghdpaa
open Go Go.RowKit

/-- May the tile be moved? -/
def canB (wide : Int) (xs : List Int) (t : Int) : Bool := hasL (mayL wide xs) t
/-- The tile and the free place exchanged. -/
def swapL (xs : List Int) (t : Int) : List Int := xs.map (fun x => if x = t then 0 else if x = 0 then t else x)
def movedL (wide : Int) (xs : List Int) (t : Int) : List Int := if canB wide xs t = true then swapL xs t else xs
theorem movedL_yes {wide : Int} {xs : List Int} {t : Int} (h : canB wide xs t = true) : movedL wide xs t = swapL xs t := if_pos h
theorem movedL_no {wide : Int} {xs : List Int} {t : Int} (h : canB wide xs t = false) : movedL wide xs t = xs := by unfold movedL; rw [h]; rfl
theorem length_movedL (wide : Int) (xs : List Int) (t : Int) : (movedL wide xs t).length = xs.length := by
  unfold movedL swapL; split <;> simp

theorem mem_mayIn {wide free : Int} {xs : List Int} {t u : Int} {k : Nat} : u ∈ mayIn wide free xs t k ↔ u = t ∧ ∃ j, j < k ∧ nth xs j = t ∧ farI wide j free = 1 := by
  induction k with
  | zero => simp [mayIn]
  | succ k ih =>
    rw [mayIn, List.mem_append, ih]
    constructor
    · rintro (⟨h1, j, h2, h3⟩ | h)
      · exact ⟨h1, j, by omega, h3⟩
      · split at h
        · rename_i hc
          simp only [List.mem_singleton] at h
          exact ⟨h, k, by omega, hc⟩
        · simp at h
    · rintro ⟨h1, j, h2, h3⟩
      by_cases e : j = k
      · subst e
        rw [if_pos h3]
        exact .inr (by simp [h1])
      · exact .inl ⟨h1, j, by omega, h3⟩

theorem mem_mayTo {wide free : Int} {xs : List Int} {t : Int} {m : Nat} : t ∈ mayTo wide free xs m ↔ (1 ≤ t ∧ t ≤ m) ∧ ∃ j, j < xs.length ∧ nth xs j = t ∧ farI wide j free = 1 := by
  induction m with
  | zero => simp [mayTo]; omega
  | succ m ih =>
    rw [mayTo_succ, List.mem_append, ih, mem_mayIn]
    constructor
    · rintro (⟨h1, h2⟩ | ⟨h1, j, h2, h3, h4⟩)
      · exact ⟨by omega, h2⟩
      · exact ⟨by omega, j, h2, by omega, h4⟩
    · rintro ⟨h1, j, h2, h3, h4⟩
      by_cases e : t = (m : Int) + 1
      · exact .inr ⟨e, j, h2, by omega, h4⟩
      · exact .inl ⟨by omega, j, h2, h3, h4⟩

theorem canB_iff {wide : Int} {xs : List Int} (h : BoardOk wide xs) {t : Int} : canB wide xs t = true ↔ (1 ≤ t ∧ t < xs.length) ∧ ∃ j, j < xs.length ∧ nth xs j = t ∧ farI wide j (zeroI xs) = 1 := by
  have h2 := h.1
  unfold canB hasL
  rw [mayL_in h, List.contains_iff_mem, mem_mayTo]
  constructor
  · rintro ⟨h1, h3⟩; exact ⟨by omega, h3⟩
  · rintro ⟨h1, h3⟩; exact ⟨by omega, h3⟩
theorem canB_not {wide : Int} {xs : List Int} (h : BoardOk wide xs) {t : Int} (hn : ¬ ((1 ≤ t ∧ t < xs.length) ∧ ∃ j, j < xs.length ∧ nth xs j = t ∧ farI wide j (zeroI xs) = 1)) : canB wide xs t = false := by
  cases hc : canB wide xs t with
  | false => rfl
  | true => exact absurd ((canB_iff h).1 hc) hn

theorem zeroI_nth {wide : Int} {xs : List Int} (h : BoardOk wide xs) {z : Nat} (hz : zeroI xs = z) : z < xs.length ∧ nth xs z = 0 := by
  have h1 := zeroI_ok h
  have h2 : z < xs.length := by omega
  refine ⟨h2, ?_⟩
  unfold zeroI at hz
  split at hz
  · rename_i j hj
    have h3 := List.find?_some hj
    obtain rfl : j = z := by omega
    simpa using h3
  · omega

theorem nth_map_swap {xs : List Int} {t : Int} {i : Nat} (hi : i < xs.length) : nth (swapL xs t) i = if nth xs i = t then 0 else if nth xs i = 0 then t else nth xs i := by
  rw [nth_eq (by unfold swapL; simpa using hi), nth_eq hi]
  simp [swapL]

theorem swap_sets {wide : Int} {xs : List Int} (h : BoardOk wide xs) {t : Int} {z k : Nat} (hz : zeroI xs = z) (ht : 1 ≤ t) (hk : k < xs.length) (hkt : nth xs k = t) :
    (xs.set z t).set k 0 = swapL xs t := by
  have h0 := zeroI_nth h hz
  refine ext_nth (by simp [swapL]) fun i hi => ?_
  simp only [List.length_set] at hi
  rw [nth_set (by simpa using hk), nth_set h0.1, nth_map_swap hi]
  by_cases e1 : i = k
  · subst e1; simp [hkt]
  · rw [if_neg e1]
    have h1 : nth xs i ≠ t := fun e => e1 (nth_inj h.2.2.2.2 hi hk (e.trans hkt.symm))
    by_cases e2 : i = z
    · subst e2; simp [h0.2]; omega
    · have h2 : nth xs i ≠ 0 := fun e => e2 (nth_inj h.2.2.2.2 hi h0.1 (e.trans h0.2.symm))
      rw [if_neg e2, if_neg h1, if_neg h2]

/-- What moveTile leaves: the block of the tiles with the board moved in it, all else as it was. -/
def MoveRet (w : World) (b off : Nat) (cur : Array Value) (e : TypeId) (wide : Int) (xs : List Int) (t : Int) (en : Ending) (w' : World) : Prop :=
  en = .returned (.bool (canB wide xs t)) ∧ w.grownBy w' (some b) ∧
    ∃ cur', Blk w' b cur' e ∧ cur'.size = cur.size ∧ (∀ j, j < xs.length → cur'[off + j]? = some (.int .i64 (nth (movedL wide xs t) j))) ∧ ∀ j, (j < off ∨ off + xs.length ≤ j) → cur'[j]? = cur[j]?

theorem MoveRet.same {w w' : World} {b off : Nat} {cur : Array Value} {e : TypeId} {wide : Int} {xs : List Int} {t : Int} (hb : Blk w b cur e) (hc : ∀ j, j < xs.length → cur[off + j]? = some (.int .i64 (nth xs j)))
    (hn : canB wide xs t = false) (hB : Below w.heap.size w w') : MoveRet w b off cur e wide xs t (.returned (.bool false)) w' := by
  refine ⟨by rw [hn], ⟨hB.os, hB.tape, hB.output, hB.size, fun k hk _ => hB.block k hk⟩, cur, hb.below hB (Nat.le_refl _), rfl, ?_, fun _ _ => rfl⟩
  rw [movedL_no hn]
  exact hc

theorem MoveRet.done {w w' : World} {b off z k : Nat} {cur : Array Value} {e : TypeId} {wide : Int} {xs : List Int} {t : Int} (hb : Blk w b cur e) (hc : ∀ j, j < xs.length → cur[off + j]? = some (.int .i64 (nth xs j)))
    (hok : BoardOk wide xs) (hz : zeroI xs = z) (ht : 1 ≤ t) (hk : k < xs.length) (hkt : nth xs k = t) (hn : canB wide xs t = true) (hB : Below w.heap.size w w') :
    MoveRet w b off cur e wide xs t (.returned (.bool true)) ((w'.setCell ⟨b, off + z, none⟩ (.int .i64 t)).setCell ⟨b, off + k, none⟩ (.int .i64 0)) := by
  have hz0 := zeroI_nth hok hz
  have hg : w.grownBy w' (some b) := ⟨hB.os, hB.tape, hB.output, hB.size, fun k hk _ => hB.block k hk⟩
  have hlt : off + z < cur.size := by have := hc z hz0.1; exact (Array.getElem?_eq_some_iff.1 this).1
  have hlk : off + k < cur.size := by have := hc k hk; exact (Array.getElem?_eq_some_iff.1 this).1
  refine ⟨by rw [hn], grownBy_trans (grownBy_trans hg (grownBy_setCell _ _ _ _)) (grownBy_setCell _ _ _ _), _, ((hb.below hB (Nat.le_refl _)).set _ _).set _ _, by simp, ?_, ?_⟩
  · intro j hj
    rw [movedL_yes hn, ← swap_sets hok hz ht hk hkt, nth_set (by simpa using hk), nth_set hz0.1]
    simp only [Array.getElem?_setIfInBounds, Array.size_setIfInBounds, hc j hj]
    by_cases e1 : j = k
    · subst e1; simp [hlk]
    · rw [if_neg (by omega), if_neg e1]
      by_cases e2 : j = z
      · subst e2; simp [hlt]
      · rw [if_neg (by omega), if_neg e2]
  · intro j hj
    simp only [Array.getElem?_setIfInBounds, Array.size_setIfInBounds]
    rw [if_neg (by omega), if_neg (by omega)]

end Go.Proofs.Ytaepoddlhghdpaa
