/- A range over a function whose iterator keeps lists of its own: a law for loops whose body never leaves. -/
import Derived.Test.YtojkiajempdmfaaGw
import Derived.RangeFuncFrom
import Derived.RangeFuncLeaves
namespace Go.Proofs.Ytojkiajempdmfaa
open Go Go.RowKit

/-- What a round keeps: all that lies below its block bs, and all blocks of cells but bs. -/
def KpX (bs : Nat) (A B : World) : Prop := Below bs A B ∧ ∀ k o, k ≠ bs → A.heap[k]? = some o → o.isCells = true → B.heap[k]? = some o
theorem KpX.trans {bs : Nat} {A B C : World} (h : KpX bs A B) (k : KpX bs B C) : KpX bs A C :=
  ⟨h.1.trans k.1, fun i o hi ho hc => k.2 i o hi (h.2 i o hi ho hc) hc⟩
theorem KpX.rec {bs l : Nat} {A : World} {o o' : Obj} (hl : A.heap[l]? = some o) (hc : o.isCells = false) (hb : bs < l) : KpX bs A (A.putObj l o') := by
  refine ⟨(Below.refl bs A).grown (grownBy_putObj' A l o') (by have := (Array.getElem?_eq_some_iff.1 hl).1; omega) (fun k e => by cases e; omega), fun k u hk hu hcu => ?_⟩
  rw [World.putObj_heap_other (fun e => ?_)]
  · exact hu
  · subst e; rw [hl] at hu; cases hu; rw [hc] at hcu; cases hcu

/-- J stays when what lies from B on changes. -/
def Stays {β : Type} (B : Nat) (J : β → World → Prop) : Prop := ∀ s A C row, J s A → A.grownBy C row → (∀ r, row = some r → B ≤ r) → J s C

/-- An iterator that hands over all of S, whatever a body does that keeps its word. -/
def Feeds {α : Type} (P : Program) (g : Nat) (lb : Array Value) (encs : α → Array Value) (bs : Nat) (S : List α → Prop) (w : World) : Prop :=
  ∀ (l : Nat) (J : List α → World → Prop) (W : World), Below w.heap.size w W → Stays W.heap.size J →
    (∀ pre x V, J pre V → YieldAt Fence.wide 2 P l (encs x) V fun e V' => e = .returned (.bool true) ∧ J (pre ++ [x]) V' ∧ KpX bs V V') →
    J [] W → Calls P g (#[.func (.yield l) #[] #[]] ++ lb) W fun e W' => (∃ v, e = .returned v) ∧ ∃ xs, S xs ∧ J xs W'

/-- How a body ends that never leaves. -/
def goesOn {α : Type} (bs : Nat) (I : List α → World → Prop) (xs : List α) (W : World) : Exit → Act → World → Prop
  | .normal, _, W' => KeepsOthers W W' ∧ KpX bs W W' ∧ I xs W'
  | _, _, _ => False

theorem wp_range_feeds {α : Type} {P : Program} {g : Operand} {ps : Array Tmp} {assign body : Code} {Q : Exit → Act → World → Prop} {a : Act} {w : World}
    {gf : Nat} {lb : Array Value} (hg : a.eval g = .func (.func gf) #[] lb) (eg : ∀ args w, (callFunc gf args).run P w = .ok (.enter gf args) w)
    {encs : α → Array Value} {bs : Nat} {S : List α → Prop} (hfeed : Feeds P gf lb encs bs S w) (hps : ∀ x, (encs x).size = ps.size) (hbs : bs < w.heap.size)
    (I : List α → World → Prop) (hI : Stays w.heap.size I) (h0 : I [] w) (a₁ : α → Act)
    (hassign : ∀ (l : Nat) (x : α) (W : World) (K : Act → World → Prop), K (a₁ x) W →
      assign.wpIn (Fence.wide.inRound l) 2 P (Exit.then K (fun _ _ _ => False)) { tmps := (ps.zip (encs x)).foldl (fun t (p, v) => t.setIfInBounds p v) a.tmps, defers := [] } W)
    (hbody : ∀ (l : Nat) (pre : List α) (x : α) (W : World), I pre W → body.wpIn (Fence.wide.inRound l) 2 P (goesOn bs I (pre ++ [x]) W) (a₁ x) W)
    (hdone : ∀ (xs : List α) (W : World), S xs → I xs W → W.heap[w.heap.size]? = some (.deferred (some [])) → Q .normal { a with defers := { target := .collected w.heap.size, args := #[] } :: a.defers } W) :
    (Code.rangeFunc g ps assign body).wp P Q a w := by
  refine (wpIn_wide (n := 3)).1 (wpIn_rangeFunc fun fn hfn => ?_)
  obtain ⟨rc, hrc⟩ : ∃ rc : LoopState → Loop, rc = fun st => { state := st, pending := none, fn, tmps := a.tmps, params := ps, assign, body, defers := w.heap.size } := ⟨_, rfl⟩
  have hdel : Fence.wide.round = none := rfl
  let W1 := (w.alloc (.deferred (some []))).alloc (.loop (rc .ready))
  have hz1 : W1.heap.size = w.heap.size + 2 := by simp [W1]
  have hD1 : W1.heap[w.heap.size]? = some (.deferred (some [])) := (heap_alloc_old _ _ (by simp)).trans (heap_alloc_new w _)
  have hL1 : W1.heap[w.heap.size + 1]? = some (.loop (rc .ready)) := by have := heap_alloc_new (w.alloc (.deferred (some []))) (.loop (rc .ready)); rwa [World.size_alloc] at this
  have hI1 : I [] W1 := hI _ _ _ none (hI _ _ _ none h0 (World.grownBy_alloc w _ none) (fun r e => by cases e)) (World.grownBy_alloc _ _ none) (fun r e => by cases e)
  have hB1 : Below w.heap.size w W1 := ((Below.refl _ w).alloc (Nat.le_refl _) _).alloc (by simp) _
  refine ⟨w.heap.size + 1, [{ target := .collected w.heap.size, args := #[] }], W1, { target := .fn (.func gf) lb, args := #[.func (.yield (w.heap.size + 1)) #[] #[]] }, W1, gf, #[.func (.yield (w.heap.size + 1)) #[] #[]] ++ lb, W1, ?_, ?_, ?_, ?_, (fun h => by cases h), callsIn_wide.2 ?_⟩
  · rw [hdel]
    have := run_enterLoop_outer (P := P) (w := w) fn a.tmps ps assign body
    simp only [W1, hrc]; exact this
  · simp only [resolve, hg]; simp [go_sem]
  · intro f' _; trivial
  · simp [invoke, go_sem, eg]
  have hfeed1 := hfeed (w.heap.size + 1) (fun pre W => I pre W ∧ W.heap[w.heap.size + 1]? = some (.loop (rc .ready)) ∧ W.heap[w.heap.size]? = some (.deferred (some []))) W1 hB1 ?_ ?_ ⟨hI1, hL1, hD1⟩
  · refine hfeed1.mono ?_
    rintro e W2 ⟨⟨v, rfl⟩, xs, hS, hi, hl, hk⟩
    have hrun := run_endLoop (P := P) hl (by rw [hrc]; simp)
    rw [hrc] at hrun
    refine ⟨none, _, hrun, hdone xs _ hS (hI _ _ _ _ hi (grownBy_putObj' W2 _ _) (fun r e => by cases e; omega)) ?_⟩
    rw [World.putObj_heap_other (by omega)]; exact hk
  · intro s A C row hs hgr hr
    have hne : ∀ k, k < w.heap.size + 2 → some k ≠ row := fun k hk e => by have := hr k e.symm; omega
    have hlt := (Array.getElem?_eq_some_iff.1 hs.2.1).1
    refine ⟨hI s A C row hs.1 hgr (fun r e => by have := hr r e; omega), ?_, ?_⟩
    · rw [hgr.block _ hlt (hne _ (by omega))]; exact hs.2.1
    · rw [hgr.block _ (by omega) (hne _ (by omega))]; exact hs.2.2
  · rintro pre x V ⟨hi, hl, hk⟩
    have hlt := (Array.getElem?_eq_some_iff.1 hl).1
    have hy := run_yield (P := P) (args := encs x) hl (by rw [hrc]; exact hps x)
    have hb := run_beginRound (P := P) hl (by rw [hrc])
    let V1 := V.putObj (w.heap.size + 1) (.loop { rc .ready with state := .busy })
    have hl1 : V1.heap[w.heap.size + 1]? = some (.loop { rc .ready with state := .busy }) := World.putObj_heap_same hlt
    have hk1 : V1.heap[w.heap.size]? = some (.deferred (some [])) := (World.putObj_heap_other (by omega)).trans hk
    have hi1 : I pre V1 := hI _ _ _ _ hi (grownBy_putObj' V _ _) (fun r e => by cases e; omega)
    rw [hrc] at hy
    refine ⟨fn, _, assign, body, hy, roundIn_of_wpIn hfn (hassign _ x V _ ⟨V1, hb, wpIn_mono (hbody _ pre x V1 hi1) ?_⟩)⟩
    rintro e a3 V3 hp
    cases e with
    | normal =>
      obtain ⟨h3, hx3, hi3⟩ := hp
      have hl3 := h3.same _ _ hl1 rfl
      have hk3 := h3.same _ _ hk1 rfl
      have hend := run_endRound (P := P) (none : Option Code) hl3
      refine ⟨_, _, hend, rfl, ⟨hI _ _ _ _ hi3 (grownBy_putObj' V3 _ _) (fun r e => by cases e; omega), ?_, ?_⟩, ?_⟩
      · rw [World.putObj_heap_same (Array.getElem?_eq_some_iff.1 hl3).1, hrc]; rfl
      · rw [World.putObj_heap_other (by omega)]; exact hk3
      · exact ((KpX.rec hl rfl (by omega)).trans hx3).trans (KpX.rec hl3 rfl (by omega))
    | ret => exact hp.elim
    | exit id => exact hp.elim
    | goto t => exact hp.elim
    | panic ch => exact hp.elim
    | outgrown => exact hp.elim

end Go.Proofs.Ytojkiajempdmfaa
