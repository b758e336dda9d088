/- Plain laws of runs: in parts, backwards. -/
import Derived.Test.YtfpckcmkikckgaaTq
import Derived.Test.YtfpckcmkikckgaaTg
import Derived.Test.YtfpckcmkikckgaaTy
namespace Go.Proofs.Ytfpckcmkikckgaa
open Go Go.RowKit

theorem run_app (wide : Int) : ∀ (a b xs : List Int), runOpt wide xs (a ++ b) = (runOpt wide xs a).bind (fun ys => runOpt wide ys b)
  | [], b, xs => rfl
  | t :: a, b, xs => by
    rw [List.cons_append, runOpt, runOpt]
    by_cases h : canB wide xs t = true
    · rw [if_pos h, if_pos h]; exact run_app wide a b _
    · rw [if_neg h, if_neg h]; rfl

theorem run_ok {wide : Int} : ∀ (ts : List Int) {xs ys : List Int}, BoardOk wide xs → runOpt wide xs ts = some ys → BoardOk wide ys
  | [], xs, ys, h, e => by rw [runOpt_nil] at e; cases e; exact h
  | t :: ts, xs, ys, h, e => by
    rw [runOpt] at e
    by_cases hc : canB wide xs t = true
    · rw [if_pos hc] at e; exact run_ok ts (boardOk_moved h) e
    · rw [if_neg hc] at e; cases e

theorem run_back {wide : Int} : ∀ (ts : List Int) {xs ys : List Int}, BoardOk wide xs → runOpt wide xs ts = some ys → runOpt wide ys ts.reverse = some xs
  | [], xs, ys, h, e => by rw [runOpt_nil] at e; cases e; rfl
  | t :: ts, xs, ys, h, e => by
    rw [runOpt] at e
    by_cases hc : canB wide xs t = true
    · rw [if_pos hc] at e
      rw [List.reverse_cons, run_app, run_back ts (boardOk_moved h) e, Option.bind_some, runOpt, if_pos (can_back h hc), moved_back h hc, runOpt_nil]
    · rw [if_neg hc] at e; cases e

theorem may_kept {wide : Int} {xs : List Int} (h : BoardOk wide xs) {t : Int} (hc : canB wide xs t = true) : mayB wide (movedL wide xs t) = mayB wide xs := by
  have h2 := boardOk_moved (t := t) h
  have hl := length_movedL wide xs t
  by_cases hw : 2 ≤ wide ∧ 2 ≤ (xs.length : Int) / wide
  · rw [mayB_in h hw.1 hw.2, mayB_in h2 hw.1 (by rw [hl]; exact hw.2), hl, moved_odd h hc]
    have hf := moved_freeFar h hc
    have e : (freeFarI wide (movedL wide xs t) % 2 == 0) = !(freeFarI wide xs % 2 == 0) := by
      rw [Bool.eq_iff_iff, Bool.not_eq_true', beq_iff_eq, beq_eq_false_iff_ne]
      omega
    rw [e]
    cases oddB wide xs <;> cases oddB wide (ordL xs.length) <;> cases (freeFarI wide xs % 2 == 0) <;> rfl
  · rw [mayB_out (fun h3 => hw h3.2), mayB_out (fun h3 => hw ⟨h3.2.1, by have := h3.2.2; rw [hl] at this; exact this⟩)]

theorem run_may {wide : Int} : ∀ (ts : List Int) {xs ys : List Int}, BoardOk wide xs → runOpt wide xs ts = some ys → mayB wide ys = mayB wide xs
  | [], xs, ys, h, e => by rw [runOpt_nil] at e; cases e; rfl
  | t :: ts, xs, ys, h, e => by
    rw [runOpt] at e
    by_cases hc : canB wide xs t = true
    · rw [if_pos hc] at e; rw [run_may ts (boardOk_moved h) e, may_kept h hc]
    · rw [if_neg hc] at e; cases e

theorem nth_rev' {xs : List Int} {i m : Nat} (hl : xs.length = m) (hi : i < m) : nth xs.reverse i = nth xs (m - 1 - i) := by
  subst hl
  rw [nth_eq (by simpa using hi), nth_eq (by omega), List.getElem_reverse]

theorem rev_take_s {xs : List Int} {i m : Nat} (hl : xs.length = m) (hi : i < m) : xs.reverse.take (i + 1) = xs.reverse.take i ++ [nth xs (m - 1 - i)] := by
  rw [take_succ_nth (by simpa [hl] using hi), nth_rev' hl hi]

/-- What TilesRun tells, all in one. -/
theorem run_all {wide : Int} {xs ts : List Int} (h : trB wide xs ts = true) : BoardOk wide xs ∧ ts.length ≤ 99 ∧ trW wide xs ts = wide ∧ BoardOk wide (trL wide xs ts) ∧ (trL wide xs ts).length = xs.length ∧ mayB wide (trL wide xs ts) = mayB wide xs
    ∧ (trW wide (trL wide xs ts) ts.reverse = wide ∧ trL wide (trL wide xs ts) ts.reverse = xs ∧ trB wide (trL wide xs ts) ts.reverse = true)
    ∧ ∀ k, ∃ ps, ps.length = xs.length ∧ (trW wide xs (ts.take k) = wide ∧ trL wide xs (ts.take k) = ps ∧ trB wide xs (ts.take k) = true) ∧ (trW wide ps (ts.drop k) = wide ∧ trL wide ps (ts.drop k) = trL wide xs ts ∧ trB wide ps (ts.drop k) = true) := by
  by_cases hb : BoardOk wide xs ∧ ts.length ≤ 99
  · cases hr : runOpt wide xs ts with
    | none =>
      have := (tr_none ((trO_in hb.1 hb.2).trans hr)).2.2
      rw [this] at h; cases h
    | some ys =>
      have e := tr_some ((trO_in hb.1 hb.2).trans hr)
      have hy := run_ok ts hb.1 hr
      have hyl := runOpt_len wide ts xs ys hr
      have hback := run_back ts hb.1 hr
      refine ⟨hb.1, hb.2, e.1, by rw [e.2.1]; exact hy, by rw [e.2.1]; exact hyl, by rw [e.2.1]; exact run_may ts hb.1 hr, by rw [e.2.1]; exact tr_some ((trO_in hy (by rw [List.length_reverse]; exact hb.2)).trans hback), fun k => ?_⟩
      have ha := run_app wide (ts.take k) (ts.drop k) xs
      rw [List.take_append_drop, hr] at ha
      cases hp : runOpt wide xs (ts.take k) with
      | none => rw [hp] at ha; cases ha
      | some ps =>
        rw [hp, Option.bind_some] at ha
        have hpo := run_ok _ hb.1 hp
        refine ⟨ps, runOpt_len wide _ _ _ hp, tr_some ((trO_in hb.1 (by rw [List.length_take]; omega)).trans hp), ?_⟩
        rw [e.2.1]
        exact tr_some ((trO_in hpo (by rw [List.length_drop]; omega)).trans ha.symm)
  · have := (tr_none (trO_out hb)).2.2
    rw [this] at h; cases h

theorem run_not {wide : Int} {xs ts : List Int} (h : trB wide xs ts = false) : trW wide xs ts = 0 := by
  cases hr : trO wide xs ts with
  | none => exact (tr_none hr).1
  | some ys => rw [(tr_some hr).2.2] at h; cases h

end Go.Proofs.Ytfpckcmkikckgaa
