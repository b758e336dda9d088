/- append of a list onto a list of this call's own: in a walk, and in a region that draws its order. -/
import Derived.Test.YtgmjffplinpobaaBase
import Derived.Maps.AppendAt
import Derived.Laws.AppendOwnNone
namespace Go.Proofs.Ytgmjffplinpobaa
open Go Go.RowKit

/-- '[]int{x}'. -/
theorem Own.one (w : World) (x : Int) {B : Nat} (hB : B ≤ w.heap.size) : Own (w.alloc (.cells #[.int .i64 x] 3)) B (.slice (some ⟨w.heap.size, 0, none⟩) 1 1) [x] :=
  World.ownsRow_lit w #[.int .i64 x] 1 hB (by unfold maxLen; omega) rfl

theorem run_appL {w : World} {B B' : Nat} {v u : Value} {xs ys : List Int} (ty : TypeId) (hv : Own w B v xs) (hu : Own w B' u ys) (hB : B ≤ w.heap.size) (h63 : xs.length + ys.length ≤ 17592186044416) :
    ∃ v' w', (Builtin.append_ #[23, 23] ty #[v, u]).run Try.prog w = .ok v' w' ∧ Own w' B v' (xs ++ ys) ∧ w.grownBy w' v.ownBlock ∧ (v'.ownBlock = v.ownBlock ∨ v'.ownBlock = some w.heap.size) := by
  obtain ⟨i0, hi, hz0, hz1, hz2⟩ := info_parts Try.infoInt
  rcases hu.2 with ⟨rfl, h0⟩ | ⟨g, cap, cur, rfl, hb, hg, hnc, hm, hcs, htk⟩
  · have hy : ys = [] := List.eq_nil_of_length_eq_zero h0
    subst hy
    exact ⟨v, w, run_append_owned_none (P := Try.prog) (w := w) B 23 ty 3 i0 1 Try.underlying23 hi v xs.length _ hv, by rw [List.append_nil]; exact hv, grownBy_refl _ _, .inl rfl⟩
  · obtain ⟨v', w', hrun, hown', hgrow, _, hat⟩ := run_append_own_at (P := Try.prog) w B 23 ty 3 i0 (.int .i64 0) 1 8 Try.underlying23 hi hz0 hz1 hz2 rfl (by decide) v xs.length _ hv ⟨g, 0, none⟩ ys.length cap (ys.map (Value.int .i64)) (by simp) (fun j z hz => by
      have hj := (List.getElem?_eq_some_iff.1 hz).1
      simp at hj
      have hc := World.ownsRow.cellAt hu j (by omega)
      rw [Addr.add_lit, Nat.zero_add, hc]
      exact hz) (fun z hz => by obtain ⟨t, _, rfl⟩ := List.mem_map.1 hz; rfl) (by unfold maxLen; omega) (by omega) hB
    refine ⟨v', w', hrun, ?_, hgrow, hat⟩
    unfold Own
    rw [List.length_append, List.map_append]
    exact hown'

theorem wp_appL {o : Oper} {a : Act} {K : Act → World → Prop} {Q : Exit → Act → World → Prop} {w : World} {B B' : Nat} {v u : Value} {xs ys : List Int} (s x : Operand)
    (ho : o.op = .call { callee := .builtin .append, args := #[s, x], argTypes := #[23, 23] })
    (hs : a.eval s = v) (hv : Own w B v xs) (hx : a.eval x = u) (hu : Own w B' u ys) (hB : B ≤ w.heap.size) (h63 : xs.length + ys.length ≤ 17592186044416)
    (h : ∀ v' w', Own w' B v' (xs ++ ys) → w.grownBy w' v.ownBlock → (v'.ownBlock = v.ownBlock ∨ v'.ownBlock = some w.heap.size) → K (a.put o.dst v') w') :
    o.wp Try.prog a w K Q := by
  obtain ⟨v', w', hrun, h1, h2, h3⟩ := run_appL o.type hv hu hB h63
  unfold Oper.wp
  simp only [execOp, ho, resolve, invoke, builtin, Sem.run_bind, Sem.run_pure, Result.andThen_ok, List.map_toArray, List.map_cons, List.map_nil, hs, hx, hrun]
  exact h v' w' h1 h2 h3

theorem wpList_appL {ops : Array Oper} {rest : List Oper} {o : Oper} {a : Act} {Q : Exit → Act → World → Prop} {w : World} {B B' : Nat} {v u : Value} {xs ys : List Int} (hgd : o.guard = none) (s x : Operand)
    (ho : o.op = .call { callee := .builtin .append, args := #[s, x], argTypes := #[23, 23] })
    (hs : a.eval s = v) (hv : Own w B v xs) (hx : a.eval x = u) (hu : Own w B' u ys) (hB : B ≤ w.heap.size) (h63 : xs.length + ys.length ≤ 17592186044416)
    (h : ∀ v' w', Own w' B v' (xs ++ ys) → w.grownBy w' v.ownBlock → (v'.ownBlock = v.ownBlock ∨ v'.ownBlock = some w.heap.size) → wpList Try.prog ops Q rest (a.put o.dst v') w') :
    wpList Try.prog ops Q (o :: rest) a w :=
  wpList_plain hgd fun _ hK => wp_appL s x ho hs hv hx hu hB h63 fun v' w' h1 h2 h3 => hK _ _ (h v' w' h1 h2 h3)

theorem step_appL {ops : Array Oper} {o : Oper} {a : Act} {K : Act → World → Prop} {Q : Exit → Act → World → Prop} {E : Prop} {w : World} {B B' : Nat} {v u : Value} {xs ys : List Int} (hgd : o.guard = none) (s x : Operand)
    (ho : o.op = .call { callee := .builtin .append, args := #[s, x], argTypes := #[23, 23] })
    (hs : a.eval s = v) (hv : Own w B v xs) (hx : a.eval x = u) (hu : Own w B' u ys) (hB : B ≤ w.heap.size) (h63 : xs.length + ys.length ≤ 17592186044416)
    (h : ∀ v' w', Own w' B v' (xs ++ ys) → w.grownBy w' v.ownBlock → (v'.ownBlock = v.ownBlock ∨ v'.ownBlock = some w.heap.size) → K (a.put o.dst v') w') :
    if Region.wanted o (yielded ops a.tmps) = true then Oper.wp Try.prog o a w K Q else E := by
  rw [if_pos (by simp [Region.wanted, hgd])]
  exact wp_appL s x ho hs hv hx hu hB h63 h

end Go.Proofs.Ytgmjffplinpobaa
