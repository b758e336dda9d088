/- Rows of rows that grow: a slice of slices of this call's own. -/
import Derived.Test.YtojkiajempdmfaaRm
import Derived.Test.YtojkiajempdmfaaGp
import Derived.Maps.AppendAt
import Derived.Laws.AppendOwnNone
namespace Go.Proofs.Ytojkiajempdmfaa
open Go Go.RowKit

/-- A slice of slices of this call's own, its rows apart from it and from each other; all of it in the blocks S. -/
def GRow (w : World) (B : Nat) (S : Nat → Prop) (v : Value) (rs : List (List Int)) : Prop :=
  ∃ vals : List Value, w.ownsRow B 28 1 v rs.length vals ∧ (∀ k, S k → B ≤ k ∧ k < w.heap.size) ∧ (∀ k, v.ownBlock = some k → S k) ∧
    (∀ (j : Nat) (u : Value), vals[j]? = some u → Own w B u (nthR rs j) ∧ (∀ k, u.ownBlock = some k → S k) ∧ (u.ownBlock = none ∨ u.ownBlock ≠ v.ownBlock)) ∧
    ∀ (i j : Nat) (u u' : Value), i < j → vals[i]? = some u → vals[j]? = some u' → u.ownBlock = none ∨ u.ownBlock ≠ u'.ownBlock

theorem GRow.nil (w : World) (B : Nat) : GRow w B (fun _ => False) (.slice none 0 0) [] :=
  ⟨[], World.ownsRow_nil _ _ _ _, fun _ h => h.elim, fun k h => by simp [Value.ownBlock] at h, fun j u h => by simp at h, fun i j u u' _ h => by simp at h⟩

theorem GRow.kept {w w' : World} {B : Nat} {S : Nat → Prop} {v : Value} {rs : List (List Int)} {row : Option Nat} (h : GRow w B S v rs) (hg : w.grownBy w' row) (hr : ∀ k, row = some k → ¬ S k) : GRow w' B S v rs := by
  obtain ⟨vals, h1, h2, h3, h4, h5⟩ := h
  have hne : ∀ u : Value, (∀ k, u.ownBlock = some k → S k) → u.ownBlock = none ∨ u.ownBlock ≠ row := fun u hu => by
    cases hb : u.ownBlock with
    | none => exact .inl rfl
    | some k => exact .inr fun e => hr k e.symm (hu k hb)
  exact ⟨vals, World.ownsRow.kept h1 hg (hne v h3), fun k hk => ⟨(h2 k hk).1, Nat.lt_of_lt_of_le (h2 k hk).2 hg.size⟩, h3, fun j u hu => ⟨(h4 j u hu).1.kept hg (hne u (h4 j u hu).2.1), (h4 j u hu).2⟩, h5⟩

theorem GRow.below {w w' : World} {B B' : Nat} {S : Nat → Prop} {v : Value} {rs : List (List Int)} (h : GRow w B S v rs) (hb : Below B' w w') (hB : w.heap.size ≤ B') : GRow w' B S v rs :=
  h.kept (row := none) ⟨hb.os, hb.tape, hb.output, hb.size, fun k hk _ => hb.block k (Nat.lt_of_lt_of_le hk hB)⟩ (fun k e => by cases e)
theorem GRow.qt {w w' : World} {B : Nat} {S : Nat → Prop} {v : Value} {rs : List (List Int)} (h : GRow w B S v rs) (hq : Qt w w') : GRow w' B S v rs := h.below (hq.below w.heap.size) (Nat.le_refl _)
theorem GRow.alloc {w : World} {B : Nat} {S : Nat → Prop} {v : Value} {rs : List (List Int)} (h : GRow w B S v rs) (o : Obj) : GRow (w.alloc o) B S v rs :=
  h.below ((Below.refl w.heap.size w).alloc (Nat.le_refl _) o) (Nat.le_refl _)
theorem GRow.lt {w : World} {B : Nat} {S : Nat → Prop} {v : Value} {rs : List (List Int)} (h : GRow w B S v rs) : ∀ k, S k → B ≤ k ∧ k < w.heap.size := by
  obtain ⟨vals, h1, h2, _⟩ := h; exact h2
theorem GRow.head {w : World} {B : Nat} {S : Nat → Prop} {v : Value} {rs : List (List Int)} (h : GRow w B S v rs) : ∀ k, v.ownBlock = some k → S k := by
  obtain ⟨vals, h1, h2, h3, _⟩ := h; exact h3
theorem Own.lower' {w : World} {B B' : Nat} {v : Value} {xs : List Int} (h : Own w B v xs) (hB : ∀ k, v.ownBlock = some k → B' ≤ k) : Own w B' v xs := by
  refine ⟨h.1, ?_⟩
  rcases h.2 with h2 | ⟨g, cap, cur, rfl, hg, r⟩
  · exact .inl h2
  · exact .inr ⟨g, cap, cur, rfl, hB g rfl, r⟩
theorem GRow.lower {w : World} {B B' : Nat} {S : Nat → Prop} {v : Value} {rs : List (List Int)} (h : GRow w B S v rs) (hB : B' ≤ B) : GRow w B' S v rs := by
  obtain ⟨vals, h1, h2, h3, h4, h5⟩ := h
  refine ⟨vals, ?_, fun k hk => ⟨Nat.le_trans hB (h2 k hk).1, (h2 k hk).2⟩, h3, fun j u hu => ⟨(h4 j u hu).1.lower hB, (h4 j u hu).2⟩, h5⟩
  refine ⟨h1.1, ?_⟩
  rcases h1.2 with h2 | ⟨g, cap, cur, hv, hg, r⟩
  · exact .inl h2
  · exact .inr ⟨g, cap, cur, hv, Nat.le_trans hB hg, r⟩

theorem GRow.shape {w : World} {B : Nat} {S : Nat → Prop} {v : Value} {rs : List (List Int)} (h : GRow w B S v rs) : ∃ ao c, v = .slice ao rs.length c ∧ RowsAt w ao rs ∧ rs.length ≤ c ∧ c ≤ 9223372036854775807 := by
  obtain ⟨vals, h1, h2, h3, h4, h5⟩ := h
  have hl := h1.1
  rcases h1.2 with ⟨rfl, h0⟩ | ⟨g, cap, cur, rfl, hb, hg, hnc, hm, r⟩
  · refine ⟨none, 0, by rw [h0], fun h => absurd h (by omega), by omega, by omega⟩
  · refine ⟨some ⟨g, 0, none⟩, cap, rfl, fun h0 => ⟨g, 0, rfl, fun j hj => ?_⟩, hnc, by unfold maxLen at hm; omega⟩
    have hj2 : j < vals.length := by omega
    have hv : vals[j]? = some vals[j] := List.getElem?_eq_getElem hj2
    obtain ⟨ho, _, _⟩ := h4 j _ hv
    obtain ⟨ao, c, e, hi, hc⟩ := ho.shape
    have hcell := World.ownsRow.cellAt h1 j (by omega)
    have hcm : c ≤ 9223372036854775807 := by
      rcases ho.2 with ⟨e2, _⟩ | ⟨g', cap', cur', e2, _, _, _, hm', _⟩
      · rw [e] at e2; simp at e2; omega
      · rw [e] at e2
        simp only [Value.slice.injEq] at e2
        obtain ⟨_, _, rfl⟩ := e2
        unfold maxLen at hm'; omega
    exact ⟨ao, c, by rw [Nat.zero_add, hcell, hv, e], hc, hcm, hi⟩
theorem GRow.shapeN {w : World} {B n : Nat} {S : Nat → Prop} {v : Value} {rs : List (List Int)} (h : GRow w B S v rs) (hn : rs.length = n) : ∃ ao c, v = .slice ao n c ∧ RowsAt w ao rs ∧ n ≤ c ∧ c ≤ 9223372036854775807 := by
  subst hn; exact h.shape
theorem GRow.at {w : World} {B n c : Nat} {ao : Option Addr} {S : Nat → Prop} {rs : List (List Int)} (h : GRow w B S (.slice ao n c) rs) : RowsAt w ao rs := by
  obtain ⟨ao', c', e, hi, _⟩ := h.shape
  simp only [Value.slice.injEq] at e
  obtain ⟨rfl, rfl, rfl⟩ := e
  exact hi

/-- '[][]int{x}'. -/
theorem GRow.one {w : World} {B : Nat} {u : Value} {ys : List Int} (h : Own w B u ys) (hB : B ≤ w.heap.size) :
    GRow (w.alloc (.cells #[u] 28)) B (fun k => k = w.heap.size ∨ u.ownBlock = some k) (.slice (some ⟨w.heap.size, 0, none⟩) 1 1) [ys] := by
  refine ⟨[u], World.ownsRow_lit w #[u] 1 hB (by unfold maxLen; omega) rfl, fun k hk => ?_, fun k hk => .inl (by simpa [Value.ownBlock] using hk.symm), fun j x hx => ?_, fun i j x x' hij hi hj => ?_⟩
  · rcases hk with rfl | hk
    · exact ⟨hB, by simp⟩
    · have := World.ownsRow.lt h k hk
      exact ⟨this.1, by simp; omega⟩
  · match j, hx with
    | 0, hx =>
      simp at hx
      subst hx
      refine ⟨h.alloc _, fun k hk => .inr hk, ?_⟩
      cases hb : u.ownBlock with
      | none => exact .inl rfl
      | some k =>
        refine .inr fun e => ?_
        have h1 := (World.ownsRow.lt h k hb).2
        have h2 : k = w.heap.size := by simpa [Value.ownBlock] using e
        omega
    | j + 1, hx => simp at hx
  · have h1 := (List.getElem?_eq_some_iff.1 hj).1
    simp at h1; omega

/-- append of a row onto such a slice. -/
theorem wp_appendG {o : Oper} {a : Act} {K : Act → World → Prop} {Q : Exit → Act → World → Prop} {w : World} {B : Nat} {S : Nat → Prop} {v u : Value} {rs : List (List Int)} {ys : List Int} (s x : Operand)
    (ho : o.op = .call { callee := .builtin .append, args := #[s, x], argTypes := #[22, 22] })
    (hs : a.eval s = v) (hst : GRow w B S v rs) (hu : Own w B u ys) (hnu : ∀ k, u.ownBlock = some k → ¬ S k) (hB : B ≤ w.heap.size)
    (ad : Addr) (cc : Nat) (hx : a.eval x = .slice (some ad) 1 cc) (hn : w.cell? ad = some u) (h63 : rs.length ≤ 1000000)
    (h : ∀ v' w', GRow w' B (fun k => S k ∨ u.ownBlock = some k ∨ (v'.ownBlock = some k ∧ k = w.heap.size)) v' (rs ++ [ys]) → w.grownBy w' v.ownBlock → K (a.put o.dst v') w') :
    o.wp Try.prog a w K Q := by
  obtain ⟨vals, h1, h2, h3, h4, h5⟩ := hst
  obtain ⟨i0, hi, hz0, hz1, hz2⟩ := info_parts Try.infoRow
  have hvl : vals.length = rs.length := by have := h1.1; omega
  obtain ⟨uo, un, uc, hus⟩ : ∃ ao n c, u = .slice ao n c := by obtain ⟨ao, c, e, _⟩ := hu.shape; exact ⟨ao, _, c, e⟩
  obtain ⟨v', w', hrun, hown', hgrow, _, hat⟩ := run_append_own_at (P := Try.prog) w B 22 o.type 28 i0 (.slice none 0 0) 1 24 Try.underlying22 hi hz0 hz1 hz2 rfl (by decide) v rs.length vals h1 ad 1 cc [u] rfl (fun j z hz => by
    match j, hz with
    | 0, hz => simp at hz; subst hz; simpa [Addr.add] using hn) (fun z hz => by obtain rfl := List.mem_singleton.1 hz; rw [hus]; rfl) (by unfold maxLen; omega) (by omega) hB
  unfold Oper.wp
  simp only [execOp, ho, resolve, invoke, builtin, Sem.run_bind, Sem.run_pure, Result.andThen_ok, List.map_toArray, List.map_cons, List.map_nil, hs, hx, hrun]
  refine h v' w' ⟨vals ++ [u], ?_, fun k hk => ?_, fun k hk => ?_, fun j z hz => ?_, fun i j z z' hij hzi hzj => ?_⟩ hgrow
  · rw [List.length_append]; exact hown'
  · rcases hk with hk | hk | ⟨hk, _⟩
    · exact ⟨(h2 k hk).1, Nat.lt_of_lt_of_le (h2 k hk).2 hgrow.size⟩
    · have := World.ownsRow.lt hu k hk
      exact ⟨this.1, Nat.lt_of_lt_of_le this.2 hgrow.size⟩
    · exact World.ownsRow.lt hown' k hk
  · rcases hat with e | e
    · exact .inl (h3 k (e ▸ hk))
    · refine .inr (.inr ⟨hk, ?_⟩)
      rw [e] at hk; exact (Option.some.inj hk).symm
  · by_cases hj : j < vals.length
    · rw [List.getElem?_append_left hj] at hz
      obtain ⟨a1, a2, a3⟩ := h4 j z hz
      rw [nthR_app1 (by omega)]
      refine ⟨a1.kept hgrow a3, fun k hk => .inl (a2 k hk), ?_⟩
      rcases hat with e | e
      · rw [e]; exact a3
      · cases hb : z.ownBlock with
        | none => exact .inl rfl
        | some k =>
            refine .inr fun e2 => ?_
            rw [e] at e2
            have := (h2 k (a2 k hb)).2
            have := Option.some.inj e2
            omega
    · have hj2 : j = vals.length := by
        have := (List.getElem?_eq_some_iff.1 hz).1
        simp at this; omega
      subst hj2
      rw [List.getElem?_append_right (Nat.le_refl _), Nat.sub_self] at hz
      obtain rfl : u = z := by simpa using hz
      rw [hvl, nthR_app2]
      have hne : u.ownBlock = none ∨ u.ownBlock ≠ v.ownBlock := by
        cases hb : u.ownBlock with
        | none => exact .inl rfl
        | some k => exact .inr fun e => hnu k hb (h3 k e.symm)
      refine ⟨hu.kept hgrow hne, fun k hk => .inr (.inl hk), ?_⟩
      rcases hat with e | e
      · rw [e]; exact hne
      · cases hb : u.ownBlock with
        | none => exact .inl rfl
        | some k =>
            refine .inr fun e2 => ?_
            rw [e] at e2
            have := (World.ownsRow.lt hu k hb).2
            have := Option.some.inj e2
            omega
  · have hil : i < vals.length := by
      have := (List.getElem?_eq_some_iff.1 hzj).1
      simp at this; omega
    rw [List.getElem?_append_left hil] at hzi
    by_cases hj : j < vals.length
    · rw [List.getElem?_append_left hj] at hzj
      exact h5 i j z z' hij hzi hzj
    · have hj2 : j = vals.length := by
        have := (List.getElem?_eq_some_iff.1 hzj).1
        simp at this; omega
      subst hj2
      rw [List.getElem?_append_right (Nat.le_refl _), Nat.sub_self] at hzj
      obtain rfl : u = z' := by simpa using hzj
      cases hb : z.ownBlock with
      | none => exact .inl rfl
      | some k => exact .inr fun e => hnu k e.symm ((h4 i z hzi).2.1 k hb)

theorem wpList_appendG {ops : Array Oper} {rest : List Oper} {o : Oper} {a : Act} {Q : Exit → Act → World → Prop} {w : World} {B : Nat} {S : Nat → Prop} {v u : Value} {rs : List (List Int)} {ys : List Int} (hgd : o.guard = none) (s x : Operand)
    (ho : o.op = .call { callee := .builtin .append, args := #[s, x], argTypes := #[22, 22] })
    (hs : a.eval s = v) (hst : GRow w B S v rs) (hu : Own w B u ys) (hnu : ∀ k, u.ownBlock = some k → ¬ S k) (hB : B ≤ w.heap.size)
    (ad : Addr) (cc : Nat) (hx : a.eval x = .slice (some ad) 1 cc) (hn : w.cell? ad = some u) (h63 : rs.length ≤ 1000000)
    (h : ∀ v' w', GRow w' B (fun k => S k ∨ u.ownBlock = some k ∨ (v'.ownBlock = some k ∧ k = w.heap.size)) v' (rs ++ [ys]) → w.grownBy w' v.ownBlock → wpList Try.prog ops Q rest (a.put o.dst v') w') :
    wpList Try.prog ops Q (o :: rest) a w :=
  wpList_plain hgd fun _ hK => wp_appendG s x ho hs hst hu hnu hB ad cc hx hn h63 fun v' w' h1 h2 => hK _ _ (h v' w' h1 h2)

/-- The same in a region that draws its order. -/
theorem step_appendG {ops : Array Oper} {o : Oper} {a : Act} {K : Act → World → Prop} {Q : Exit → Act → World → Prop} {E : Prop} {w : World} {B : Nat} {S : Nat → Prop} {v u : Value} {rs : List (List Int)} {ys : List Int} (hgd : o.guard = none) (s x : Operand)
    (ho : o.op = .call { callee := .builtin .append, args := #[s, x], argTypes := #[22, 22] })
    (hs : a.eval s = v) (hst : GRow w B S v rs) (hu : Own w B u ys) (hnu : ∀ k, u.ownBlock = some k → ¬ S k) (hB : B ≤ w.heap.size)
    (ad : Addr) (cc : Nat) (hx : a.eval x = .slice (some ad) 1 cc) (hn : w.cell? ad = some u) (h63 : rs.length ≤ 1000000)
    (h : ∀ v' w', GRow w' B (fun k => S k ∨ u.ownBlock = some k ∨ (v'.ownBlock = some k ∧ k = w.heap.size)) v' (rs ++ [ys]) → w.grownBy w' v.ownBlock → K (a.put o.dst v') w') :
    if Region.wanted o (yielded ops a.tmps) = true then Oper.wp Try.prog o a w K Q else E := by
  rw [if_pos (by simp [Region.wanted, hgd])]
  exact wp_appendG s x ho hs hst hu hnu hB ad cc hx hn h63 h

/-- A row of such a slice has been written anew. -/
theorem GRow.setRow {w w' : World} {B : Nat} {S : Nat → Prop} {v u : Value} {rs : List (List Int)} {vals : List Value} {k : Nat} {ys : List Int} (hk : k < rs.length)
    (h1 : w.ownsRow B 28 1 v rs.length vals) (h2 : ∀ k, S k → B ≤ k ∧ k < w.heap.size)
    (h4 : ∀ (j : Nat) (u : Value), vals[j]? = some u → Own w B u (nthR rs j) ∧ (∀ k, u.ownBlock = some k → S k) ∧ (u.ownBlock = none ∨ u.ownBlock ≠ v.ownBlock))
    (h5 : ∀ (i j : Nat) (u u' : Value), i < j → vals[i]? = some u → vals[j]? = some u' → u.ownBlock = none ∨ u.ownBlock ≠ u'.ownBlock)
    (hu : vals[k]? = some u) (ho : Own w' B u ys) (hg : w.grownBy w' u.ownBlock) :
    w'.ownsRow B 28 1 v (rs.set k ys).length vals ∧ (∀ k, S k → B ≤ k ∧ k < w'.heap.size) ∧
    (∀ (j : Nat) (u : Value), vals[j]? = some u → Own w' B u (nthR (rs.set k ys) j) ∧ (∀ k, u.ownBlock = some k → S k) ∧ (u.ownBlock = none ∨ u.ownBlock ≠ v.ownBlock)) := by
  have hsym : ∀ a b : Value, (a.ownBlock = none ∨ a.ownBlock ≠ b.ownBlock) → b.ownBlock = none ∨ b.ownBlock ≠ a.ownBlock := fun a b hab => by
    rcases hab with e | e
    · cases hb : b.ownBlock with
      | none => exact .inl rfl
      | some q => exact .inr (by rw [e]; simp)
    · exact .inr fun h => e h.symm
  have hset : ∀ j, nthR (rs.set k ys) j = if j = k then ys else nthR rs j := fun j => by
    unfold nthR
    simp only [List.getD_eq_getElem?_getD, List.getElem?_set]
    by_cases h : k = j
    · subst h; simp [hk]
    · have h' : ¬ j = k := fun e => h e.symm
      simp [h, h']
  refine ⟨?_, fun k hk => ⟨(h2 k hk).1, Nat.lt_of_lt_of_le (h2 k hk).2 hg.size⟩, fun j z hz => ?_⟩
  · rw [List.length_set]
    exact World.ownsRow.kept h1 hg (hsym _ _ (h4 k u hu).2.2)
  · by_cases hj : j = k
    · subst hj
      rw [hu] at hz
      cases hz
      rw [hset, if_pos rfl]
      exact ⟨ho, (h4 j u hu).2⟩
    · rw [hset, if_neg hj]
      refine ⟨(h4 j z hz).1.kept hg ?_, (h4 j z hz).2⟩
      rcases Nat.lt_or_gt_of_ne hj with hlt | hlt
      · exact h5 j k z u hlt hz hu
      · exact hsym _ _ (h5 k j u z hlt hu hz)

theorem GRow.row {w : World} {B n c k : Nat} {ao : Option Addr} {S : Nat → Prop} {rs : List (List Int)} (h : GRow w B S (.slice ao n c) rs) (hk : k < rs.length) : ∃ g u, ao = some ⟨g, 0, none⟩ ∧ w.cell? ⟨g, k, none⟩ = some u ∧ Own w B u (nthR rs k) ∧ (∀ k, u.ownBlock = some k → S k) := by
  obtain ⟨vals, h1, h2, h3, h4, h5⟩ := h
  have hl := h1.1
  rcases h1.2 with ⟨e, h0⟩ | ⟨g, cap, cur, e, hb, hg, hnc, hm, r⟩
  · omega
  · simp only [Value.slice.injEq] at e
    obtain ⟨rfl, rfl, rfl⟩ := e
    have hv : vals[k]? = some vals[k] := List.getElem?_eq_getElem (by omega)
    obtain ⟨ho, hs, _⟩ := h4 k _ hv
    exact ⟨g, _, rfl, (World.ownsRow.cellAt h1 k (by omega)).trans hv, ho, hs⟩

/-- '[]int{x}'. -/
theorem Own.lit1 (w : World) (x : Int) {B : Nat} (hB : B ≤ w.heap.size) : Own (w.alloc (.cells #[.int .i64 x] 3)) B (.slice (some ⟨w.heap.size, 0, none⟩) 1 1) [x] :=
  World.ownsRow_lit w #[.int .i64 x] 1 hB (by unfold maxLen; omega) rfl

/-- append of a list onto a list of this call's own. -/
theorem wpList_appendL {ops : Array Oper} {rest : List Oper} {o : Oper} {a : Act} {Q : Exit → Act → World → Prop} {w : World} {B B' : Nat} {v u : Value} {xs ys : List Int} (hgd : o.guard = none) (s x : Operand)
    (ho : o.op = .call { callee := .builtin .append, args := #[s, x], argTypes := #[28, 28] })
    (hs : a.eval s = v) (hv : Own w B v xs) (hx : a.eval x = u) (hu : Own w B' u ys) (hB : B ≤ w.heap.size) (h63 : xs.length + ys.length ≤ 1000000)
    (h : ∀ v' w', Own w' B v' (xs ++ ys) → w.grownBy w' v.ownBlock → (v'.ownBlock = v.ownBlock ∨ v'.ownBlock = some w.heap.size) → wpList Try.prog ops Q rest (a.put o.dst v') w') :
    wpList Try.prog ops Q (o :: rest) a w := by
  obtain ⟨i0, hi, hz0, hz1, hz2⟩ := info_parts Try.infoInt
  rcases hu.2 with ⟨rfl, h0⟩ | ⟨g, cap, cur, rfl, hb, hg, hnc, hm, hcs, htk⟩
  · have hy : ys = [] := List.eq_nil_of_length_eq_zero h0
    subst hy
    refine wpList_append_own_none hgd s x 28 ho B 3 i0 1 Try.underlying28 hi v xs.length _ hs hv hx ?_
    exact h v w (by rw [List.append_nil]; exact hv) (grownBy_refl _ _) (.inl rfl)
  · refine wpList_append_own_at w hgd s x 28 ho B 3 i0 (.int .i64 0) 1 8 Try.underlying28 hi hz0 hz1 hz2 rfl (by decide) v xs.length _ hs hv ⟨g, 0, none⟩ ys.length cap (ys.map (Value.int .i64)) hx (by simp) (fun j z hz => ?_) (fun z hz => ?_) (by unfold maxLen; omega) (by omega) hB ?_
    · have hj := (List.getElem?_eq_some_iff.1 hz).1
      simp at hj
      have hc := World.ownsRow.cellAt hu j (by omega)
      rw [Addr.add_lit, Nat.zero_add, hc]
      exact hz
    · obtain ⟨t, _, rfl⟩ := List.mem_map.1 hz
      rfl
    · intro v' w' hown' hgrow _ hat
      refine h v' w' ?_ hgrow hat
      unfold Own
      rw [List.length_append, List.map_append]
      exact hown'

/-- '[][]int{}'. -/
theorem GRow.lit0 (w : World) {B : Nat} (hB : B ≤ w.heap.size) : GRow (w.alloc (.cells #[] 28)) B (fun k => k = w.heap.size) (.slice (some ⟨w.heap.size, 0, none⟩) 0 0) [] :=
  ⟨[], World.ownsRow_lit w #[] 0 hB (Nat.zero_le _) rfl, fun k hk => by subst hk; exact ⟨hB, by simp⟩, fun k h => by simpa [Value.ownBlock] using h.symm, fun j u h => by simp at h, fun i j u u' _ h => by simp at h⟩

/-- A call that hands back rows of its own. -/
def RetRows (w : World) (rs : List (List Int)) (e : Ending) (w' : World) : Prop :=
  ∃ ao c S, e = .returned (.slice ao rs.length c) ∧ rs.length ≤ c ∧ GRow w' w.heap.size S (.slice ao rs.length c) rs ∧ Below w.heap.size w w'
theorem RetRows.mk {w w' : World} {rs : List (List Int)} {v : Value} {S : Nat → Prop} (h : GRow w' w.heap.size S v rs) (hb : Below w.heap.size w w') : RetRows w rs (.returned v) w' := by
  obtain ⟨ao, c, rfl, _, hc, _⟩ := h.shape
  exact ⟨ao, c, S, rfl, hc, h, hb⟩
theorem RetRows.to {w w' : World} {rs : List (List Int)} {e : Ending} {n : Nat} (h : RetRows w rs e w') (hn : rs.length = n) :
    ∃ ao c S, e = .returned (.slice ao n c) ∧ n ≤ c ∧ GRow w' w.heap.size S (.slice ao n c) rs ∧ Below w.heap.size w w' := by
  subst hn; exact h

end Go.Proofs.Ytojkiajempdmfaa
