/- A queue of boards; the table of the steps: plain laws and laws of memory. -/
import Derived.Test.YtfpckcmkikckgaaSf
import Derived.Test.YtfpckcmkikckgaaRr
import Derived.Test.YtfpckcmkikckgaaTc
namespace Go.Proofs.Ytfpckcmkikckgaa
open Go Go.RowKit

/-! The table: for each rank how far the board is. -/
def stV (S : List (List Int × Int)) (r : Nat) : Int := match S.find? (fun p => rankL p.1 == r) with
  | some p => p.2
  | none => -1
def stL (n : Nat) (S : List (List Int × Int)) : List Int := (List.range (fct n)).map (stV S)
theorem length_stL (n : Nat) (S : List (List Int × Int)) : (stL n S).length = fct n := by simp [stL]
theorem nth_stL {n : Nat} {S : List (List Int × Int)} {r : Nat} (h : r < fct n) : nth (stL n S) r = stV S r := by
  rw [nth_eq (by rw [length_stL]; exact h)]; simp [stL]
theorem stL_nil (n : Nat) : stL n [] = List.replicate (fct n) (-1) := by
  refine ext_nth (by simp [stL]) fun j hj => ?_
  rw [length_stL] at hj
  rw [nth_stL hj, nth_eq (by simpa using hj)]
  simp [stV]

/-- All boards of a search are boards of n places. -/
def AllIn (n : Nat) (S : List (List Int × Int)) : Prop := ∀ p ∈ S, Dis n p.1 ∧ p.1.length = n

theorem stV_far {n : Nat} {S : List (List Int × Int)} (h : AllIn n S) {xs : List Int} (hd : Dis n xs) (hl : xs.length = n) : stV S (rankL xs) = farS S xs := by
  have e : S.find? (fun p => rankL p.1 == rankL xs) = S.find? (fun p => p.1 == xs) := by
    induction S with
    | nil => rfl
    | cons p S ih =>
      have hp := h p (by simp)
      have ih := ih fun q hq => h q (List.mem_cons_of_mem _ hq)
      rw [List.find?_cons, List.find?_cons]
      by_cases e : p.1 = xs
      · simp [e]
      · have e2 : ¬ rankL p.1 = rankL xs := fun e2 => e (rank_inj hp.1 hd hp.2 hl e2)
        have b1 : (rankL p.1 == rankL xs) = false := by simpa using e2
        have b2 : (p.1 == xs) = false := by simpa using e
        rw [b1, b2]
        exact ih
  unfold stV farS
  rw [e]
  rfl

theorem stL_put {n : Nat} {S : List (List Int × Int)} (h : AllIn n S) {ys : List Int} (hd : Dis n ys) (hl : ys.length = n) (d : Int) (hs : hasS S ys = false) : (stL n S).set (rankL ys) d = stL n (S ++ [(ys, d)]) := by
  have hr := rank_lt hl
  refine ext_nth (by simp [stL]) fun j hj => ?_
  rw [List.length_set, length_stL] at hj
  rw [nth_set (by rw [length_stL]; exact hr), nth_stL hj, nth_stL hj]
  unfold stV
  rw [List.find?_append]
  by_cases e : j = rankL ys
  · subst e
    have hn : S.find? (fun p => rankL p.1 == rankL ys) = none := by
      rw [List.find?_eq_none]
      intro p hp hc
      have hc2 : rankL p.1 = rankL ys := by simpa using hc
      have e2 := rank_inj (h p hp).1 hd (h p hp).2 hl hc2
      have : hasS S ys = true := by
        unfold hasS
        rw [decide_eq_true_iff, List.mem_map]
        exact ⟨p, hp, e2⟩
      rw [hs] at this; simp at this
    rw [hn]
    simp
  · rw [if_neg e]
    have e' : ¬ rankL ys = j := fun h => e h.symm
    simp [e']

theorem AllIn.of {wide : Int} {n a j : Nat} {S : List (List Int × Int)} (h : Srch wide n S a j) : AllIn n S := fun p hp => by
  obtain ⟨i, hi, rfl⟩ := List.getElem_of_mem hp
  have h1 := h.ok i hi
  have e : bdS S i = S[i].1 := by simp [bdS, hi]
  rw [e] at h1
  have h2 := h1.1.2.2.2.2
  rw [h1.2] at h2
  exact ⟨h2, h1.2⟩

/-! The tiles that may be moved, one after the other: the same search. -/
def maysS (wide : Int) (S : List (List Int × Int)) (a : Nat) (ts : List Int) : List (List Int × Int) := ts.foldl (fun T t => stepS wide T a t) S
theorem maysS_nil (wide : Int) (S : List (List Int × Int)) (a : Nat) : maysS wide S a [] = S := rfl
theorem maysS_snoc (wide : Int) (S : List (List Int × Int)) (a : Nat) (ts : List Int) (t : Int) : maysS wide S a (ts ++ [t]) = stepS wide (maysS wide S a ts) a t := by simp [maysS]

theorem mayIn_can {wide : Int} {xs : List Int} (h : BoardOk wide xs) {j : Nat} (hj : j + 1 < xs.length) :
    mayIn wide (zeroI xs) xs ((j : Int) + 1) xs.length = if canB wide xs ((j : Int) + 1) = true then [(j : Int) + 1] else [] := by
  have hm : ((j : Int) + 1) ∈ mayIn wide (zeroI xs) xs ((j : Int) + 1) xs.length ↔ canB wide xs ((j : Int) + 1) = true := by
    rw [canB_iff h, mem_mayIn]
    constructor
    · rintro ⟨_, k, hk, h1, h2⟩; exact ⟨⟨by omega, by omega⟩, k, hk, h1, h2⟩
    · rintro ⟨_, k, hk, h1, h2⟩; exact ⟨rfl, k, hk, h1, h2⟩
  rcases mayIn_once h.2.2.2.2 ((j : Int) + 1) (free := zeroI xs) (wide := wide) xs.length (Nat.le_refl _) with e | e
  · rw [e] at hm ⊢
    have hc : ¬ canB wide xs ((j : Int) + 1) = true := fun hc => by have := hm.2 hc; simp at this
    rw [if_neg hc]
  · rw [e] at hm ⊢
    rw [if_pos (hm.1 (by simp))]

theorem tiles_mays {wide : Int} {n : Nat} {S : List (List Int × Int)} {a : Nat} (h : Srch wide n S a 0) (ha : a < S.length) : ∀ m, m + 1 ≤ n → tilesS wide S a m = maysS wide S a (mayTo wide (zeroI (bdS S a)) (bdS S a) m)
  | 0, _ => rfl
  | m + 1, hm => by
    have hok := h.ok a ha
    rw [tilesS_succ, tiles_mays h ha m (by omega), mayTo_succ]
    have hb : bdS (maysS wide S a (mayTo wide (zeroI (bdS S a)) (bdS S a) m)) a = bdS S a := by
      rw [← tiles_mays h ha m (by omega)]; exact (tilesS_bd wide a ha m).1
    rw [mayIn_can hok.1 (by rw [hok.2]; omega)]
    cases hc : canB wide (bdS S a) ((m : Int) + 1) with
    | true => rw [if_pos rfl, maysS_snoc]
    | false => rw [stepS_no (by rw [hb]; exact hc)]; simp

/-- A prefix of the tiles that may be moved is those up to some tile. -/
theorem may_prefix {wide : Int} {xs : List Int} (h : BoardOk wide xs) : ∀ m, m + 1 ≤ xs.length → ∀ j, j ≤ (mayTo wide (zeroI xs) xs m).length → ∃ m', m' ≤ m ∧ (mayTo wide (zeroI xs) xs m).take j = mayTo wide (zeroI xs) xs m'
  | 0, _, j, _ => ⟨0, Nat.le_refl _, by simp [mayTo]⟩
  | m + 1, hm, j, hj => by
    rw [mayTo_succ, mayIn_can h (by omega)] at hj ⊢
    by_cases hx : j ≤ (mayTo wide (zeroI xs) xs m).length
    · obtain ⟨m', h1, h2⟩ := may_prefix h m (by omega) j hx
      exact ⟨m', by omega, by rw [List.take_append_of_le_length hx]; exact h2⟩
    · refine ⟨m + 1, Nat.le_refl _, ?_⟩
      rw [mayTo_succ, mayIn_can h (by omega), List.take_of_length_le]
      rw [List.length_append] at hj ⊢
      have h1 : (if canB wide xs ((m : Int) + 1) = true then [(m : Int) + 1] else []).length ≤ 1 := by split <;> simp
      omega

theorem mays_srch {wide : Int} {n : Nat} {S : List (List Int × Int)} {a : Nat} (h : Srch wide n S a 0) (ha : a < S.length) {j : Nat} (hj : j ≤ (mayL wide (bdS S a)).length) :
    ∃ m, m + 1 ≤ n ∧ maysS wide S a ((mayL wide (bdS S a)).take j) = tilesS wide S a m := by
  have hok := h.ok a ha
  have h2 := hok.1.1
  rw [mayL_in hok.1] at hj ⊢
  obtain ⟨m', h1, e⟩ := may_prefix hok.1 ((bdS S a).length - 1) (by omega) j hj
  have hl := hok.2
  exact ⟨m', by omega, by rw [e, tiles_mays h ha m' (by omega)]⟩

theorem mays_full {wide : Int} {n : Nat} {S : List (List Int × Int)} {a : Nat} (h : Srch wide n S a 0) (ha : a < S.length) : maysS wide S a (mayL wide (bdS S a)) = tilesS wide S a (n - 1) := by
  have hok := h.ok a ha
  have h2 := hok.1.1
  have hl := hok.2
  rw [mayL_in hok.1, tiles_mays h ha (n - 1) (by omega), hl]

/-! The queue. -/
def qR (wide : Int) (n : Nat) : List (Option Addr × Nat) → List Value
  | [] => []
  | p :: ps => .int .i64 wide :: .slice p.1 n p.2 :: qR wide n ps
theorem qR_length (wide : Int) (n : Nat) : ∀ ps, (qR wide n ps).length = ps.length * 2
  | [] => rfl
  | p :: ps => by simp only [qR, List.length_cons, qR_length wide n ps]; omega
theorem qR_snoc (wide : Int) (n : Nat) (p : Option Addr × Nat) : ∀ ps, qR wide n (ps ++ [p]) = qR wide n ps ++ [.int .i64 wide, .slice p.1 n p.2]
  | [] => rfl
  | q :: ps => by rw [List.cons_append, qR, qR_snoc wide n p ps, qR]; rfl
theorem qR_at (wide : Int) (n : Nat) : ∀ (ps : List (Option Addr × Nat)) (i : Nat), i < ps.length → (qR wide n ps)[i * 2]? = some (.int .i64 wide) ∧ (qR wide n ps)[i * 2 + 1]? = some (.slice (ps.getD i (none, 0)).1 n (ps.getD i (none, 0)).2)
  | [], i, h => by simp at h
  | p :: ps, 0, _ => ⟨rfl, rfl⟩
  | p :: ps, i + 1, h => by
    have ih := qR_at wide n ps i (by simpa using h)
    rw [show (i + 1) * 2 = i * 2 + 1 + 1 by omega, qR]
    simpa using ih

/-- A queue that this call made: its boards' tiles are this call's too. -/
def OwnQ (w : World) (B : Nat) (wide : Int) (n : Nat) (v : Value) (S : List (List Int × Int)) : Prop :=
  ∃ ps : List (Option Addr × Nat), ps.length = S.length ∧ w.ownsRow B 25 2 v S.length (qR wide n ps) ∧
    ∀ i, i < S.length → Own w B (.slice (ps.getD i (none, 0)).1 n (ps.getD i (none, 0)).2) (bdS S i) ∧ n ≤ (ps.getD i (none, 0)).2

theorem OwnQ.kept {w w' : World} {B n : Nat} {wide : Int} {v : Value} {S : List (List Int × Int)} {row : Option Nat} (h : OwnQ w B wide n v S) (hg : w.grownBy w' row) (hr : ∀ g, row = some g → g < B) : OwnQ w' B wide n v S := by
  obtain ⟨ps, h1, h2, h3⟩ := h
  have hne : ∀ u : Value, (∀ k, u.ownBlock = some k → B ≤ k) → u.ownBlock = none ∨ u.ownBlock ≠ row := fun u hu => by
    cases e : u.ownBlock with
    | none => exact .inl rfl
    | some k => exact .inr fun e2 => by have := hr k e2.symm; have := hu k e; omega
  exact ⟨ps, h1, h2.kept hg (hne _ fun k hk => (World.ownsRow.lt h2 k hk).1), fun i hi => ⟨(h3 i hi).1.kept hg (hne _ fun k hk => (World.ownsRow.lt (h3 i hi).1 k hk).1), (h3 i hi).2⟩⟩

theorem OwnQ.below {w w' : World} {B B' n : Nat} {wide : Int} {v : Value} {S : List (List Int × Int)} (h : OwnQ w B wide n v S) (hb : Below B' w w') (hB : w.heap.size ≤ B') : OwnQ w' B wide n v S :=
  h.kept (row := none) ⟨hb.os, hb.tape, hb.output, hb.size, fun k hk _ => hb.block k (Nat.lt_of_lt_of_le hk hB)⟩ (fun g e => by cases e)

theorem OwnQ.qt {w w' : World} {B n : Nat} {wide : Int} {v : Value} {S : List (List Int × Int)} (h : OwnQ w B wide n v S) (hq : Qt w w') : OwnQ w' B wide n v S := by
  obtain ⟨q, rfl⟩ := hq; exact h

theorem OwnQ.shape {w : World} {B n : Nat} {wide : Int} {v : Value} {S : List (List Int × Int)} (h : OwnQ w B wide n v S) (h0 : 0 < S.length) : ∃ g c, v = .slice (some ⟨g, 0, none⟩) S.length c ∧ B ≤ g ∧ g < w.heap.size := by
  obtain ⟨ps, h1, h2, h3⟩ := h
  have hl := World.ownsRow.lt h2
  rcases h2.2 with ⟨_, e⟩ | ⟨g, cap, cur, e, _⟩
  · omega
  · exact ⟨g, cap, e, hl g (by rw [e]; rfl)⟩

theorem OwnQ.at {w : World} {B n g m c : Nat} {wide : Int} {S : List (List Int × Int)} (h : OwnQ w B wide n (.slice (some ⟨g, 0, none⟩) m c) S) {i : Nat} (hi : i < S.length) :
    ∃ ao c2, w.cell? ⟨g, i * 2, none⟩ = some (.int .i64 wide) ∧ w.cell? ⟨g, i * 2 + 1, none⟩ = some (.slice ao n c2) ∧ n ≤ c2 ∧ Own w B (.slice ao n c2) (bdS S i) := by
  obtain ⟨ps, h1, h2, h3⟩ := h
  have hq := qR_at wide n ps i (by omega)
  have e0 := World.ownsRow.cells h2 (g := g) rfl _ _ hq.1
  have e1 := World.ownsRow.cells h2 (g := g) rfl _ _ hq.2
  rw [Addr.add_lit, Nat.zero_add] at e0 e1
  exact ⟨_, _, e0, e1, (h3 i hi).2, (h3 i hi).1⟩

theorem neBI : 25 ≠ 3 := by decide

theorem row_ne {w : World} {B B' n m : Nat} {v u : Value} {cs : List Value} {xs : List Int} (h : w.ownsRow B 25 2 v n cs) (h2 : w.ownsRow B' 3 1 u m (xs.map (Value.int .i64))) : u.ownBlock = none ∨ u.ownBlock ≠ v.ownBlock := by
  rcases h.2 with ⟨rfl, _⟩ | ⟨g, cap, cur, rfl, _, hg, _⟩
  · cases e : u.ownBlock with
    | none => exact .inl rfl
    | some k => exact .inr (by simp [Value.ownBlock])
  · rcases h2.2 with ⟨rfl, _⟩ | ⟨g', cap', cur', rfl, _, hg', _⟩
    · exact .inl rfl
    · refine .inr fun e => ?_
      simp only [Value.ownBlock, Option.some.injEq] at e
      subst e
      rw [hg] at hg'
      simp only [Option.some.injEq, Obj.cells.injEq] at hg'
      exact neBI hg'.2.1

theorem OwnQ.ne {w : World} {B B' n : Nat} {wide : Int} {v u : Value} {S : List (List Int × Int)} {xs : List Int} (h : OwnQ w B wide n v S) (h2 : Own w B' u xs) : u.ownBlock = none ∨ u.ownBlock ≠ v.ownBlock := by
  obtain ⟨ps, _, h3, _⟩ := h
  exact row_ne h3 h2

theorem Try.infoBoard : (Try.prog.info? 25).map (fun i => (i.zero, i.size, i.bytes)) = some (some (.agg #[.int .i64 0, .slice none 0 0]), 2, 32) := by kernel_rfl

/-- 'queue = append(queue, x)'. -/
theorem wpList_appendQ {ops : Array Oper} {rest : List Oper} {o : Oper} {a : Act} {Q : Exit → Act → World → Prop} {w : World} {B n gx c : Nat} {wide : Int} {v : Value} {S : List (List Int × Int)} {ao : Option Addr} {ys : List Int} (d : Int)
    (hgd : o.guard = none) (s x : Operand) (ho : o.op = .call { callee := .builtin .append, args := #[s, x], argTypes := #[70, 70] }) (hs : a.eval s = v) (hq : OwnQ w B wide n v S) (hl : S.length ≤ 1000)
    (hx : a.eval x = .slice (some ⟨gx, 0, none⟩) 1 1) (hb : Blk w gx #[.int .i64 wide, .slice ao n c] 25) (hnc : n ≤ c) (hy : Own w B (.slice ao n c) ys) (hB : B ≤ w.heap.size)
    (hK : ∀ v' w', OwnQ w' B wide n v' (S ++ [(ys, d)]) → w.grownBy w' v.ownBlock → wpList Try.prog ops Q rest (a.put o.dst v') w') : wpList Try.prog ops Q (o :: rest) a w := by
  obtain ⟨ps, h1, h2, h3⟩ := hq
  obtain ⟨i0, hi, hz0, hz1, hz2⟩ := info_parts Try.infoBoard
  refine wpList_append_own w hgd s x 70 ho B 25 i0 _ 2 32 Try.underlying70 hi hz0 hz1 hz2 rfl (by decide) v S.length _ hs h2 ⟨gx, 0, none⟩ 1 1 [.int .i64 wide, .slice ao n c] hx rfl ?_ ?_ (by unfold maxLen; omega) (by omega) hB ?_
  · intro j u hj
    rw [Addr.add_lit, Nat.zero_add, hb.cell]
    simpa using hj
  · intro u hu; simp at hu; rcases hu with rfl | rfl <;> rfl
  · intro v' w' hown hg _
    refine hK v' w' ⟨ps ++ [(ao, c)], by simp [h1], ?_, fun i hi => ?_⟩ hg
    · rw [List.length_append, qR_snoc]; exact hown
    · rw [List.length_append, List.length_singleton] at hi
      by_cases e : i < S.length
      · have h4 := h3 i e
        rw [bdS_old e]
        have e2 : (ps ++ [(ao, c)]).getD i (none, 0) = ps.getD i (none, 0) := by
          simp [List.getD_eq_getElem?_getD, List.getElem?_append, h1, e]
        rw [e2]
        exact ⟨h4.1.kept hg (row_ne h2 h4.1), h4.2⟩
      · obtain rfl : i = S.length := by omega
        rw [bdS_new]
        have e2 : (ps ++ [(ao, c)]).getD S.length (none, 0) = (ao, c) := by
          simp [List.getD_eq_getElem?_getD, h1]
        rw [e2]
        exact ⟨hy.kept hg (row_ne h2 hy), hnc⟩

end Go.Proofs.Ytfpckcmkikckgaa
