/- A map keyed by boards. -/
import Derived.Test.YtfpckcmkikckgaaSk
import Derived.Maps.OwnSet
import Derived.Maps.OwnOps
import Derived.DeepKeys4
namespace Go.Proofs.Ytfpckcmkikckgaa
open Go Go.RowKit Go.Maps

theorem laidOutK : laidOutB Try.prog = true := by kernel_rfl
theorem lawKey : Keyed Try.prog 53 := Keyed.of_law (deep_law_laid laidOutK (m := 2) (by omega) (of_decide_eq_true (by kernel_rfl)) (by kernel_rfl) (by kernel_rfl))

theorem zeroInt (w : World) : (zeroValue 3).run Try.prog w = .ok (.int .i64 0) w := by kernel_rfl

/-- A board as a map's key reads. -/
def keyD (xs : List Int) : Lit := .string (keyBytes [.int .i64 (nth xs 0), .int .i64 (nth xs 1), .int .i64 (nth xs 2), .int .i64 (nth xs 3), .int .i64 (nth xs 4), .int .i64 (nth xs 5)])

theorem keyTypeK : Try.prog.keyType 53 = true := by kernel_rfl
theorem cellsK : Try.prog.cellsOf 53 = 6 := by kernel_rfl
theorem cellsI : Try.prog.cellsOf 3 = 1 := by kernel_rfl
theorem sizeT : ∃ k, Try.prog.types.size = k + 2 := ⟨Try.prog.types.size - 2, by kernel_rfl⟩

theorem formedK (a b c d e f : Int) : (Value.agg #[.int .i64 a, .int .i64 b, .int .i64 c, .int .i64 d, .int .i64 e, .int .i64 f]).formed Try.prog 53 = true := by
  kernel_rfl

theorem keyOf_key {a b c d e f : Int} (ha : (Lit.int .i64 a).wf = true) (hb : (Lit.int .i64 b).wf = true) (hc : (Lit.int .i64 c).wf = true) (hd : (Lit.int .i64 d).wf = true) (he : (Lit.int .i64 e).wf = true) (hf : (Lit.int .i64 f).wf = true) :
    keyOf Try.prog 53 (.agg #[.int .i64 a, .int .i64 b, .int .i64 c, .int .i64 d, .int .i64 e, .int .i64 f]) = some (.string (keyBytes [.int .i64 a, .int .i64 b, .int .i64 c, .int .i64 d, .int .i64 e, .int .i64 f])) := by
  obtain ⟨k, hk⟩ := sizeT
  unfold keyOf
  rw [Try.underlying53, keyTypeK, formedK, hk]
  simp [Program.keyLits, Try.underlying53, Try.underlying3, cellsK, cellsI, ha, hb, hc, hd, he, hf, List.range, List.range.loop, Value.cells]

/-- A board of n places, n at most six. -/
def In6 (n : Nat) (xs : List Int) : Prop := n ≤ 6 ∧ Dis n xs ∧ xs.length = n

theorem In6.of {wide : Int} {n : Nat} {xs : List Int} (h : BoardOk wide xs) (hn : xs.length = n) (h6 : n ≤ 6) : In6 n xs := by
  subst hn; exact ⟨h6, h.2.2.2.2, rfl⟩

theorem In6.wf {n : Nat} {xs : List Int} (h : In6 n xs) (j : Nat) : (Lit.int .i64 (nth xs j)).wf = true := by
  obtain ⟨h6, hd, hl⟩ := h
  have hb : 0 ≤ nth xs j ∧ nth xs j ≤ 9 := by
    by_cases hj : j < xs.length
    · have := hd.1 _ (nth_mem hj); omega
    · rw [nth_out (by omega)]; omega
  exact WalkArith.wf_i64 (by omega)

theorem keyOf_keyV {n : Nat} {xs : List Int} (h : In6 n xs) : keyOf Try.prog 53 (keyV xs) = some (keyD xs) :=
  keyOf_key (h.wf 0) (h.wf 1) (h.wf 2) (h.wf 3) (h.wf 4) (h.wf 5)

theorem keyV_inj {n : Nat} {xs ys : List Int} (hx : In6 n xs) (hy : In6 n ys) (h : keyV xs = keyV ys) : xs = ys := by
  simp only [keyV, Value.agg.injEq, Array.mk.injEq, List.cons.injEq, Value.int.injEq, true_and, and_true] at h
  refine ext_nth (by rw [hx.2.2, hy.2.2]) fun j hj => ?_
  have h6 := hx.1
  rw [hx.2.2] at hj
  match j, hj with
  | 0, _ => exact h.1
  | 1, _ => exact h.2.1
  | 2, _ => exact h.2.2.1
  | 3, _ => exact h.2.2.2.1
  | 4, _ => exact h.2.2.2.2.1
  | 5, _ => exact h.2.2.2.2.2
  | k + 6, hk => omega

theorem keyD_inj {n : Nat} {xs ys : List Int} (hx : In6 n xs) (hy : In6 n ys) (h : keyD xs = keyD ys) : xs = ys :=
  keyV_inj hx hy (lawKey.inj (keyOf_keyV hx) (h ▸ keyOf_keyV hy))

/-- A map that holds what a search has found. -/
def MapD (n : Nat) (D : DataW Unit) (S : List (List Int × Int)) : Prop :=
  IsMap D ∧ ∀ xs, In6 n xs → Maps.has D (keyD xs) = hasS S xs ∧ D.atKey (keyD xs) (.lit (.int .i64 0)) = .lit (.int .i64 (if hasS S xs = true then farS S xs else 0))
def MapS (w : World) (b n : Nat) (S : List (List Int × Int)) : Prop :=
  ∃ D : DataW Unit, w.ownsMap Try.prog 53 (plainElem Try.prog 3) b S.length D ∧ MapD n D S

theorem hasS_snoc (S : List (List Int × Int)) (ys xs : List Int) (d : Int) : hasS (S ++ [(ys, d)]) xs = (hasS S xs || decide (xs = ys)) := by
  unfold hasS
  rw [Bool.eq_iff_iff]
  simp [List.mem_append, or_comm]

theorem farS_snoc {S : List (List Int × Int)} {ys : List Int} (xs : List Int) (d : Int) (h : hasS S ys = false) : farS (S ++ [(ys, d)]) xs = if xs = ys then d else farS S xs := by
  unfold farS
  rw [List.find?_append]
  by_cases e : xs = ys
  · subst e
    have hn : S.find? (fun p => p.1 == xs) = none := by
      rw [List.find?_eq_none]
      intro p hp hc
      have : hasS S xs = true := by
        unfold hasS
        rw [decide_eq_true_iff, List.mem_map]
        exact ⟨p, hp, by simpa using hc⟩
      rw [h] at this; simp at this
    rw [hn]
    simp
  · rw [if_neg e]
    have e' : ¬ ys = xs := fun h => e h.symm
    simp [e']

theorem MapD.nil (n : Nat) : MapD n (.map []) [] := ⟨isMap_empty, fun _ _ => ⟨rfl, rfl⟩⟩

theorem MapD.put {n : Nat} {D : DataW Unit} {S : List (List Int × Int)} (h : MapD n D S) {ys : List Int} (hy : In6 n ys) {d : Int} (hs : hasS S ys = false) :
    MapD n (D.put (keyD ys) (.lit (.int .i64 d))) (S ++ [(ys, d)]) := by
  refine ⟨h.1.put _ _, fun xs hx => ?_⟩
  rw [hasS_snoc, farS_snoc xs d hs]
  by_cases e : xs = ys
  · subst e
    rw [has_put_same h.1 (lawKey.key (keyOf_keyV hy)), atKey_put_same h.1 (lawKey.key (keyOf_keyV hy))]
    simp
  · have hne : keyD xs ≠ keyD ys := fun e2 => e (keyD_inj hx hy e2)
    rw [has_put_other hne, atKey_put_other hne]
    simpa [e] using h.2 xs hx

theorem MapS.lt {w : World} {b n : Nat} {S : List (List Int × Int)} (h : MapS w b n S) : b < w.heap.size := by
  obtain ⟨D, h1, _⟩ := h; exact h1.lt
theorem MapS.kept {w w' : World} {b n : Nat} {S : List (List Int × Int)} {row : Option Nat} (h : MapS w b n S) (hg : w.grownBy w' row) (hne : some b ≠ row) : MapS w' b n S := by
  obtain ⟨D, h1, h2⟩ := h; exact ⟨D, h1.kept hg hne, h2⟩
theorem MapS.below {w w' : World} {b n B : Nat} {S : List (List Int × Int)} (h : MapS w b n S) (hb : Below B w w') (hB : b < B) : MapS w' b n S := by
  obtain ⟨D, ⟨es, clock, he, r⟩, h2⟩ := h
  exact ⟨D, ⟨es, clock, by rw [hb.block b hB]; exact he, r⟩, h2⟩
theorem MapS.qt {w w' : World} {b n : Nat} {S : List (List Int × Int)} (h : MapS w b n S) (hq : Qt w w') : MapS w' b n S := by
  obtain ⟨q, rfl⟩ := hq; exact h

/-- What the map holds at a board. -/
def valS (S : List (List Int × Int)) (xs : List Int) : Int := if hasS S xs = true then farS S xs else 0
theorem valS_in {S : List (List Int × Int)} {xs : List Int} (h : hasS S xs = true) : valS S xs = farS S xs := if_pos h

/-- A look-up. -/
theorem MapS.look {w : World} {b n : Nat} {S : List (List Int × Int)} (h : MapS w b n S) {xs : List Int} (hx : In6 n xs) :
    (Instr.lookup 48 (.map (some b)) (keyV xs) false).run Try.prog w = .ok (.int .i64 (valS S xs)) w := by
  obtain ⟨D, h1, h2⟩ := h
  obtain ⟨c, hrun, hat, _⟩ := h1.lookup_int lawKey Try.underlying48 Try.underlying3 (zeroInt w) (keyOf_keyV hx)
  rw [(h2.2 xs hx).2] at hat
  simp only [DataW.lit.injEq, Lit.int.injEq, true_and] at hat
  rw [hrun, ← hat]; rfl

theorem MapS.lookOk {w : World} {b n : Nat} {S : List (List Int × Int)} (h : MapS w b n S) {xs : List Int} (hx : In6 n xs) :
    (Instr.lookup 48 (.map (some b)) (keyV xs) true).run Try.prog w = .ok (.tuple #[.int .i64 (valS S xs), .bool (hasS S xs)]) w := by
  obtain ⟨D, h1, h2⟩ := h
  obtain ⟨v, ps, hrun, hv⟩ := h1.look_ok lawKey Try.underlying48 (zeroInt w) (plainElem_int (H := Unit) Try.underlying3 (by decide)) (keyOf_keyV hx)
  obtain ⟨c, rfl, hc, hwc⟩ := plainElem_int_inv Try.underlying3 hv
  have hat := congrArg Prod.fst hc
  rw [(h2.2 xs hx).2] at hat
  simp only [DataW.lit.injEq, Lit.int.injEq, true_and] at hat
  rw [hrun, ← hat, (h2.2 xs hx).1]; rfl

theorem MapS.store {w : World} {b n : Nat} {S : List (List Int × Int)} (h : MapS w b n S) (hl : S.length < 1000000) {ys : List Int} (hy : In6 n ys) (hs : hasS S ys = false) {d : Int} (hd : -1000000 ≤ d ∧ d ≤ 1000000) :
    ∃ w', (Instr.mapUpdate 48 (.map (some b)) (keyV ys) (.int .i64 d)).run Try.prog w = .ok () w' ∧ MapS w' b n (S ++ [(ys, d)]) ∧ w.grownBy w' (some b) := by
  obtain ⟨D, h1, h2⟩ := h
  obtain ⟨w', hrun, r1, r2⟩ := h1.update lawKey Try.underlying48 (by unfold maxLen; omega) (keyOf_keyV hy) (plainElem_int (H := Unit) Try.underlying3 (a := d) (WalkArith.wf_i64 (by omega)))
  refine ⟨w', hrun, ⟨_, ?_, h2.put hy hs⟩, r2⟩
  rw [List.length_append]
  exact r1

/-- 'far[next] = d' at the operation. -/
theorem wpList_mapS {w : World} {ops : Array Oper} {rest : List Oper} {o : Oper} {a : Act} {Q : Exit → Act → World → Prop} (hg : o.guard = none) (m x v : Operand)
    (hop : o.op = Op.mapUpdate 48 m x v) (b n : Nat) (S : List (List Int × Int)) (hm : a.eval m = .map (some b)) (h : MapS w b n S) (hl : S.length < 1000000) (ys : List Int) (hx : a.eval x = keyV ys)
    (d : Int) (hv : a.eval v = .int .i64 d) (hy : In6 n ys) (hs : hasS S ys = false) (hd : -1000000 ≤ d ∧ d ≤ 1000000)
    (hK : ∀ w', MapS w' b n (S ++ [(ys, d)]) → w.grownBy w' (some b) → wpList Try.prog ops Q rest (a.put o.dst undef) w') :
    wpList Try.prog ops Q (o :: rest) a w := by
  refine wpList_plain hg fun K' hK' => ?_
  obtain ⟨w', hrun, r1, r2⟩ := h.store hl hy hs hd
  unfold Oper.wp
  simp [execOp, hop, hm, hx, hv, hrun, Result.andThen]
  exact hK' _ _ (hK w' r1 r2)

theorem wpList_mapS0 {w : World} {ops : Array Oper} {rest : List Oper} {o : Oper} {a : Act} {Q : Exit → Act → World → Prop} (hg : o.guard = none) (m x v : Operand)
    (hop : o.op = Op.insert 48 m x v) (b n : Nat) (S : List (List Int × Int)) (hm : a.eval m = .map (some b)) (h : MapS w b n S) (hl : S.length < 1000000) (ys : List Int) (hx : a.eval x = keyV ys)
    (d : Int) (hv : a.eval v = .int .i64 d) (hy : In6 n ys) (hs : hasS S ys = false) (hd : -1000000 ≤ d ∧ d ≤ 1000000)
    (hK : ∀ w', MapS w' b n (S ++ [(ys, d)]) → w.grownBy w' (some b) → wpList Try.prog ops Q rest (a.put o.dst undef) w') :
    wpList Try.prog ops Q (o :: rest) a w := by
  refine wpList_plain hg fun K' hK' => ?_
  obtain ⟨w', hrun, r1, r2⟩ := h.store hl hy hs hd
  unfold Oper.wp
  simp [execOp, hop, hm, hx, hv, hrun, Result.andThen]
  exact hK' _ _ (hK w' r1 r2)

theorem MapS.made (w : World) (n : Nat) : MapS (w.alloc (.map #[] 0)) w.heap.size n [] :=
  ⟨_, World.ownsMap_made _ _ _ _, MapD.nil n⟩

/-! A slice of boards. -/
def keyC (xs : List Int) : List Value := [.int .i64 (nth xs 0), .int .i64 (nth xs 1), .int .i64 (nth xs 2), .int .i64 (nth xs 3), .int .i64 (nth xs 4), .int .i64 (nth xs 5)]
theorem keyC_length (xs : List Int) : (keyC xs).length = 6 := rfl
theorem keyC_one (xs : List Int) : ∀ u ∈ keyC xs, u.oneCell' = true := by intro u hu; simp [keyC] at hu; rcases hu with rfl | rfl | rfl | rfl | rfl | rfl <;> rfl
theorem keyC_at (xs : List Int) {j : Nat} (h : j < 6) : (keyC xs)[j]? = some (.int .i64 (nth xs j)) := by
  match j, h with
  | 0, _ => rfl
  | 1, _ => rfl
  | 2, _ => rfl
  | 3, _ => rfl
  | 4, _ => rfl
  | 5, _ => rfl
def rowC : List (List Int) → List Value
  | [] => []
  | xs :: l => keyC xs ++ rowC l
theorem rowC_length : ∀ l : List (List Int), (rowC l).length = l.length * 6
  | [] => rfl
  | xs :: l => by rw [rowC, List.length_append, keyC_length, rowC_length l, List.length_cons]; omega
theorem rowC_snoc (xs : List Int) : ∀ l : List (List Int), rowC (l ++ [xs]) = rowC l ++ keyC xs
  | [] => by simp [rowC]
  | ys :: l => by rw [List.cons_append, rowC, rowC_snoc xs l, rowC, List.append_assoc]
theorem rowC_at : ∀ (l : List (List Int)) (i : Nat) {j : Nat}, i < l.length → j < 6 → (rowC l)[i * 6 + j]? = some (.int .i64 (nth (l.getD i []) j))
  | [], i, j, h, _ => by simp at h
  | xs :: l, 0, j, _, hj => by
    rw [rowC, List.getElem?_append_left (by rw [keyC_length]; omega), show 0 * 6 + j = j by omega, keyC_at xs hj]; rfl
  | xs :: l, i + 1, j, h, hj => by
    rw [rowC, List.getElem?_append_right (by rw [keyC_length]; omega), keyC_length, show (i + 1) * 6 + j - 6 = i * 6 + j by omega, rowC_at l i (by simpa using h) hj]; rfl

def OwnK (w : World) (B : Nat) (v : Value) (S : List (List Int × Int)) : Prop := w.ownsRow B 53 6 v S.length (rowC (S.map Prod.fst))

theorem OwnK.addr {w : World} {B n c : Nat} {ao : Option Addr} {S : List (List Int × Int)} (h : OwnK w B (.slice ao n c) S) (h0 : 0 < S.length) : ∃ g, ao = some ⟨g, 0, none⟩ ∧ n = S.length ∧ B ≤ g ∧ g < w.heap.size := by
  have hlt := World.ownsRow.lt h
  rcases h.2 with ⟨e, h1⟩ | ⟨g, cap, cur, e, hb, _⟩
  · omega
  · simp only [Value.slice.injEq] at e
    exact ⟨g, e.1, e.2.1, hb, (hlt g (by rw [e.1]; rfl)).2⟩

theorem OwnK.cell {w : World} {B g n c : Nat} {S : List (List Int × Int)} (h : OwnK w B (.slice (some ⟨g, 0, none⟩) n c) S) {i j : Nat} (hi : i < S.length) (hj : j < 6) : w.cell? ⟨g, i * 6 + j, none⟩ = some (.int .i64 (nth (bdS S i) j)) := by
  have := World.ownsRow.cells h (g := g) rfl (i * 6 + j) _ (rowC_at _ i (by simpa using hi) hj)
  rw [Addr.add_lit, Nat.zero_add] at this
  rw [this]
  simp [bdS, hi]

theorem OwnK.kept {w w' : World} {B : Nat} {v : Value} {S : List (List Int × Int)} {row : Option Nat} (h : OwnK w B v S) (hg : w.grownBy w' row) (hne : v.ownBlock = none ∨ v.ownBlock ≠ row) : OwnK w' B v S := World.ownsRow.kept h hg hne
theorem OwnK.qt {w w' : World} {B : Nat} {v : Value} {S : List (List Int × Int)} (h : OwnK w B v S) (hq : Qt w w') : OwnK w' B v S := by
  obtain ⟨q, rfl⟩ := hq; exact h
theorem OwnK.lt {w : World} {B : Nat} {v : Value} {S : List (List Int × Int)} (h : OwnK w B v S) : ∀ k, v.ownBlock = some k → B ≤ k ∧ k < w.heap.size := World.ownsRow.lt h
theorem OwnK.shape {w : World} {B : Nat} {v : Value} {S : List (List Int × Int)} (h : OwnK w B v S) (h0 : 0 < S.length) : ∃ g c, v = .slice (some ⟨g, 0, none⟩) S.length c := by
  rcases h.2 with ⟨_, h1⟩ | ⟨g, cap, cur, e, _⟩
  · omega
  · exact ⟨g, cap, e⟩
theorem OwnK.appended {w : World} {B : Nat} {v : Value} {S : List (List Int × Int)} {ys : List Int} {d : Int} (h : w.ownsRow B 53 6 v (S.length + 1) (rowC (S.map Prod.fst) ++ keyC ys)) : OwnK w B v (S ++ [(ys, d)]) := by
  unfold OwnK
  rw [List.length_append, List.map_append, List.map_cons, List.map_nil, rowC_snoc]
  exact h

theorem Try.infoKey : (Try.prog.info? 53).map (fun i => (i.zero, i.size, i.bytes)) = some (some (.agg #[.int .i64 0, .int .i64 0, .int .i64 0, .int .i64 0, .int .i64 0, .int .i64 0]), 6, 48) := by kernel_rfl

end Go.Proofs.Ytfpckcmkikckgaa
