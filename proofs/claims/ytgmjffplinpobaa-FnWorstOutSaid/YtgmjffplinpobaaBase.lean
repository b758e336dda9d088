/- Lists of int in memory, and small laws on worlds: what every text of this seat uses. -/
import Derived.Test.YtgmjffplinpobaaChecked
import Derived.WalkKit
import Derived.Deep.Draws
import Derived.KernelRfl
namespace Go.Proofs.Ytgmjffplinpobaa
open Go Go.RowKit

/-- A fact kept from the walk. -/
theorem hid {p : Prop} (h : p) : Hid p := h

/-- The number at place j (0 past the end): closed to simp. -/
def nth (xs : List Int) (j : Nat) : Int := xs.getD j 0

/-- All of a list's numbers are int64's. -/
def I64 (xs : List Int) : Prop := ∀ x ∈ xs, -9223372036854775808 ≤ x ∧ x ≤ 9223372036854775807

theorem nth_mem {xs : List Int} {j : Nat} (h : j < xs.length) : nth xs j ∈ xs := by
  unfold nth; simp [List.getD, h]

theorem nth_eq {xs : List Int} {j : Nat} (h : j < xs.length) : nth xs j = xs[j] := by
  unfold nth; simp [List.getD, h]

theorem I64.nth {xs : List Int} (h : I64 xs) {j : Nat} (hj : j < xs.length) : -9223372036854775808 ≤ nth xs j ∧ nth xs j ≤ 9223372036854775807 := h _ (nth_mem hj)

theorem take_succ_nth {xs : List Int} {k : Nat} (h : k < xs.length) : xs.take (k + 1) = xs.take k ++ [nth xs k] := by
  rw [nth_eq h, List.take_add_one]; simp [h]

theorem ext_nth {xs ys : List Int} (hl : xs.length = ys.length) (h : ∀ j, j < xs.length → nth xs j = nth ys j) : xs = ys := by
  refine List.ext_getElem hl fun j h1 h2 => ?_
  rw [← nth_eq h1, ← nth_eq h2]; exact h j h1

theorem nth_set {xs : List Int} {k j : Nat} {x : Int} (hk : k < xs.length) : nth (xs.set k x) j = if j = k then x else nth xs j := by
  unfold nth
  simp only [List.getD_eq_getElem?_getD, List.getElem?_set]
  by_cases h : k = j
  · subst h; simp [hk]
  · have h' : ¬ j = k := fun e => h e.symm
    simp [h, h']

theorem nth_app1 {xs ys : List Int} {j : Nat} (h : j < xs.length) : nth (xs ++ ys) j = nth xs j := by
  unfold nth; simp [List.getD_eq_getElem?_getD, List.getElem?_append, h]

theorem nth_app2 {xs ys : List Int} {j : Nat} (h : xs.length ≤ j) : nth (xs ++ ys) j = nth ys (j - xs.length) := by
  unfold nth; simp [List.getD_eq_getElem?_getD, List.getElem?_append, Nat.not_lt.2 h]

theorem nth_take {xs : List Int} {j k : Nat} (h : j < k) : nth (xs.take k) j = nth xs j := by
  unfold nth; simp [List.getD_eq_getElem?_getD, h]

/-- A slice with this address, and as long as xs, reads as xs. -/
def IntsAt (w : World) (ao : Option Addr) (xs : List Int) : Prop :=
  0 < xs.length → ∃ b off, ao = some ⟨b, off, none⟩ ∧ ∀ j, j < xs.length → w.cell? ⟨b, off + j, none⟩ = some (.int .i64 (nth xs j))

theorem IntsAt.nil (w : World) (ao : Option Addr) : IntsAt w ao [] := fun h => absurd h (by simp)

theorem IntsAt.below {w w' : World} {ao : Option Addr} {xs : List Int} {B : Nat} (h : IntsAt w ao xs) (hb : Below B w w') (hB : w.heap.size ≤ B) : IntsAt w' ao xs := by
  intro h0
  obtain ⟨b, off, rfl, hc⟩ := h h0
  refine ⟨b, off, rfl, fun j hj => ?_⟩
  have hlt := World.block_lt_of_cell? _ _ (hc j hj)
  rw [hb.cell (p := ⟨b, off + j, none⟩) (Nat.lt_of_lt_of_le hlt hB)]
  exact hc j hj

theorem IntsAt.take {w : World} {ao : Option Addr} {xs : List Int} (h : IntsAt w ao xs) (k : Nat) : IntsAt w ao (xs.take k) := by
  intro h0
  simp only [List.length_take] at h0
  obtain ⟨b, off, rfl, hc⟩ := h (by omega)
  refine ⟨b, off, rfl, fun j hj => ?_⟩
  simp only [List.length_take] at hj
  rw [nth_take (by omega)]
  exact hc j (by omega)

theorem IntsAt.drewN {w : World} {ao : Option Addr} {xs : List Int} (h : IntsAt w ao xs) (q : Nat) : IntsAt (w.drewN q) ao xs := h

theorem IntsAt.alloc {w : World} {ao : Option Addr} {xs : List Int} (h : IntsAt w ao xs) (o : Obj) : IntsAt (w.alloc o) ao xs :=
  h.below ((Below.refl w.heap.size w).alloc (Nat.le_refl _) o) (Nat.le_refl _)

/-- A slice that this call made (blocks from B on) holds the numbers xs. -/
def Own (w : World) (B : Nat) (v : Value) (xs : List Int) : Prop := w.ownsRow B 3 1 v xs.length (xs.map (Value.int .i64))

theorem Own.nil (w : World) (B : Nat) : Own w B (.slice none 0 0) [] := World.ownsRow_nil w B 3 1

theorem Own.shape {w : World} {B : Nat} {v : Value} {xs : List Int} (h : Own w B v xs) : ∃ ao c, v = .slice ao xs.length c ∧ IntsAt w ao xs ∧ xs.length ≤ c := by
  rcases h.2 with ⟨rfl, h0⟩ | ⟨g, cap, cur, rfl, hb, hg, hnc, r⟩
  · have : xs = [] := List.eq_nil_of_length_eq_zero h0
    subst this
    exact ⟨none, 0, rfl, IntsAt.nil _ _, Nat.le_refl _⟩
  · refine ⟨some ⟨g, 0, none⟩, cap, rfl, fun h0 => ⟨g, 0, rfl, fun j hj => ?_⟩, hnc⟩
    have := h.cellAt j (by omega)
    rw [Nat.zero_add, this]
    simp [nth, hj]

theorem Own.shapeN {w : World} {B n : Nat} {v : Value} {xs : List Int} (h : Own w B v xs) (hn : xs.length = n) : ∃ ao c, v = .slice ao n c ∧ IntsAt w ao xs ∧ n ≤ c := by
  subst hn; exact h.shape

theorem Own.ints {w : World} {B : Nat} {ao : Option Addr} {n c : Nat} {xs : List Int} (h : Own w B (.slice ao n c) xs) : IntsAt w ao xs := by
  obtain ⟨ao', c', e, hi, _⟩ := h.shape
  simp only [Value.slice.injEq] at e
  obtain ⟨rfl, rfl, rfl⟩ := e
  exact hi

theorem Own.below {w w' : World} {B B' : Nat} {v : Value} {xs : List Int} (h : Own w B v xs) (hb : Below B' w w') (hB : w.heap.size ≤ B') : Own w' B v xs :=
  World.ownsRow.kept (row := none) h ⟨hb.os, hb.tape, hb.output, hb.size, fun k hk _ => hb.block k (Nat.lt_of_lt_of_le hk hB)⟩ (by cases hv : v.ownBlock <;> simp)

theorem Own.lower {w : World} {B B' : Nat} {v : Value} {xs : List Int} (h : Own w B v xs) (hB : B' ≤ B) : Own w B' v xs := by
  refine ⟨h.1, ?_⟩
  rcases h.2 with h2 | ⟨g, cap, cur, hv, hg, r⟩
  · exact .inl h2
  · exact .inr ⟨g, cap, cur, hv, Nat.le_trans hB hg, r⟩

theorem Own.drewN {w : World} {B : Nat} {v : Value} {xs : List Int} (h : Own w B v xs) (q : Nat) : Own (w.drewN q) B v xs := h

theorem Own.alloc {w : World} {B : Nat} {v : Value} {xs : List Int} (h : Own w B v xs) (o : Obj) : Own (w.alloc o) B v xs := World.ownsRow.alloc h o

/-- Behind the law on make. -/
theorem Own.made {w : World} {B g n : Nat} (h : w.ownsRow B 3 1 (.slice (some ⟨g, 0, none⟩) n n) n (madeCells #[Value.int .i64 0] n).toList) :
    Own w B (.slice (some ⟨g, 0, none⟩) n n) (List.replicate n 0) := by
  have e : (madeCells #[Value.int .i64 0] n).toList = (List.replicate n (0 : Int)).map (Value.int .i64) := by
    rw [toList_madeCells_one, List.map_replicate]
  rw [e] at h
  unfold Own
  rw [List.length_replicate]
  exact h

/-- '[]int{}'. -/
theorem Own.lit0 (w : World) {B : Nat} (hB : B ≤ w.heap.size) : Own (w.alloc (.cells #[] 3)) B (.slice (some ⟨w.heap.size, 0, none⟩) 0 0) [] :=
  World.ownsRow_lit w #[] 0 hB (Nat.zero_le _) rfl

/-- What 'append(out, x)' lays first. -/
theorem cell1 (w : World) (x : Value) (t : TypeId) : ∀ j u, [x][j]? = some u → (w.alloc (.cells #[x] t)).cell? ((⟨w.heap.size, 0, none⟩ : Addr).add j) = some u := by
  intro j u hj
  match j, hj with
  | 0, hj => simp at hj; subst hj; simp [Addr.add]

theorem cell1_one (x : Int) : ∀ u ∈ [Value.int .i64 x], u.oneCell' = true := by intro u hu; simp at hu; subst hu; rfl

/-- Behind the law on append. -/
theorem Own.appended {w : World} {B : Nat} {v : Value} {xs : List Int} {x : Int} (h : w.ownsRow B 3 1 v (xs.length + 1) (xs.map (Value.int .i64) ++ [.int .i64 x])) : Own w B v (xs ++ [x]) := by
  unfold Own
  rw [List.length_append, List.map_append]
  exact h

/-- A store at place j of an owned row. -/
theorem Own.stored {w : World} {B g n c : Nat} {xs : List Int} (h : Own w B (.slice (some ⟨g, 0, none⟩) n c) xs) (hn : n = xs.length) (j : Nat) (x : Int) :
    Own (w.setCell ⟨g, j, none⟩ (.int .i64 x)) B (.slice (some ⟨g, 0, none⟩) n c) (xs.set j x) := by
  subst hn
  have := (World.ownsRow.stored h j (.int .i64 x)).1
  unfold Own
  rw [List.length_set, List.map_set]
  exact this

theorem Own.base {w : World} {B g n c : Nat} {xs : List Int} (h : Own w B (.slice (some ⟨g, 0, none⟩) n c) xs) : B ≤ g ∧ g < w.heap.size :=
  World.ownsRow.lt h g rfl

theorem Own.cell {w : World} {B g n c : Nat} {xs : List Int} (h : Own w B (.slice (some ⟨g, 0, none⟩) n c) xs) {j : Nat} (hj : j < xs.length) : w.cell? ⟨g, j, none⟩ = some (.int .i64 (nth xs j)) := by
  obtain ⟨b, off, e, hc⟩ := h.ints (by omega)
  simp only [Option.some.injEq, Addr.mk.injEq, and_true] at e
  obtain ⟨rfl, rfl⟩ := e
  have := hc j hj
  rwa [Nat.zero_add] at this

theorem Own.free {w : World} {B g n c : Nat} {xs : List Int} (h : Own w B (.slice (some ⟨g, 0, none⟩) n c) xs) (hn : n = xs.length) (j : Nat) : w.frozen? ⟨g, j, none⟩ = false := by
  subst hn
  exact World.ownsRow.frozenAt h j

theorem Own.addr {w : World} {B n c : Nat} {ao : Option Addr} {xs : List Int} (h : Own w B (.slice ao n c) xs) (h0 : 0 < xs.length) : ∃ g, ao = some ⟨g, 0, none⟩ := by
  rcases h.2 with ⟨e, h1⟩ | ⟨g, cap, cur, e, _⟩
  · omega
  · simp only [Value.slice.injEq] at e
    exact ⟨g, e.1⟩

theorem Own.kept {w w' : World} {B : Nat} {v : Value} {xs : List Int} {row : Option Nat} (h : Own w B v xs) (hg : w.grownBy w' row) (hne : v.ownBlock = none ∨ v.ownBlock ≠ row) : Own w' B v xs := World.ownsRow.kept h hg hne

/-- What is owned from the world w on lies apart from what was owned before. -/
theorem Own.apart {w w' : World} {B B' : Nat} {v v' : Value} {xs ys : List Int} (h : Own w B v xs) (h' : Own w' B' v' ys) (hs : w.heap.size ≤ B') : v.ownBlock = none ∨ v.ownBlock ≠ v'.ownBlock := by
  cases hv : v.ownBlock with
  | none => exact .inl rfl
  | some k =>
    refine .inr fun e => ?_
    have h1 := World.ownsRow.lt h k hv
    have h2 := World.ownsRow.lt h' k e.symm
    omega

theorem Own.apart' {w w' : World} {B B' : Nat} {v v' : Value} {xs ys : List Int} (h : Own w B v xs) (h' : Own w' B' v' ys) (hs : w.heap.size ≤ B') : v'.ownBlock = none ∨ v'.ownBlock ≠ v.ownBlock := by
  rcases h.apart h' hs with e | e
  · cases hv : v'.ownBlock with
    | none => exact .inl rfl
    | some k => exact .inr (by rw [e]; simp)
  · exact .inr fun h => e h.symm

/-- What a call wrote into an owned list alone leaves alone what was there before. -/
theorem Own.belowKept {W w w' : World} {B : Nat} {v : Value} {xs : List Int} (h : Own w B v xs) (hb : Below W.heap.size W w) (hg : w.grownBy w' v.ownBlock) (hB : W.heap.size ≤ B) : Below W.heap.size W w' :=
  hb.grown hg hb.size (fun k hk => Nat.le_trans hB (World.ownsRow.lt h k hk).1)

theorem grownBy_refl (w : World) (row : Option Nat) : w.grownBy w row := ⟨rfl, rfl, rfl, Nat.le_refl _, fun _ _ _ => rfl⟩

theorem grownBy_trans {a b c : World} {row : Option Nat} (h : a.grownBy b row) (k : b.grownBy c row) : a.grownBy c row :=
  ⟨k.os.trans h.os, k.tape.trans h.tape, k.output.trans h.output, Nat.le_trans h.size k.size, fun i hi hr => (k.block i (Nat.lt_of_lt_of_le hi h.size) hr).trans (h.block i hi hr)⟩

theorem grownBy_setCell (w : World) (g j : Nat) (u : Value) : w.grownBy (w.setCell ⟨g, j, none⟩ u) (some g) :=
  ⟨rfl, rfl, rfl, by simp [World.setCell], fun k _ hk => Below.heap_setCell w ⟨g, j, none⟩ u k (fun e => hk (by simp at e; rw [e]))⟩

/-- k, k + 1, .. : n of them. -/
def iota (k : Int) (n : Nat) : List Int := (List.range n).map (fun j : Nat => k + j)
theorem length_iota (k : Int) (n : Nat) : (iota k n).length = n := by simp [iota]
theorem iota_succ (k : Int) (n : Nat) : iota k (n + 1) = iota k n ++ [k + n] := by simp [iota, List.range_succ]
theorem iota_zero (k : Int) : iota k 0 = [] := rfl
theorem nth_iota {k : Int} {n j : Nat} (h : j < n) : nth (iota k n) j = k + j := by
  rw [nth_eq (by rw [length_iota]; exact h)]; simp [iota]

/-- What has been written of a list of n numbers: the first of them, then zeros. -/
def filled (xs : List Int) (n : Nat) : List Int := xs ++ List.replicate (n - xs.length) 0

theorem length_filled {xs : List Int} {n : Nat} (h : xs.length ≤ n) : (filled xs n).length = n := by simp [filled]; omega
theorem filled_nil (n : Nat) : filled [] n = List.replicate n 0 := by simp [filled]
theorem filled_full {xs : List Int} {n : Nat} (h : xs.length = n) : filled xs n = xs := by simp [filled, h]
theorem filled_set {xs : List Int} {n k : Nat} {x : Int} (hk : xs.length = k) (h : k < n) : (filled xs n).set k x = filled (xs ++ [x]) n := by
  unfold filled
  rw [List.set_append_right _ _ (by omega), hk, Nat.sub_self, show n - k = (n - (k + 1)) + 1 from by omega, List.replicate_succ, List.set_cons_zero]
  simp [hk]

/-- A call that only reads (it may draw). -/
def Qt (w w' : World) : Prop := ∃ q, w' = w.drewN q
theorem Qt.refl (w : World) : Qt w w := ⟨0, rfl⟩
theorem Qt.drewN {w w' : World} (h : Qt w w') (q : Nat) : Qt w (w'.drewN q) := by
  obtain ⟨p, rfl⟩ := h
  exact ⟨p + q, by rw [World.drewN_drewN]⟩
theorem IntsAt.qt {w w' : World} {ao : Option Addr} {xs : List Int} (h : IntsAt w ao xs) (hq : Qt w w') : IntsAt w' ao xs := by
  obtain ⟨q, rfl⟩ := hq
  exact h
theorem Qt.below {w w' : World} (h : Qt w w') (B : Nat) : Below B w w' := by
  obtain ⟨p, rfl⟩ := h
  exact ⟨rfl, rfl, rfl, Nat.le_refl _, fun _ _ => rfl⟩

theorem bcell {W w1 : World} (hb : Below W.heap.size W w1) : (∀ b o, b < W.heap.size → w1.cell? ⟨b, o, none⟩ = W.cell? ⟨b, o, none⟩) ∧ (∀ b o, b < W.heap.size → w1.frozen? ⟨b, o, none⟩ = W.frozen? ⟨b, o, none⟩) :=
  ⟨fun b o h => hb.cell (p := ⟨b, o, none⟩) h, fun b o h => hb.frozen (p := ⟨b, o, none⟩) h⟩

/-- A store into another block. -/
theorem Own.setOther {w : World} {B : Nat} {v : Value} {xs : List Int} (h : Own w B v xs) (g j : Nat) (u : Value) (hne : v.ownBlock = none ∨ v.ownBlock ≠ some g) : Own (w.setCell ⟨g, j, none⟩ u) B v xs :=
  h.kept (grownBy_setCell w g j u) hne

theorem Own.ne_of_lt {w : World} {B g : Nat} {v : Value} {xs : List Int} (h : Own w B v xs) (hg : g < B) : v.ownBlock = none ∨ v.ownBlock ≠ some g := by
  cases hv : v.ownBlock with
  | none => exact .inl rfl
  | some k => exact .inr fun e => by have := (World.ownsRow.lt h k hv).1; simp at e; omega

/-- A variable of the call's own: a block of cells, none of them frozen. -/
def Blk (w : World) (g : Nat) (cs : Array Value) (t : TypeId) : Prop := w.heap[g]? = some (.cells cs t (0, 0))
theorem Blk.new (w : World) (cs : Array Value) (t : TypeId) : Blk (w.alloc (.cells cs t)) w.heap.size cs t := heap_alloc_new w _
theorem Blk.new' (w : World) (cs : Array Value) (t : TypeId) {g : Nat} (hg : g = w.heap.size) : Blk (w.alloc (.cells cs t)) g cs t := by subst hg; exact heap_alloc_new w _
theorem Blk.lt {w : World} {g : Nat} {cs : Array Value} {t : TypeId} (h : Blk w g cs t) : g < w.heap.size := (Array.getElem?_eq_some_iff.1 h).1
theorem Blk.alloc {w : World} {g : Nat} {cs : Array Value} {t : TypeId} (h : Blk w g cs t) (o : Obj) : Blk (w.alloc o) g cs t := by
  unfold Blk at *
  rw [heap_alloc_old w o (Array.getElem?_eq_some_iff.1 h).1]
  exact h
theorem Blk.cell {w : World} {g : Nat} {cs : Array Value} {t : TypeId} (h : Blk w g cs t) (j : Nat) : w.cell? ⟨g, j, none⟩ = cs[j]? := cell_of_row w g j cs t (0, 0) h
theorem Blk.free {w : World} {g : Nat} {cs : Array Value} {t : TypeId} (h : Blk w g cs t) (j : Nat) : w.frozen? ⟨g, j, none⟩ = false := frozen_of_row w g j cs t h
theorem Blk.below {w w' : World} {g : Nat} {cs : Array Value} {t : TypeId} {B : Nat} (h : Blk w g cs t) (hb : Below B w w') (hB : w.heap.size ≤ B) : Blk w' g cs t := by
  unfold Blk at *
  rw [hb.block g (Nat.lt_of_lt_of_le (Array.getElem?_eq_some_iff.1 h).1 hB)]
  exact h
theorem Blk.set {w : World} {g : Nat} {cs : Array Value} {t : TypeId} (h : Blk w g cs t) (j : Nat) (u : Value) : Blk (w.setCell ⟨g, j, none⟩ u) g (cs.setIfInBounds j u) t :=
  heap_setCell_same w g j cs t u h
theorem Blk.setOther {w : World} {g : Nat} {cs : Array Value} {t : TypeId} (h : Blk w g cs t) {g' : Nat} (hg : g ≠ g') (j : Nat) (u : Value) : Blk (w.setCell ⟨g', j, none⟩ u) g cs t := by
  unfold Blk at *
  rw [Below.heap_setCell _ _ _ _ hg]
  exact h
theorem Blk.qt {w w' : World} {g : Nat} {cs : Array Value} {t : TypeId} (h : Blk w g cs t) (hq : Qt w w') : Blk w' g cs t := by
  obtain ⟨q, rfl⟩ := hq
  exact h
theorem Blk.kept {w w' : World} {g : Nat} {cs : Array Value} {t : TypeId} {row : Option Nat} (h : Blk w g cs t) (hg : w.grownBy w' row) (hne : some g ≠ row) : Blk w' g cs t := by
  unfold Blk at *
  rw [hg.block g (Array.getElem?_eq_some_iff.1 h).1 hne]
  exact h

theorem Own.row {w : World} {B g n c : Nat} {xs : List Int} (h : Own w B (.slice (some ⟨g, 0, none⟩) n c) xs) : ∃ cur : Array Value, Blk w g cur 3 ∧ cur.size = c ∧ ∀ j, j < xs.length → cur[j]? = some (.int .i64 (nth xs j)) := by
  rcases h.2 with ⟨e, _⟩ | ⟨g', cap, cur, e, hb, hg, hnc, hm, hs, ht⟩
  · simp at e
  · have hl : n = xs.length := by simp only [Value.slice.injEq] at e; exact e.2.1
    have hcell := fun j (hj : j < xs.length) => h.cell hj
    simp only [Value.slice.injEq, Option.some.injEq, Addr.mk.injEq, and_true] at e
    obtain ⟨rfl, _, rfl⟩ := e
    refine ⟨cur, hg, by simpa using hs, fun j hj => ?_⟩
    rw [← cell_of_row w g j cur 3 (0, 0) hg]
    exact hcell j hj

theorem Own.ofBlk {w : World} {B g n c : Nat} {cur : Array Value} {xs : List Int} (hb : Blk w g cur 3) (hB : B ≤ g) (hn : xs.length = n) (hc : cur.size = c) (hnc : n ≤ c) (hm : c ≤ maxLen) (h : ∀ j, j < xs.length → cur[j]? = some (.int .i64 (nth xs j))) :
    Own w B (.slice (some ⟨g, 0, none⟩) n c) xs := by
  subst hn
  refine ⟨by simp, .inr ⟨g, c, cur, rfl, hB, hb, hnc, hm, by simpa using hc, ?_⟩⟩
  rw [Nat.mul_one]
  refine List.ext_getElem? fun j => ?_
  rw [List.getElem?_take]
  by_cases hj : j < xs.length
  · rw [if_pos hj, Array.getElem?_toList, h j hj]
    simp [hj, nth_eq hj]
  · rw [if_neg hj]
    simp [Nat.not_lt.1 hj]

/-- A callee that leaves the world alone, in a region that draws its order. -/
theorem quiet_same {P : Program} {f : FuncId} {args : Array Value} {w : World} {n : Nat} {v : Value}
    (h : Calls P f args (w.drewN n) fun e w' => e = .returned v ∧ w.drewN n = w') : Calls P f args (w.drewN n) fun e w'' => e = .returned v ∧ ∃ m, w'' = w.drewN m :=
  h.mono fun _ _ ⟨he, hm⟩ => ⟨he, n, hm.symm⟩

theorem quiet_qt {P : Program} {f : FuncId} {args : Array Value} {w : World} {n : Nat} {v : Value}
    (h : Calls P f args (w.drewN n) fun e w' => e = .returned v ∧ Qt (w.drewN n) w') : Calls P f args (w.drewN n) fun e w'' => e = .returned v ∧ ∃ m, w'' = w.drewN m :=
  h.mono fun _ _ ⟨he, m, hm⟩ => ⟨he, n + m, by rw [hm, World.drewN_drewN]⟩

/-- A call that hands back a new list, and leaves alone what was there. -/
def RetOwn (w : World) (xs : List Int) (e : Ending) (w' : World) : Prop :=
  ∃ ao c, e = .returned (.slice ao xs.length c) ∧ Own w' w.heap.size (.slice ao xs.length c) xs ∧ Below w.heap.size w w'

theorem Qt.cell {w w' : World} (h : Qt w w') (a : Addr) : w'.cell? a = w.cell? a := by
  obtain ⟨q, rfl⟩ := h
  rfl

/-- A cell of a new block. -/
theorem cellNew (w : World) (cs : Array Value) (t : TypeId) (j : Nat) : (w.alloc (.cells cs t)).cell? ⟨w.heap.size, j, none⟩ = cs[j]? := by
  unfold World.cell?
  rw [heap_alloc_new]
  simp

theorem Own.qt {w w' : World} {B : Nat} {v : Value} {xs : List Int} (h : Own w B v xs) (hq : Qt w w') : Own w' B v xs := by
  obtain ⟨q, rfl⟩ := hq
  exact h

/-- A call that hands back a board of its own make. -/
def RetBoard (w : World) (wide : Int) (xs : List Int) (e : Ending) (w' : World) : Prop :=
  ∃ ao c, e = .returned (.agg #[.int .i64 wide, .slice ao xs.length c]) ∧ xs.length ≤ c ∧ Own w' w.heap.size (.slice ao xs.length c) xs ∧ Below w.heap.size w w'

theorem RetBoard.mk {w w' : World} {wide : Int} {xs : List Int} {ao : Option Addr} {n c : Nat} (hn : xs.length = n) (hnc : n ≤ c) (ho : Own w' w.heap.size (.slice ao n c) xs) (hb : Below w.heap.size w w') :
    RetBoard w wide xs (.returned (.agg #[.int .i64 wide, .slice ao n c])) w' := by
  subst hn; exact ⟨ao, c, rfl, hnc, ho, hb⟩

theorem RetOwn.mk {w w' : World} {xs : List Int} {ao : Option Addr} {n c : Nat} (hn : xs.length = n) (ho : Own w' w.heap.size (.slice ao n c) xs) (hb : Below w.heap.size w w') :
    RetOwn w xs (.returned (.slice ao n c)) w' := by
  subst hn; exact ⟨ao, c, rfl, ho, hb⟩

theorem RetBoard.to {w w' : World} {wide : Int} {xs : List Int} {e : Ending} {n : Nat} (h : RetBoard w wide xs e w') (hn : xs.length = n) :
    ∃ ao c, e = .returned (.agg #[.int .i64 wide, .slice ao n c]) ∧ n ≤ c ∧ Own w' w.heap.size (.slice ao n c) xs ∧ Below w.heap.size w w' := by
  subst hn; exact h

theorem RetOwn.to {w w' : World} {xs : List Int} {e : Ending} {n : Nat} (h : RetOwn w xs e w') (hn : xs.length = n) :
    ∃ ao c, e = .returned (.slice ao n c) ∧ Own w' w.heap.size (.slice ao n c) xs ∧ Below w.heap.size w w' := by
  subst hn; exact h

theorem below_drewN {B : Nat} {a w : World} (h : Below B a w) (q : Nat) : Below B a (w.drewN q) := ⟨h.os, h.tape, h.output, h.size, h.block⟩

theorem Try.infoInt : (Try.prog.info? 3).map (fun i => (i.zero, i.size, i.bytes)) = some (some (.int .i64 0), 1, 8) := by kernel_rfl

/-- WHAT A DRAWN REGION READS, handed on behind a call that makes memory: two variables of two cells each, and two lists. -/
theorem keep22 {W w0 w1 : World} {ga gb : Nat} {a0 a1 b0 b1 : Value} {xo yo : Option Addr} {xs ys : List Int}
    (h : Below W.heap.size W w0 ∧ w0.cell? ⟨ga, 0, none⟩ = some a0 ∧ w0.cell? ⟨ga, 1, none⟩ = some a1 ∧ w0.cell? ⟨gb, 0, none⟩ = some b0 ∧ w0.cell? ⟨gb, 1, none⟩ = some b1 ∧ IntsAt w0 xo xs ∧ IntsAt w0 yo ys)
    (b : Below w0.heap.size w0 w1) :
    Below W.heap.size W w1 ∧ w1.cell? ⟨ga, 0, none⟩ = some a0 ∧ w1.cell? ⟨ga, 1, none⟩ = some a1 ∧ w1.cell? ⟨gb, 0, none⟩ = some b0 ∧ w1.cell? ⟨gb, 1, none⟩ = some b1 ∧ IntsAt w1 xo xs ∧ IntsAt w1 yo ys := by
  obtain ⟨h1, h2, h3, h4, h5, h6, h7⟩ := h
  have hc : ∀ {a : Addr} {v : Value}, w0.cell? a = some v → w1.cell? a = some v := fun {a v} e => by
    rw [b.cell (World.block_lt_of_cell? _ _ e)]; exact e
  exact ⟨h1.trans (b.mono h1.size), hc h2, hc h3, hc h4, hc h5, h6.below b (Nat.le_refl _), h7.below b (Nat.le_refl _)⟩

theorem keep22d {W w0 : World} {ga gb : Nat} {a0 a1 b0 b1 : Value} {xo yo : Option Addr} {xs ys : List Int}
    (h : Below W.heap.size W w0 ∧ w0.cell? ⟨ga, 0, none⟩ = some a0 ∧ w0.cell? ⟨ga, 1, none⟩ = some a1 ∧ w0.cell? ⟨gb, 0, none⟩ = some b0 ∧ w0.cell? ⟨gb, 1, none⟩ = some b1 ∧ IntsAt w0 xo xs ∧ IntsAt w0 yo ys) :
    Below W.heap.size W w0.drew ∧ w0.drew.cell? ⟨ga, 0, none⟩ = some a0 ∧ w0.drew.cell? ⟨ga, 1, none⟩ = some a1 ∧ w0.drew.cell? ⟨gb, 0, none⟩ = some b0 ∧ w0.drew.cell? ⟨gb, 1, none⟩ = some b1 ∧ IntsAt w0.drew xo xs ∧ IntsAt w0.drew yo ys :=
  ⟨h.1.drew, h.2⟩

theorem held22x {W w0 : World} {ga gb : Nat} {a0 a1 b0 b1 : Value} {xo yo : Option Addr} {xs ys : List Int}
    (h : Below W.heap.size W w0 ∧ w0.cell? ⟨ga, 0, none⟩ = some a0 ∧ w0.cell? ⟨ga, 1, none⟩ = some a1 ∧ w0.cell? ⟨gb, 0, none⟩ = some b0 ∧ w0.cell? ⟨gb, 1, none⟩ = some b1 ∧ IntsAt w0 xo xs ∧ IntsAt w0 yo ys) : IntsAt w0 xo xs := h.2.2.2.2.2.1
theorem held22y {W w0 : World} {ga gb : Nat} {a0 a1 b0 b1 : Value} {xo yo : Option Addr} {xs ys : List Int}
    (h : Below W.heap.size W w0 ∧ w0.cell? ⟨ga, 0, none⟩ = some a0 ∧ w0.cell? ⟨ga, 1, none⟩ = some a1 ∧ w0.cell? ⟨gb, 0, none⟩ = some b0 ∧ w0.cell? ⟨gb, 1, none⟩ = some b1 ∧ IntsAt w0 xo xs ∧ IntsAt w0 yo ys) : IntsAt w0 yo ys := h.2.2.2.2.2.2

/-! A drawn region that loads beside calls that make memory: S says that all that was there reads as it did. -/
theorem sb_drew (W : World) : (∀ b o, b < W.heap.size → W.drew.cell? ⟨b, o, none⟩ = W.cell? ⟨b, o, none⟩) ∧ Below W.heap.size W W.drew := ⟨fun _ _ _ => rfl, (Below.refl _ _).drew⟩
theorem sb_call {W w0 w1 : World} (h : (∀ b o, b < W.heap.size → w0.cell? ⟨b, o, none⟩ = W.cell? ⟨b, o, none⟩) ∧ Below W.heap.size W w0) (b : Below w0.heap.size w0 w1) :
    (∀ b o, b < W.heap.size → w1.cell? ⟨b, o, none⟩ = W.cell? ⟨b, o, none⟩) ∧ Below W.heap.size W w1 :=
  have hb := h.2.trans (b.mono h.2.size)
  ⟨fun b' o hlt => hb.cell (p := ⟨b', o, none⟩) hlt, hb⟩
theorem sb_alloc {W w0 : World} (h : (∀ b o, b < W.heap.size → w0.cell? ⟨b, o, none⟩ = W.cell? ⟨b, o, none⟩) ∧ Below W.heap.size W w0) (o : Obj) :
    (∀ b o', b < W.heap.size → (w0.alloc o).cell? ⟨b, o', none⟩ = W.cell? ⟨b, o', none⟩) ∧ Below W.heap.size W (w0.alloc o) :=
  sb_call h ((Below.refl _ _).alloc (Nat.le_refl _) o)
theorem sb_ad (W : World) (o : Obj) : (∀ b o', b < W.heap.size → (W.alloc o).drew.cell? ⟨b, o', none⟩ = W.cell? ⟨b, o', none⟩) ∧ Below W.heap.size W (W.alloc o).drew :=
  have hb := ((Below.refl W.heap.size W).alloc (Nat.le_refl _) o).drew
  ⟨fun b' o' hlt => hb.cell (p := ⟨b', o', none⟩) hlt, hb⟩
theorem sb_set {W w0 : World} (h : (∀ b o, b < W.heap.size → w0.cell? ⟨b, o, none⟩ = W.cell? ⟨b, o, none⟩) ∧ Below W.heap.size W w0) {g : Nat} (hg : W.heap.size ≤ g) (j : Nat) (u : Value) :
    (∀ b o', b < W.heap.size → (w0.setCell ⟨g, j, none⟩ u).cell? ⟨b, o', none⟩ = W.cell? ⟨b, o', none⟩) ∧ Below W.heap.size W (w0.setCell ⟨g, j, none⟩ u) :=
  have hb := h.2.setCell (p := ⟨g, j, none⟩) hg u
  ⟨fun b' o hlt => hb.cell (p := ⟨b', o, none⟩) hlt, hb⟩
theorem sb_below {W w0 : World} (h : (∀ b o, b < W.heap.size → w0.cell? ⟨b, o, none⟩ = W.cell? ⟨b, o, none⟩) ∧ Below W.heap.size W w0) : Below W.heap.size W w0 := h.2

theorem Own.ne_blk {w : World} {B g : Nat} {v : Value} {xs : List Int} (h : Own w B v xs) (hg : g < B) : some g ≠ v.ownBlock := fun e => by
  have := (World.ownsRow.lt h g e.symm).1; omega
theorem Own.ne_new {w : World} {B : Nat} {v : Value} {xs : List Int} (h : Own w B v xs) : some w.heap.size ≠ v.ownBlock := fun e => by
  have := (World.ownsRow.lt h _ e.symm).2; omega

theorem Blk.at {w : World} {g : Nat} {cs : Array Value} {t : TypeId} (h : Blk w g cs t) (j : Nat) {v : Value} (hv : cs[j]? = some v) : w.cell? ⟨g, j, none⟩ = some v := (h.cell j).trans hv

/-- Equality of lists, closed to simp. -/
def eqL (xs ys : List Int) : Bool := decide (xs = ys)

theorem eqL_self (xs : List Int) : eqL xs xs = true := by simp [eqL]

theorem ret_int {k : IntKind} {a b : Int} (h : a = b) : Ending.returned (.int k a) = .returned (.int k b) := by rw [h]
theorem ret_bool {a b : Bool} (h : a = b) : Ending.returned (.bool a) = .returned (.bool b) := by rw [h]

end Go.Proofs.Ytgmjffplinpobaa
