/- The draws of lists: odd, l20Perm. -/
import Derived.Test.YtgmjffplinpobaaRd
import Derived.Test.YtgmjffplinpobaaInts
namespace Go.Proofs.Ytgmjffplinpobaa
open Go Go.RowKit

theorem grown_new {w a b : World} {r : Nat} {row : Option Nat} (h : w.grownBy a (some r)) (k : a.grownBy b row) (hrow : ∀ g, row = some g → w.heap.size ≤ g) : w.grownBy b (some r) :=
  ⟨k.os.trans h.os, k.tape.trans h.tape, k.output.trans h.output, Nat.le_trans h.size k.size, fun i hi hr => (k.block i (Nat.lt_of_lt_of_le hi h.size) (fun e => by have := hrow i e.symm; omega)).trans (h.block i hi hr)⟩

theorem grown_alloc (w : World) (o : Obj) (row : Option Nat) : w.grownBy (w.alloc o) row :=
  ⟨rfl, rfl, rfl, by simp, fun i hi _ => heap_alloc_old w o hi⟩

theorem cells_drop {w : World} {B g n c : Nat} {xs : List Int} (h : Own w B (.slice (some ⟨g, 0, none⟩) n c) xs) (a : Nat) : ∀ j u, ((xs.drop a).map (Value.int .i64))[j]? = some u → w.cell? ((⟨g, a, none⟩ : Addr).add j) = some u := by
  intro j u hj
  have hjl : a + j < xs.length := by
    by_cases h : a + j < xs.length
    · exact h
    · simp [Nat.not_lt.1 h] at hj
  rw [Addr.add_lit, h.cell hjl]
  simp at hj
  obtain ⟨x, hx, rfl⟩ := hj
  rw [nth_eq hjl]
  rw [List.getElem?_eq_getElem hjl] at hx
  exact congrArg (fun x => some (Value.int .i64 x)) (Option.some.inj hx)

theorem ints_one (xs : List Int) : ∀ u ∈ xs.map (Value.int .i64), u.oneCell' = true := by
  intro u hu
  obtain ⟨x, _, rfl⟩ := List.mem_map.1 hu
  rfl

/-- The front of an owned list. -/
theorem Own.front {w : World} {B g n c : Nat} {xs : List Int} (h : Own w B (.slice (some ⟨g, 0, none⟩) n c) xs) (hn : xs.length = n) (a : Nat) (ha : a ≤ n) : Own w B (.slice (some ⟨g, 0, none⟩) a c) (xs.take a) := by
  subst hn
  have hl : (xs.take a).length = a := by rw [List.length_take]; omega
  rcases h.2 with ⟨e, h1⟩ | ⟨g', cap, cur, e, hb, hg, hc1, hc2, hc3, hc4⟩
  · simp at e
  · simp only [Value.slice.injEq, Option.some.injEq, Addr.mk.injEq, and_true, true_and] at e
    obtain ⟨rfl, rfl⟩ := e
    refine ⟨by simp, .inr ⟨g, c, cur, by rw [hl], hb, hg, by omega, hc2, hc3, ?_⟩⟩
    rw [hl, List.map_take, ← hc4, List.take_take]
    congr 1
    omega

theorem Own.addrOf {w : World} {B n : Nat} {v : Value} {xs : List Int} (h : Own w B v xs) (hv : v ≠ .slice none 0 0) (hn : xs.length = n) : ∃ g c, v = .slice (some ⟨g, 0, none⟩) n c ∧ n ≤ c := by
  subst hn
  rcases h.2 with ⟨e, h1⟩ | ⟨g', cap, cur, e, hb, hg, hc1, hc2, hc3, hc4⟩
  · exact absurd e hv
  · exact ⟨g', cap, e, hc1⟩

def OddRet (w : World) (B r N : Nat) (n : Int) (e : Ending) (w' : World) : Prop := ∃ b, e = .returned (.bool b) ∧ w.grownBy w' (some r) ∧ Rdr w' B r N ∧ (n ≤ 0 → b = false)

set_option maxRecDepth 100000 in
theorem odd_rdr (r : Nat) (n : Int) (B N : Nat) (w : World) (h : Rdr w B r N) (hN : N ≤ 1099511627776) (hn : n ≤ 1000) :
    Calls Try.prog 54 #[.pointer (some ⟨r, 0, none⟩), .int .i64 n] w (OddRet w B r (N + 1) n) := by
  by_cases h0 : 0 < n
  · have hd : decide (0 < n) = true := decide_eq_true h0
    go_enter Try.func54, Try.ntmps54
    go_wp2_with fail
    refine (pick_rdr r n B N w h hN).mono fun e w1 h => ?_
    obtain ⟨v, rfl, v0, _, _, v2, hg, hr⟩ := h
    go_wp2
    go_ret
    exact ⟨_, rfl, hg, hr, fun h => by omega⟩
  · have hd : decide (0 < n) = false := decide_eq_false h0
    go_enter Try.func54, Try.ntmps54
    go_wp2
    go_ret
    exact ⟨_, rfl, grownBy_refl _ _, h.more (by omega), fun _ => rfl⟩

/-- A list that has been drawn. -/
def Drawn (w : World) (B r N p : Nat) (n : Int) (e : Ending) (w' : World) : Prop :=
  ∃ ao m c ys, e = .returned (.slice ao m c) ∧ ys.length = m ∧ m ≤ c ∧ (m ≤ p + 2 ∧ (n ≤ 0 → m = p)) ∧ Own w' w.heap.size (.slice ao m c) ys ∧ w.grownBy w' (some r) ∧ Rdr w' B r N

theorem Own.base' {w : World} {B : Nat} {v : Value} {xs : List Int} (h : Own w B v xs) : v.ownBlock = none ∨ ∀ g, v.ownBlock = some g → B ≤ g ∧ g < w.heap.size := by
  cases hv : v.ownBlock with
  | none => exact .inl rfl
  | some k => exact .inr fun g e => by obtain rfl := Option.some.inj e; exact World.ownsRow.lt h k hv

/-- append onto an owned list that has an address. -/
theorem wpList_appendI {ops : Array Oper} {rest : List Oper} {o : Oper} {a : Act} {Q : Exit → Act → World → Prop} {w : World} (hgd : o.guard = none) (s x : Operand)
    (ho : o.op = .call { callee := .builtin .append, args := #[s, x], argTypes := #[23, 23] })
    (B g n c : Nat) (xs : List Int) (hs : a.eval s = .slice (some ⟨g, 0, none⟩) n c) (hn : xs.length = n) (hown : Own w B (.slice (some ⟨g, 0, none⟩) n c) xs)
    (ad : Addr) (m cc : Nat) (ys : List Int) (hx : a.eval x = .slice (some ad) m cc) (hl : ys.length = m) (hnews : ∀ j u, (ys.map (Value.int .i64))[j]? = some u → w.cell? (ad.add j) = some u)
    (h63 : n + m ≤ 1000000) (hbase : B ≤ w.heap.size)
    (h : ∀ g' c' w', Own w' B (.slice (some ⟨g', 0, none⟩) (n + m) c') (xs ++ ys) → w.grownBy w' (some g) → Hid (n + m ≤ c' ∧ B ≤ g' ∧ g' < w'.heap.size) → wpList Try.prog ops Q rest (a.put o.dst (.slice (some ⟨g', 0, none⟩) (n + m) c')) w') :
    wpList Try.prog ops Q (o :: rest) a w := by
  obtain ⟨i0, hi, hz0, hz1, hz2⟩ := info_parts Try.infoInt
  subst hn
  subst hl
  refine wpList_append_own w hgd s x 23 ho B 3 i0 (.int .i64 0) 1 8 Try.underlying23 hi hz0 hz1 hz2 rfl (by decide) _ _ _ hs hown ad ys.length cc (ys.map (Value.int .i64)) hx (by simp) hnews (ints_one ys) (by unfold maxLen; omega) (by omega) hbase ?_
  intro v' w' hown' hgrow hnil
  have ho' : Own w' B v' (xs ++ ys) := by
    unfold Own
    rw [List.length_append, List.map_append]
    exact hown'
  have hv : v' ≠ .slice none 0 0 := fun e => by have := (hnil.1 e).1; simp at this
  obtain ⟨g', c', rfl, hc⟩ := ho'.addrOf hv (n := xs.length + ys.length) (by simp)
  exact h g' c' w' ho' hgrow ⟨hc, ho'.base⟩

end Go.Proofs.Ytgmjffplinpobaa
