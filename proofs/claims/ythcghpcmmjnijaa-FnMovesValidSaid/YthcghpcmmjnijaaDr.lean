/- The draws of lists: odd, l20Perm. -/
import Derived.Test.YthcghpcmmjnijaaRd
import Derived.Test.YthcghpcmmjnijaaInts
namespace Go.Proofs.Ythcghpcmmjnijaa
open Go Go.RowKit

theorem grown_new {w a b : World} {r : Nat} {row : Option Nat} (h : w.grownBy a (some r)) (k : a.grownBy b row) (hrow : ∀ g, row = some g → w.heap.size ≤ g) : w.grownBy b (some r) :=
  ⟨k.os.trans h.os, k.tape.trans h.tape, k.output.trans h.output, Nat.le_trans h.size k.size, fun i hi hr => (k.block i (Nat.lt_of_lt_of_le hi h.size) (fun e => by have := hrow i e.symm; omega)).trans (h.block i hi hr)⟩

theorem grown_alloc (w : World) (o : Obj) (row : Option Nat) : w.grownBy (w.alloc o) row :=
  ⟨rfl, rfl, rfl, by simp, fun i hi _ => heap_alloc_old w o hi⟩

theorem cells_drop {w : World} {B g n c : Nat} {xs : List Int} (h : Own w B (.slice (some ⟨g, 0, none⟩) n c) xs) (a : Nat) : ∀ j u, ((xs.drop a).map (Value.int .i64))[j]? = some u → w.cell? ((⟨g, a, none⟩ : Addr).add j) = some u := by
  intro j u hj
  have hjl : a + j < xs.length := by
    by_cases h : a + j < xs.length
    · exact h
    · simp [Nat.not_lt.1 h] at hj
  rw [Addr.add_lit, h.cell hjl]
  simp at hj
  obtain ⟨x, hx, rfl⟩ := hj
  rw [nth_eq hjl]
  rw [List.getElem?_eq_getElem hjl] at hx
  exact congrArg (fun x => some (Value.int .i64 x)) (Option.some.inj hx)

theorem ints_one (xs : List Int) : ∀ u ∈ xs.map (Value.int .i64), u.oneCell' = true := by
  intro u hu
  obtain ⟨x, _, rfl⟩ := List.mem_map.1 hu
  rfl

/-- The front of an owned list. -/
theorem Own.front {w : World} {B g n c : Nat} {xs : List Int} (h : Own w B (.slice (some ⟨g, 0, none⟩) n c) xs) (hn : xs.length = n) (a : Nat) (ha : a ≤ n) : Own w B (.slice (some ⟨g, 0, none⟩) a c) (xs.take a) := by
  subst hn
  have hl : (xs.take a).length = a := by rw [List.length_take]; omega
  rcases h.2 with ⟨e, h1⟩ | ⟨g', cap, cur, e, hb, hg, hc1, hc2, hc3, hc4⟩
  · simp at e
  · simp only [Value.slice.injEq, Option.some.injEq, Addr.mk.injEq, and_true, true_and] at e
    obtain ⟨rfl, rfl⟩ := e
    refine ⟨by simp, .inr ⟨g, c, cur, by rw [hl], hb, hg, by omega, hc2, hc3, ?_⟩⟩
    rw [hl, List.map_take, ← hc4, List.take_take]
    congr 1
    omega

theorem Own.addrOf {w : World} {B n : Nat} {v : Value} {xs : List Int} (h : Own w B v xs) (hv : v ≠ .slice none 0 0) (hn : xs.length = n) : ∃ g c, v = .slice (some ⟨g, 0, none⟩) n c ∧ n ≤ c := by
  subst hn
  rcases h.2 with ⟨e, h1⟩ | ⟨g', cap, cur, e, hb, hg, hc1, hc2, hc3, hc4⟩
  · exact absurd e hv
  · exact ⟨g', cap, e, hc1⟩

def OddRet (w : World) (B r N : Nat) (n : Int) (e : Ending) (w' : World) : Prop := ∃ b, e = .returned (.bool b) ∧ w.grownBy w' (some r) ∧ Rdr w' B r N ∧ (n ≤ 0 → b = false)

set_option maxRecDepth 100000 in
theorem odd_rdr (r : Nat) (n : Int) (B N : Nat) (w : World) (h : Rdr w B r N) (hN : N ≤ 1099511627776) (hn : n ≤ 1000) :
    Calls Try.prog 45 #[.pointer (some ⟨r, 0, none⟩), .int .i64 n] w (OddRet w B r (N + 1) n) := by
  by_cases h0 : 0 < n
  · have hd : decide (0 < n) = true := decide_eq_true h0
    go_enter Try.func45, Try.ntmps45
    go_wp2_with fail
    refine (pick_rdr r n B N w h hN).mono fun e w1 h => ?_
    obtain ⟨v, rfl, v0, _, _, v2, hg, hr⟩ := h
    go_wp2
    go_ret
    exact ⟨_, rfl, hg, hr, fun h => by omega⟩
  · have hd : decide (0 < n) = false := decide_eq_false h0
    go_enter Try.func45, Try.ntmps45
    go_wp2
    go_ret
    exact ⟨_, rfl, grownBy_refl _ _, h.more (by omega), fun _ => rfl⟩

/-- A list that has been drawn. -/
def Drawn (w : World) (B r N p : Nat) (n : Int) (e : Ending) (w' : World) : Prop :=
  ∃ ao m c ys, e = .returned (.slice ao m c) ∧ ys.length = m ∧ m ≤ c ∧ (m ≤ p + 2 ∧ (n ≤ 0 → m = p)) ∧ Own w' w.heap.size (.slice ao m c) ys ∧ w.grownBy w' (some r) ∧ Rdr w' B r N

theorem Own.base' {w : World} {B : Nat} {v : Value} {xs : List Int} (h : Own w B v xs) : v.ownBlock = none ∨ ∀ g, v.ownBlock = some g → B ≤ g ∧ g < w.heap.size := by
  cases hv : v.ownBlock with
  | none => exact .inl rfl
  | some k => exact .inr fun g e => by obtain rfl := Option.some.inj e; exact World.ownsRow.lt h k hv

/-- append onto an owned list that has an address. -/
theorem wpList_appendI {ops : Array Oper} {rest : List Oper} {o : Oper} {a : Act} {Q : Exit → Act → World → Prop} {w : World} (hgd : o.guard = none) (s x : Operand)
    (ho : o.op = .call { callee := .builtin .append, args := #[s, x], argTypes := #[29, 29] })
    (B g n c : Nat) (xs : List Int) (hs : a.eval s = .slice (some ⟨g, 0, none⟩) n c) (hn : xs.length = n) (hown : Own w B (.slice (some ⟨g, 0, none⟩) n c) xs)
    (ad : Addr) (m cc : Nat) (ys : List Int) (hx : a.eval x = .slice (some ad) m cc) (hl : ys.length = m) (hnews : ∀ j u, (ys.map (Value.int .i64))[j]? = some u → w.cell? (ad.add j) = some u)
    (h63 : n + m ≤ 1000000) (hbase : B ≤ w.heap.size)
    (h : ∀ g' c' w', Own w' B (.slice (some ⟨g', 0, none⟩) (n + m) c') (xs ++ ys) → w.grownBy w' (some g) → Hid (n + m ≤ c' ∧ B ≤ g' ∧ g' < w'.heap.size) → wpList Try.prog ops Q rest (a.put o.dst (.slice (some ⟨g', 0, none⟩) (n + m) c')) w') :
    wpList Try.prog ops Q (o :: rest) a w := by
  obtain ⟨i0, hi, hz0, hz1, hz2⟩ := info_parts Try.infoInt
  subst hn
  subst hl
  refine wpList_append_own w hgd s x 29 ho B 3 i0 (.int .i64 0) 1 8 Try.underlying29 hi hz0 hz1 hz2 rfl (by decide) _ _ _ hs hown ad ys.length cc (ys.map (Value.int .i64)) hx (by simp) hnews (ints_one ys) (by unfold maxLen; omega) (by omega) hbase ?_
  intro v' w' hown' hgrow hnil
  have ho' : Own w' B v' (xs ++ ys) := by
    unfold Own
    rw [List.length_append, List.map_append]
    exact hown'
  have hv : v' ≠ .slice none 0 0 := fun e => by have := (hnil.1 e).1; simp at this
  obtain ⟨g', c', rfl, hc⟩ := ho'.addrOf hv (n := xs.length + ys.length) (by simp)
  exact h g' c' w' ho' hgrow ⟨hc, ho'.base⟩

set_option maxRecDepth 100000 in
set_option maxHeartbeats 2000000 in
theorem l20Perm_any (r B N p : Nat) (n : Int) (w : World) (h : Rdr w B r N) (hN : N ≤ 1000000) (hp : p ≤ 100) (hn : n ≤ 1000) :
    Calls Try.prog 38 #[.pointer (some ⟨r, 0, none⟩), .int .i64 p, .int .i64 n] w (Drawn w B r (N + p + 2) p n) := by
  have hBr := h.lt
  go_enter Try.func38, Try.ntmps38
  go_wp2
  go_loopw [7, 8, 9, 10] (fun v i _ _ wr => ∃ k : Nat, k ≤ p ∧ i = .int .i64 k ∧ ∃ g c xs, v = .slice (some ⟨g, 0, none⟩) k c ∧ Hid (xs.length = k) ∧ k ≤ c ∧ Own wr w.heap.size v xs ∧ w.grownBy wr (some r) ∧ Rdr wr B r (N + k)) (fun _ i _ _ _ => p - (intOf i).toNat)
  case atStart => exact ⟨0, by omega, rfl, _, _, [], rfl, rfl, Nat.le_refl _, Own.lit0 w (Nat.le_refl _), grown_alloc _ _ _, h.below ((Below.refl w.heap.size w).alloc (Nat.le_refl _) _) (Nat.le_refl _)⟩
  case round =>
    obtain ⟨k, hk, rfl, g, c, xs, rfl, hxl, hkc, hok, hg, hr⟩ := hrel
    have hgb := hok.base
    by_cases hlt : k < p
    · have hd2 : decide ((k : Int) < p) = true := decide_eq_true (by omega)
      go_wp2_with fail
      refine (pick_rdr r _ B _ wr hr (by omega)).mono fun e w1 h => ?_
      obtain ⟨v, rfl, v0, v1, _, v2, hg1, hr1⟩ := h
      have v3 := v1 (by omega)
      obtain ⟨a, rfl⟩ : ∃ a : Nat, v = a := Int.eq_ofNat_of_zero_le v0
      have hak : a ≤ k := by omega
      have hok1 := hok.kept hg1 (.inr (by simp [Value.ownBlock]; omega))
      have hg := grownBy_trans hg hg1
      have hok0 := Own.lit0 w1 (B := w1.heap.size) (Nat.le_refl _)
      have hcd : ∀ j u, ((xs.drop a).map (Value.int .i64))[j]? = some u → (w1.alloc (.cells #[] 3)).cell? ((⟨g, a, none⟩ : Addr).add j) = some u := cells_drop (hok1.alloc _) a
      have hx1 := hok1.alloc (.cells #[] 3)
      have hgx := grownBy_trans hg (grown_alloc w1 (.cells #[] 3) (some r))
      have hrx := hr1.below ((Below.refl w1.heap.size w1).alloc (Nat.le_refl _) (.cells #[] 3)) (Nat.le_refl _)
      have hs1 : wr.heap.size ≤ w1.heap.size := hg1.size
      have hs2 : w.heap.size ≤ w1.heap.size := hg.size
      have hfr := hx1.front hxl.out a hak
      have htl : Hid ((xs.take a).length = a) := by have := hxl.out; simp [Hid]; omega
      have hdl : Hid ((xs.drop a).length = k - a) := by have := hxl.out; simp [Hid]; omega
      clear hr hr1 hok hok1 hg hg1 v1 hx1 hxl
      generalize xs.drop a = ds at *
      generalize xs.take a = ts at *
      by_cases hca : c = a
      · obtain rfl : k = a := by omega
        subst hca
        rw [Nat.sub_self] at hdl
        have hcd : ∀ j u, (ds.map (Value.int .i64))[j]? = some u → (w1.alloc (.cells #[] 3)).cell? ((⟨g, 0, none⟩ : Addr).add j) = some u := by
          have : ds = [] := List.eq_nil_of_length_eq_zero hdl.out
          subst this
          intro j u hj
          simp at hj
        go_wp2_with (at_builtin; refine wpList_appendI rfl _ _ rfl w1.heap.size w1.heap.size 0 0 [] rfl rfl hok0 ⟨g, 0, none⟩ 0 0 ds rfl hdl.out hcd ?c3 ?c5 ?_)
        case c3 => omega
        case c5 => simp
        try simp only [List.nil_append, Nat.zero_add]
        intro g2 c2 w2 o2 hgrow hf2
        have hc2 := hf2.out.1
        have hg2 := hf2.out.2
        clear hf2
        have hgx2 := grown_new hgx hgrow (fun g' e => by have := Option.some.inj e; omega)
        have hrx2 := hrx.kept hgrow (fun g' e => by have := Option.some.inj e; omega)
        have hfr2 := hfr.kept hgrow (.inr (fun e => by have : g = w1.heap.size := Option.some.inj e; omega))
        have ofr1 := hfr2.alloc (.cells #[.int .i64 c] 3)
        have hgx3 := grownBy_trans hgx2 (grown_alloc w2 (.cells #[.int .i64 c] 3) (some r))
        have hrx3 := hrx2.below ((Below.refl w2.heap.size w2).alloc (Nat.le_refl _) (.cells #[.int .i64 c] 3)) (Nat.le_refl _)
        have o21 := o2.alloc (.cells #[.int .i64 c] 3)
        have hs3 := hgx2.size
        clear hgrow hfr hfr2 hgx hrx hgx2 hrx2 o2 hcd hok0
        go_wp2_with (at_builtin; refine wpList_appendI rfl _ _ rfl w.heap.size g c c ts rfl htl.out ofr1 ⟨w2.heap.size, 0, none⟩ 1 1 [(c : Int)] rfl rfl (cell1 _ _ _) ?c3 ?c5 ?_)
        case c3 => omega
        case c5 => simp; omega
        intro g3 c3 w3 o3 hgrow hf2
        have hc3 := hf2.out.1
        have hg3 := hf2.out.2
        clear hf2
        have hgx4 := grown_new hgx3 hgrow (fun g' e => by have := Option.some.inj e; omega)
        have hrx4 := hrx3.kept hgrow (fun g' e => by have := Option.some.inj e; omega)
        have o22 := o21.kept hgrow (.inr (fun e => by have : g2 = g := Option.some.inj e; omega))
        have hL3 : Hid ((ts ++ [(c : Int)]).length = c + 1) := by have := htl.out; simp [Hid]; omega
        have hcd : ∀ j u, (ds.map (Value.int .i64))[j]? = some u → w3.cell? ((⟨g2, 0, none⟩ : Addr).add j) = some u := by have := cells_drop o22 0; rwa [List.drop_zero] at this
        have hs4 := hgx4.size
        clear hgrow ofr1 hgx3 hrx3 o21
        generalize ts ++ [(c : Int)] = us at *
        go_wp2_with (at_builtin; refine wpList_appendI rfl _ _ rfl w.heap.size g3 (c + 1) c3 us rfl hL3.out o3 ⟨g2, 0, none⟩ 0 c2 ds rfl hdl.out hcd ?c3 ?c5 ?_)
        case c3 => omega
        case c5 => omega
        intro g4 c4 w4 o4 hgrow hf2
        have hc4 := hf2.out.1
        have hg4 := hf2.out.2
        clear hf2
        have hgx5 := grown_new hgx4 hgrow (fun g' e => by have := Option.some.inj e; omega)
        have hrx5 := hrx4.kept hgrow (fun g' e => by have := Option.some.inj e; omega)
        have hL4 : Hid ((us ++ ds).length = c + 1) := by have := hL3.out; have := hdl.out; simp [Hid]; omega
        have hk4 : c + 1 + 0 = c + 1 := by omega
        rw [hk4] at o4 hc4 ⊢
        clear hgrow o3 hgx4 hrx4 hcd o22 hk4
        generalize us ++ ds = ys at *
        go_wp2
        go_roundw
        case rel => exact ⟨c + 1, by omega, by go_num, g4, c4, ys, rfl, hL4, hc4, o4, hgx5, hrx5.more (by omega)⟩
        case measure => simp [intOf]; omega
      · go_wp2_with (at_builtin; refine wpList_appendI rfl _ _ rfl w1.heap.size w1.heap.size 0 0 [] rfl rfl hok0 ⟨g, a, none⟩ (k - a) (c - a) ds rfl hdl.out hcd ?c3 ?c5 ?_)
        case c3 => omega
        case c5 => simp
        try simp only [List.nil_append, Nat.zero_add]
        intro g2 c2 w2 o2 hgrow hf2
        have hc2 := hf2.out.1
        have hg2 := hf2.out.2
        clear hf2
        have hgx2 := grown_new hgx hgrow (fun g' e => by have := Option.some.inj e; omega)
        have hrx2 := hrx.kept hgrow (fun g' e => by have := Option.some.inj e; omega)
        have hfr2 := hfr.kept hgrow (.inr (fun e => by have : g = w1.heap.size := Option.some.inj e; omega))
        have ofr1 := hfr2.alloc (.cells #[.int .i64 k] 3)
        have hgx3 := grownBy_trans hgx2 (grown_alloc w2 (.cells #[.int .i64 k] 3) (some r))
        have hrx3 := hrx2.below ((Below.refl w2.heap.size w2).alloc (Nat.le_refl _) (.cells #[.int .i64 k] 3)) (Nat.le_refl _)
        have o21 := o2.alloc (.cells #[.int .i64 k] 3)
        have hs3 := hgx2.size
        clear hgrow hfr hfr2 hgx hrx hgx2 hrx2 o2 hcd hok0
        go_wp2_with (at_builtin; refine wpList_appendI rfl _ _ rfl w.heap.size g a c ts rfl htl.out ofr1 ⟨w2.heap.size, 0, none⟩ 1 1 [(k : Int)] rfl rfl (cell1 _ _ _) ?c3 ?c5 ?_)
        case c3 => omega
        case c5 => simp; omega
        intro g3 c3 w3 o3 hgrow hf2
        have hc3 := hf2.out.1
        have hg3 := hf2.out.2
        clear hf2
        have hgx4 := grown_new hgx3 hgrow (fun g' e => by have := Option.some.inj e; omega)
        have hrx4 := hrx3.kept hgrow (fun g' e => by have := Option.some.inj e; omega)
        have o22 := o21.kept hgrow (.inr (fun e => by have : g2 = g := Option.some.inj e; omega))
        have hL3 : Hid ((ts ++ [(k : Int)]).length = a + 1) := by have := htl.out; simp [Hid]; omega
        have hcd : ∀ j u, (ds.map (Value.int .i64))[j]? = some u → w3.cell? ((⟨g2, 0, none⟩ : Addr).add j) = some u := by have := cells_drop o22 0; rwa [List.drop_zero] at this
        have hs4 := hgx4.size
        clear hgrow ofr1 hgx3 hrx3 o21
        generalize ts ++ [(k : Int)] = us at *
        go_wp2_with (at_builtin; refine wpList_appendI rfl _ _ rfl w.heap.size g3 (a + 1) c3 us rfl hL3.out o3 ⟨g2, 0, none⟩ (k - a) c2 ds rfl hdl.out hcd ?c3 ?c5 ?_)
        case c3 => omega
        case c5 => omega
        intro g4 c4 w4 o4 hgrow hf2
        have hc4 := hf2.out.1
        have hg4 := hf2.out.2
        clear hf2
        have hgx5 := grown_new hgx4 hgrow (fun g' e => by have := Option.some.inj e; omega)
        have hrx5 := hrx4.kept hgrow (fun g' e => by have := Option.some.inj e; omega)
        have hL4 : Hid ((us ++ ds).length = k + 1) := by have := hL3.out; have := hdl.out; simp [Hid]; omega
        have hk4 : a + 1 + (k - a) = k + 1 := by omega
        rw [hk4] at o4 hc4 ⊢
        clear hgrow o3 hgx4 hrx4 hcd o22 hk4
        generalize us ++ ds = ys at *
        go_wp2
        go_roundw
        case rel => exact ⟨k + 1, by omega, by go_num, g4, c4, ys, rfl, hL4, hc4, o4, hgx5, hrx5.more (by omega)⟩
        case measure => simp [intOf]; omega
    · obtain rfl : k = p := by omega
      have hd2 : decide ((k : Int) < k) = false := by simp
      go_wp2_with fail
      refine (odd_rdr r n B _ wr hr (by omega) hn).mono fun e w1 h => ?_
      obtain ⟨b, rfl, hg1, hr1, hn0⟩ := h
      have hok1 := hok.kept hg1 (.inr (fun e => by have : g = r := Option.some.inj e; omega))
      have hg2 := grownBy_trans hg hg1
      clear hok hg hg1 hr
      cases b with
      | false =>
        go_wp2
        go_ret
        exact ⟨_, _, _, xs, rfl, hxl.out, hkc, ⟨by omega, fun _ => rfl⟩, hok1, hg2, hr1.more (by omega)⟩
      | true =>
        have hn1 : 0 < n := Classical.byContradiction fun h => by have := hn0 (by omega); cases this
        go_wp2_with fail
        refine (pick_rdr r 3 B _ w1 hr1 (by omega)).mono fun e w2 h => ?_
        obtain ⟨v, rfl, v0, v1, _, _, hg3, hr3⟩ := h
        have v3 := v1 (by omega)
        have hok2 := hok1.kept hg3 (.inr (fun e => by have : g = r := Option.some.inj e; omega))
        have hg4 := grownBy_trans hg2 hg3
        have hs := hg4.size
        clear hok1 hg2 hg3 hr1 v1
        have hv : v = 0 ∨ v = 1 ∨ v = 2 := by omega
        clear v0 v3
        rcases hv with rfl | rfl | rfl
        · go_wp2
          go_ret
          exact ⟨_, _, _, [], rfl, rfl, by omega, ⟨by omega, fun h => absurd h (by omega)⟩, Own.lit0 w2 hs, grownBy_trans hg4 (grown_alloc _ _ _), (hr3.below ((Below.refl w2.heap.size w2).alloc (Nat.le_refl _) _) (Nat.le_refl _)).more (by omega)⟩
        · have hok3 := hok2.alloc (.cells #[.int .i64 0] 3)
          have hg5 := grownBy_trans hg4 (grown_alloc w2 (.cells #[.int .i64 0] 3) (some r))
          have hr4 := hr3.below ((Below.refl w2.heap.size w2).alloc (Nat.le_refl _) (.cells #[.int .i64 0] 3)) (Nat.le_refl _)
          go_wp2_with (at_builtin; refine wpList_appendI rfl _ _ rfl w.heap.size g k c xs rfl hxl.out hok3 ⟨w2.heap.size, 0, none⟩ 1 1 [(0 : Int)] rfl rfl (cell1 _ _ _) ?c3 ?c5 ?_)
          case c3 => omega
          case c5 => simp; omega
          intro g4 c4 w4 o4 hgrow hf
          have hg6 := grown_new hg5 hgrow (fun g' e => by have := Option.some.inj e; omega)
          have hr5 := hr4.kept hgrow (fun g' e => by have := Option.some.inj e; omega)
          have hl4 : Hid ((xs ++ [(0 : Int)]).length = k + 1) := by have := hxl.out; simp [Hid]; omega
          have hc4 := hf.out.1
          clear hok2 hok3 hg4 hg5 hr3 hr4 hgrow hf
          generalize xs ++ [(0 : Int)] = ys at *
          go_wp2
          go_ret
          exact ⟨_, _, _, ys, rfl, hl4.out, hc4, ⟨by omega, fun h => absurd h (by omega)⟩, o4, hg6, hr5.more (by omega)⟩
        · go_wp2
          go_ret
          exact ⟨_, _, _, [0, 2], rfl, rfl, by omega, ⟨by omega, fun h => absurd h (by omega)⟩, World.ownsRow_lit w2 #[.int .i64 0, .int .i64 2] 2 hs (by unfold maxLen; omega) rfl, grownBy_trans hg4 (grown_alloc _ _ _), (hr3.below ((Below.refl w2.heap.size w2).alloc (Nat.le_refl _) _) (Nat.le_refl _)).more (by omega)⟩

end Go.Proofs.Ythcghpcmmjnijaa
