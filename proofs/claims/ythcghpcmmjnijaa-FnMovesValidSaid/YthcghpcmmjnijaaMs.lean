/- l20Moves: generators that are drawn. -/
import Derived.Test.YthcghpcmmjnijaaDp
import Derived.Test.YthcghpcmmjnijaaPn
import Derived.Test.YthcghpcmmjnijaaRw
import Derived.Maps.AppendAt
import Derived.Deep.DeepCutAuto
namespace Go.Proofs.Ythcghpcmmjnijaa
open Go Go.RowKit

/-- A slice of slices under way: k rows, each a list of its own. -/
def MSt (w : World) (B r N k : Nat) (v : Value) (wr : World) : Prop :=
  ∃ g c vals, v = .slice (some ⟨g, 0, none⟩) k c ∧ k ≤ c ∧ wr.ownsRow w.heap.size 29 1 (.slice (some ⟨g, 0, none⟩) k c) k vals ∧ (∀ u ∈ vals, ∃ ys, Own wr w.heap.size u ys ∧ ys.length ≤ 1000 ∧ u.ownBlock ≠ some g) ∧ w.grownBy wr (some r) ∧ Rdr wr B r N

theorem MSt.len {w wr : World} {B r N k : Nat} {v : Value} (h : MSt w B r N k v wr) : r < wr.heap.size := by
  obtain ⟨g, c, vals, h1, h2, h3, h4, h5, h6⟩ := h; exact h6.lt.2

/-- What a part of a round leaves: the reader's block and new ones alone may have changed. -/
theorem MSt.kept {w wr wx : World} {B r N M k : Nat} {v : Value} (h : MSt w B r N k v wr) (hrw : r < w.heap.size) (hg : wr.grownBy wx (some r)) (hr : Rdr wx B r M) : MSt w B r M k v wx := by
  obtain ⟨g, c, vals, h1, h2, h3, h4, h5, h6⟩ := h
  have hb := World.ownsRow.lt h3 g rfl
  refine ⟨g, c, vals, h1, h2, World.ownsRow.kept h3 hg (.inr fun e => by have : g = r := Option.some.inj e; omega), fun u hu => ?_, grownBy_trans h5 hg, hr⟩
  obtain ⟨ys, ho, hl, hne⟩ := h4 u hu
  refine ⟨ys, ho.kept hg ?_, hl, hne⟩
  rcases ho.base' with e | e
  · exact .inl e
  · exact .inr fun e2 => by have := (e r e2).1; omega

theorem rows_one (vals : List Value) (h : ∀ u ∈ vals, ∃ ao n c, u = .slice ao n c) : ∀ u ∈ vals, u.oneCell' = true := by
  intro u hu
  obtain ⟨ao, n, c, rfl⟩ := h u hu
  rfl

theorem Own.isSlice {w : World} {B : Nat} {u : Value} {ys : List Int} (h : Own w B u ys) : ∃ ao n c, u = .slice ao n c := by
  obtain ⟨ao, c, e, _⟩ := h.shape; exact ⟨ao, _, c, e⟩

/-- append of rows onto such a slice. -/
theorem wpList_appendR {ops : Array Oper} {rest : List Oper} {o : Oper} {a : Act} {Q : Exit → Act → World → Prop} {w wr : World} {B r N k m cc : Nat} {v : Value} (hgd : o.guard = none) (s x : Operand)
    (ho : o.op = .call { callee := .builtin .append, args := #[s, x], argTypes := #[22, 22] })
    (hs : a.eval s = v) (hst : MSt w B r N k v wr) (hrw : r < w.heap.size)
    (ad : Addr) (news : List Value) (hx : a.eval x = .slice (some ad) m cc) (hl : news.length = m) (hnews : ∀ j u, news[j]? = some u → wr.cell? (ad.add j) = some u)
    (hrows : ∀ u ∈ news, ∃ ys, Own wr w.heap.size u ys ∧ ys.length ≤ 1000) (hnb : ∀ u ∈ news, ∀ g c, v = .slice (some ⟨g, 0, none⟩) k c → u.ownBlock ≠ some g)
    (h63 : k + m ≤ 1000000) (h : ∀ v' w', MSt w B r N (k + m) v' w' → wpList Try.prog ops Q rest (a.put o.dst v') w') :
    wpList Try.prog ops Q (o :: rest) a wr := by
  obtain ⟨g, c, vals, rfl, h2, h3, h4, h5, h6⟩ := hst
  obtain ⟨i0, hi, hz0, hz1, hz2⟩ := info_parts Try.infoRow
  have hgb := World.ownsRow.lt h3 g rfl
  have hws : w.heap.size ≤ wr.heap.size := h5.size
  refine wpList_append_own_at wr hgd s x 22 ho w.heap.size 29 i0 (.slice none 0 0) 1 24 Try.underlying22 hi hz0 hz1 hz2 rfl (by decide) _ k vals hs h3 ad m cc news hx (by omega) hnews (fun u hu => by obtain ⟨ys, h1, _⟩ := hrows u hu; obtain ⟨ao, n, c, rfl⟩ := h1.isSlice; rfl) (by unfold maxLen; omega) (by omega) hws ?_
  intro v' w' hown' hgrow hnil hat
  have hv : ∃ g' c', v' = .slice (some ⟨g', 0, none⟩) (k + m) c' ∧ k + m ≤ c' := by
    rcases hown'.2 with ⟨e, _⟩ | ⟨g', cap, cur, e, _, _, hc, _⟩
    · exact absurd e (fun e => by have := (hnil.1 e).1; simp at this)
    · exact ⟨g', cap, e, hc⟩
  obtain ⟨g', c', rfl, hc'⟩ := hv
  have hkeep : ∀ u ys, Own wr w.heap.size u ys → u.ownBlock ≠ some g → Own w' w.heap.size u ys ∧ u.ownBlock ≠ some g' := fun u ys h1 h2 => by
    refine ⟨h1.kept hgrow (.inr h2), fun e => ?_⟩
    rcases hat with e2 | e2
    · exact h2 (e.trans e2)
    · rcases h1.base' with e3 | e3
      · rw [e3] at e; cases e
      · have h7 := (e3 g' e).2
        have : g' = wr.heap.size := Option.some.inj e2
        omega
  refine h _ w' ⟨g', c', vals ++ news, rfl, hc', hown', fun u hu => ?_, grown_new h5 hgrow (fun q hq => by have : g = q := Option.some.inj hq; omega), h6.kept hgrow (fun q hq => by have : g = q := Option.some.inj hq; have := h6.lt; omega)⟩
  rcases List.mem_append.1 hu with hu | hu
  · obtain ⟨ys, h1, hl, hne⟩ := h4 u hu
    obtain ⟨h7, h8⟩ := hkeep u ys h1 hne
    exact ⟨ys, h7, hl, h8⟩
  · obtain ⟨ys, h1, hl⟩ := hrows u hu
    obtain ⟨h7, h8⟩ := hkeep u ys h1 (hnb u hu g c rfl)
    exact ⟨ys, h7, hl, h8⟩

theorem Own.capm' {w : World} {B : Nat} {v : Value} {ao : Option Addr} {n c : Nat} {xs : List Int} (h : Own w B v xs) (e : v = .slice ao n c) : c ≤ 9223372036854775807 := by
  rcases h.2 with ⟨e2, _⟩ | ⟨g', cap, cur, e2, _, _, _, hm, _⟩
  · rw [e] at e2; simp at e2; omega
  · rw [e] at e2
    simp only [Value.slice.injEq] at e2
    obtain ⟨_, _, rfl⟩ := e2
    unfold maxLen at hm; omega

/-- Generators that have been drawn. -/
def DrawnM (w : World) (B r N : Nat) (e : Ending) (w' : World) : Prop :=
  ∃ p k v, e = .returned (.tuple #[.int .i64 p, v]) ∧ (0 ≤ p ∧ p ≤ 5) ∧ k ≤ 8 ∧ MSt w B r N k v w'

theorem MSt.rows {w wr : World} {B r N k : Nat} {v : Value} (h : MSt w B r N k v wr) : ∃ g c rs, v = .slice (some ⟨g, 0, none⟩) k c ∧ k ≤ c ∧ c ≤ 9223372036854775807 ∧ rs.length = k ∧ (∀ r ∈ rs, r.length ≤ 1048576) ∧ RowsAt wr (some ⟨g, 0, none⟩) rs := by
  obtain ⟨g, c, vals, rfl, h2, h3, h4, h5, h6⟩ := h
  have hcm : c ≤ maxLen := by
    rcases h3.2 with ⟨e, _⟩ | ⟨g', cap, cur, e, _, _, _, hm, _⟩
    · simp at e
    · simp only [Value.slice.injEq] at e
      obtain ⟨_, _, rfl⟩ := e
      exact hm
  have hvl : vals.length = k := by have := h3.1; omega
  have hex : ∀ vals : List Value, (∀ u ∈ vals, ∃ ys, Own wr w.heap.size u ys ∧ ys.length ≤ 1000 ∧ u.ownBlock ≠ some g) → ∃ rs : List (List Int), rs.length = vals.length ∧ (∀ r ∈ rs, r.length ≤ 1048576) ∧ ∀ j (hj : j < vals.length), Own wr w.heap.size vals[j] (nthR rs j) := by
    intro vals
    induction vals with
    | nil => exact fun _ => ⟨[], rfl, fun r hr => absurd hr (by simp), fun j hj => absurd hj (by simp)⟩
    | cons u vals ih =>
      intro h
      obtain ⟨ys, ho, hl, _⟩ := h u (by simp)
      obtain ⟨rs, h1, h2, h3⟩ := ih fun u hu => h u (List.mem_cons_of_mem _ hu)
      refine ⟨ys :: rs, by simp [h1], fun r hr => ?_, fun j hj => ?_⟩
      · rcases List.mem_cons.1 hr with rfl | hr
        · omega
        · exact h2 r hr
      · match j, hj with
        | 0, _ => exact ho
        | j + 1, hj => exact h3 j (by simpa using hj)
  obtain ⟨rs, e1, e2, e3⟩ := hex vals h4
  refine ⟨g, c, rs, rfl, h2, by unfold maxLen at hcm; omega, by omega, e2, fun h0 => ⟨g, 0, rfl, fun j hj => ?_⟩⟩
  have ho := e3 j (by omega)
  obtain ⟨ao, cc, e, hi, hc⟩ := ho.shape
  have hcm2 := ho.capm' e
  have hcell := World.ownsRow.cellAt h3 j (by omega)
  refine ⟨ao, cc, ?_, hc, hcm2, hi⟩
  rw [Nat.zero_add, hcell, List.getElem?_eq_getElem (by omega), e]

theorem MSt.more {w wr : World} {B r N M k : Nat} {v : Value} (h : MSt w B r N k v wr) (hM : N ≤ M) : MSt w B r M k v wr := by
  obtain ⟨g, c, vals, h1, h2, h3, h4, h5, h6⟩ := h; exact ⟨g, c, vals, h1, h2, h3, h4, h5, h6.more hM⟩

theorem MSt.dis {w wr wx : World} {B r N k : Nat} {v u : Value} {ys : List Int} (h : MSt w B r N k v wr) (ho : Own wx wr.heap.size u ys) : ∀ g c, v = .slice (some ⟨g, 0, none⟩) k c → u.ownBlock ≠ some g := by
  obtain ⟨g', c', vals, rfl, h2, h3, _⟩ := h
  intro g c e e2
  simp only [Value.slice.injEq, Option.some.injEq, Addr.mk.injEq, and_true, true_and] at e
  obtain ⟨rfl, rfl⟩ := e
  have h1 := (World.ownsRow.lt h3 g' rfl).2
  rcases ho.base' with e3 | e3
  · rw [e3] at e2; cases e2
  · have := (e3 g' e2).1; omega

theorem own_pick {w w' : World} {B' r : Nat} {v : Value} {xs : List Int} (h : Own w B' v xs) (hg : w.grownBy w' (some r)) (hr : r < B') : Own w' B' v xs := by
  refine h.kept hg ?_
  rcases h.base' with e | e
  · exact .inl e
  · exact .inr fun e2 => by have := (e r e2).1; omega

theorem MSt.rdr {w wr : World} {B r N k : Nat} {v : Value} (h : MSt w B r N k v wr) : Rdr wr B r N ∧ w.heap.size ≤ wr.heap.size := by
  obtain ⟨g, c, vals, h1, h2, h3, h4, h5, h6⟩ := h; exact ⟨h6, h5.size⟩

set_option maxRecDepth 100000 in
set_option maxHeartbeats 4000000 in
theorem l20Moves_any (r B N : Nat) (n : Int) (w : World) (h : Rdr w B r N) (hN : N ≤ 1000) (hn : n ≤ 1000) :
    Calls Try.prog 41 #[.pointer (some ⟨r, 0, none⟩), .int .i64 n] w (DrawnM w B r (N + 1000)) := by
  have hBr := h.lt
  go_enter Try.func41, Try.ntmps41
  go_wp2_with fail
  refine (pick_rdr r 5 B N w h (by omega)).mono fun e w1 hp => ?_
  obtain ⟨v, rfl, v0, v1, _, v2, hg1, hr1⟩ := hp
  have v3 := v1 (by omega)
  obtain ⟨a, rfl⟩ : ∃ a : Nat, v = a := Int.eq_ofNat_of_zero_le v0
  have hst : MSt w B r (N + 1) 0 (.slice (some ⟨w1.heap.size, 0, none⟩) 0 0) (w1.alloc (.cells #[] 29)) :=
    ⟨w1.heap.size, 0, [], rfl, Nat.le_refl _, World.ownsRow_lit w1 #[] 0 hg1.size (Nat.zero_le _) rfl, fun u hu => absurd hu (by simp), grownBy_trans hg1 (grown_alloc _ _ _), hr1.below ((Below.refl w1.heap.size w1).alloc (Nat.le_refl _) _) (Nat.le_refl _)⟩
  clear v1 h
  go_wp2_with fail
  generalize (w1.alloc (.cells #[] 29)) = W1 at *
  generalize (Value.slice (some ⟨w1.heap.size, 0, none⟩) 0 0) = mv0 at *
  refine (pick_rdr r 4 B (N + 1) W1 hst.rdr.1 (by omega)).mono fun e w2 hp => ?_
  obtain ⟨v, rfl, u0, u1, _, _, hg2, hr2⟩ := hp
  have u3 := u1 (by omega)
  obtain ⟨k0, rfl⟩ : ∃ k : Nat, v = k := Int.eq_ofNat_of_zero_le u0
  have hst2 := hst.kept hBr.2 hg2 hr2
  clear hst hg2 hr2 u1 hg1 hr1
  have hwp : IntKind.i64.wrap ((1 : Int) + a) = 1 + a := IntWalk.i64_in _ (by omega)
  go_wp2_with fail
  go_loopw [7, 8, 9, 10, 11, 12] (fun mv i _ _ _ _ wr => ∃ k kk : Nat, k ≤ 3 ∧ kk + k ≤ 3 ∧ i = .int .i64 k ∧ ∃ mv', mv = mv' ∧ MSt w B r (N + 400 - 100 * k) kk mv' wr) (fun _ i _ _ _ _ _ => (intOf i).toNat)
  case atStart => exact ⟨k0, 0, by omega, by omega, rfl, _, rfl, hst2.more (by omega)⟩
  case round =>
    clear hst2
    obtain ⟨k, kk, hk, hkk, rfl, mv, rfl, hst⟩ := hrel
    by_cases hk0 : 0 < k
    · have hd : decide ((0 : Int) < k) = true := decide_eq_true (by omega)
      have hws := hst.rdr.2
      have hrl := hst.len
      go_wp2_with fail
      refine (l20Perm_int r B _ (1 + a) (1 + (a : Int)) 0 wr (by omega) hst.rdr.1 (by omega) (by omega) (by omega)).mono fun e w3 hp => ?_
      obtain ⟨ap, np, cp, ps, rfl, hpl, hpc, ⟨_, hpn⟩, op, hg3, hr3⟩ := hp
      have hst3 := hst.kept hBr.2 hg3 hr3
      have hnp := hpn (Int.le_refl 0)
      obtain rfl : np = 1 + a := hnp
      have hL := hid hpl
      clear hpl hpn hst3
      obtain ⟨gp, rfl⟩ := op.addr (by rw [hL.out]; omega)
      have hws3 : wr.heap.size ≤ w3.heap.size := hg3.size
      go_wp2_with fail
      refine (pick_rdr r 3 B _ w3 hr3 (by omega)).mono fun e w4 hp => ?_
      obtain ⟨v, rfl, x0, x1, _, _, hg4, hr4⟩ := hp
      have x3 := x1 (by omega)
      have hgw := grownBy_trans hg3 hg4
      have op4 := own_pick op hg4 hrl
      clear op hg3 hg4 hr3 x1
      have hv : v = 0 ∨ v = 1 ∨ v = 2 := by omega
      clear x0 x3
      rcases hv with rfl | rfl | rfl
      · clear op4
        have hnl : Hid ((noneL (1 + (a : Int))).length = 1 + a) := by unfold Hid; rw [noneL_in (by omega), length_iota]; omega
        go_wp2_with fail
        refine (specPermNone_any (1 + (a : Int)) w4).mono fun e w5 hp => ?_
        obtain ⟨aq, cq, rfl, oq, b5⟩ := hp.to hnl.out
        clear hp
        obtain ⟨gq, rfl⟩ := oq.addr (by rw [hnl.out]; omega)
        have hgw5 := grown_new hgw ⟨b5.os, b5.tape, b5.output, b5.size, fun k hk _ => b5.block k hk⟩ (row := none) (fun g e => by cases e)
        have hr5 := hr4.below b5 (Nat.le_refl _)
        have hws4 : wr.heap.size ≤ w4.heap.size := hgw.size
        clear b5 hgw hr4
        go_wp2_with fail
        refine (pick_rdr r (1 + (a : Int)) B _ w5 hr5 (by omega)).mono fun e w6 hp => ?_
        obtain ⟨x, rfl, x0, x1, _, _, hg6, hr6⟩ := hp
        have x3 := x1 (by omega)
        obtain ⟨x, rfl⟩ : ∃ k : Nat, x = k := Int.eq_ofNat_of_zero_le x0
        have hgw6 := grownBy_trans hgw5 hg6
        have oq6 := own_pick oq hg6 (by omega)
        clear hgw5 hg6 hr5 oq x1
        go_wp2_with fail
        refine (pick_rdr r (1 + (a : Int)) B _ w6 hr6 (by omega)).mono fun e w7 hp => ?_
        obtain ⟨y, rfl, y0, y1, _, _, hg7, hr7⟩ := hp
        have y3 := y1 (by omega)
        obtain ⟨y, rfl⟩ : ∃ k : Nat, y = k := Int.eq_ofNat_of_zero_le y0
        have hgw7 := grownBy_trans hgw6 hg7
        have oq7 := own_pick oq6 hg7 (by omega)
        clear hgw6 hg7 hr6 oq6 y1
        generalize noneL (1 + (a : Int)) = P0 at *
        have hgq := oq7.base
        have hrl7 := hr7.lt
        have fx := oq7.free hnl.out.symm x
        have cx := oq7.cell (j := x) (by rw [hnl.out]; omega)
        have oq8 := oq7.stored hnl.out.symm x (y : Int)
        have hl8 : (P0.set x (y : Int)).length = 1 + a := by have := hnl.out; simp [this]
        have fy := oq8.free hl8.symm y
        have cy := oq8.cell (j := y) (by omega)
        have oq9 := oq8.stored hl8.symm y (x : Int)
        have HL9 : Hid (((P0.set x (y : Int)).set y (x : Int)).length = 1 + a) := by have := hnl.out; simp [Hid, this]
        have hgw9 := grown_new (grown_new hgw7 (grownBy_setCell w7 gq x (.int .i64 y)) (fun g e => by have := Option.some.inj e; omega)) (grownBy_setCell _ gq y (.int .i64 x)) (fun g e => by have := Option.some.inj e; omega)
        have hr9 := (hr7.kept (grownBy_setCell w7 gq x (.int .i64 y)) (fun g e => by have := Option.some.inj e; omega)).kept (grownBy_setCell _ gq y (.int .i64 x)) (fun g e => by have := Option.some.inj e; omega)
        clear oq7 oq8 hgw7 hr7 hl8
        generalize (P0.set x (y : Int)).set y (x : Int) = P1 at *
        by_cases hxy : x = y
        · subst hxy
          have hbe : ((x : Int) == x) = true := by simp
          have fz := oq9.free HL9.out.symm x
          have cz := oq9.cell (j := x) (by rw [HL9.out]; omega)
          have op5 := (oq9.stored HL9.out.symm x (x : Int)).lower (B' := wr.heap.size) (by omega)
          have HLF : Hid ((P1.set x (x : Int)).length = 1 + a) := by have := HL9.out; simp [Hid, this]
          have hgw5 := grown_new hgw9 (grownBy_setCell _ gq x (.int .i64 x)) (fun g e => by have := Option.some.inj e; omega)
          have hrd5 := hr9.kept (grownBy_setCell _ gq x (.int .i64 x)) (fun g e => by have := Option.some.inj e; omega)
          clear oq9 hgw9 hr9
          generalize P1.set x (x : Int) = ps at *
          go_upto_region 21 with fail
          generalize ((w7.setCell ⟨gq, x, none⟩ (.int .i64 x)).setCell ⟨gq, x, none⟩ (.int .i64 x)).setCell ⟨gq, x, none⟩ (.int .i64 x) = W5 at *
          have hps : ps.length ≤ 1000 := by rw [HLF.out]; omega
          have hst5 := (hst.kept hBr.2 hgw5 hrd5).more (M := N + 500 - 100 * k) (by omega)
          have hdis := hst.dis op5
          have hws5 : w.heap.size ≤ wr.heap.size := hws
          have hA := hst5.kept (M := N + 500 - 100 * k) hBr.2 (grown_alloc W5 (.cells #[.slice (some ⟨gq, 0, none⟩) (1 + a) cq] 29) (some r)) (hst5.rdr.1.below ((Below.refl W5.heap.size W5).alloc (Nat.le_refl _) (.cells #[.slice (some ⟨gq, 0, none⟩) (1 + a) cq] 29)) (Nat.le_refl _))
          have opA := (op5.alloc (.cells #[.slice (some ⟨gq, 0, none⟩) (1 + a) cq] 29)).lower (B' := w.heap.size) hws5
          clear hst5 op5 hrd5 hgw5
          go_wp2_with (at_builtin; refine wpList_appendR rfl _ _ rfl rfl hA hBr.2 ⟨W5.heap.size, 0, none⟩ [.slice (some ⟨gq, 0, none⟩) (1 + a) cq] rfl rfl (cell1 _ _ _) (fun u hu => by obtain rfl := List.mem_singleton.1 hu; exact ⟨ps, opA, hps⟩) (fun u hu g c e => by obtain rfl := List.mem_singleton.1 hu; exact hdis g c e) (by omega) ?_)
          intro mv' W6 hst6
          clear hA opA
          go_wp2
          go_roundw
          case rel => exact ⟨k - 1, kk + 1, by omega, by omega, by go_num, mv', rfl, hst6.more (by omega)⟩
          case measure => simp [intOf]; omega
        · have hbe : ((x : Int) == y) = false := by simp; omega
          have op5 := oq9.lower (B' := wr.heap.size) (by omega)
          have HLF := HL9
          have hgw5 := hgw9
          have hrd5 := hr9
          clear oq9 hgw9 hr9
          go_upto_region 21 with fail
          generalize (w7.setCell ⟨gq, x, none⟩ (.int .i64 y)).setCell ⟨gq, y, none⟩ (.int .i64 x) = W5 at *
          generalize P1 = ps at *
          have hps : ps.length ≤ 1000 := by rw [HLF.out]; omega
          have hst5 := (hst.kept hBr.2 hgw5 hrd5).more (M := N + 500 - 100 * k) (by omega)
          have hdis := hst.dis op5
          have hws5 : w.heap.size ≤ wr.heap.size := hws
          have hA := hst5.kept (M := N + 500 - 100 * k) hBr.2 (grown_alloc W5 (.cells #[.slice (some ⟨gq, 0, none⟩) (1 + a) cq] 29) (some r)) (hst5.rdr.1.below ((Below.refl W5.heap.size W5).alloc (Nat.le_refl _) (.cells #[.slice (some ⟨gq, 0, none⟩) (1 + a) cq] 29)) (Nat.le_refl _))
          have opA := (op5.alloc (.cells #[.slice (some ⟨gq, 0, none⟩) (1 + a) cq] 29)).lower (B' := w.heap.size) hws5
          clear hst5 op5 hrd5 hgw5
          go_wp2_with (at_builtin; refine wpList_appendR rfl _ _ rfl rfl hA hBr.2 ⟨W5.heap.size, 0, none⟩ [.slice (some ⟨gq, 0, none⟩) (1 + a) cq] rfl rfl (cell1 _ _ _) (fun u hu => by obtain rfl := List.mem_singleton.1 hu; exact ⟨ps, opA, hps⟩) (fun u hu g c e => by obtain rfl := List.mem_singleton.1 hu; exact hdis g c e) (by omega) ?_)
          intro mv' W6 hst6
          clear hA opA
          go_wp2
          go_roundw
          case rel => exact ⟨k - 1, kk + 1, by omega, by omega, by go_num, mv', rfl, hst6.more (by omega)⟩
          case measure => simp [intOf]; omega
      · have hz : ((1 : Int) + a == 0) = false := by simp; omega
        go_wp2_with fail
        obtain ⟨wo, hwo⟩ : ∃ wo : World, wo = wr := ⟨_, rfl⟩
        subst hwo
        go_loopw [12] (fun i wz => ∃ j : Nat, j ≤ 1 + a ∧ i = .int .i64 j ∧ ∃ qs, Hid (qs.length = 1 + a) ∧ Own wz wo.heap.size (.slice (some ⟨gp, 0, none⟩) (1 + a) cp) qs ∧ wo.grownBy wz (some r) ∧ Rdr wz B r (N + 400 - 100 * k + (1 + a) + 2 + 1)) (fun i _ => 1 + a - (intOf i).toNat)
        case atStart => exact ⟨0, by omega, rfl, _, hL.out, op4, hgw, hr4⟩
        case round =>
          clear op4 hgw hr4 hL
          obtain ⟨j, hj, rfl, qs, hql, oq, hgq, hrq⟩ := hrel
          by_cases hj1 : j < 1 + a
          · have hd2 : decide ((j : Int) < 1 + a) = true := decide_eq_true (by omega)
            have fj := oq.free hql.out.symm j
            have cj := oq.cell (j := j) (by rw [hql.out]; omega)
            have hgb := oq.base
            have hrl7 := hrq.lt
            obtain ⟨z, hz2⟩ : ∃ z : Int, ((j : Int) + 1).tmod (1 + a) = z := ⟨_, rfl⟩
            have oq2 := oq.stored hql.out.symm j z
            have HL2 : Hid ((qs.set j z).length = 1 + a) := by have := hql.out; simp [Hid, this]
            have hg2 := grown_new hgq (grownBy_setCell wr gp j (.int .i64 z)) (fun g e => by have := Option.some.inj e; omega)
            have hr2 := hrq.kept (grownBy_setCell wr gp j (.int .i64 z)) (fun g e => by have := Option.some.inj e; omega)
            clear oq hgq hrq
            go_wp2
            go_roundw
            case rel => exact ⟨j + 1, by omega, by go_num, _, HL2, oq2, hg2, hr2⟩
            case measure => simp [intOf]; omega
          · have hd2 : decide ((j : Int) < 1 + a) = false := decide_eq_false (by omega)
            have op5 := oq
            have HLF := hql
            have hgw5 := hgq
            have hrd5 := hrq
            clear oq hgq hrq
            go_upto_region 21 with fail
            generalize wr = W5 at *
            generalize qs = ps at *
            have hps : ps.length ≤ 1000 := by rw [HLF.out]; omega
            have hst5 := (hst.kept hBr.2 hgw5 hrd5).more (M := N + 500 - 100 * k) (by omega)
            have hdis := hst.dis op5
            have hws5 : w.heap.size ≤ wo.heap.size := hws
            have hA := hst5.kept (M := N + 500 - 100 * k) hBr.2 (grown_alloc W5 (.cells #[.slice (some ⟨gp, 0, none⟩) (1 + a) cp] 29) (some r)) (hst5.rdr.1.below ((Below.refl W5.heap.size W5).alloc (Nat.le_refl _) (.cells #[.slice (some ⟨gp, 0, none⟩) (1 + a) cp] 29)) (Nat.le_refl _))
            have opA := (op5.alloc (.cells #[.slice (some ⟨gp, 0, none⟩) (1 + a) cp] 29)).lower (B' := w.heap.size) hws5
            clear hst5 op5 hrd5 hgw5
            go_wp2_with (at_builtin; refine wpList_appendR rfl _ _ rfl rfl hA hBr.2 ⟨W5.heap.size, 0, none⟩ [.slice (some ⟨gp, 0, none⟩) (1 + a) cp] rfl rfl (cell1 _ _ _) (fun u hu => by obtain rfl := List.mem_singleton.1 hu; exact ⟨ps, opA, hps⟩) (fun u hu g c e => by obtain rfl := List.mem_singleton.1 hu; exact hdis g c e) (by omega) ?_)
            intro mv' W6 hst6
            clear hA opA
            go_wp2
            go_roundw
            case rel => exact ⟨k - 1, kk + 1, by omega, by omega, by go_num, mv', rfl, hst6.more (by omega)⟩
            case measure => simp [intOf]; omega
      · have op5 := op4
        have HLF := hL
        have hgw5 := hgw
        have hrd5 := hr4
        clear op4 hgw hr4
        go_upto_region 21 with fail
        generalize w4 = W5 at *
        have hps : ps.length ≤ 1000 := by rw [HLF.out]; omega
        have hst5 := (hst.kept hBr.2 hgw5 hrd5).more (M := N + 500 - 100 * k) (by omega)
        have hdis := hst.dis op5
        have hws5 : w.heap.size ≤ wr.heap.size := hws
        have hA := hst5.kept (M := N + 500 - 100 * k) hBr.2 (grown_alloc W5 (.cells #[.slice (some ⟨gp, 0, none⟩) (1 + a) cp] 29) (some r)) (hst5.rdr.1.below ((Below.refl W5.heap.size W5).alloc (Nat.le_refl _) (.cells #[.slice (some ⟨gp, 0, none⟩) (1 + a) cp] 29)) (Nat.le_refl _))
        have opA := (op5.alloc (.cells #[.slice (some ⟨gp, 0, none⟩) (1 + a) cp] 29)).lower (B' := w.heap.size) hws5
        clear hst5 op5 hrd5 hgw5
        go_wp2_with (at_builtin; refine wpList_appendR rfl _ _ rfl rfl hA hBr.2 ⟨W5.heap.size, 0, none⟩ [.slice (some ⟨gp, 0, none⟩) (1 + a) cp] rfl rfl (cell1 _ _ _) (fun u hu => by obtain rfl := List.mem_singleton.1 hu; exact ⟨ps, opA, hps⟩) (fun u hu g c e => by obtain rfl := List.mem_singleton.1 hu; exact hdis g c e) (by omega) ?_)
        intro mv' W6 hst6
        clear hA opA
        go_wp2
        go_roundw
        case rel => exact ⟨k - 1, kk + 1, by omega, by omega, by go_num, mv', rfl, hst6.more (by omega)⟩
        case measure => simp [intOf]; omega
    · obtain rfl : k = 0 := by omega
      have hd : decide ((0 : Int) < (0 : Nat)) = false := by simp
      go_wp2_with fail
      refine (odd_rdr r n B _ wr hst.rdr.1 (by omega) hn).mono fun e w2 hp => ?_
      obtain ⟨b, rfl, hg2, hr2, _⟩ := hp
      have hst2 := (hst.kept hBr.2 hg2 hr2).more (M := N + 500) (by omega)
      clear hst hg2 hr2
      cases b with
      | false =>
        go_wp2
        exact bodyPost_ret (v := .tuple #[.int .i64 (1 + (a : Int)), u7]) (by simp [results, Try.results41, go_sem]) rfl ⟨_, kk, u7, rfl, by omega, by omega, hst2.more (by omega)⟩
      | true =>
        go_wp2_with fail
        refine (pick_rdr r 3 B _ w2 hst2.rdr.1 (by omega)).mono fun e w3 hp => ?_
        obtain ⟨v, rfl, x0, x1, _, _, hg3, hr3⟩ := hp
        have x3 := x1 (by omega)
        have hst3 := (hst2.kept hBr.2 hg3 hr3).more (M := N + 600) (by omega)
        clear hst2 hg3 hr3 x1
        have hv : v = 0 ∨ v = 1 ∨ v = 2 := by omega
        clear x0 x3
        rcases hv with rfl | rfl | rfl
        · go_wp2
          exact bodyPost_ret (v := .tuple #[.int .i64 0, u7]) (by simp [results, Try.results41, go_sem]) rfl ⟨_, kk, u7, rfl, by omega, by omega, hst3.more (by omega)⟩
        · have oz : Own (w3.alloc (.cells #[.int .i64 0, .int .i64 0] 3)) w3.heap.size (.slice (some ⟨w3.heap.size, 0, none⟩) 2 2) [0, 0] := World.ownsRow_lit w3 #[.int .i64 0, .int .i64 0] 2 (Nat.le_refl _) (by unfold maxLen; omega) rfl
          have hdis := hst3.dis oz
          have hws := hst3.rdr.2
          have hA := hst3.kept (M := N + 600) hBr.2 (grown_alloc w3 (.cells #[.int .i64 0, .int .i64 0] 3) (some r)) (hst3.rdr.1.below ((Below.refl w3.heap.size w3).alloc (Nat.le_refl _) (.cells #[.int .i64 0, .int .i64 0] 3)) (Nat.le_refl _))
          have hsz : (w3.alloc (.cells #[.int .i64 0, .int .i64 0] 3)).heap.size = w3.heap.size + 1 := by simp
          clear hst3
          generalize hW : w3.alloc (.cells #[.int .i64 0, .int .i64 0] 3) = W4 at *
          have hB := hA.kept (M := N + 600) hBr.2 (grown_alloc W4 (.cells #[.slice (some ⟨w3.heap.size, 0, none⟩) 2 2] 29) (some r)) (hA.rdr.1.below ((Below.refl W4.heap.size W4).alloc (Nat.le_refl _) (.cells #[.slice (some ⟨w3.heap.size, 0, none⟩) 2 2] 29)) (Nat.le_refl _))
          have ozA := (oz.alloc (.cells #[.slice (some ⟨w3.heap.size, 0, none⟩) 2 2] 29)).lower (B' := w.heap.size) hws
          have hc1 : ∀ j u, [Value.slice (some ⟨w3.heap.size, 0, none⟩) 2 2][j]? = some u → (W4.alloc (.cells #[.slice (some ⟨w3.heap.size, 0, none⟩) 2 2] 29)).cell? ((⟨w3.heap.size + 1, 0, none⟩ : Addr).add j) = some u := by rw [← hsz]; exact cell1 W4 _ _
          clear hA oz
          subst hW
          go_wp2_with (at_builtin; refine wpList_appendR rfl _ _ rfl rfl hB hBr.2 ⟨w3.heap.size + 1, 0, none⟩ [.slice (some ⟨w3.heap.size, 0, none⟩) 2 2] rfl rfl hc1 (fun u hu => by obtain rfl := List.mem_singleton.1 hu; exact ⟨_, ozA, by simp⟩) (fun u hu g c e => by obtain rfl := List.mem_singleton.1 hu; exact hdis g c e) (by omega) ?_)
          intro mv' W6 hst6
          clear hB ozA hc1
          go_wp2
          exact bodyPost_ret (v := .tuple #[.int .i64 (1 + (a : Int)), mv']) (by simp [results, Try.results41, go_sem]) rfl ⟨_, kk + 1, mv', rfl, by omega, by omega, hst6.more (by omega)⟩
        · have hst4 := hst3
          obtain ⟨g, c, vals, rfl, h2, h3, h4, h5, h6⟩ := hst4
          have hvl : vals.length = kk := by have := h3.1; omega
          have hc1 := World.ownsRow.cells (g := g) h3 rfl
          have hnb : ∀ u ∈ vals, ∀ g' c', (Value.slice (some ⟨g, 0, none⟩) kk c) = .slice (some ⟨g', 0, none⟩) kk c' → u.ownBlock ≠ some g' := fun u hu g' c' e => by
            obtain ⟨ys, h7, h8, h9⟩ := h4 u hu
            have e1 : g = g' := by simp at e; exact e.1
            rw [← e1]; exact h9
          go_wp2_with (at_builtin; refine wpList_appendR rfl _ _ rfl rfl hst3 hBr.2 ⟨g, 0, none⟩ vals rfl hvl hc1 (fun u hu => by obtain ⟨ys, h7, h8, _⟩ := h4 u hu; exact ⟨ys, h7, h8⟩) hnb (by omega) ?_)
          intro mv' W6 hst6
          clear hst3 h3 h4 h5 h6 hc1
          go_wp2
          exact bodyPost_ret (v := .tuple #[.int .i64 (1 + (a : Int)), mv']) (by simp [results, Try.results41, go_sem]) rfl ⟨_, kk + kk, mv', rfl, by omega, by omega, hst6.more (by omega)⟩

end Go.Proofs.Ythcghpcmmjnijaa
