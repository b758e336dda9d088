/- DrawTilesRun. -/
import Derived.Test.YtncebcgiljkbnaaDd
import Derived.Maps.AppendAt
import Derived.Deep.DeepCutAuto
import Derived.Deep.RegionHeld3
namespace Go.Proofs.Ytncebcgiljkbnaa
open Go Go.RowKit

theorem own_blk_ne {w : World} {B g : Nat} {v : Value} {xs : List Int} {cs : Array Value} {t : TypeId} (ho : Own w B v xs) (hb : Blk w g cs t) (ht : t ≠ 3) : v.ownBlock ≠ some g := by
  intro e
  rcases ho.2 with ⟨e2, _⟩ | ⟨g', cap, cur, rfl, _, hg, _⟩
  · rw [e2] at e; cases e
  · have e3 : g' = g := Option.some.inj e
    subst e3
    unfold Blk at hb
    rw [hb] at hg
    have := Option.some.inj hg
    simp at this
    exact ht this.2

theorem own_pick' {w w' : World} {B' r : Nat} {v : Value} {xs : List Int} (h : Own w B' v xs) (hg : w.grownBy w' (some r)) (hr : r < B') : Own w' B' v xs := by
  refine h.kept hg ?_
  rcases h.base' with e | e
  · exact .inl e
  · exact .inr fun e2 => by have := (e r e2).1; omega

/-- The drawing under way: a board b, a board x, tiles. -/
def TSt (w : World) (B r N : Nat) (wide : Int) (bv : Value) (ys : List Int) (gb gx q : Nat) (tv : Value) (wr : World) : Prop :=
  ∃ gt ct ts wx ax nx cx xs, tv = .slice (some ⟨gt, 0, none⟩) q ct ∧ q ≤ ct ∧ Own wr w.heap.size tv ts ∧ ts.length = q ∧
    Blk wr gx #[.int .i64 wx, .slice ax nx cx] 26 ∧ xs.length = nx ∧ nx ≤ cx ∧ nx ≤ 9 ∧ Own wr w.heap.size (.slice ax nx cx) xs ∧ (Value.slice ax nx cx).ownBlock ≠ some gt ∧
    Blk wr gb #[.int .i64 wide, bv] 26 ∧ Own wr w.heap.size bv ys ∧ bv.ownBlock ≠ some gt ∧
    w.grownBy wr (some r) ∧ Rdr wr B r N ∧ w.heap.size ≤ gb ∧ gb < gx

theorem TSt.rdr {w wr : World} {B r N : Nat} {wide : Int} {bv : Value} {ys : List Int} {gb gx q : Nat} {tv : Value} (h : TSt w B r N wide bv ys gb gx q tv wr) : Rdr wr B r N ∧ w.heap.size ≤ wr.heap.size := by
  obtain ⟨gt, ct, ts, wx, ax, nx, cx, xs, h1, h2, h3, h4, h5, h6, h7, h8, h9, h10, h11, h12, h13, h15, h16, h17⟩ := h
  exact ⟨h16, h15.size⟩

theorem TSt.more {w wr : World} {B r N M : Nat} {wide : Int} {bv : Value} {ys : List Int} {gb gx q : Nat} {tv : Value} (h : TSt w B r N wide bv ys gb gx q tv wr) (hM : N ≤ M) : TSt w B r M wide bv ys gb gx q tv wr := by
  obtain ⟨gt, ct, ts, wx, ax, nx, cx, xs, h1, h2, h3, h4, h5, h6, h7, h8, h9, h10, h11, h12, h13, h15, h16, h17⟩ := h
  exact ⟨gt, ct, ts, wx, ax, nx, cx, xs, h1, h2, h3, h4, h5, h6, h7, h8, h9, h10, h11, h12, h13, h15, h16.more hM, h17⟩

theorem TSt.kept {w wr wy : World} {B r N M : Nat} {wide : Int} {bv : Value} {ys : List Int} {gb gx q : Nat} {tv : Value} (h : TSt w B r N wide bv ys gb gx q tv wr) (hrw : r < w.heap.size) (hg : wr.grownBy wy (some r)) (hr : Rdr wy B r M) : TSt w B r M wide bv ys gb gx q tv wy := by
  obtain ⟨gt, ct, ts, wx, ax, nx, cx, xs, h1, h2, h3, h4, h5, h6, h7, h8, h9, h10, h11, h12, h13, h15, h16, h17, h18⟩ := h
  exact ⟨gt, ct, ts, wx, ax, nx, cx, xs, h1, h2, own_pick' h3 hg hrw, h4, h5.kept hg (fun e => by have := Option.some.inj e; omega), h6, h7, h8, own_pick' h9 hg hrw, h10, h11.kept hg (fun e => by have := Option.some.inj e; omega), own_pick' h12 hg hrw, h13, grownBy_trans h15 hg, hr, h17, h18⟩

theorem TSt.below {w wr wy : World} {B r N : Nat} {wide : Int} {bv : Value} {ys : List Int} {gb gx q : Nat} {tv : Value} (h : TSt w B r N wide bv ys gb gx q tv wr) (hrw : r < w.heap.size) (hb : Below wr.heap.size wr wy) : TSt w B r N wide bv ys gb gx q tv wy :=
  h.kept hrw ⟨hb.os, hb.tape, hb.output, hb.size, fun k hk _ => hb.block k hk⟩ (h.rdr.1.below hb (Nat.le_refl _))

/-- x has been moved. -/
theorem TSt.moved {w wr wy : World} {B r N M : Nat} {wide wz : Int} {bv : Value} {ys zs : List Int} {gb gx q nz cz : Nat} {tv : Value} {az : Option Addr} (h : TSt w B r N wide bv ys gb gx q tv wr) (hrw : r < w.heap.size) (hg : wr.grownBy wy (some r)) (hr : Rdr wy B r M)
    (ho : Own wy wr.heap.size (.slice az nz cz) zs) (hl : zs.length = nz) (hc : nz ≤ cz) (h9' : nz ≤ 9) : TSt w B r M wide bv ys gb gx q tv ((wy.setCell ⟨gx, 0, none⟩ (.int .i64 wz)).setCell ⟨gx, 1, none⟩ (.slice az nz cz)) := by
  have hs := h.rdr.2
  have hd : ∀ g ct, tv = .slice (some ⟨g, 0, none⟩) q ct → (Value.slice az nz cz).ownBlock ≠ some g := fun g ct e e2 => by
    obtain ⟨gt, ct', ts, wx, ax, nx, cx, xs, h1, h2, h3, _⟩ := h
    rw [h1] at e h3
    have e4 : gt = g := by simp at e; exact e.1
    subst e4
    have h5 := h3.base.2
    rcases ho.base' with e3 | e3
    · rw [e3] at e2; cases e2
    · have := (e3 gt e2).1; omega
  obtain ⟨gt, ct, ts, wx, ax, nx, cx, xs, h1, h2, h3, h4, h5, h6, h7, h8, h9, h10, h11, h12, h13, h15, h16, h17, h18⟩ := h.kept hrw hg hr
  have hst : ∀ v xs, Own wy w.heap.size v xs → Own ((wy.setCell ⟨gx, 0, none⟩ (.int .i64 wz)).setCell ⟨gx, 1, none⟩ (.slice az nz cz)) w.heap.size v xs := fun v xs ho => by
    have hne : v.ownBlock = none ∨ v.ownBlock ≠ some gx := .inr (own_blk_ne ho h5 (by decide))
    exact (ho.setOther gx 0 _ hne).setOther gx 1 _ hne
  refine ⟨gt, ct, ts, wz, az, nz, cz, zs, h1, h2, hst _ _ h3, h4, ?_, hl, hc, h9', hst _ _ (ho.lower hs), hd gt ct h1, (h11.setOther (by omega) 0 _).setOther (by omega) 1 _, hst _ _ h12, h13, ?_, ?_, h17, h18⟩
  · exact (h5.set 0 (.int .i64 wz)).set 1 (.slice az nz cz)
  · exact grown_new (grown_new h15 (grownBy_setCell wy gx 0 _) (fun g e => by have := Option.some.inj e; omega)) (grownBy_setCell _ gx 1 _) (fun g e => by have := Option.some.inj e; omega)
  · have := h16.lt
    exact rdr_set2 h16 (by omega) (by omega) _ _

/-- A tile more. -/
theorem wpList_appendT {ops : Array Oper} {rest : List Oper} {o : Oper} {a : Act} {Q : Exit → Act → World → Prop} {w wr : World} {B r N : Nat} {wide : Int} {bv : Value} {ys : List Int} {gb gx q : Nat} {tv : Value} (hgd : o.guard = none) (s x : Operand)
    (ho : o.op = .call { callee := .builtin .append, args := #[s, x], argTypes := #[24, 24] })
    (hs : a.eval s = tv) (hst : TSt w B r N wide bv ys gb gx q tv wr) (hrw : r < w.heap.size) (t : Int)
    (hx : a.eval x = .slice (some ⟨wr.heap.size, 0, none⟩) 1 1) (hq : q ≤ 1000)
    (h : ∀ tv' w', TSt w B r N wide bv ys gb gx (q + 1) tv' w' → wpList Try.prog ops Q rest (a.put o.dst tv') w') :
    wpList Try.prog ops Q (o :: rest) a (wr.alloc (.cells #[.int .i64 t] 3)) := by
  have hst' := hst.below hrw ((Below.refl wr.heap.size wr).alloc (Nat.le_refl _) (.cells #[.int .i64 t] 3))
  have hws := hst'.rdr.2
  have hc := cell1 wr (.int .i64 t) 3
  generalize hW : wr.alloc (.cells #[.int .i64 t] 3) = W at *
  have hsz : W.heap.size = wr.heap.size + 1 := by rw [← hW]; simp
  obtain ⟨gt, ct, ts, wx, ax, nx, cx, xs, rfl, h2, h3, h4, h5, h6, h7, h8, h9, h10, h11, h12, h13, h15, h16, h17, h18⟩ := hst'
  obtain ⟨i0, hi, hz0, hz1, hz2⟩ := info_parts Try.infoInt
  subst h4
  have hgt := h3.base
  refine wpList_append_own_at W hgd s x 24 ho w.heap.size 3 i0 (.int .i64 0) 1 8 Try.underlying24 hi hz0 hz1 hz2 rfl (by decide) _ ts.length (ts.map (Value.int .i64)) hs h3 ⟨wr.heap.size, 0, none⟩ 1 1 [.int .i64 t] hx rfl hc (cell1_one t) (by unfold maxLen; omega) (by omega) hws ?_
  intro v' w' hown' hgrow hnil hat
  have ho' : Own w' w.heap.size v' (ts ++ [t]) := Own.appended hown'
  have hv : v' ≠ .slice none 0 0 := fun e => by have := (hnil.1 e).1; simp at this
  obtain ⟨g', c', rfl, hc'⟩ := ho'.addrOf hv (n := ts.length + 1) (by simp)
  have hrow : ∀ k, (Value.slice (some ⟨gt, 0, none⟩) ts.length ct).ownBlock = some k → gt = k := fun k e => Option.some.inj e
  have hkeep : ∀ u zs, Own W w.heap.size u zs → u.ownBlock ≠ some gt → Own w' w.heap.size u zs ∧ u.ownBlock ≠ some g' := fun u zs h1 h2 => by
    refine ⟨h1.kept hgrow (.inr h2), fun e => ?_⟩
    rcases hat with e2 | e2
    · exact h2 (e.trans e2)
    · rcases h1.base' with e3 | e3
      · rw [e3] at e; cases e
      · have h7 := (e3 g' e).2
        have : g' = W.heap.size := Option.some.inj e2
        omega
  have hblk : ∀ g cs, Blk W g cs 26 → Blk w' g cs 26 := fun g cs hb => hb.kept hgrow (fun e => (own_blk_ne h3 hb (by decide)) e.symm)
  obtain ⟨k1, k2⟩ := hkeep _ _ h9 h10
  obtain ⟨k3, k4⟩ := hkeep _ _ h12 h13
  have hrl := h16.lt
  exact h _ w' ⟨g', c', ts ++ [t], wx, ax, nx, cx, xs, rfl, hc', ho', by simp, hblk _ _ h5, h6, h7, h8, k1, k2, hblk _ _ h11, k3, k4, grown_new h15 hgrow (fun k e => by have := hrow k e; omega), h16.kept hgrow (fun k e => by have := hrow k e; omega), h17, h18⟩

/-- A board and tiles that a law has drawn. -/
def DrawBTs (w : World) (e : Ending) (w' : World) : Prop :=
  ∃ wide ao m c ys gt k d ts, e = .returned (.tuple #[.agg #[.int .i64 wide, .slice ao m c], .slice (some ⟨gt, 0, none⟩) k d]) ∧ ys.length = m ∧ m ≤ c ∧ m ≤ 9 ∧ ts.length = k ∧ k ≤ d ∧ k ≤ 1000 ∧ Own w' w.heap.size (.slice ao m c) ys ∧ Own w' w.heap.size (.slice (some ⟨gt, 0, none⟩) k d) ts ∧ Below w.heap.size w w'

set_option maxRecDepth 100000 in
set_option maxHeartbeats 4000000 in
theorem drawTilesRun_any (ao : Option Addr) (bs : List Int) (l c : Nat) (w : World) (hn : bs.length = l) (hlc : l ≤ c) (hcm : c ≤ 9223372036854775807) (hx : BytesAt w ao bs) (h8 : B8 bs) :
    Calls Try.prog 24 #[.slice ao l c] w (DrawBTs w) := by
  have bk := Blk.new w #[.int .i64 0, .slice none 0 0] 26
  have hx1 := hx.alloc (.cells #[.int .i64 0, .slice none 0 0] 26)
  have bel := (Below.refl w.heap.size w).alloc (Nat.le_refl _) (.cells #[.int .i64 0, .slice none 0 0] 26)
  have hsz : (w.alloc (.cells #[.int .i64 0, .slice none 0 0] 26)).heap.size = w.heap.size + 1 := by simp
  clear hx
  go_enter Try.func24, Try.ntmps24
  go_wp2_with fail
  generalize (w.alloc (.cells #[.int .i64 0, .slice none 0 0] 26)) = W at *
  refine (l20Open_any ao bs l c W hn hlc hcm hx1 h8).mono fun e w1 h => ?_
  obtain ⟨r, rfl, hr, B⟩ := h
  clear hx1 h8 hn
  rw [hsz] at hr B
  have bk1 := bk.below B (by omega)
  have bel1 := bel.trans (B.mono (by omega))
  have hsz1 := B.size
  rw [hsz] at hsz1
  go_wp2_with fail
  refine (l20Board_any r (w.heap.size + 1) 0 12 w1 hr (by omega) (by omega)).mono fun e w2 h => ?_
  obtain ⟨wide, ao', m, cc, ys, rfl, hl, hmc, hm, hw, ho, hg, hr2⟩ := h
  have hrl := hr2.lt
  have hrl1 := hr.lt
  have hsz2 := hg.size
  have b2A := Blk.new w2 #[.int .i64 wide, .slice ao' m cc] 26
  have hg2 := grownBy_trans hg (grown_alloc w2 (.cells #[.int .i64 wide, .slice ao' m cc] 26) (some r))
  have ho2 := ho.alloc (.cells #[.int .i64 wide, .slice ao' m cc] 26)
  have hr3 := hr2.below ((Below.refl w2.heap.size w2).alloc (Nat.le_refl _) (.cells #[.int .i64 wide, .slice ao' m cc] 26)) (Nat.le_refl _)
  clear hr2 ho hg bk bel hsz
  generalize hW3 : (w2.alloc (.cells #[.int .i64 wide, .slice ao' m cc] 26)) = W3 at *
  have hs3 : W3.heap.size = w2.heap.size + 1 := by rw [← hW3]; simp
  have b3A := b2A.alloc (.cells #[] 3)
  have hg3 := grownBy_trans hg2 (grown_alloc W3 (.cells #[] 3) (some r))
  have ho3 := ho2.alloc (.cells #[] 3)
  have hr4 := hr3.below ((Below.refl W3.heap.size W3).alloc (Nat.le_refl _) (.cells #[] 3)) (Nat.le_refl _)
  have ht3 := Own.lit0 W3 (B := w1.heap.size) (by omega)
  have hob := ho2.base'
  generalize hW4 : (W3.alloc (.cells #[] 3)) = W4 at *
  have hs4 : W4.heap.size = w2.heap.size + 2 := by rw [← hW4]; simp; omega
  have hT : TSt w1 (w.heap.size + 1) r 200 wide (.slice ao' m cc) ys w2.heap.size (w2.heap.size + 2) 0 (.slice (some ⟨w2.heap.size + 1, 0, none⟩) 0 0) (W4.alloc (.cells #[.int .i64 wide, .slice ao' m cc] 26)) := by
    rw [hs3] at ht3
    have hn1 : (Value.slice ao' m cc).ownBlock ≠ some (w2.heap.size + 1) := fun e => by
      rcases hob with e2 | e2
      · rw [e2] at e; cases e
      · have := (e2 _ e).2; omega
    exact ⟨w2.heap.size + 1, 0, [], wide, ao', m, cc, ys, rfl, Nat.le_refl _, ht3.alloc _, rfl, Blk.new' W4 _ _ (by omega), hl, hmc, hm, ho3.alloc _, hn1, b3A.alloc _, ho3.alloc _, hn1, grownBy_trans hg3 (grown_alloc _ _ _), (hr4.below ((Below.refl W4.heap.size W4).alloc (Nat.le_refl _) _) (Nat.le_refl _)).more (by omega), by omega, by omega⟩
  clear b2A b3A hg2 hg3 ho2 ho3 hr3 hr4 ht3 hob
  have e0 : (W4.alloc (.cells #[.int .i64 wide, .slice ao' m cc] 26)).heap.size = w2.heap.size + 3 := by simp; omega
  subst hW4
  subst hW3
  have hrw1 := hrl1.2
  go_wp2_with fail
  generalize (((w2.alloc (.cells #[.int .i64 wide, .slice ao' m cc] 26)).alloc (.cells #[] 3)).alloc (.cells #[.int .i64 wide, .slice ao' m cc] 26)) = W5 at *
  generalize hgx : w2.heap.size + 2 = gx at *
  generalize (Value.slice (some ⟨w2.heap.size + 1, 0, none⟩) 0 0) = tv0 at *
  generalize hgb : w2.heap.size = gb at *
  clear hs3 hs4 e0
  refine (pick_rdr r 14 (w.heap.size + 1) 200 W5 hT.rdr.1 (by omega)).mono fun e w3 hp => ?_
  obtain ⟨v, rfl, v0, v1, _, _, hg3, hr3⟩ := hp
  have v3 := v1 (by omega)
  obtain ⟨k0, rfl⟩ : ∃ k : Nat, v = k := Int.eq_ofNat_of_zero_le v0
  have hT3 := hT.kept hrw1 hg3 hr3
  clear hT hg3 hr3 v1
  go_wp2_with fail
  go_loopw [6, 8, 9, 10, 11] (fun tv i _ _ _ wr => ∃ k q : Nat, k ≤ 13 ∧ q + k ≤ 13 ∧ i = .int .i64 k ∧ TSt w1 (w.heap.size + 1) r (500 - 10 * k) wide (.slice ao' m cc) ys gb gx q tv wr) (fun _ i _ _ _ _ => (intOf i).toNat)
  case atStart => exact ⟨k0, 0, by omega, by omega, rfl, hT3.more (by omega)⟩
  case round =>
    clear hT3
    obtain ⟨k, q, hk, hqk, rfl, hT⟩ := hrel
    by_cases hk0 : 0 < k
    · have hd : decide ((0 : Int) < k) = true := decide_eq_true (by omega)
      have hT2 := hT
      obtain ⟨gt, ct, ts, wx, ax, nx, cx, xs, rfl, h2, h3, h4, h5, h6, h7, h8, h9, h10, h11, h12, h13, h15, h16, h17, h18⟩ := hT2
      have HX := hid h6
      obtain ⟨N, hN⟩ : ∃ N, (mayL wx xs).length = N := ⟨_, rfl⟩
      have hN9 := length_mayL wx xs
      rw [hN] at hN9
      have HN := hid hN
      have e0 := h5.at 0 rfl
      have e1 := h5.at 1 rfl
      clear h6 hN
      go_wp2_with fail
      refine (specTilesMay_any wx ax xs nx cx wr HX.out (by omega) h7 h9.ints).mono fun e w4 h => ?_
      obtain ⟨am, cm, rfl, om, b⟩ := h.to HN.out
      clear h
      have hT4 := hT.below hrw1 b
      have hws4 : wr.heap.size ≤ w4.heap.size := b.size
      have hwsr := hT.rdr.2
      clear hT e0 e1 b h3 h4 h5 h9 h10 h11 h12 h13 h15 h16
      by_cases hN0 : N = 0
      · subst hN0
        clear om
        go_wp2_with fail
        refine (pick_rdr r 10 (w.heap.size + 1) _ w4 hT4.rdr.1 (by omega)).mono fun e w5 hp => ?_
        obtain ⟨v, rfl, x0, _, _, _, hg5, hr5⟩ := hp
        have hT5 := hT4.kept hrw1 hg5 hr5
        clear hT4 hg5 hr5
        go_wp2_with (at_builtin; refine wpList_appendT rfl _ _ rfl rfl hT5 hrw1 v rfl (by omega) ?_)
        intro tv' w6 hT6
        clear hT5
        go_wp2
        go_roundw
        case rel => exact ⟨k - 1, q + 1, by omega, by omega, by go_num, hT6.more (by omega)⟩
        case measure => simp [intOf]; omega
      · have hNb : ((N : Int) == 0) = false := by simp; omega
        obtain ⟨gm, rfl⟩ := om.addr (by rw [HN.out]; omega)
        have hgm := om.base
        go_wp2_with fail
        refine (odd_rdr r 60 (w.heap.size + 1) _ w4 hT4.rdr.1 (by omega) (by omega)).mono fun e w5 hp => ?_
        obtain ⟨bo, rfl, hg5, hr5, _⟩ := hp
        have hT5 := hT4.kept hrw1 hg5 hr5
        have om5 := own_pick' om hg5 (by omega)
        clear hT4 hg5 hr5 om
        cases bo with
        | true =>
          clear om5
          go_wp2_with fail
          refine (pick_rdr r 10 (w.heap.size + 1) _ w5 hT5.rdr.1 (by omega)).mono fun e w6 hp => ?_
          obtain ⟨v, rfl, x0, _, _, _, hg6, hr6⟩ := hp
          have hT6 := hT5.kept hrw1 hg6 hr6
          clear hT5 hg6 hr6
          go_wp2_with (at_builtin; refine wpList_appendT rfl _ _ rfl rfl hT6 hrw1 v rfl (by omega) ?_)
          intro tv' w7 hT7
          clear hT6
          go_wp2
          go_roundw
          case rel => exact ⟨k - 1, q + 1, by omega, by omega, by go_num, hT7.more (by omega)⟩
          case measure => simp [intOf]; omega
        | false =>
          go_wp2_with fail
          refine (pick_rdr r (N : Int) (w.heap.size + 1) _ w5 hT5.rdr.1 (by omega)).mono fun e w6 hp => ?_
          obtain ⟨v, rfl, x0, x1, _, _, hg6, hr6⟩ := hp
          have x3 := x1 (by omega)
          obtain ⟨j, rfl⟩ : ∃ j : Nat, v = j := Int.eq_ofNat_of_zero_le x0
          have hT6 := hT5.kept hrw1 hg6 hr6
          have om6 := own_pick' om5 hg6 (by omega)
          have hcj := om6.cell (j := j) (by rw [HN.out]; omega)
          clear hT5 hg6 hr6 om5 om6 x1
          generalize nth (mayL wx xs) j = t at *
          go_wp2_with (at_builtin; refine wpList_appendT rfl _ _ rfl rfl hT6 hrw1 t rfl (by omega) ?_)
          intro tv' w7 hT7
          clear hcj
          have hrs7 := hT7.rdr
          have hT7c := hT7
          obtain ⟨gt, ct, ts, wx, ax, nx, cx, xs, rfl, h2, h3, h4, h5, h6, h7, h8, h9, h10, h11, h12, h13, h15, h16, h17, h18⟩ := hT7c
          have HX7 := hid h6
          obtain ⟨tl, htl⟩ : ∃ tl, nth ts q = tl := ⟨_, rfl⟩
          have e0 := h5.at 0 rfl
          have e1 := h5.at 1 rfl
          have cq := h3.cell (j := q) (by omega)
          rw [htl] at cq
          have lt1 := h5.lt
          have lt2 := h3.base.2
          have hwq : IntKind.i64.wrap (q : Int) = q := IntWalk.i64_in _ (by omega)
          have hb2 : (q : Int) < (q : Int) + 1 := by omega
          have hb3 : (0 : Int) ≤ (q : Int) := by omega
          have hnx17 : nx ≤ 17592186044416 := by omega
          obtain ⟨P, hP⟩ : ∃ P, (tmL wx xs tl).length = P := ⟨_, rfl⟩
          have hP9 : P ≤ 9 := by
            rw [← hP]
            by_cases hb : BoardOk wx xs
            · rw [tmL_in hb, length_movedL]; omega
            · rw [tmL_out hb]; simp
          have HP := hid hP
          clear h6 hP h4 h10 h11 h12 h13 h15 h16 htl
          go_upto_region 12 with fail
          go_cut [10, 11] (fun y _ wy => ∃ gy wz az cz zs, y = .pointer (some ⟨gy, 0, none⟩) ∧ Blk wy gy #[.int .i64 wz, .slice az P cz] 26 ∧ Hid (zs.length = P) ∧ P ≤ cz ∧ Own wy w7.heap.size (.slice az P cz) zs ∧ Below w7.heap.size w7 wy)
          case first =>
            go_region_held3 (fun w' => (∀ b o, b < w7.heap.size → w'.cell? ⟨b, o, none⟩ = w7.cell? ⟨b, o, none⟩) ∧ Below w7.heap.size w7 w')
              (first | with_reducible exact sb_drew _ | with_reducible exact sb_ad _ _ | with_reducible exact sb_call ‹_› bx | with_reducible exact sb_alloc (sb_call (sb_drew _) bx) _ | with_reducible exact sb_set (sb_set ‹_› (Nat.le_refl _) _ _) (Nat.le_refl _) _ _ | with_reducible exact sb_alloc ‹_› _)
              (first | (go_at_call 20; refine (specTileMove_any wx ax xs nx cx tl w7.drew HX7.out hnx17 h7 h9.ints).mono fun e w8 h => ?_; obtain ⟨az, cz, rfl, hcz, oz, bx⟩ := h.to HP.out; clear h)
                     | (go_at_call 20; refine (specTileMove_any wx ax xs nx cx tl (w7.alloc (.cells #[.int .i64 0, .slice none 0 0] 26)).drew HX7.out hnx17 h7 (h9.alloc (.cells #[.int .i64 0, .slice none 0 0] 26)).ints).mono fun e w8 h => ?_; obtain ⟨az, cz, rfl, hcz, oz, bx⟩ := h.to HP.out; clear h; have bb : Blk w8 w7.heap.size #[.int .i64 0, .slice none 0 0] 26 := Blk.below (w := (w7.alloc (.cells #[.int .i64 0, .slice none 0 0] 26)).drew) (Blk.new w7 _ _) bx (Nat.le_refl _); have fb0 := bb.free 0; have fb1 := bb.free 1; have cb0 := bb.at 0 rfl; have cb1 := bb.at 1 rfl))
            all_goals rename_i hH
            · have bkd := Blk.new w8 #[.int .i64 (tmW wx xs), .slice az P cz] 26
              have od := oz.alloc (.cells #[.int .i64 (tmW wx xs), .slice az P cz] 26)
              have hb := hH.2
              clear hH bx oz e0 e1 cq
              go_wp2_with fail
              go_meet
              exact ⟨_, _, az, cz, _, rfl, bkd, HP.out, hcz, od, hb⟩
            · have bkd := (bb.set 0 (.int .i64 (tmW wx xs))).set 1 (.slice az P cz)
              have od := ((oz.setOther w7.heap.size 0 (.int .i64 (tmW wx xs)) (oz.ne_of_lt (by simp))).setOther w7.heap.size 1 (.slice az P cz) (oz.ne_of_lt (by simp))).lower (B' := w7.heap.size) (by simp)
              have hb := hH.2
              clear hH bx oz e0 e1 cq bb fb0 fb1 cb0 cb1
              go_wp2_with fail
              go_meet
              exact ⟨_, _, az, cz, _, rfl, bkd, HP.out, hcz, od, hb⟩
          case rest =>
            obtain ⟨gy, wz, az, cz, zs, rfl, hby, hzl, hcz, oz, bel⟩ := hcut
            have hg8 : w7.grownBy wc (some r) := ⟨bel.os, bel.tape, bel.output, bel.size, fun k hk _ => bel.block k hk⟩
            have hT8 := hT7.moved (wz := wz) hrw1 hg8 (hrs7.1.below bel (Nat.le_refl _)) oz hzl.out hcz hP9
            have h5' := h5.below bel (Nat.le_refl _)
            clear e0 e1 cq
            have d0 := hby.at 0 rfl
            have d1 := hby.at 1 rfl
            have e0 := h5'.at 0 rfl
            have e1 := h5'.at 1 rfl
            have f0 := h5'.free 0
            have f1 := h5'.free 1
            clear hT7 h5 h5' h3 h9 oz hby bel hg8 hrs7
            go_wp2_with fail
            go_roundw
            case rel => exact ⟨k - 1, q + 1, by omega, by omega, by go_num, hT8.more (by omega)⟩
            case measure => simp [intOf]; omega
    · obtain rfl : k = 0 := by omega
      have hd : decide ((0 : Int) < (0 : Nat)) = false := by simp
      go_wp2_with fail
      refine (odd_rdr r 40 (w.heap.size + 1) _ wr hT.rdr.1 (by omega) (by omega)).mono fun e w4 hp => ?_
      obtain ⟨bo, rfl, hg5, hr5, _⟩ := hp
      have hT5 := hT.kept hrw1 hg5 hr5
      clear hT hg5 hr5
      obtain ⟨gt, ct, ts, wx, ax, nx, cx, xs, rfl, h2, h3, h4, h5, h6, h7, h8, h9, h10, h11, h12, h13, h15, h16, h17, h18⟩ := hT5
      have bkr := bk1.kept h15 (fun e => by have := Option.some.inj e; omega)
      have B4 := below_grown bel1 h15 (by omega)
      have HTS := hid h4
      have HYS := hid hl
      have hne3 : gb ≠ w.heap.size := by omega
      have lb := h11.lt
      have lr := bkr.lt
      clear h5 h6 h7 h8 h9 h10 h13 h15 h16 h4 hl bel1 bk1
      have e0 := h11.at 0 rfl
      have e1 := h11.at 1 rfl
      have f0 := bkr.free 0
      have f1 := bkr.free 1
      have g0 := bkr.at 0 rfl
      have g1 := bkr.at 1 rfl
      cases bo with
      | true =>
        obtain ⟨i0, hi, hz0, hz1, hz2⟩ := info_parts Try.infoInt
        obtain ⟨w5, hrun, r1, r2⟩ := run_make_full (P := Try.prog) w4.drew w1.heap.size 24 3 i0 (.int .i64 0) 1 Try.underlying24 hi hz0 hz1 .i64 .i64 100 (by rw [hz2]; omega) (by unfold maxLen; omega) (by have := bkr.lt; have := B4.size; simp; omega)
        have hrun' : Sem.run Try.prog (Instr.makeSlice 24 (.int .i64 100) (.int .i64 100)) w4.drew = .ok (.slice (some ⟨w4.heap.size, 0, none⟩) 100 100) w5 := hrun
        have om : Own w5 w1.heap.size (.slice (some ⟨w4.heap.size, 0, none⟩) 100 100) (List.replicate 100 0) := Own.made r1
        have b5 := Blk.kept (w := w4.drew) h11 r2 (Option.some_ne_none _)
        have r5 := Blk.kept (w := w4.drew) bkr r2 (Option.some_ne_none _)
        have o5 := Own.kept (w := w4.drew) h12 r2 (by cases h : (Value.slice ao' m cc).ownBlock <;> simp)
        have hB5 : Below w.heap.size w w5 := (B4.drew).grown r2 B4.size (fun k e => by cases e)
        have hw1w : w.heap.size < w1.heap.size := by omega
        have hB6 := (hB5.setCell (p := ⟨w.heap.size, 0, none⟩) (Nat.le_refl _) (.int .i64 wide)).setCell (p := ⟨w.heap.size, 1, none⟩) (Nat.le_refl _) (.slice ao' m cc)
        have ho6 := ((o5.setOther w.heap.size 0 (.int .i64 wide) (o5.ne_of_lt hw1w)).setOther w.heap.size 1 (.slice ao' m cc) (o5.ne_of_lt hw1w)).lower (B' := w.heap.size) (by omega)
        have ht6 := ((om.setOther w.heap.size 0 (.int .i64 wide) (om.ne_of_lt hw1w)).setOther w.heap.size 1 (.slice ao' m cc) (om.ne_of_lt hw1w)).lower (B' := w.heap.size) (by omega)
        have d0 := b5.at 0 rfl
        have d1 := b5.at 1 rfl
        have q0 := r5.at 0 rfl
        have q1 := r5.at 1 rfl
        have p0 := r5.free 0
        have p1 := r5.free 1
        have hs6 : ((w4.setCell ⟨w.heap.size, 0, none⟩ (.int .i64 wide)).setCell ⟨w.heap.size, 1, none⟩ (.slice ao' m cc)).heap.size = w4.heap.size := by simp
        obtain ⟨w6, hrun6, s1, s2⟩ := run_make_full (P := Try.prog) ((w4.setCell ⟨w.heap.size, 0, none⟩ (.int .i64 wide)).setCell ⟨w.heap.size, 1, none⟩ (.slice ao' m cc)).drew w1.heap.size 24 3 i0 (.int .i64 0) 1 Try.underlying24 hi hz0 hz1 .i64 .i64 100 (by rw [hz2]; omega) (by unfold maxLen; omega) (by have := bkr.lt; have := B4.size; simp; omega)
        have hrun6' : Sem.run Try.prog (Instr.makeSlice 24 (.int .i64 100) (.int .i64 100)) ((w4.setCell ⟨w.heap.size, 0, none⟩ (.int .i64 wide)).setCell ⟨w.heap.size, 1, none⟩ (.slice ao' m cc)).drew = .ok (.slice (some ⟨w4.heap.size, 0, none⟩) 100 100) w6 := by
          have h := hrun6
          rw [show ((w4.setCell ⟨w.heap.size, 0, none⟩ (.int .i64 wide)).setCell ⟨w.heap.size, 1, none⟩ (.slice ao' m cc)).drew.heap.size = w4.heap.size from hs6] at h
          exact h
        have om6 : Own w6 w1.heap.size (.slice (some ⟨w4.heap.size, 0, none⟩) 100 100) (List.replicate 100 0) := by
          have h := Own.made s1
          rw [show ((w4.setCell ⟨w.heap.size, 0, none⟩ (.int .i64 wide)).setCell ⟨w.heap.size, 1, none⟩ (.slice ao' m cc)).drew.heap.size = w4.heap.size from hs6] at h
          exact h
        have x6 := (h12.setOther w.heap.size 0 (.int .i64 wide) (h12.ne_of_lt hw1w)).setOther w.heap.size 1 (.slice ao' m cc) (h12.ne_of_lt hw1w)
        have o6 := (Own.kept (w := ((w4.setCell ⟨w.heap.size, 0, none⟩ (.int .i64 wide)).setCell ⟨w.heap.size, 1, none⟩ (.slice ao' m cc)).drew) x6 s2 (by cases h : (Value.slice ao' m cc).ownBlock <;> simp)).lower (B' := w.heap.size) (by omega)
        have om7 := om6.lower (B' := w.heap.size) (by omega)
        have y6 : Blk ((w4.setCell ⟨w.heap.size, 0, none⟩ (.int .i64 wide)).setCell ⟨w.heap.size, 1, none⟩ (.slice ao' m cc)) w.heap.size #[.int .i64 wide, .slice ao' m cc] 26 := (bkr.set 0 (.int .i64 wide)).set 1 (.slice ao' m cc)
        have b6 := Blk.kept (w := ((w4.setCell ⟨w.heap.size, 0, none⟩ (.int .i64 wide)).setCell ⟨w.heap.size, 1, none⟩ (.slice ao' m cc)).drew) y6 s2 (Option.some_ne_none _)
        have z6 := (B4.setCell (p := ⟨w.heap.size, 0, none⟩) (Nat.le_refl _) (.int .i64 wide)).setCell (p := ⟨w.heap.size, 1, none⟩) (Nat.le_refl _) (.slice ao' m cc)
        have hB7 : Below w.heap.size w w6 := z6.drew.grown s2 z6.size (fun k e => by cases e)
        have t0 := b6.at 0 rfl
        have t1 := b6.at 1 rfl
        clear h3 h11 h12 bkr hrun r1 r2 o5 om b5 r5 B4 hB5 hrun6 s1 s2 om6 x6 y6 b6 z6 hs6
        go_upto_region 15 with fail
        go_region
        all_goals
          go_wp2
          first
            | exact bodyPost_ret (v := .tuple #[.agg #[.int .i64 wide, .slice ao' m cc], .slice (some ⟨w4.heap.size, 0, none⟩) 100 100]) (by simp [results, Try.results24, go_sem, q0, q1]) rfl ⟨wide, ao', m, cc, ys, _, 100, 100, _, rfl, HYS.out, hmc, hm, List.length_replicate, Nat.le_refl _, by omega, ho6, ht6, hB6⟩
            | exact bodyPost_ret (v := .tuple #[.agg #[.int .i64 wide, .slice ao' m cc], .slice (some ⟨w4.heap.size, 0, none⟩) 100 100]) (by simp [results, Try.results24, go_sem, t0, t1]) rfl ⟨wide, ao', m, cc, ys, _, 100, 100, _, rfl, HYS.out, hmc, hm, List.length_replicate, Nat.le_refl _, by omega, o6, om7, hB7⟩
      | false =>
        have hB6 := (B4.setCell (p := ⟨w.heap.size, 0, none⟩) (Nat.le_refl _) (.int .i64 wide)).setCell (p := ⟨w.heap.size, 1, none⟩) (Nat.le_refl _) (.slice ao' m cc)
        have ho6 := ((h12.setOther w.heap.size 0 (.int .i64 wide) (h12.ne_of_lt (by omega))).setOther w.heap.size 1 (.slice ao' m cc) (h12.ne_of_lt (by omega))).lower (B' := w.heap.size) (by omega)
        have ht6 := ((h3.setOther w.heap.size 0 (.int .i64 wide) (h3.ne_of_lt (by omega))).setOther w.heap.size 1 (.slice ao' m cc) (h3.ne_of_lt (by omega))).lower (B' := w.heap.size) (by omega)
        clear h3 h11 h12 B4 bkr
        go_wp2
        exact bodyPost_ret (v := .tuple #[.agg #[.int .i64 wide, .slice ao' m cc], .slice (some ⟨gt, 0, none⟩) q ct]) (by simp [results, Try.results24, go_sem, g0, g1]) rfl ⟨wide, ao', m, cc, ys, _, q, ct, ts, rfl, HYS.out, hmc, hm, HTS.out, h2, by omega, ho6, ht6, hB6⟩

end Go.Proofs.Ytncebcgiljkbnaa
