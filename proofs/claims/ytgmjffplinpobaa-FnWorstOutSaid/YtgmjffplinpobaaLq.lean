/- The graphs that laws draw: l20Graph. -/
import Derived.Test.YtgmjffplinpobaaLp
import Derived.Test.YtgmjffplinpobaaDr
namespace Go.Proofs.Ytgmjffplinpobaa
open Go Go.RowKit

/-- A graph that has been drawn. -/
def DrawGr (w : World) (B r N : Nat) (e : Ending) (w' : World) : Prop :=
  ∃ ao m c ys, e = .returned (.agg #[.slice ao m c]) ∧ ys.length = m ∧ m ≤ c ∧ m ≤ 10 ∧ Own w' w.heap.size (.slice ao m c) ys ∧ w.grownBy w' (some r) ∧ Rdr w' B r N

/-- A graph in the making, and the reader. -/
def LSt (w : World) (B r N gb m : Nat) (wx : World) : Prop :=
  ∃ ao c ys, Hid (ys.length = m) ∧ m ≤ c ∧ Blk wx gb #[.slice ao m c] 25 ∧ Own wx (w.heap.size + 1) (.slice ao m c) ys ∧ Blk wx w.heap.size #[.slice none 0 0] 25 ∧ w.grownBy wx (some r) ∧ Rdr wx B r N ∧ (Value.slice ao m c).ownBlock ≠ some gb

theorem LSt.rdr {w wx : World} {B r N gb m : Nat} (h : LSt w B r N gb m wx) : Rdr wx B r N := by
  obtain ⟨_, _, _, _, _, _, _, _, _, h, _⟩ := h; exact h
theorem LSt.grown {w wx : World} {B r N gb m : Nat} (h : LSt w B r N gb m wx) : w.grownBy wx (some r) := by
  obtain ⟨_, _, _, _, _, _, _, _, h, _, _⟩ := h; exact h
theorem LSt.more {w wx : World} {B r N M gb m : Nat} (h : LSt w B r N gb m wx) (hM : N ≤ M) : LSt w B r M gb m wx := by
  obtain ⟨ao, c, ys, h1, h2, h3, h4, h5, h6, h7, h8⟩ := h
  exact ⟨ao, c, ys, h1, h2, h3, h4, h5, h6, h7.more hM, h8⟩
theorem LSt.kept {w wx wy : World} {B r N M gb m : Nat} (h : LSt w B r N gb m wx) (hg : wx.grownBy wy (some r)) (hr : Rdr wy B r M) (hrw : r < w.heap.size) (hgb : w.heap.size < gb) : LSt w B r M gb m wy := by
  obtain ⟨ao, c, ys, h1, h2, h3, h4, h5, h6, h7, h8⟩ := h
  have hne : (Value.slice ao m c).ownBlock = none ∨ (Value.slice ao m c).ownBlock ≠ some r := by
    cases e : (Value.slice ao m c).ownBlock with
    | none => exact .inl rfl
    | some q => exact .inr fun e2 => by have := (World.ownsRow.lt h4 q e).1; have := Option.some.inj e2; omega
  exact ⟨ao, c, ys, h1, h2, h3.kept hg (fun e => by have := Option.some.inj e; omega), h4.kept hg hne, h5.kept hg (fun e => by have := Option.some.inj e; omega), grownBy_trans h6 hg, hr, h8⟩
/-- A store into the row. -/
theorem LSt.set {w wx : World} {B r N gb m g c : Nat} {ys : List Int} (hl : Hid (ys.length = m)) (_hmc : m ≤ c) (hb : Blk wx gb #[.slice (some ⟨g, 0, none⟩) m c] 25) (ho : Own wx (w.heap.size + 1) (.slice (some ⟨g, 0, none⟩) m c) ys) (h5 : Blk wx w.heap.size #[.slice none 0 0] 25) (h6 : w.grownBy wx (some r)) (h7 : Rdr wx B r N) (hne : g ≠ gb) (hrw : r < w.heap.size) (hBr : B ≤ w.heap.size) (j : Nat) (x : Int) :
    let W := (wx.setCell ⟨g, j, none⟩ (.int .i64 x)).drew
    Hid ((ys.set j x).length = m) ∧ Blk W gb #[.slice (some ⟨g, 0, none⟩) m c] 25 ∧ Own W (w.heap.size + 1) (.slice (some ⟨g, 0, none⟩) m c) (ys.set j x) ∧ Blk W w.heap.size #[.slice none 0 0] 25 ∧ w.grownBy W (some r) ∧ Rdr W B r N := by
  have hb9 := ho.base
  have hg := grownBy_setCell wx g j (.int .i64 x)
  have hg6 := grown_new h6 hg (fun g' e => by have := Option.some.inj e; omega)
  have hr7 := h7.kept hg (fun g' e => by have := Option.some.inj e; exact ⟨by omega, by omega⟩)
  exact ⟨by have := hl.out; unfold Hid; rw [List.length_set]; exact this, hb.setOther (Ne.symm hne) j _, ho.stored hl.out.symm j x, h5.setOther (by omega) j _, ⟨hg6.os, hg6.tape, hg6.output, hg6.size, hg6.block⟩, hr7⟩

theorem LSt.size {w wx : World} {B r N gb m : Nat} (h : LSt w B r N gb m wx) : gb < wx.heap.size := by
  obtain ⟨_, _, _, _, _, h, _⟩ := h; exact h.lt
theorem LSt.cell {w wx : World} {B r N gb m : Nat} (h : LSt w B r N gb m wx) : (∃ v, wx.cell? ⟨gb, 0, none⟩ = some v) ∧ wx.frozen? ⟨gb, 0, none⟩ = false := by
  obtain ⟨_, _, _, _, _, h, _⟩ := h; exact ⟨⟨_, h.at 0 rfl⟩, h.free 0⟩
/-- Another graph is laid into the variable. -/
theorem LSt.swap {w wx wy : World} {B r N gb m m' c' : Nat} {ao' : Option Addr} {ys' : List Int} (h : LSt w B r N gb m wx) (hl : ys'.length = m') (hmc : m' ≤ c') (ho : Own wy wx.heap.size (.slice ao' m' c') ys') (hb : Below wx.heap.size wx wy) (hgb : w.heap.size < gb) (hBr : B ≤ r ∧ r < w.heap.size) :
    LSt w B r N gb m' (wy.setCell ⟨gb, 0, none⟩ (.slice ao' m' c')) ∧ (∃ v, wy.cell? ⟨gb, 0, none⟩ = some v) ∧ wy.frozen? ⟨gb, 0, none⟩ = false := by
  obtain ⟨ao, c, ys, h1, h2, h3, h4, h5, h6, h7, h8⟩ := h
  have h3y := h3.below hb (Nat.le_refl _)
  have hlt := h3.lt
  have hg := grownBy_setCell wy gb 0 (.slice ao' m' c')
  have h6y := grown_new h6 ⟨hb.os, hb.tape, hb.output, hb.size, fun k hk _ => hb.block k hk⟩ (row := none) (fun g e => by cases e)
  refine ⟨⟨ao', c', ys', hl, hmc, h3y.set 0 _, (ho.lower (by omega)).setOther gb 0 _ (ho.ne_of_lt hlt), (h5.below hb (Nat.le_refl _)).setOther (by omega) 0 _, grown_new h6y hg (fun g' e => by have := Option.some.inj e; omega), (h7.below hb (Nat.le_refl _)).kept hg (fun g' e => by have := Option.some.inj e; exact ⟨by omega, by omega⟩), fun e => ?_⟩, ⟨_, h3y.at 0 rfl⟩, h3y.free 0⟩
  have := (World.ownsRow.lt ho gb e).1
  omega

theorem DrawGr.mk {w wx : World} {B r N M m c : Nat} {ao : Option Addr} {ys : List Int} (ho : Own wx (w.heap.size + 1) (.slice ao m c) ys) (hl : ys.length = m) (hmc : m ≤ c) (hm : m ≤ 10) (h6 : w.grownBy wx (some r)) (h7 : Rdr wx B r N) (hM : N ≤ M) (hrw : r < w.heap.size) (hBr : B ≤ r) :
    DrawGr w B r M (.returned (.agg #[.slice ao m c])) (wx.setCell ⟨w.heap.size, 0, none⟩ (.slice ao m c)) := by
  have hg := grownBy_setCell wx w.heap.size 0 (.slice ao m c)
  exact ⟨ao, m, c, ys, rfl, hl, hmc, hm, (ho.setOther w.heap.size 0 _ (ho.ne_of_lt (Nat.lt_succ_self _))).lower (Nat.le_succ _), grown_new h6 hg (fun g' e => by have := Option.some.inj e; omega), (h7.kept hg (fun g' e => by have := Option.some.inj e; exact ⟨by omega, by omega⟩)).more hM⟩

set_option maxRecDepth 100000 in
set_option maxHeartbeats 4000000 in
theorem l20Graph_any (r B N : Nat) (n : Int) (w : World) (h : Rdr w B r N) (hN : N ≤ 1000000) (hn : n ≤ 1000) :
    Calls Try.prog 43 #[.pointer (some ⟨r, 0, none⟩), .int .i64 n] w (DrawGr w B r (N + 100)) := by
  obtain ⟨hBr, hrw⟩ := h.lt
  have b1 := Blk.new w #[.slice none 0 0] 25
  have B1 := (Below.refl w.heap.size w).alloc (Nat.le_refl _) (.cells #[.slice none 0 0] 25)
  have hg0 := grown_alloc w (.cells #[.slice none 0 0] 25) (some r)
  have hr0 := h.below B1 (Nat.le_refl _)
  have hsz : (w.alloc (.cells #[.slice none 0 0] 25)).heap.size = w.heap.size + 1 := by simp
  clear h
  go_enter Try.func43, Try.ntmps43
  go_wp2_with fail
  generalize (w.alloc (.cells #[.slice none 0 0] 25)) = W at *
  refine (pick_rdr r 9 B N W hr0 (by omega)).mono fun e w1 hp => ?_
  obtain ⟨p, rfl, p0, p1, _, _, hg1, hr1⟩ := hp
  have p2 := p1 (by omega)
  obtain ⟨P, hP⟩ := Int.eq_ofNat_of_zero_le p0
  subst hP
  have b1 := b1.kept hg1 (fun e => by have := Option.some.inj e; omega)
  have hs1 := hg1.size
  have hg1 := grownBy_trans hg0 hg1
  clear hr0 hg0 B1 p1
  go_wp2_with fail
  refine (pick_rdr r 3 B (N + 1) w1 hr1 (by omega)).mono fun e w2 hp => ?_
  obtain ⟨q, rfl, q0, q1, _, _, hg2, hr2⟩ := hp
  have b1 := b1.kept hg2 (fun e => by have := Option.some.inj e; omega)
  have hs2 := hg2.size
  have hg2 := grownBy_trans hg1 hg2
  clear hr1 hg1 q1
  go_upto_if 15 with fail
  go_cut [5] (fun p wx => ∃ m : Nat, p = .int .i64 m ∧ (1 ≤ m ∧ m ≤ 9) ∧ w.grownBy wx (some r) ∧ Rdr wx B r (N + 3) ∧ Blk wx w.heap.size #[.slice none 0 0] 25 ∧ w.heap.size + 1 ≤ wx.heap.size)
  case first =>
    by_cases hq : 0 < q
    · have hd : decide (0 < q) = true := decide_eq_true hq
      go_wp2_with fail
      refine (pick_rdr r 7 B (N + 2) w2 hr2 (by omega)).mono fun e w3 hp => ?_
      obtain ⟨v, rfl, v0, v1, _, _, hg3, hr3⟩ := hp
      have v2 := v1 (by omega)
      obtain ⟨V, hV⟩ := Int.eq_ofNat_of_zero_le v0
      subst hV
      have b1 := b1.kept hg3 (fun e => by have := Option.some.inj e; omega)
      have hs3 := hg3.size
      have hg3 := grownBy_trans hg2 hg3
      go_wp2
      go_meet
      exact ⟨1 + V, by go_num, by omega, hg3, hr3, b1, by omega⟩
    · have hd : decide (0 < q) = false := decide_eq_false hq
      go_wp2
      go_meet
      exact ⟨1 + P, by go_num, by omega, hg2, hr2.more (by omega), b1, by omega⟩
  case rest =>
    clear hr2 hg2 b1 hs1 hs2 hsz
    obtain ⟨m, rfl, ⟨hm1, hm9⟩, hg, hr, b1, hs⟩ := hcut
    obtain ⟨i0, hi, hz0, hz1, hz2⟩ := info_parts Try.infoInt
    go_wp2_with (at_make; refine wpList_make_full _ rfl _ _ 23 rfl (w.heap.size + 1) 3 i0 (.int .i64 0) 1 Try.underlying23 hi hz0 hz1 _ _ _ _ m rfl rfl ?m3 ?m4 ?m1 ?m2 hs ?_)
    case m1 => rw [hz2]; omega
    case m2 => unfold maxLen; omega
    case m3 => rfl
    case m4 => rfl
    intro w4 hown hgrow
    have ho := Own.made hown
    have b1 := b1.kept hgrow (fun e => by cases e)
    have hr := hr.kept hgrow (fun g e => by cases e)
    have hg := grown_new hg hgrow (fun g e => by cases e)
    have hgl := ho.base
    have hbb := Blk.new w4 #[.slice (some ⟨wc.heap.size, 0, none⟩) m m] 25
    have ba := (Below.refl w4.heap.size w4).alloc (Nat.le_refl _) (.cells #[.slice (some ⟨wc.heap.size, 0, none⟩) m m] 25)
    have hS : LSt w B r (N + 3) w4.heap.size m (w4.alloc (.cells #[.slice (some ⟨wc.heap.size, 0, none⟩) m m] 25)) :=
      ⟨_, m, List.replicate m 0, by unfold Hid; simp, Nat.le_refl _, hbb, ho.alloc _, b1.alloc _, grown_new hg (grown_alloc w4 _ none) (fun g e => by cases e), hr.below ba (Nat.le_refl _), fun e => by have e2 : wc.heap.size = w4.heap.size := Option.some.inj e; omega⟩
    clear hown hgrow hi hz0 hz1 hz2 i0 b1 hbb ho hr hg ba
    go_wp2_with fail
    generalize (w4.alloc (.cells #[.slice (some ⟨wc.heap.size, 0, none⟩) m m] 25)) = w5 at *
    obtain ⟨gb, hgbe⟩ : ∃ gb, w4.heap.size = gb := ⟨_, rfl⟩
    rw [hgbe] at hS hgl ⊢
    clear hgbe
    refine (pick_rdr r 4 B (N + 3) w5 hS.rdr (by omega)).mono fun e w6 hp => ?_
    obtain ⟨o, rfl, _, _, _, _, hg6, hr6⟩ := hp
    have hS := hS.kept hg6 hr6 hrw (by omega)
    clear hg6 hr6
    go_wp2_with fail
    go_loopw [8, 9] (fun i _ wr => ∃ a : Nat, a ≤ m ∧ i = .int .i64 a ∧ LSt w B r (N + 4 + 9 * a) gb m wr) (fun i _ _ => m - (intOf i).toNat)
    case atStart => exact ⟨0, Nat.zero_le _, rfl, hS⟩
    case round =>
      obtain ⟨a, ha, rfl, hA⟩ := hrel
      clear hS
      by_cases hlt : a < m
      · have hd : decide ((a : Int) < m) = true := decide_eq_true (by omega)
        go_wp2
        go_loopw [9] (fun i wr => ∃ b : Nat, b ≤ a ∧ i = .int .i64 b ∧ LSt w B r (N + 4 + 9 * a + b) gb m wr) (fun i _ => a - (intOf i).toNat)
        case atStart => exact ⟨0, Nat.zero_le _, rfl, hA⟩
        case round =>
          obtain ⟨b, hb, rfl, hI⟩ := hrel
          clear hA
          by_cases hlb : b < a
          · have hdb : decide ((b : Int) < a) = true := decide_eq_true (by omega)
            go_wp2_with fail
            refine (pick_rdr r 5 B (N + 4 + 9 * a + b) wr hI.rdr (by omega)).mono fun e w7 hp => ?_
            obtain ⟨v, rfl, _, _, _, _, hg7, hr7⟩ := hp
            have hI := hI.kept hg7 hr7 hrw (by omega)
            clear hg7 hr7
            by_cases hv : v < 1 + o
            · have hdv : decide (v < 1 + o) = true := decide_eq_true hv
              obtain ⟨ao, c, ys, h1, h2, h3, h4, h5, h6, h7, h8⟩ := hI
              obtain ⟨g, rfl⟩ := h4.addr (by rw [h1.out]; omega)
              have hne : g ≠ gb := fun e => h8 (by rw [e]; rfl)
              have hBw : B ≤ w.heap.size := by omega
              have hBr := hBw
              have hgb := h4.base
              have ham : (a : Int) < m := by omega
              have hbm : (b : Int) < m := by omega
              obtain ⟨pa, hpa⟩ : ∃ p : Int, wrap64 (2 ^ a) = p := ⟨_, rfl⟩
              have hpa2 : IntKind.i64.wrap ((2 : Int) ^ a) = pa := by rw [← hpa, wrap_pow (by omega), wrap_powk (by omega)]
              obtain ⟨pb, hpb⟩ : ∃ p : Int, wrap64 (2 ^ b) = p := ⟨_, rfl⟩
              have hpb2 : IntKind.i64.wrap ((2 : Int) ^ b) = pb := by rw [← hpb, wrap_pow (by omega), wrap_powk (by omega)]
              have e9 := h3.at 0 rfl
              have c9 := h4.cell (j := a) (by rw [h1.out]; omega)
              have f9 := h4.free h1.out.symm a
              obtain ⟨z, hz⟩ : ∃ z, IntKind.i64.wrap (nth ys a + pb) = z := ⟨_, rfl⟩
              obtain ⟨h1, h3, h4, h5, h6, h7⟩ := LSt.set h1 h2 h3 h4 h5 h6 h7 hne hrw hBr a z
              go_wp2
              go_region
              clear e9 c9 f9 hz
              generalize (World.setCell w7 ⟨g, a, none⟩ (.int .i64 z)).drew = w8 at *
              generalize ys.set a z = ys at *
              have e9 := h3.at 0 rfl
              have c9 := h4.cell (j := b) (by rw [h1.out]; omega)
              have f9 := h4.free h1.out.symm b
              obtain ⟨z, hz⟩ : ∃ z, IntKind.i64.wrap (nth ys b + pa) = z := ⟨_, rfl⟩
              obtain ⟨h1, h3, h4, h5, h6, h7⟩ := LSt.set h1 h2 h3 h4 h5 h6 h7 hne hrw hBr b z
              go_wp2
              go_region
              clear e9 c9 f9 hz
              generalize (World.setCell w8 ⟨g, b, none⟩ (.int .i64 z)).drew = w9 at *
              generalize ys.set b z = ys at *
              have hI : LSt w B r (N + 4 + 9 * a + b + 1) gb m w9 := ⟨_, c, ys, h1, h2, h3, h4, h5, h6, h7, h8⟩
              clear h1 h3 h4 h5 h6 h7 h8 hdv
              go_wp2
              go_roundw
              case rel => exact ⟨b + 1, by omega, by go_num, hI⟩
              case measure => simp [intOf]; omega
            · have hdv : decide (v < 1 + o) = false := decide_eq_false hv
              go_wp2
              go_roundw
              case rel => exact ⟨b + 1, by omega, by go_num, hI⟩
              case measure => simp [intOf]; omega
          · have hdb : decide ((b : Int) < a) = false := decide_eq_false (by omega)
            go_wp2
            go_roundw
            case rel => exact ⟨a + 1, by omega, by go_num, hI.more (by omega)⟩
            case measure => simp [intOf]; omega
      · obtain rfl : a = m := by omega
        have hd : decide ((a : Int) < a) = false := by simp
        go_wp2_with fail
        refine (pick_rdr r 5 B (N + 4 + 9 * a) wr hA.rdr (by omega)).mono fun e w7 hp => ?_
        obtain ⟨v, rfl, _, _, _, _, hg7, hr7⟩ := hp
        have hS := (hA.kept hg7 hr7 hrw (by omega)).more (M := N + 90) (by omega)
        clear hg7 hr7 hA
        -- TAIL
        by_cases hv0 : v = 0
        · subst hv0
          go_wp2_with fail
          refine (pick_rdr r 3 B (N + 90) w7 hS.rdr (by omega)).mono fun e w8 hp => ?_
          obtain ⟨x, rfl, x0, x1, _, _, hg8, hr8⟩ := hp
          have x2 := x1 (by omega)
          have hS := hS.kept hg8 hr8 hrw (by omega)
          obtain ⟨A, hA1⟩ : ∃ A : Nat, (1 : Int) + x = A := ⟨(1 + x).toNat, by omega⟩
          clear hg8 hr8 x1
          go_wp2_with fail
          refine (pick_rdr r 3 B (N + 91) w8 hS.rdr (by omega)).mono fun e w9 hp => ?_
          obtain ⟨y, rfl, y0, y1, _, _, hg9, hr9⟩ := hp
          have y2 := y1 (by omega)
          have hS := hS.kept hg9 hr9 hrw (by omega)
          obtain ⟨C, hC1⟩ : ∃ C : Nat, (1 : Int) + y = C := ⟨(1 + y).toNat, by omega⟩
          clear hg9 hr9 y1
          go_wp2_with fail
          refine (specGridOf_any A C w9 (by omega) (by omega)).mono fun e w10 hp => ?_
          obtain ⟨ao', k, c', ys', rfl, hl', hmc', ⟨hk1, hk10⟩, ho', hb'⟩ := hp
          obtain ⟨hS, ⟨u, hcu⟩, hfu⟩ := hS.swap hl' hmc' ho' hb' (by omega) ⟨hBr, hrw⟩
          have hS := hS.more (M := N + 95) (by omega)
          clear ho' hb' hl' hmc'
          go_wp2_with fail
          refine (odd_rdr r n B (N + 95) _ hS.rdr (by omega) hn).mono fun e w20 hp => ?_
          obtain ⟨bo, rfl, hg20, hr20, _⟩ := hp
          have hS := hS.kept hg20 hr20 hrw (by omega)
          clear hg20 hr20
          cases bo with
          | false =>
            obtain ⟨ao, c, ys, h1, h2, h3, h4, h5, h6, h7, h8⟩ := hS
            have hfin := DrawGr.mk (M := N + 100) h4 h1.out h2 (by omega) h6 h7 (by omega) hrw hBr
            have e9 := h3.at 0 rfl
            have f0 := h5.free 0
            have g0 := h5.at 0 rfl
            clear h1 h3 h4 h5 h6 h7 h8
            go_wp2
            exact bodyPost_ret (v := .agg #[.slice ao k c]) (by simp [results, Try.results43, go_sem, g0]) rfl hfin
          | true =>
            go_wp2_with fail
            refine (pick_rdr r 4 B (N + 96) w20 hS.rdr (by omega)).mono fun e w21 hp => ?_
            obtain ⟨q9, rfl, q90, q91, _, _, hg21, hr21⟩ := hp
            have q93 := q91 (by omega)
            have hS := hS.kept hg21 hr21 hrw (by omega)
            clear hg21 hr21 q91
            obtain ⟨ao, c, ys, h1, h2, h3, h4, h5, h6, h7, h8⟩ := hS
            have f0 := h5.free 0
            have g0 := h5.at 0 rfl
            have hq : q9 = 0 ∨ q9 = 1 ∨ q9 = 2 ∨ q9 = 3 := by omega
            clear q90 q93
            rcases hq with rfl | rfl | rfl | rfl
            · have hfin := DrawGr.mk (M := N + 100) (Own.nil w21 (w.heap.size + 1)) rfl (Nat.le_refl 0) (by omega) h6 h7 (by omega) hrw hBr
              clear h1 h3 h4 h5 h6 h7 h8
              go_wp2
              exact bodyPost_ret (v := .agg #[.slice none 0 0]) (by simp [results, Try.results43, go_sem, g0]) rfl hfin
            · obtain ⟨g, rfl⟩ := h4.addr (by rw [h1.out]; omega)
              have hne : g ≠ gb := fun e => h8 (by rw [e]; rfl)
              have hBw : B ≤ w.heap.size := by omega
              have hgb := h4.base
              have e9 := h3.at 0 rfl
              have c9 := h4.cell (j := 0) (by rw [h1.out]; omega)
              have f9 := h4.free h1.out.symm 0
              obtain ⟨z, hz⟩ : ∃ z, IntKind.i64.wrap (nth ys 0 + 1) = z := ⟨_, rfl⟩
              obtain ⟨h1, h3, h4, h5, h6, h7⟩ := LSt.set h1 h2 h3 h4 h5 h6 h7 hne hrw hBw 0 z
              have hk0 : (0 : Int) < k := by omega
              clear f0 g0
              go_wp2
              go_region
              clear e9 c9 f9 hz
              generalize (World.setCell w21 ⟨g, 0, none⟩ (.int .i64 z)).drew = w22 at *
              generalize ys.set 0 z = ys at *
              have f0 := h5.free 0
              have g0 := h5.at 0 rfl
              have e9 := h3.at 0 rfl
              have hfin := DrawGr.mk (M := N + 100) h4 h1.out h2 (by omega) h6 h7 (by omega) hrw hBr
              clear h1 h3 h4 h5 h6 h7 h8
              go_wp2
              exact bodyPost_ret (v := .agg #[.slice (some ⟨g, 0, none⟩) k c]) (by simp [results, Try.results43, go_sem, g0]) rfl hfin
            · have hb2 := Blk.new w21 #[.int .i64 2, .int .i64 0] 3
              have ba := (Below.refl w21.heap.size w21).alloc (Nat.le_refl _) (.cells #[.int .i64 2, .int .i64 0] 3)
              have hlt5 := h5.lt
              have o2 : Own (w21.alloc (.cells #[.int .i64 2, .int .i64 0] 3)) (w.heap.size + 1) (.slice (some ⟨w21.heap.size, 0, none⟩) 2 2) [2, 0] := Own.ofBlk hb2 (by omega) rfl rfl (Nat.le_refl _) (by unfold maxLen; omega) (fun j hj => by match j, hj with | 0, _ => rfl | 1, _ => rfl)
              have h5a := h5.alloc (.cells #[.int .i64 2, .int .i64 0] 3)
              have h6a := grown_new h6 (grown_alloc w21 (.cells #[.int .i64 2, .int .i64 0] 3) none) (fun g e => by cases e)
              have hfin := DrawGr.mk (M := N + 100) o2 rfl (Nat.le_refl _) (by omega) h6a (h7.below ba (Nat.le_refl _)) (by omega) hrw hBr
              have f1 := h5a.free 0
              have g1 := h5a.at 0 rfl
              have hpast := World.setCell_alloc_past (w := w21) (.cells #[.int .i64 2, .int .i64 0] 3) w.heap.size 0 (.slice (some ⟨w21.heap.size, 0, none⟩) 2 2) hlt5
              have g2 := (h5a.set 0 (.slice (some ⟨w21.heap.size, 0, none⟩) 2 2)).at 0 rfl
              rw [hpast] at hfin g2
              clear h1 h3 h4 h5 h6 h7 h8 f0 g0 hb2 ba o2 h5a h6a hpast
              go_wp2
              exact bodyPost_ret (v := .agg #[.slice (some ⟨w21.heap.size, 0, none⟩) 2 2]) (by simp [results, Try.results43, go_sem, g2]) rfl hfin
            · have hlt5 := h5.lt
              obtain ⟨i0, hi, hz0, hz1, hz2⟩ := info_parts Try.infoInt
              go_wp2_with (at_make; refine wpList_make_full _ rfl _ _ 23 rfl (w.heap.size + 1) 3 i0 (.int .i64 0) 1 Try.underlying23 hi hz0 hz1 _ _ _ _ 10 rfl rfl ?m3 ?m4 ?m1 ?m2 (by omega) ?_)
              case m1 => rw [hz2]; omega
              case m2 => unfold maxLen; omega
              case m3 => rfl
              case m4 => rfl
              intro w22 hown hgrow
              have ho := Own.made hown
              have h5 := h5.kept hgrow (fun e => by cases e)
              have h7 := h7.kept hgrow (fun g e => by cases e)
              have h6 := grown_new h6 hgrow (fun g e => by cases e)
              have hfin := DrawGr.mk (M := N + 100) ho (by simp) (Nat.le_refl _) (by omega) h6 h7 (by omega) hrw hBr
              have f1 := h5.free 0
              have g1 := h5.at 0 rfl
              clear h1 h3 h4 h5 h6 h7 h8 f0 g0 hown hgrow ho hi hz0 hz1 hz2 i0
              go_wp2
              exact bodyPost_ret (v := .agg #[.slice (some ⟨w21.heap.size, 0, none⟩) 10 10]) (by simp [results, Try.results43, go_sem, g1]) rfl hfin
        · have hv0b : (v == 0) = false := by simpa using hv0
          by_cases hv1 : v = 1
          · subst hv1
            go_wp2_with fail
            refine (pick_rdr r 6 B (N + 90) w7 hS.rdr (by omega)).mono fun e w8 hp => ?_
            obtain ⟨x, rfl, x0, x1, _, _, hg8, hr8⟩ := hp
            have x2 := x1 (by omega)
            have hS := hS.kept hg8 hr8 hrw (by omega)
            obtain ⟨A, hA1⟩ : ∃ A : Nat, (3 : Int) + x = A := ⟨(3 + x).toNat, by omega⟩
            clear hg8 hr8 x1
            go_wp2_with fail
            refine (specRingOf_any A w8 (by omega)).mono fun e w10 hp => ?_
            obtain ⟨ao', k, c', ys', rfl, hl', hmc', ⟨hk1, hk10⟩, ho', hb'⟩ := hp
            obtain ⟨hS, ⟨u, hcu⟩, hfu⟩ := hS.swap hl' hmc' ho' hb' (by omega) ⟨hBr, hrw⟩
            have hS := hS.more (M := N + 95) (by omega)
            clear ho' hb' hl' hmc'
            go_wp2_with fail
            refine (odd_rdr r n B (N + 95) _ hS.rdr (by omega) hn).mono fun e w20 hp => ?_
            obtain ⟨bo, rfl, hg20, hr20, _⟩ := hp
            have hS := hS.kept hg20 hr20 hrw (by omega)
            clear hg20 hr20
            cases bo with
            | false =>
              obtain ⟨ao, c, ys, h1, h2, h3, h4, h5, h6, h7, h8⟩ := hS
              have hfin := DrawGr.mk (M := N + 100) h4 h1.out h2 (by omega) h6 h7 (by omega) hrw hBr
              have e9 := h3.at 0 rfl
              have f0 := h5.free 0
              have g0 := h5.at 0 rfl
              clear h1 h3 h4 h5 h6 h7 h8
              go_wp2
              exact bodyPost_ret (v := .agg #[.slice ao k c]) (by simp [results, Try.results43, go_sem, g0]) rfl hfin
            | true =>
              go_wp2_with fail
              refine (pick_rdr r 4 B (N + 96) w20 hS.rdr (by omega)).mono fun e w21 hp => ?_
              obtain ⟨q9, rfl, q90, q91, _, _, hg21, hr21⟩ := hp
              have q93 := q91 (by omega)
              have hS := hS.kept hg21 hr21 hrw (by omega)
              clear hg21 hr21 q91
              obtain ⟨ao, c, ys, h1, h2, h3, h4, h5, h6, h7, h8⟩ := hS
              have f0 := h5.free 0
              have g0 := h5.at 0 rfl
              have hq : q9 = 0 ∨ q9 = 1 ∨ q9 = 2 ∨ q9 = 3 := by omega
              clear q90 q93
              rcases hq with rfl | rfl | rfl | rfl
              · have hfin := DrawGr.mk (M := N + 100) (Own.nil w21 (w.heap.size + 1)) rfl (Nat.le_refl 0) (by omega) h6 h7 (by omega) hrw hBr
                clear h1 h3 h4 h5 h6 h7 h8
                go_wp2
                exact bodyPost_ret (v := .agg #[.slice none 0 0]) (by simp [results, Try.results43, go_sem, g0]) rfl hfin
              · obtain ⟨g, rfl⟩ := h4.addr (by rw [h1.out]; omega)
                have hne : g ≠ gb := fun e => h8 (by rw [e]; rfl)
                have hBw : B ≤ w.heap.size := by omega
                have hgb := h4.base
                have e9 := h3.at 0 rfl
                have c9 := h4.cell (j := 0) (by rw [h1.out]; omega)
                have f9 := h4.free h1.out.symm 0
                obtain ⟨z, hz⟩ : ∃ z, IntKind.i64.wrap (nth ys 0 + 1) = z := ⟨_, rfl⟩
                obtain ⟨h1, h3, h4, h5, h6, h7⟩ := LSt.set h1 h2 h3 h4 h5 h6 h7 hne hrw hBw 0 z
                have hk0 : (0 : Int) < k := by omega
                clear f0 g0
                go_wp2
                go_region
                clear e9 c9 f9 hz
                generalize (World.setCell w21 ⟨g, 0, none⟩ (.int .i64 z)).drew = w22 at *
                generalize ys.set 0 z = ys at *
                have f0 := h5.free 0
                have g0 := h5.at 0 rfl
                have e9 := h3.at 0 rfl
                have hfin := DrawGr.mk (M := N + 100) h4 h1.out h2 (by omega) h6 h7 (by omega) hrw hBr
                clear h1 h3 h4 h5 h6 h7 h8
                go_wp2
                exact bodyPost_ret (v := .agg #[.slice (some ⟨g, 0, none⟩) k c]) (by simp [results, Try.results43, go_sem, g0]) rfl hfin
              · have hb2 := Blk.new w21 #[.int .i64 2, .int .i64 0] 3
                have ba := (Below.refl w21.heap.size w21).alloc (Nat.le_refl _) (.cells #[.int .i64 2, .int .i64 0] 3)
                have hlt5 := h5.lt
                have o2 : Own (w21.alloc (.cells #[.int .i64 2, .int .i64 0] 3)) (w.heap.size + 1) (.slice (some ⟨w21.heap.size, 0, none⟩) 2 2) [2, 0] := Own.ofBlk hb2 (by omega) rfl rfl (Nat.le_refl _) (by unfold maxLen; omega) (fun j hj => by match j, hj with | 0, _ => rfl | 1, _ => rfl)
                have h5a := h5.alloc (.cells #[.int .i64 2, .int .i64 0] 3)
                have h6a := grown_new h6 (grown_alloc w21 (.cells #[.int .i64 2, .int .i64 0] 3) none) (fun g e => by cases e)
                have hfin := DrawGr.mk (M := N + 100) o2 rfl (Nat.le_refl _) (by omega) h6a (h7.below ba (Nat.le_refl _)) (by omega) hrw hBr
                have f1 := h5a.free 0
                have g1 := h5a.at 0 rfl
                have hpast := World.setCell_alloc_past (w := w21) (.cells #[.int .i64 2, .int .i64 0] 3) w.heap.size 0 (.slice (some ⟨w21.heap.size, 0, none⟩) 2 2) hlt5
                have g2 := (h5a.set 0 (.slice (some ⟨w21.heap.size, 0, none⟩) 2 2)).at 0 rfl
                rw [hpast] at hfin g2
                clear h1 h3 h4 h5 h6 h7 h8 f0 g0 hb2 ba o2 h5a h6a hpast
                go_wp2
                exact bodyPost_ret (v := .agg #[.slice (some ⟨w21.heap.size, 0, none⟩) 2 2]) (by simp [results, Try.results43, go_sem, g2]) rfl hfin
              · have hlt5 := h5.lt
                obtain ⟨i0, hi, hz0, hz1, hz2⟩ := info_parts Try.infoInt
                go_wp2_with (at_make; refine wpList_make_full _ rfl _ _ 23 rfl (w.heap.size + 1) 3 i0 (.int .i64 0) 1 Try.underlying23 hi hz0 hz1 _ _ _ _ 10 rfl rfl ?m3 ?m4 ?m1 ?m2 (by omega) ?_)
                case m1 => rw [hz2]; omega
                case m2 => unfold maxLen; omega
                case m3 => rfl
                case m4 => rfl
                intro w22 hown hgrow
                have ho := Own.made hown
                have h5 := h5.kept hgrow (fun e => by cases e)
                have h7 := h7.kept hgrow (fun g e => by cases e)
                have h6 := grown_new h6 hgrow (fun g e => by cases e)
                have hfin := DrawGr.mk (M := N + 100) ho (by simp) (Nat.le_refl _) (by omega) h6 h7 (by omega) hrw hBr
                have f1 := h5.free 0
                have g1 := h5.at 0 rfl
                clear h1 h3 h4 h5 h6 h7 h8 f0 g0 hown hgrow ho hi hz0 hz1 hz2 i0
                go_wp2
                exact bodyPost_ret (v := .agg #[.slice (some ⟨w21.heap.size, 0, none⟩) 10 10]) (by simp [results, Try.results43, go_sem, g1]) rfl hfin
          · have hv1b : (v == 1) = false := by simpa using hv1
            have hS := hS.more (M := N + 95) (by omega)
            go_wp2_with fail
            refine (odd_rdr r n B (N + 95) _ hS.rdr (by omega) hn).mono fun e w20 hp => ?_
            obtain ⟨bo, rfl, hg20, hr20, _⟩ := hp
            have hS := hS.kept hg20 hr20 hrw (by omega)
            clear hg20 hr20
            cases bo with
            | false =>
              obtain ⟨ao, c, ys, h1, h2, h3, h4, h5, h6, h7, h8⟩ := hS
              have hfin := DrawGr.mk (M := N + 100) h4 h1.out h2 (by omega) h6 h7 (by omega) hrw hBr
              have e9 := h3.at 0 rfl
              have f0 := h5.free 0
              have g0 := h5.at 0 rfl
              clear h1 h3 h4 h5 h6 h7 h8
              go_wp2
              exact bodyPost_ret (v := .agg #[.slice ao a c]) (by simp [results, Try.results43, go_sem, g0]) rfl hfin
            | true =>
              go_wp2_with fail
              refine (pick_rdr r 4 B (N + 96) w20 hS.rdr (by omega)).mono fun e w21 hp => ?_
              obtain ⟨q9, rfl, q90, q91, _, _, hg21, hr21⟩ := hp
              have q93 := q91 (by omega)
              have hS := hS.kept hg21 hr21 hrw (by omega)
              clear hg21 hr21 q91
              obtain ⟨ao, c, ys, h1, h2, h3, h4, h5, h6, h7, h8⟩ := hS
              have f0 := h5.free 0
              have g0 := h5.at 0 rfl
              have hq : q9 = 0 ∨ q9 = 1 ∨ q9 = 2 ∨ q9 = 3 := by omega
              clear q90 q93
              rcases hq with rfl | rfl | rfl | rfl
              · have hfin := DrawGr.mk (M := N + 100) (Own.nil w21 (w.heap.size + 1)) rfl (Nat.le_refl 0) (by omega) h6 h7 (by omega) hrw hBr
                clear h1 h3 h4 h5 h6 h7 h8
                go_wp2
                exact bodyPost_ret (v := .agg #[.slice none 0 0]) (by simp [results, Try.results43, go_sem, g0]) rfl hfin
              · obtain ⟨g, rfl⟩ := h4.addr (by rw [h1.out]; omega)
                have hne : g ≠ gb := fun e => h8 (by rw [e]; rfl)
                have hBw : B ≤ w.heap.size := by omega
                have hgb := h4.base
                have e9 := h3.at 0 rfl
                have c9 := h4.cell (j := 0) (by rw [h1.out]; omega)
                have f9 := h4.free h1.out.symm 0
                obtain ⟨z, hz⟩ : ∃ z, IntKind.i64.wrap (nth ys 0 + 1) = z := ⟨_, rfl⟩
                obtain ⟨h1, h3, h4, h5, h6, h7⟩ := LSt.set h1 h2 h3 h4 h5 h6 h7 hne hrw hBw 0 z
                have hk0 : (0 : Int) < a := by omega
                clear f0 g0
                go_wp2
                go_region
                clear e9 c9 f9 hz
                generalize (World.setCell w21 ⟨g, 0, none⟩ (.int .i64 z)).drew = w22 at *
                generalize ys.set 0 z = ys at *
                have f0 := h5.free 0
                have g0 := h5.at 0 rfl
                have e9 := h3.at 0 rfl
                have hfin := DrawGr.mk (M := N + 100) h4 h1.out h2 (by omega) h6 h7 (by omega) hrw hBr
                clear h1 h3 h4 h5 h6 h7 h8
                go_wp2
                exact bodyPost_ret (v := .agg #[.slice (some ⟨g, 0, none⟩) a c]) (by simp [results, Try.results43, go_sem, g0]) rfl hfin
              · have hb2 := Blk.new w21 #[.int .i64 2, .int .i64 0] 3
                have ba := (Below.refl w21.heap.size w21).alloc (Nat.le_refl _) (.cells #[.int .i64 2, .int .i64 0] 3)
                have hlt5 := h5.lt
                have o2 : Own (w21.alloc (.cells #[.int .i64 2, .int .i64 0] 3)) (w.heap.size + 1) (.slice (some ⟨w21.heap.size, 0, none⟩) 2 2) [2, 0] := Own.ofBlk hb2 (by omega) rfl rfl (Nat.le_refl _) (by unfold maxLen; omega) (fun j hj => by match j, hj with | 0, _ => rfl | 1, _ => rfl)
                have h5a := h5.alloc (.cells #[.int .i64 2, .int .i64 0] 3)
                have h6a := grown_new h6 (grown_alloc w21 (.cells #[.int .i64 2, .int .i64 0] 3) none) (fun g e => by cases e)
                have hfin := DrawGr.mk (M := N + 100) o2 rfl (Nat.le_refl _) (by omega) h6a (h7.below ba (Nat.le_refl _)) (by omega) hrw hBr
                have f1 := h5a.free 0
                have g1 := h5a.at 0 rfl
                have hpast := World.setCell_alloc_past (w := w21) (.cells #[.int .i64 2, .int .i64 0] 3) w.heap.size 0 (.slice (some ⟨w21.heap.size, 0, none⟩) 2 2) hlt5
                have g2 := (h5a.set 0 (.slice (some ⟨w21.heap.size, 0, none⟩) 2 2)).at 0 rfl
                rw [hpast] at hfin g2
                clear h1 h3 h4 h5 h6 h7 h8 f0 g0 hb2 ba o2 h5a h6a hpast
                go_wp2
                exact bodyPost_ret (v := .agg #[.slice (some ⟨w21.heap.size, 0, none⟩) 2 2]) (by simp [results, Try.results43, go_sem, g2]) rfl hfin
              · have hlt5 := h5.lt
                obtain ⟨i0, hi, hz0, hz1, hz2⟩ := info_parts Try.infoInt
                go_wp2_with (at_make; refine wpList_make_full _ rfl _ _ 23 rfl (w.heap.size + 1) 3 i0 (.int .i64 0) 1 Try.underlying23 hi hz0 hz1 _ _ _ _ 10 rfl rfl ?m3 ?m4 ?m1 ?m2 (by omega) ?_)
                case m1 => rw [hz2]; omega
                case m2 => unfold maxLen; omega
                case m3 => rfl
                case m4 => rfl
                intro w22 hown hgrow
                have ho := Own.made hown
                have h5 := h5.kept hgrow (fun e => by cases e)
                have h7 := h7.kept hgrow (fun g e => by cases e)
                have h6 := grown_new h6 hgrow (fun g e => by cases e)
                have hfin := DrawGr.mk (M := N + 100) ho (by simp) (Nat.le_refl _) (by omega) h6 h7 (by omega) hrw hBr
                have f1 := h5.free 0
                have g1 := h5.at 0 rfl
                clear h1 h3 h4 h5 h6 h7 h8 f0 g0 hown hgrow ho hi hz0 hz1 hz2 i0
                go_wp2
                exact bodyPost_ret (v := .agg #[.slice (some ⟨w21.heap.size, 0, none⟩) 10 10]) (by simp [results, Try.results43, go_sem, g1]) rfl hfin

end Go.Proofs.Ytgmjffplinpobaa
