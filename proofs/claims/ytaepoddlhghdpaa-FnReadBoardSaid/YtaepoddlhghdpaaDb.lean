/- l20Board: the boards that are drawn. -/
import Derived.Test.YtaepoddlhghdpaaTn
import Derived.Test.YtaepoddlhghdpaaBn
import Derived.Test.YtaepoddlhghdpaaTd
import Derived.Test.YtaepoddlhghdpaaTm
import Derived.Test.YtaepoddlhghdpaaDr
import Derived.Deep.DeepCutAuto
import Derived.Deep.RegionHeld3
import Derived.BigQuiet
namespace Go.Proofs.Ytaepoddlhghdpaa
open Go Go.RowKit

/-- The sides that are drawn. -/
def Side (a b : Int) : Prop := SidesOk 9 a b ∧ BoardOk a (ordL (a * b).toNat) ∧ (1 ≤ a ∧ a ≤ 4) ∧ (1 ≤ b ∧ b ≤ 4)

theorem side_any {a b : Int} (h : (a = 2 ∧ b = 1) ∨ (a = 3 ∧ b = 1) ∨ (a = 1 ∧ b = 4) ∨ (a = 2 ∧ b = 2) ∨ (a = 3 ∧ b = 2) ∨ (a = 2 ∧ b = 3) ∨ (a = 3 ∧ b = 3) ∨ (a = 4 ∧ b = 2)) : Side a b := by
  rcases h with ⟨rfl, rfl⟩ | ⟨rfl, rfl⟩ | ⟨rfl, rfl⟩ | ⟨rfl, rfl⟩ | ⟨rfl, rfl⟩ | ⟨rfl, rfl⟩ | ⟨rfl, rfl⟩ | ⟨rfl, rfl⟩ <;>
    exact ⟨by unfold SidesOk; omega, of_decide_eq_true (by decide), by omega, by omega⟩

/-- The list of sides in memory. -/
def SidesAt (w : World) (B : Nat) (gl : Nat) : Prop :=
  B ≤ gl ∧ ∀ v : Nat, v < 9 → ∃ gs a b, w.cell? ⟨gl, v, none⟩ = some (.slice (some ⟨gs, 0, none⟩) 2 2) ∧ w.cell? ⟨gs, 0, none⟩ = some (.int .i64 a) ∧ w.cell? ⟨gs, 1, none⟩ = some (.int .i64 b) ∧ B ≤ gs ∧ Side a b

def sidesW (w : World) : World := ((((((((((w.alloc (.cells #[.int .i64 0, .slice none 0 0] 27)).alloc (.cells #[.int .i64 2, .int .i64 1] 3)).alloc (.cells #[.int .i64 3, .int .i64 1] 3)).alloc (.cells #[.int .i64 1, .int .i64 4] 3)).alloc (.cells #[.int .i64 2, .int .i64 2] 3)).alloc (.cells #[.int .i64 3, .int .i64 2] 3)).alloc (.cells #[.int .i64 2, .int .i64 3] 3)).alloc (.cells #[.int .i64 3, .int .i64 2] 3)).alloc (.cells #[.int .i64 3, .int .i64 3] 3)).alloc (.cells #[.int .i64 4, .int .i64 2] 3)).alloc (.cells #[.slice (some ⟨w.heap.size + 1, 0, none⟩) 2 2, .slice (some ⟨w.heap.size + 2, 0, none⟩) 2 2, .slice (some ⟨w.heap.size + 3, 0, none⟩) 2 2, .slice (some ⟨w.heap.size + 4, 0, none⟩) 2 2, .slice (some ⟨w.heap.size + 5, 0, none⟩) 2 2, .slice (some ⟨w.heap.size + 6, 0, none⟩) 2 2, .slice (some ⟨w.heap.size + 7, 0, none⟩) 2 2, .slice (some ⟨w.heap.size + 8, 0, none⟩) 2 2, .slice (some ⟨w.heap.size + 9, 0, none⟩) 2 2] 22)

theorem sides_size (w : World) : (sidesW w).heap.size = w.heap.size + 11 := by simp [sidesW]

theorem sides_below (w : World) : Below w.heap.size w (sidesW w) := by
  have h := Below.refl w.heap.size w
  unfold sidesW
  exact (((((((((((Below.refl w.heap.size w).alloc (by simp; try omega) _).alloc (by simp; try omega) _).alloc (by simp; try omega) _).alloc (by simp; try omega) _).alloc (by simp; try omega) _).alloc (by simp; try omega) _).alloc (by simp; try omega) _).alloc (by simp; try omega) _).alloc (by simp; try omega) _).alloc (by simp; try omega) _).alloc (by simp; try omega) _

theorem sides_res (w : World) : Blk (sidesW w) w.heap.size #[.int .i64 0, .slice none 0 0] 27 := by
  unfold sidesW
  exact ((((((((((Blk.new w _ _).alloc _).alloc _).alloc _).alloc _).alloc _).alloc _).alloc _).alloc _).alloc _).alloc _

theorem sides_row0 (w : World) : Blk (sidesW w) (w.heap.size + 1) #[.int .i64 2, .int .i64 1] 3 := by
  unfold sidesW
  exact (((((((((Blk.new' _ _ _ (by simp)).alloc _).alloc _).alloc _).alloc _).alloc _).alloc _).alloc _).alloc _).alloc _

theorem sides_row1 (w : World) : Blk (sidesW w) (w.heap.size + 2) #[.int .i64 3, .int .i64 1] 3 := by
  unfold sidesW
  exact ((((((((Blk.new' _ _ _ (by simp)).alloc _).alloc _).alloc _).alloc _).alloc _).alloc _).alloc _).alloc _

theorem sides_row2 (w : World) : Blk (sidesW w) (w.heap.size + 3) #[.int .i64 1, .int .i64 4] 3 := by
  unfold sidesW
  exact (((((((Blk.new' _ _ _ (by simp)).alloc _).alloc _).alloc _).alloc _).alloc _).alloc _).alloc _

theorem sides_row3 (w : World) : Blk (sidesW w) (w.heap.size + 4) #[.int .i64 2, .int .i64 2] 3 := by
  unfold sidesW
  exact ((((((Blk.new' _ _ _ (by simp)).alloc _).alloc _).alloc _).alloc _).alloc _).alloc _

theorem sides_row4 (w : World) : Blk (sidesW w) (w.heap.size + 5) #[.int .i64 3, .int .i64 2] 3 := by
  unfold sidesW
  exact (((((Blk.new' _ _ _ (by simp)).alloc _).alloc _).alloc _).alloc _).alloc _

theorem sides_row5 (w : World) : Blk (sidesW w) (w.heap.size + 6) #[.int .i64 2, .int .i64 3] 3 := by
  unfold sidesW
  exact ((((Blk.new' _ _ _ (by simp)).alloc _).alloc _).alloc _).alloc _

theorem sides_row6 (w : World) : Blk (sidesW w) (w.heap.size + 7) #[.int .i64 3, .int .i64 2] 3 := by
  unfold sidesW
  exact (((Blk.new' _ _ _ (by simp)).alloc _).alloc _).alloc _

theorem sides_row7 (w : World) : Blk (sidesW w) (w.heap.size + 8) #[.int .i64 3, .int .i64 3] 3 := by
  unfold sidesW
  exact ((Blk.new' _ _ _ (by simp)).alloc _).alloc _

theorem sides_row8 (w : World) : Blk (sidesW w) (w.heap.size + 9) #[.int .i64 4, .int .i64 2] 3 := by
  unfold sidesW
  exact (Blk.new' _ _ _ (by simp)).alloc _

theorem sides_list (w : World) : Blk (sidesW w) (w.heap.size + 10) #[.slice (some ⟨w.heap.size + 1, 0, none⟩) 2 2, .slice (some ⟨w.heap.size + 2, 0, none⟩) 2 2, .slice (some ⟨w.heap.size + 3, 0, none⟩) 2 2, .slice (some ⟨w.heap.size + 4, 0, none⟩) 2 2, .slice (some ⟨w.heap.size + 5, 0, none⟩) 2 2, .slice (some ⟨w.heap.size + 6, 0, none⟩) 2 2, .slice (some ⟨w.heap.size + 7, 0, none⟩) 2 2, .slice (some ⟨w.heap.size + 8, 0, none⟩) 2 2, .slice (some ⟨w.heap.size + 9, 0, none⟩) 2 2] 22 := by
  unfold sidesW
  exact Blk.new' _ _ _ (by simp)

theorem sides_at (w : World) : SidesAt (sidesW w) (w.heap.size + 1) (w.heap.size + 10) := by
  refine ⟨by omega, fun v hv => ?_⟩
  match v, hv with
  | 0, _ => exact ⟨w.heap.size + 1, 2, 1, (sides_list w).at 0 rfl, (sides_row0 w).at 0 rfl, (sides_row0 w).at 1 rfl, by omega, side_any (by decide)⟩
  | 1, _ => exact ⟨w.heap.size + 2, 3, 1, (sides_list w).at 1 rfl, (sides_row1 w).at 0 rfl, (sides_row1 w).at 1 rfl, by omega, side_any (by decide)⟩
  | 2, _ => exact ⟨w.heap.size + 3, 1, 4, (sides_list w).at 2 rfl, (sides_row2 w).at 0 rfl, (sides_row2 w).at 1 rfl, by omega, side_any (by decide)⟩
  | 3, _ => exact ⟨w.heap.size + 4, 2, 2, (sides_list w).at 3 rfl, (sides_row3 w).at 0 rfl, (sides_row3 w).at 1 rfl, by omega, side_any (by decide)⟩
  | 4, _ => exact ⟨w.heap.size + 5, 3, 2, (sides_list w).at 4 rfl, (sides_row4 w).at 0 rfl, (sides_row4 w).at 1 rfl, by omega, side_any (by decide)⟩
  | 5, _ => exact ⟨w.heap.size + 6, 2, 3, (sides_list w).at 5 rfl, (sides_row5 w).at 0 rfl, (sides_row5 w).at 1 rfl, by omega, side_any (by decide)⟩
  | 6, _ => exact ⟨w.heap.size + 7, 3, 2, (sides_list w).at 6 rfl, (sides_row6 w).at 0 rfl, (sides_row6 w).at 1 rfl, by omega, side_any (by decide)⟩
  | 7, _ => exact ⟨w.heap.size + 8, 3, 3, (sides_list w).at 7 rfl, (sides_row7 w).at 0 rfl, (sides_row7 w).at 1 rfl, by omega, side_any (by decide)⟩
  | 8, _ => exact ⟨w.heap.size + 9, 4, 2, (sides_list w).at 8 rfl, (sides_row8 w).at 0 rfl, (sides_row8 w).at 1 rfl, by omega, side_any (by decide)⟩
  | n + 9, h => exact absurd h (by omega)

theorem SidesAt.kept {w w' : World} {B gl r : Nat} (h : SidesAt w B gl) (hg : w.grownBy w' (some r)) (hr : r < B) : SidesAt w' B gl := by
  refine ⟨h.1, fun v hv => ?_⟩
  obtain ⟨gs, a, b, h1, h2, h3, h4, h5⟩ := h.2 v hv
  have h0 := h.1
  exact ⟨gs, a, b, hg.cell h1 (fun e => by have : gl = r := Option.some.inj e; omega), hg.cell h2 (fun e => by have : gs = r := Option.some.inj e; omega), hg.cell h3 (fun e => by have : gs = r := Option.some.inj e; omega), h4, h5⟩

/-- A board in a variable of this call's own. -/
def BSt (w : World) (B r N n : Nat) (p : Value) (wx : World) (wide : Int) (ys : List Int) : Prop :=
  ∃ gb g c, p = .pointer (some ⟨gb, 0, none⟩) ∧ Blk wx gb #[.int .i64 wide, .slice (some ⟨g, 0, none⟩) n c] 27 ∧ ys.length = n ∧ n ≤ c ∧ Own wx w.heap.size (.slice (some ⟨g, 0, none⟩) n c) ys ∧ w.grownBy wx (some r) ∧ Rdr wx B r N ∧ w.heap.size < gb ∧ gb ≠ g ∧ g ≠ w.heap.size ∧ Blk wx w.heap.size #[.int .i64 0, .slice none 0 0] 27

theorem BSt.len {w wx : World} {B r N n : Nat} {p : Value} {wide : Int} {ys : List Int} (h : BSt w B r N n p wx wide ys) : ys.length = n := by
  obtain ⟨gb, g, c, e, hbk, hl, _⟩ := h; exact hl

theorem BSt.mk {w w1 wx : World} {B r N n gb c : Nat} {ao : Option Addr} {wide : Int} {ys : List Int} (hb : Blk wx gb #[.int .i64 wide, .slice ao n c] 27) (hl : ys.length = n) (h0 : 0 < n) (hc : n ≤ c) (ho : Own wx w1.heap.size (.slice ao n c) ys)
    (hw : w.grownBy w1 (some r)) (hx : Below w1.heap.size w1 wx) (hr : Rdr w1 B r N) (hgb : w1.heap.size ≤ gb) (hne : ∀ g, ao = some ⟨g, 0, none⟩ → gb ≠ g) (h1 : w.heap.size < w1.heap.size)
    (hre : Blk w1 w.heap.size #[.int .i64 0, .slice none 0 0] 27) : BSt w B r N n (.pointer (some ⟨gb, 0, none⟩)) wx wide ys := by
  obtain ⟨g, rfl⟩ := ho.addr (by omega)
  have hb2 := ho.base
  refine ⟨gb, g, c, rfl, hb, hl, hc, ho.lower (by omega), grown_new hw ⟨hx.os, hx.tape, hx.output, hx.size, fun k hk _ => hx.block k hk⟩ (row := none) (fun g e => by cases e), hr.below hx (Nat.le_refl _), by omega, hne g rfl, by omega, hre.below hx (Nat.le_refl _)⟩

theorem BSt.kept {w wx wy : World} {B r N n : Nat} {p : Value} {wide : Int} {ys : List Int} (h : BSt w B r N n p wx wide ys) (hg : wx.grownBy wy (some r)) (hr' : Rdr wy B r (N + 1)) (hrw : r < w.heap.size) : BSt w B r (N + 1) n p wy wide ys := by
  obtain ⟨gb, g, c, e, hbk, hl, hc, ho, hw, hr, h1, h2, h3, hre⟩ := h
  have hob := ho.base
  exact ⟨gb, g, c, e, hbk.kept hg (fun e => by have := Option.some.inj e; omega), hl, hc, ho.kept hg (.inr fun e => by have : g = r := Option.some.inj e; omega), grownBy_trans hw hg, hr', h1, h2, h3, hre.kept hg (fun e => by have := Option.some.inj e; omega)⟩

/-- What a region that draws reads, handed on: all old cells but the reader's. -/
def SG (W : World) (r : Nat) (w' : World) : Prop := (∀ b o, b < W.heap.size → b ≠ r → w'.cell? ⟨b, o, none⟩ = W.cell? ⟨b, o, none⟩) ∧ W.grownBy w' (some r)

theorem sg_of {W w' : World} {r : Nat} (h : W.grownBy w' (some r)) : (∀ b o, b < W.heap.size → b ≠ r → w'.cell? ⟨b, o, none⟩ = W.cell? ⟨b, o, none⟩) ∧ W.grownBy w' (some r) :=
  ⟨fun b o hb hr => World.cell?_of_block (a := ⟨b, o, none⟩) (h.block b hb (fun e => hr (Option.some.inj e))), h⟩
theorem sg_drew (W : World) (r : Nat) : (∀ b o, b < W.heap.size → b ≠ r → W.drew.cell? ⟨b, o, none⟩ = W.cell? ⟨b, o, none⟩) ∧ W.grownBy W.drew (some r) := ⟨fun _ _ _ _ => rfl, ⟨rfl, rfl, rfl, Nat.le_refl _, fun _ _ _ => rfl⟩⟩
theorem sg_ad (W : World) (r : Nat) (o : Obj) : (∀ b o', b < W.heap.size → b ≠ r → (W.alloc o).drew.cell? ⟨b, o', none⟩ = W.cell? ⟨b, o', none⟩) ∧ W.grownBy (W.alloc o).drew (some r) := by
  have h := grown_alloc W o (some r)
  exact sg_of ⟨h.os, rfl, h.output, h.size, h.block⟩
theorem sg_pick {W w0 w1 : World} {r : Nat} (h : (∀ b o, b < W.heap.size → b ≠ r → w0.cell? ⟨b, o, none⟩ = W.cell? ⟨b, o, none⟩) ∧ W.grownBy w0 (some r)) (g : w0.grownBy w1 (some r)) :
    (∀ b o, b < W.heap.size → b ≠ r → w1.cell? ⟨b, o, none⟩ = W.cell? ⟨b, o, none⟩) ∧ W.grownBy w1 (some r) := sg_of (grownBy_trans h.2 g)
theorem sg_below {W w0 w1 : World} {r : Nat} (h : (∀ b o, b < W.heap.size → b ≠ r → w0.cell? ⟨b, o, none⟩ = W.cell? ⟨b, o, none⟩) ∧ W.grownBy w0 (some r)) (g : Below w0.heap.size w0 w1) :
    (∀ b o, b < W.heap.size → b ≠ r → w1.cell? ⟨b, o, none⟩ = W.cell? ⟨b, o, none⟩) ∧ W.grownBy w1 (some r) := sg_pick h ⟨g.os, g.tape, g.output, g.size, fun k hk _ => g.block k hk⟩
theorem sg_alloc {W w0 : World} {r : Nat} (h : (∀ b o, b < W.heap.size → b ≠ r → w0.cell? ⟨b, o, none⟩ = W.cell? ⟨b, o, none⟩) ∧ W.grownBy w0 (some r)) (o : Obj) :
    (∀ b o', b < W.heap.size → b ≠ r → (w0.alloc o).cell? ⟨b, o', none⟩ = W.cell? ⟨b, o', none⟩) ∧ W.grownBy (w0.alloc o) (some r) := sg_pick h (grown_alloc w0 o _)
theorem sg_set {W w0 : World} {r : Nat} (h : (∀ b o, b < W.heap.size → b ≠ r → w0.cell? ⟨b, o, none⟩ = W.cell? ⟨b, o, none⟩) ∧ W.grownBy w0 (some r)) {g : Nat} (hg : W.heap.size ≤ g) (j : Nat) (u : Value) :
    (∀ b o, b < W.heap.size → b ≠ r → (w0.setCell ⟨g, j, none⟩ u).cell? ⟨b, o, none⟩ = W.cell? ⟨b, o, none⟩) ∧ W.grownBy (w0.setCell ⟨g, j, none⟩ u) (some r) :=
  sg_of (grown_new h.2 (grownBy_setCell w0 g j u) (fun g' e => by have := Option.some.inj e; omega))

/-- A tile has been moved: the new board in a variable of its own, the old one still there. -/
def XSt (w : World) (B r N n gb : Nat) (p : Value) (wx : World) (wide : Int) (ys : List Int) (old : Value) : Prop :=
  ∃ gx g c, p = .pointer (some ⟨gx, 0, none⟩) ∧ Blk wx gx #[.int .i64 wide, .slice (some ⟨g, 0, none⟩) n c] 27 ∧ ys.length = n ∧ n ≤ c ∧ Own wx w.heap.size (.slice (some ⟨g, 0, none⟩) n c) ys ∧ w.grownBy wx (some r) ∧ Rdr wx B r N ∧ gb < g ∧ Blk wx gb #[.int .i64 wide, old] 27 ∧ Blk wx w.heap.size #[.int .i64 0, .slice none 0 0] 27

theorem own_sg {W w0 : World} {r B g n c : Nat} {ys : List Int} (h : (∀ b o, b < W.heap.size → b ≠ r → w0.cell? ⟨b, o, none⟩ = W.cell? ⟨b, o, none⟩) ∧ W.grownBy w0 (some r)) (ho : Own W B (.slice (some ⟨g, 0, none⟩) n c) ys) (hr : g ≠ r) : IntsAt w0 (some ⟨g, 0, none⟩) ys :=
  (ho.kept h.2 (.inr fun e => hr (Option.some.inj e))).ints

theorem XSt.mk {w w4 wx : World} {B B' r N n gb gx c : Nat} {ao : Option Addr} {wide : Int} {ys : List Int} {old : Value} (hbx : Blk wx gx #[.int .i64 wide, .slice ao n c] 27) (hl : ys.length = n) (h0 : 0 < n) (hc : n ≤ c) (ho : Own wx B' (.slice ao n c) ys)
    (hB : gb < B') (hB2 : w.heap.size ≤ B') (hw : w.grownBy w4 (some r)) (hS : w4.grownBy wx (some r)) (hr : Rdr wx B r N) (hgb : Blk w4 gb #[.int .i64 wide, old] 27) (hne : gb ≠ r) (hre : Blk w4 w.heap.size #[.int .i64 0, .slice none 0 0] 27) (h1 : r < w.heap.size) :
    XSt w B r N n gb (.pointer (some ⟨gx, 0, none⟩)) wx wide ys old := by
  obtain ⟨g, rfl⟩ := ho.addr (by omega)
  have hb2 := ho.base
  exact ⟨gx, g, c, rfl, hbx, hl, hc, ho.lower hB2, grownBy_trans hw hS, hr, by omega, hgb.kept hS (fun e => hne (Option.some.inj e)), hre.kept hS (fun e => by have := Option.some.inj e; omega)⟩

theorem rdr_set2 {w : World} {B r N g : Nat} (h : Rdr w B r N) (hB : B ≤ g) (hr : g ≠ r) (u v : Value) : Rdr ((w.setCell ⟨g, 0, none⟩ u).setCell ⟨g, 1, none⟩ v) B r N :=
  (h.kept (grownBy_setCell w g 0 u) (fun g' e => by obtain rfl := Option.some.inj e; exact ⟨hB, hr⟩)).kept (grownBy_setCell _ g 1 v) (fun g' e => by obtain rfl := Option.some.inj e; exact ⟨hB, hr⟩)

theorem own_set2 {w : World} {B n c g : Nat} {ao : Option Addr} {ys : List Int} (h : Own w B (.slice ao n c) ys) (hg : g < B) (u v : Value) : Own ((w.setCell ⟨g, 0, none⟩ u).setCell ⟨g, 1, none⟩ v) B (.slice ao n c) ys :=
  (h.setOther g 0 u (h.ne_of_lt hg)).setOther g 1 v (h.ne_of_lt hg)

theorem BSt.more {w wx : World} {B r N M n : Nat} {p : Value} {wide : Int} {ys : List Int} (h : BSt w B r N n p wx wide ys) (hM : N ≤ M) : BSt w B r M n p wx wide ys := by
  obtain ⟨gb, g, c, e, hbk, hl, hc, ho, hw, hr, h1, h2, h3, hre⟩ := h
  exact ⟨gb, g, c, e, hbk, hl, hc, ho, hw, hr.more hM, h1, h2, h3, hre⟩

/-- A board that has been drawn. -/
def DrawB (w : World) (B r N : Nat) (e : Ending) (w' : World) : Prop :=
  ∃ wide ao m c ys, e = .returned (.agg #[.int .i64 wide, .slice ao m c]) ∧ ys.length = m ∧ m ≤ c ∧ m ≤ 9 ∧ (0 ≤ wide ∧ wide ≤ 10) ∧ Own w' w.heap.size (.slice ao m c) ys ∧ w.grownBy w' (some r) ∧ Rdr w' B r N

theorem BSt.ret {w wx : World} {B r N M n gb g c : Nat} {wide : Int} {ys : List Int} (_hbk : Blk wx gb #[.int .i64 wide, .slice (some ⟨g, 0, none⟩) n c] 27) (_hre : Blk wx w.heap.size #[.int .i64 0, .slice none 0 0] 27)
    (ho : Own wx w.heap.size (.slice (some ⟨g, 0, none⟩) n c) ys) (hw : w.grownBy wx (some r)) (hr : Rdr wx B r N) (hl : ys.length = n) (hc : n ≤ c) (h9 : n ≤ 9) (h0 : 0 ≤ wide) (h10 : wide ≤ 10) (hg0 : g ≠ w.heap.size) (hBr : B ≤ r ∧ r < w.heap.size) (hM : N ≤ M) :
    DrawB w B r M (.returned (.agg #[.int .i64 wide, .slice (some ⟨g, 0, none⟩) n c])) ((wx.setCell ⟨w.heap.size, 0, none⟩ (.int .i64 wide)).setCell ⟨w.heap.size, 1, none⟩ (.slice (some ⟨g, 0, none⟩) n c)) :=
  ⟨wide, _, n, c, ys, rfl, hl, hc, h9, ⟨h0, h10⟩, (ho.setOther w.heap.size 0 _ (.inr fun e => hg0 (Option.some.inj e))).setOther w.heap.size 1 _ (.inr fun e => hg0 (Option.some.inj e)),
    grown_new (grown_new hw (grownBy_setCell wx w.heap.size 0 _) (fun g' e => by have := Option.some.inj e; omega)) (grownBy_setCell _ w.heap.size 1 _) (fun g' e => by have := Option.some.inj e; omega),
    (rdr_set2 hr (by omega) (by omega) _ _).more hM⟩

set_option maxRecDepth 100000 in
set_option maxHeartbeats 4000000 in
theorem l20Board_any (r B N : Nat) (n : Int) (w : World) (h : Rdr w B r N) (hN : N ≤ 1000000) (hn : n ≤ 1000) :
    Calls Try.prog 33 #[.pointer (some ⟨r, 0, none⟩), .int .i64 9, .int .i64 n] w (DrawB w B r (N + 200)) := by
  have hBr := h.lt
  have hsz := sides_size w
  have hat := sides_at w
  have hres := sides_res w
  have hbel := sides_below w
  have hr0 := h.below hbel (Nat.le_refl _)
  go_enter Try.func33, Try.ntmps33
  go_wp2_with fail
  have hWW : ((((((((((w.alloc (.cells #[.int .i64 0, .slice none 0 0] 27)).alloc (.cells #[.int .i64 2, .int .i64 1] 3)).alloc (.cells #[.int .i64 3, .int .i64 1] 3)).alloc (.cells #[.int .i64 1, .int .i64 4] 3)).alloc (.cells #[.int .i64 2, .int .i64 2] 3)).alloc (.cells #[.int .i64 3, .int .i64 2] 3)).alloc (.cells #[.int .i64 2, .int .i64 3] 3)).alloc (.cells #[.int .i64 3, .int .i64 2] 3)).alloc (.cells #[.int .i64 3, .int .i64 3] 3)).alloc (.cells #[.int .i64 4, .int .i64 2] 3)).alloc (.cells #[.slice (some ⟨w.heap.size + 1, 0, none⟩) 2 2, .slice (some ⟨w.heap.size + 2, 0, none⟩) 2 2, .slice (some ⟨w.heap.size + 3, 0, none⟩) 2 2, .slice (some ⟨w.heap.size + 4, 0, none⟩) 2 2, .slice (some ⟨w.heap.size + 5, 0, none⟩) 2 2, .slice (some ⟨w.heap.size + 6, 0, none⟩) 2 2, .slice (some ⟨w.heap.size + 7, 0, none⟩) 2 2, .slice (some ⟨w.heap.size + 8, 0, none⟩) 2 2, .slice (some ⟨w.heap.size + 9, 0, none⟩) 2 2] 22) = sidesW w := rfl
  rw [hWW]
  clear hWW
  generalize hW0 : sidesW w = W0 at *
  refine (pick_rdr r 9 B N W0 hr0 (by omega)).mono fun e w1 h1 => ?_
  obtain ⟨v, rfl, v0, v1, _, v2, hg1, hr1⟩ := h1
  have v3 := v1 (by omega)
  obtain ⟨k, rfl⟩ : ∃ k : Nat, v = k := Int.eq_ofNat_of_zero_le v0
  obtain ⟨gs, a, b, hs1, hs2, hs3, _, hside⟩ := (hat.kept hg1 (by omega)).2 k (by omega)
  have hre1 := hres.kept hg1 (fun e => by have := Option.some.inj e; omega)
  have hgw : w.grownBy w1 (some r) := grownBy_trans ⟨hbel.os, hbel.tape, hbel.output, hbel.size, fun k hk _ => hbel.block k hk⟩ hg1
  have hs11 : w.heap.size + 11 ≤ w1.heap.size := by have := hg1.size; omega
  clear hat hres hbel hr0 h hsz hg1 hW0 v1
  have ha := hside.2.2.1
  have hb := hside.2.2.2
  have SD := hid hside
  clear hside
  go_wp2
  have hmul : IntKind.i64.wrap (a * b) = a * b := IntWalk.i64_in _ (by have h1 := SD.out.1.2.2; omega)
  have hab : decide (9 < a * b) = false := decide_eq_false (by have h1 := SD.out.1.2.2; omega)
  go_quiet (fail)
  go_upto_region 5 with fail
  go_cut [9] (fun p wx => BSt w B r (N + 1) (a * b).toNat p wx a (ordL (a * b).toNat))
  case first =>
    have hr2 := hr1.drewN nq
    have hre2 : Blk (w1.drewN nq) w.heap.size #[.int .i64 0, .slice none 0 0] 27 := hre1
    have h2 : (w1.drewN nq).cell? ⟨gs, 0, none⟩ = some (.int .i64 a) := hs2
    have h3 : (w1.drewN nq).cell? ⟨gs, 1, none⟩ = some (.int .i64 b) := hs3
    have hg2 : w.grownBy (w1.drewN nq) (some r) := ⟨hgw.os, hgw.tape, hgw.output, hgw.size, hgw.block⟩
    have hs12 : w.heap.size + 11 ≤ (w1.drewN nq).heap.size := hs11
    clear hr1 hre1 hs1 hs2 hs3 hgw hs11
    generalize w1.drewN nq = wd at *
    have hdw : Hid (doneW a b = a) := doneW_in SD.out.1
    have hm0 : Hid (1 ≤ (a * b).toNat) := by have := SD.out.1.2.2; simp [Hid]; omega
    have hdl : Hid (doneL a b = ordL (a * b).toNat) := doneL_in SD.out.1 (by have := SD.out.1.2.2; omega)
    have hol : Hid ((ordL (a * b).toNat).length = (a * b).toNat) := length_ordL hm0.out
    generalize (a * b).toNat = m at *
    have lt : gs < wd.heap.size := World.block_lt_of_cell? _ _ h2
    go_region_held3 (fun w' => (∀ b o, b < wd.heap.size → w'.cell? ⟨b, o, none⟩ = wd.cell? ⟨b, o, none⟩) ∧ Below wd.heap.size wd w')
      (first | with_reducible exact sb_drew _ | with_reducible exact sb_ad _ _ | with_reducible exact sb_call ‹_› bt | with_reducible exact sb_alloc (sb_call (sb_drew _) bt) _ | with_reducible exact sb_set (sb_set ‹_› (Nat.le_refl _) _ _) (Nat.le_refl _) _ _ | with_reducible exact sb_alloc ‹_› _)
      (first | (go_at_call 42; refine (specBoardDone_any a b _).mono fun e wt h => ?_; rw [hdw.out, hdl.out] at h; obtain ⟨ao_t, c_t, rfl, hc_t, t, bt⟩ := h.to hol.out; clear h; obtain ⟨hct, hft⟩ := bcell bt))
    all_goals rename_i hH
    · have bkd := Blk.new wt #[.int .i64 a, .slice ao_t m c_t] 27
      have od := t.alloc (.cells #[.int .i64 a, .slice ao_t m c_t] 27)
      have hsz : wd.heap.size ≤ wt.heap.size := bt.size
      have tb : ∀ g, ao_t = some ⟨g, 0, none⟩ → wt.heap.size ≠ g := fun g e => by subst e; have := t.base; omega
      have b1 := hH.2
      clear hH hct hft t bt
      go_wp2_with fail
      go_meet
      exact BSt.mk (w1 := wd) bkd hol.out hm0.out hc_t od hg2 b1 hr2 hsz tb (by omega) hre2
    · have k0 : Blk ((wd.alloc (.cells #[.int .i64 0, .slice none 0 0] 27)).drew) wd.heap.size #[.int .i64 0, .slice none 0 0] 27 := Blk.new wd _ _
      have bkd : Blk _ wd.heap.size #[.int .i64 a, .slice ao_t m c_t] 27 := ((k0.below bt (Nat.le_refl _)).set 0 (.int .i64 a)).set 1 (.slice ao_t m c_t)
      have od := ((t.setOther wd.heap.size 0 (.int .i64 a) (t.ne_of_lt (by simp))).setOther wd.heap.size 1 (.slice ao_t m c_t) (t.ne_of_lt (by simp))).lower (B' := wd.heap.size) (by simp)
      have tb : ∀ g, ao_t = some ⟨g, 0, none⟩ → wd.heap.size ≠ g := fun g e => by subst e; have := t.base; simp at this; omega
      have b1 := hH.2
      clear hH hct hft t bt k0
      go_wp2_with fail
      go_meet
      exact BSt.mk (w1 := wd) bkd hol.out hm0.out hc_t od hg2 b1 hr2 (Nat.le_refl _) tb (by omega) hre2
  case rest =>
    clear hr1 hre1 hs1 hs2 hs3 hgw hs11 hmul hab
    obtain ⟨m, hm⟩ : ∃ m, (a * b).toNat = m := ⟨_, rfl⟩
    have hok : Hid (BoardOk a (ordL m)) := by have := SD.out.2.1; rw [hm] at this; exact this
    rw [hm] at hcut
    have hm9 : m ≤ 9 := by have := hok.out.2.1; have := hcut.len; omega
    have hm2 : 2 ≤ m := by have := hok.out.1; have := hcut.len; omega
    clear hm SD
    have hm0 : 0 < m := by have := hok.out.1; have := hcut.len; omega
    have hcut2 := hcut
    obtain ⟨gb, g, c, rfl, hbk, hl, hc, ho, hg, hr, h1, h2, h3, hre⟩ := hcut2
    clear hbk hl hc ho hg h2 h3 hre
    go_wp2_with fail
    refine (pick_rdr r 3 B (N + 1) wc hr (by omega)).mono fun e w2 hp => ?_
    obtain ⟨v, rfl, v0, v1, _, v2, hg1, hr1⟩ := hp
    have hcut := hcut.kept hg1 hr1 hBr.2
    clear hr hr1 hg1
    go_upto_if 53 with fail
    go_cut [9] (fun p wx => ∃ wide ys, BSt w B r (N + 100) m p wx wide ys ∧ 1 ≤ wide ∧ wide ≤ 4)
    case first =>
      by_cases hv : 0 < v
      · have hd : decide (0 < v) = true := decide_eq_true hv
        go_wp2_with fail
        refine (pick_rdr r 25 B (N + 2) w2 (by obtain ⟨_, _, _, _, _, _, _, _, _, h, _⟩ := hcut; exact h) (by omega)).mono fun e w3 hp => ?_
        obtain ⟨q, rfl, q0, q1, _, q2, hg3, hr3⟩ := hp
        have hcut := hcut.kept hg3 hr3 hBr.2
        have q3 := q1 (by omega)
        obtain ⟨k0, rfl⟩ : ∃ k : Nat, q = k := Int.eq_ofNat_of_zero_le q0
        clear hg3 hr3 q1 hd
        go_wp2_with fail
        go_loopw [10, 11, 12, 13] (fun i _ _ _ wr => ∃ k : Nat, k ≤ 24 ∧ i = .int .i64 k ∧ ∃ ys, BSt w B r (N + 30 - k) m (.pointer (some ⟨gb, 0, none⟩)) wr a ys ∧ Hid (BoardOk a ys)) (fun i _ _ _ _ => (intOf i).toNat)
        case atStart => exact ⟨k0, by omega, rfl, _, hcut.more (by omega), hok⟩
        case round =>
          clear hcut
          obtain ⟨k, hk, rfl, ys, hb, hok⟩ := hrel
          by_cases hk0 : 0 < k
          · have hd : decide ((0 : Int) < k) = true := decide_eq_true (by omega)
            obtain ⟨gb', g, c, e, hbk, hl, hc, ho, hw, hr, _, hne, hg0, hre⟩ := hb
            obtain rfl : gb = gb' := by simpa using e
            have e0 := hbk.at 0 rfl
            have e1 := hbk.at 1 rfl
            have HL := hid hl
            obtain ⟨mm, hmm⟩ : ∃ mm, (mayL a ys).length = mm := ⟨_, rfl⟩
            have hmm0 := may_some hok.out
            have hmm9 := may_le9 hok.out
            rw [hmm] at hmm0 hmm9
            have HM := hid hmm
            clear hl hmm
            go_wp2_with fail
            refine (specTilesMay_any a (some ⟨g, 0, none⟩) ys m c wr HL.out (by have := hok.out.2.1; rw [HL.out] at this; omega) hc ho.ints).mono fun e w4 h => ?_
            obtain ⟨am, cm, rfl, om, bm⟩ := h.to HM.out
            clear h
            obtain ⟨gm, rfl⟩ := om.addr (by rw [HM.out]; omega)
            have hrl := hr.lt.2
            have hbk4 := hbk.below bm (Nat.le_refl _)
            have hre4 := hre.below bm (Nat.le_refl _)
            have ho4 := ho.below bm (Nat.le_refl _)
            have hr4 := hr.below bm (Nat.le_refl _)
            have hw4 := grown_new hw ⟨bm.os, bm.tape, bm.output, bm.size, fun k hk _ => bm.block k hk⟩ (row := none) (fun g e => by cases e)
            have hgm := om.base
            have hgb4 := hbk.lt
            clear e0 e1 hbk hre ho hr hw
            have e0 := hbk4.at 0 rfl
            have e1 := hbk4.at 1 rfl
            go_upto_region 11 with fail
            go_cut [12, 13] (fun x _ wx => ∃ zs, XSt w B r (N + 31 - k) m gb x wx a zs (.slice (some ⟨g, 0, none⟩) m c) ∧ Hid (BoardOk a zs))
            case first =>
              have hgbr : gb ≠ r := by omega
              have hgr : g ≠ r := by have := ho4.base; omega
              have hgmr : gm ≠ r := by omega
              have hgm2 := hgm.2
              have lt4 := hbk4.lt
              have hne4 : some w4.heap.size ≠ some r := fun e => by have := Option.some.inj e; omega
              have hr4a : Rdr (w4.alloc (.cells #[.int .i64 0, .slice none 0 0] 27)).drew B r (N + 30 - k) := hr4.below ((Below.refl w4.heap.size w4).alloc (Nat.le_refl _) _).drew (Nat.le_refl _)
              have hm9 : m ≤ 17592186044416 := by have := hok.out.2.1; rw [HL.out] at this; omega
              have hlm : Hid (∀ t, (movedL a ys t).length = m) := fun t => by rw [length_movedL]; exact HL.out
              go_region_held3 (fun w' => (∀ b o, b < w4.heap.size → b ≠ r → w'.cell? ⟨b, o, none⟩ = w4.cell? ⟨b, o, none⟩) ∧ w4.grownBy w' (some r))
                (first | with_reducible exact sg_drew _ _ | with_reducible exact sg_ad _ _ _ | with_reducible exact sg_pick ‹_› hg5 | with_reducible exact sg_below ‹_› bx | with_reducible exact sg_alloc (sg_below (sg_pick (sg_drew _ _) hg5) bx) _ | with_reducible exact sg_alloc (sg_pick ‹_› hg5) _ | with_reducible exact sg_alloc ‹_› _ | with_reducible exact sg_set (sg_set ‹_› (Nat.le_refl _) _ _) (Nat.le_refl _) _ _ | with_reducible exact sg_set (sg_set ‹_› hs45 _ _) hs45 _ _)
                (first | (go_at_call 38; refine (pick_rdr r (mm : Int) B (N + 30 - k) w4.drew hr4 (by omega)).mono fun e w5 hp => ?_; obtain ⟨q, rfl, q0, q1, _, _, hg5, hr5⟩ := hp; have hs45 : w4.heap.size ≤ w5.heap.size := (Nat.le_trans (by simp) hg5.size); have q3 := q1 (by omega); obtain ⟨j, rfl⟩ : ∃ j : Nat, q = j := Int.eq_ofNat_of_zero_le q0; have hjm : j < mm := (by omega); have hcj := om.cell (j := j) (by rw [HM.out]; exact hjm); have hcan := hid (may_can (wide := a) (xs := ys) (k := j) (by rw [HM.out]; exact hjm)))
                       | (go_at_call 38; refine (pick_rdr r (mm : Int) B (N + 30 - k) (w4.alloc (.cells #[.int .i64 0, .slice none 0 0] 27)).drew hr4a (by omega)).mono fun e w5 hp => ?_; obtain ⟨q, rfl, q0, q1, _, _, hg5, hr5⟩ := hp; have hs45 : w4.heap.size ≤ w5.heap.size := (Nat.le_trans (by simp) hg5.size); have q3 := q1 (by omega); obtain ⟨j, rfl⟩ : ∃ j : Nat, q = j := Int.eq_ofNat_of_zero_le q0; have hjm : j < mm := (by omega); have hcj := om.cell (j := j) (by rw [HM.out]; exact hjm); have hcan := hid (may_can (wide := a) (xs := ys) (k := j) (by rw [HM.out]; exact hjm)))
                       | (go_at_call 44; refine (specTileMove_any a (some ⟨g, 0, none⟩) ys m c (nth (mayL a ys) j) (w5.alloc (.cells #[.int .i64 0, .slice none 0 0] 27)) HL.out hm9 hc (own_sg ‹_› ho4 hgr)).mono fun e w6 h => ?_; rw [tmW_in hok.out, tmL_in hok.out, hcan.out] at h; obtain ⟨ax, cx, rfl, hcx, ox, bx⟩ := h.to (hlm.out _); clear h; have bb : Blk w6 w5.heap.size #[.int .i64 0, .slice none 0 0] 27 := (Blk.new w5 _ _).below bx (Nat.le_refl _); have fb0 := bb.free 0; have fb1 := bb.free 1; have cb0 := bb.at 0 rfl; have cb1 := bb.at 1 rfl)
                       | (have bb0 : Blk w5 w4.heap.size #[.int .i64 0, .slice none 0 0] 27 := Blk.kept (w := (w4.alloc (.cells #[.int .i64 0, .slice none 0 0] 27)).drew) (Blk.new w4 _ _) hg5 hne4; go_at_call 44; refine (specTileMove_any a (some ⟨g, 0, none⟩) ys m c (nth (mayL a ys) j) w5 HL.out hm9 hc (own_sg ‹_› ho4 hgr)).mono fun e w6 h => ?_; rw [tmW_in hok.out, tmL_in hok.out, hcan.out] at h; obtain ⟨ax, cx, rfl, hcx, ox, bx⟩ := h.to (hlm.out _); clear h; have bb : Blk w6 w4.heap.size #[.int .i64 0, .slice none 0 0] 27 := bb0.below bx (Nat.le_refl _); have fb0 := bb.free 0; have fb1 := bb.free 1; have cb0 := bb.at 0 rfl; have cb1 := bb.at 1 rfl)
                       | (go_at_call 44; refine (specTileMove_any a (some ⟨g, 0, none⟩) ys m c (nth (mayL a ys) j) w5 HL.out hm9 hc (own_sg ‹_› ho4 hgr)).mono fun e w6 h => ?_; rw [tmW_in hok.out, tmL_in hok.out, hcan.out] at h; obtain ⟨ax, cx, rfl, hcx, ox, bx⟩ := h.to (hlm.out _); clear h))
              all_goals rename_i hH
              · have bkd := Blk.new w6 #[.int .i64 a, .slice ax m cx] 27
                have od := ox.alloc (.cells #[.int .i64 a, .slice ax m cx] 27)
                have rd := (hr5.below bx (Nat.le_refl _)).below ((Below.refl w6.heap.size w6).alloc (Nat.le_refl _) (.cells #[.int .i64 a, .slice ax m cx] 27)) (Nat.le_refl _)
                have hHg := hH.2
                have hmv := hid (boardOk_moved (t := nth (mayL a ys) j) hok.out)
                have hlm2 := hlm.out (nth (mayL a ys) j)
                clear hH ox bx hr5 hg5 hcj e0 e1 hlm
                go_wp2_with fail
                go_meet
                exact ⟨_, XSt.mk (w4 := w4) bkd hlm2 hm0 hcx od (by omega) (by omega) hw4 hHg (rd.more (by omega)) hbk4 hgbr hre4 hBr.2, hmv⟩
              · have bkd := (bb.set 0 (.int .i64 a)).set 1 (.slice ax m cx)
                have hsl : w5.heap.size < (w5.alloc (.cells #[.int .i64 0, .slice none 0 0] 27)).heap.size := by simp
                have hr5l := hr5.lt
                have od := own_set2 ox hsl (.int .i64 a) (.slice ax m cx)
                have rd := rdr_set2 ((hr5.below ((Below.refl w5.heap.size w5).alloc (Nat.le_refl _) (.cells #[.int .i64 0, .slice none 0 0] 27)) (Nat.le_refl _)).below bx (Nat.le_refl _)) (g := w5.heap.size) (by omega) (by omega) (.int .i64 a) (.slice ax m cx)
                have hHg := hH.2
                have hmv := hid (boardOk_moved (t := nth (mayL a ys) j) hok.out)
                have hlm2 := hlm.out (nth (mayL a ys) j)
                clear hH ox bx hr5 hg5 hcj e0 e1 hlm bb fb0 fb1 cb0 cb1
                go_wp2_with fail
                go_meet
                exact ⟨_, XSt.mk (w4 := w4) bkd hlm2 hm0 hcx od (by omega) (by omega) hw4 hHg (rd.more (by omega)) hbk4 hgbr hre4 hBr.2, hmv⟩
              · have bkd := (bb.set 0 (.int .i64 a)).set 1 (.slice ax m cx)
                have hsl : w4.heap.size < w5.heap.size := by have := hg5.size; simp at this; omega
                have od := own_set2 ox hsl (.int .i64 a) (.slice ax m cx)
                have rd := rdr_set2 (hr5.below bx (Nat.le_refl _)) (g := w4.heap.size) (by omega) (by omega) (.int .i64 a) (.slice ax m cx)
                have hHg := hH.2
                have hmv := hid (boardOk_moved (t := nth (mayL a ys) j) hok.out)
                have hlm2 := hlm.out (nth (mayL a ys) j)
                clear hH ox bx hr5 hg5 hcj e0 e1 hlm bb bb0 fb0 fb1 cb0 cb1
                go_wp2_with fail
                go_meet
                exact ⟨_, XSt.mk (w4 := w4) bkd hlm2 hm0 hcx od (by omega) (by omega) hw4 hHg (rd.more (by omega)) hbk4 hgbr hre4 hBr.2, hmv⟩
            case rest =>
              obtain ⟨zs, ⟨gx, g2, c2, rfl, hbx, hl2, hc2, ho2, hw2, hr2, hg2, hb2, hre2⟩, hokz⟩ := hcut
              have hL2 := hid hl2
              clear hl2 ho4 hr4 hw4 hbk4 hre4 om bm e0 e1
              have e0 := hbx.at 0 rfl
              have e1 := hbx.at 1 rfl
              have d0 := hb2.at 0 rfl
              have d1 := hb2.at 1 rfl
              have f0 := hb2.free 0
              have f1 := hb2.free 1
              have hob := ho2.base
              have b5 := (hb2.set 0 (.int .i64 a)).set 1 (.slice (some ⟨g2, 0, none⟩) m c2)
              have ho5 := (ho2.setOther gb 0 (.int .i64 a) (.inr fun e => by have : g2 = gb := Option.some.inj e; omega)).setOther gb 1 (.slice (some ⟨g2, 0, none⟩) m c2) (.inr fun e => by have : g2 = gb := Option.some.inj e; omega)
              have hr5 := rdr_set2 hr2 (g := gb) (by omega) (by omega) (.int .i64 a) (.slice (some ⟨g2, 0, none⟩) m c2)
              have hw5 := grown_new (grown_new hw2 (grownBy_setCell wc gb 0 (.int .i64 a)) (fun g' e => by have := Option.some.inj e; omega)) (grownBy_setCell _ gb 1 (.slice (some ⟨g2, 0, none⟩) m c2)) (fun g' e => by have := Option.some.inj e; omega)
              have hre5 := (hre2.setOther (by omega : w.heap.size ≠ gb) 0 (.int .i64 a)).setOther (by omega : w.heap.size ≠ gb) 1 (.slice (some ⟨g2, 0, none⟩) m c2)
              clear hbx ho2 hw2 hr2 hb2 hre2
              go_wp2_with fail
              go_roundw
              case rel => exact ⟨k - 1, by omega, by go_num, zs, ⟨gb, g2, c2, rfl, b5, hL2.out, hc2, ho5, hw5, hr5.more (by omega), h1, by omega, by omega, hre5⟩, hokz⟩
              case measure => simp [intOf]; omega
          · have hd : decide ((0 : Int) < k) = false := decide_eq_false (by omega)
            go_wp2_with fail
            go_meet
            exact ⟨a, ys, hb.more (by omega), by omega, by omega⟩
      · have hd : decide (0 < v) = false := decide_eq_false hv
        have hcut2 := hcut
        obtain ⟨gb', g0, c0, e, hbk0, _⟩ := hcut2
        obtain rfl : gb = gb' := by simpa using e
        clear hbk0 e
        go_wp2_with fail
        go_loopw [14, 15, 16] (fun i _ _ wr => ∃ k : Nat, 1 ≤ k ∧ k ≤ m ∧ i = .int .i64 k ∧ ∃ ys, BSt w B r (N + 2 + k) m (.pointer (some ⟨gb, 0, none⟩)) wr a ys) (fun i _ _ _ => m - (intOf i).toNat)
        case atStart => exact ⟨1, by omega, by omega, rfl, _, hcut.more (by omega)⟩
        case round =>
          clear hcut
          obtain ⟨k, hk1, hkm, rfl, ys, hb⟩ := hrel
          obtain ⟨gb', g, c, e, hbk, hl, hc, ho, hw, hr, _, hne, hg0, hre⟩ := hb
          obtain rfl : gb = gb' := by simpa using e
          have e1 := hbk.at 1 rfl
          by_cases hlt : k < m
          · have hd2 : decide ((k : Int) < m) = true := decide_eq_true (by omega)
            have HL := hid hl
            have hgl := ho.base
            clear hl
            go_wp2_with fail
            refine (pick_rdr r _ B (N + 2 + k) wr hr (by omega)).mono fun e w5 hp => ?_
            obtain ⟨q, rfl, q0, q1, _, _, hg5, hr5⟩ := hp
            have q3 := q1 (by omega)
            obtain ⟨j, rfl⟩ : ∃ j : Nat, q = j := Int.eq_ofNat_of_zero_le q0
            have hjk : j ≤ k := by omega
            have hbk5 := hbk.kept hg5 (fun e => by have := Option.some.inj e; omega)
            have hre5 := hre.kept hg5 (fun e => by have := Option.some.inj e; omega)
            have ho5 := ho.kept hg5 (.inr fun e => by have : g = r := Option.some.inj e; omega)
            have hw5 := grownBy_trans hw hg5
            clear e1 hbk hre ho hr hw hg5 q1
            have e1 := hbk5.at 1 rfl
            have ck := ho5.cell (j := k) (by rw [HL.out]; omega)
            have cj := ho5.cell (j := j) (by rw [HL.out]; omega)
            have fk := ho5.free HL.out.symm k
            have fj := ho5.free HL.out.symm j
            have ho6 := ho5.stored HL.out.symm k (nth ys j)
            have hl6 : (ys.set k (nth ys j)).length = m := by have := HL.out; simp [this]
            have ho7 := ho6.stored hl6.symm j (nth ys k)
            have HL7 : Hid (((ys.set k (nth ys j)).set j (nth ys k)).length = m) := by have := HL.out; simp [Hid, this]
            have hb7 := (hbk5.setOther hne k (.int .i64 (nth ys j))).setOther hne j (.int .i64 (nth ys k))
            have hr7 := (hr5.kept (grownBy_setCell w5 g k (.int .i64 (nth ys j))) (fun g' e => by have := Option.some.inj e; omega)).kept (grownBy_setCell _ g j (.int .i64 (nth ys k))) (fun g' e => by have := Option.some.inj e; omega)
            have hw7 := grown_new (grown_new hw5 (grownBy_setCell w5 g k (.int .i64 (nth ys j))) (fun g' e => by have := Option.some.inj e; omega)) (grownBy_setCell _ g j (.int .i64 (nth ys k))) (fun g' e => by have := Option.some.inj e; omega)
            have hre7 := (hre5.setOther hg0.symm k (.int .i64 (nth ys j))).setOther hg0.symm j (.int .i64 (nth ys k))
            have e1s := (hbk5.setOther hne k (.int .i64 (nth ys j))).at 1 rfl
            have cjs := ho6.cell (j := j) (by rw [hl6]; omega)
            have fjs := ho6.free hl6.symm j
            clear hbk5 hre5 ho5 hr5 hw5 ho6
            go_wp2
            go_region
            clear e1 ck cj fk fj
            generalize hX : (ys.set k (nth ys j)) = X at *
            go_wp2
            go_roundw
            case rel => exact ⟨k + 1, by omega, by omega, by go_num, X.set j (nth ys k), ⟨gb, g, c, rfl, hb7, HL7.out, hc, ho7, ⟨hw7.os, hw7.tape, hw7.output, hw7.size, hw7.block⟩, hr7.more (by omega), h1, hne, hg0, hre7⟩⟩
            case measure => simp [intOf]; omega
          · obtain rfl : k = m := by omega
            have hd2 : decide ((k : Int) < k) = false := by simp
            go_wp2_with fail
            go_meet
            exact ⟨a, ys, ⟨gb, g, c, rfl, hbk, hl, hc, ho, hw, hr.more (by omega), h1, hne, hg0, hre⟩, by omega, by omega⟩
    case rest =>
      clear h1
      obtain ⟨wide, ys, ⟨gb, g, c', rfl, hbk, hl, hc, ho, hw, hr, h1, hne, hg0, hre⟩, hw1, hw4⟩ := hcut
      go_wp2_with fail
      refine (odd_rdr r n B (N + 100) wc hr (by omega) hn).mono fun e w5 hp => ?_
      obtain ⟨bo, rfl, hg5, hr5, _⟩ := hp
      have hgl := ho.base
      have HL := hid hl
      have hbk5 := hbk.kept hg5 (fun e => by have := Option.some.inj e; omega)
      have hre5 := hre.kept hg5 (fun e => by have := Option.some.inj e; omega)
      have ho5 := ho.kept hg5 (.inr fun e => by have : g = r := Option.some.inj e; omega)
      have hw5 := grownBy_trans hw hg5
      clear hbk hre ho hr hw hg5 hl
      cases bo with
      | false =>
        have e0 := hbk5.at 0 rfl
        have e1 := hbk5.at 1 rfl
        have hfin := BSt.ret (M := N + 200) hbk5 hre5 ho5 hw5 hr5 HL.out hc hm9 (by omega) (by omega) hg0 hBr (by omega)
        have f0 := hre5.free 0
        have f1 := hre5.free 1
        have g0 := hre5.at 0 rfl
        have g1 := hre5.at 1 rfl
        clear hbk5 hre5 ho5 hw5 hr5
        go_wp2
        exact bodyPost_ret (v := .agg #[.int .i64 wide, .slice (some ⟨g, 0, none⟩) m c']) (by simp [results, Try.results33, go_sem, g0, g1]) rfl hfin
      | true =>
        go_wp2_with fail
        refine (pick_rdr r 4 B (N + 101) w5 hr5 (by omega)).mono fun e w6 hp => ?_
        obtain ⟨q, rfl, q0, q1, _, _, hg6, hr6⟩ := hp
        have q3 := q1 (by omega)
        have hbk6 := hbk5.kept hg6 (fun e => by have := Option.some.inj e; omega)
        have hre6 := hre5.kept hg6 (fun e => by have := Option.some.inj e; omega)
        have ho6 := ho5.kept hg6 (.inr fun e => by have : g = r := Option.some.inj e; omega)
        have hw6 := grownBy_trans hw5 hg6
        clear hbk5 hre5 ho5 hr5 hw5 hg6 q1
        have hq : q = 0 ∨ q = 1 ∨ q = 2 ∨ q = 3 := by omega
        clear q0 q3
        rcases hq with rfl | rfl | rfl | rfl
        · have f0 := hre6.free 0
          have f1 := hre6.free 1
          have g0 := hre6.at 0 rfl
          have g1 := hre6.at 1 rfl
          have hg7 := grown_new (grown_new hw6 (grownBy_setCell w6 w.heap.size 0 (.int .i64 0)) (fun g' e => by have := Option.some.inj e; omega)) (grownBy_setCell _ w.heap.size 1 (.slice none 0 0)) (fun g' e => by have := Option.some.inj e; omega)
          have hr7 := (rdr_set2 (g := w.heap.size) hr6 (by omega) (by omega) (.int .i64 0) (.slice none 0 0)).more (M := N + 200) (by omega)
          clear hbk6 hre6 ho6 hw6 hr6
          go_wp2
          exact bodyPost_ret (v := .agg #[.int .i64 0, .slice none 0 0]) (by simp [results, Try.results33, go_sem, g0, g1]) rfl ⟨0, none, 0, 0, [], rfl, rfl, Nat.le_refl _, by omega, by omega, Own.nil _ _, hg7, hr7⟩
        · have e1 := hbk6.at 1 rfl
          have c1 := ho6.cell (j := 1) (by rw [HL.out]; omega)
          have c0 := ho6.cell (j := 0) (by rw [HL.out]; omega)
          have fz := ho6.free HL.out.symm 0
          have hbk7 := hbk6.setOther hne 0 (.int .i64 (nth ys 1))
          have hre7 := hre6.setOther hg0.symm 0 (.int .i64 (nth ys 1))
          have ho7 := ho6.stored HL.out.symm 0 (nth ys 1)
          have HL7 : Hid ((ys.set 0 (nth ys 1)).length = m) := by have := HL.out; simp [Hid, this]
          have hw7 := grown_new hw6 (grownBy_setCell w6 g 0 (.int .i64 (nth ys 1))) (fun g' e => by have := Option.some.inj e; omega)
          have hr7 := hr6.kept (grownBy_setCell w6 g 0 (.int .i64 (nth ys 1))) (fun g' e => by have := Option.some.inj e; omega)
          clear hbk6 hre6 ho6 hw6 hr6
          generalize ys.set 0 (nth ys 1) = X at *
          go_wp2
          go_region
          clear e1 c1 c0 fz
          have hbk8 : Blk (w6.setCell ⟨g, 0, none⟩ (.int .i64 (nth ys 1))).drew gb #[.int .i64 wide, .slice (some ⟨g, 0, none⟩) m c'] 27 := hbk7
          have hre8 : Blk (w6.setCell ⟨g, 0, none⟩ (.int .i64 (nth ys 1))).drew w.heap.size #[.int .i64 0, .slice none 0 0] 27 := hre7
          have ho8 : Own (w6.setCell ⟨g, 0, none⟩ (.int .i64 (nth ys 1))).drew w.heap.size (.slice (some ⟨g, 0, none⟩) m c') X := ho7
          have hw8 : w.grownBy (w6.setCell ⟨g, 0, none⟩ (.int .i64 (nth ys 1))).drew (some r) := ⟨hw7.os, hw7.tape, hw7.output, hw7.size, hw7.block⟩
          have hr8 : Rdr (w6.setCell ⟨g, 0, none⟩ (.int .i64 (nth ys 1))).drew B r (N + 101 + 1) := hr7
          clear hbk7 hre7 ho7 hw7 hr7
          generalize (w6.setCell ⟨g, 0, none⟩ (.int .i64 (nth ys 1))).drew = W at *
          have e0 := hbk8.at 0 rfl
          have e1 := hbk8.at 1 rfl
          have hfin := BSt.ret (M := N + 200) hbk8 hre8 ho8 hw8 hr8 HL7.out hc hm9 (by omega) (by omega) hg0 hBr (by omega)
          have f0 := hre8.free 0
          have f1 := hre8.free 1
          have g0 := hre8.at 0 rfl
          have g1 := hre8.at 1 rfl
          clear hbk8 hre8 ho8 hw8 hr8
          go_wp2
          exact bodyPost_ret (v := .agg #[.int .i64 wide, .slice (some ⟨g, 0, none⟩) m c']) (by simp [results, Try.results33, go_sem, g0, g1]) rfl hfin
        · have e0 := hbk6.at 0 rfl
          have e1 := hbk6.at 1 rfl
          have fz := hbk6.free 0
          have hbk7 : Blk (w6.setCell ⟨gb, 0, none⟩ (.int .i64 ((m : Int) + 1))) gb #[.int .i64 ((m : Int) + 1), .slice (some ⟨g, 0, none⟩) m c'] 27 := hbk6.set 0 (.int .i64 ((m : Int) + 1))
          have hre7 := hre6.setOther (by omega : w.heap.size ≠ gb) 0 (.int .i64 ((m : Int) + 1))
          have ho7 := ho6.setOther gb 0 (.int .i64 ((m : Int) + 1)) (.inr fun e => hne (Option.some.inj e).symm)
          have hw7 := grown_new hw6 (grownBy_setCell w6 gb 0 (.int .i64 ((m : Int) + 1))) (fun g' e => by have := Option.some.inj e; omega)
          have hr7 := hr6.kept (grownBy_setCell w6 gb 0 (.int .i64 ((m : Int) + 1))) (fun g' e => by have := Option.some.inj e; omega)
          clear hbk6 hre6 ho6 hw6 hr6
          have d0 := hbk7.at 0 rfl
          have d1 := hbk7.at 1 rfl
          have hfin := BSt.ret (M := N + 200) hbk7 hre7 ho7 hw7 hr7 HL.out hc hm9 (by omega) (by omega) hg0 hBr (by omega)
          have f0 := hre7.free 0
          have f1 := hre7.free 1
          have g0 := hre7.at 0 rfl
          have g1 := hre7.at 1 rfl
          clear hbk7 hre7 ho7 hw7 hr7
          go_wp2
          exact bodyPost_ret (v := .agg #[.int .i64 ((m : Int) + 1), .slice (some ⟨g, 0, none⟩) m c']) (by simp [results, Try.results33, go_sem, g0, g1]) rfl hfin
        · have e0 := hbk6.at 0 rfl
          have e1 := hbk6.at 1 rfl
          have c0 := ho6.cell (j := 0) (by rw [HL.out]; omega)
          have fz := ho6.free HL.out.symm 0
          have hbk7 := hbk6.setOther hne 0 (.int .i64 (m : Int))
          have hre7 := hre6.setOther hg0.symm 0 (.int .i64 (m : Int))
          have ho7 := ho6.stored HL.out.symm 0 (m : Int)
          have HL7 : Hid ((ys.set 0 (m : Int)).length = m) := by have := HL.out; simp [Hid, this]
          have hw7 := grown_new hw6 (grownBy_setCell w6 g 0 (.int .i64 (m : Int))) (fun g' e => by have := Option.some.inj e; omega)
          have hr7 := hr6.kept (grownBy_setCell w6 g 0 (.int .i64 (m : Int))) (fun g' e => by have := Option.some.inj e; omega)
          clear hbk6 hre6 ho6 hw6 hr6
          generalize ys.set 0 (m : Int) = X at *
          have d0 := hbk7.at 0 rfl
          have d1 := hbk7.at 1 rfl
          have hfin := BSt.ret (M := N + 200) hbk7 hre7 ho7 hw7 hr7 HL7.out hc hm9 (by omega) (by omega) hg0 hBr (by omega)
          have f0 := hre7.free 0
          have f1 := hre7.free 1
          have g0 := hre7.at 0 rfl
          have g1 := hre7.at 1 rfl
          clear hbk7 hre7 ho7 hw7 hr7
          go_wp2
          exact bodyPost_ret (v := .agg #[.int .i64 wide, .slice (some ⟨g, 0, none⟩) m c']) (by simp [results, Try.results33, go_sem, g0, g1]) rfl hfin

end Go.Proofs.Ytaepoddlhghdpaa
