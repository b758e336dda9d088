/- The draws of graphs and lights: l20Set, l20Lit, l20Few, DrawOutMay and its like. -/
import Derived.Test.YtgmjffplinpobaaLq
import Derived.Test.YtgmjffplinpobaaLj
namespace Go.Proofs.Ytgmjffplinpobaa
open Go Go.RowKit

/-- A graph and a set that have been drawn. -/
def DrawGL (w : World) (B r N : Nat) (e : Ending) (w' : World) : Prop :=
  ∃ ao m c ys s, e = .returned (.tuple #[.agg #[.slice ao m c], .int .i64 s]) ∧ ys.length = m ∧ m ≤ c ∧ m ≤ 10 ∧ Own w' w.heap.size (.slice ao m c) ys ∧ w.grownBy w' (some r) ∧ Rdr w' B r N

theorem DrawGL.mk {w wx : World} {B r N M m c : Nat} {ao : Option Addr} {ys : List Int} (s : Int) (ho : Own wx (w.heap.size + 1) (.slice ao m c) ys) (hl : ys.length = m) (hmc : m ≤ c) (hm : m ≤ 10) (h6 : w.grownBy wx (some r)) (h7 : Rdr wx B r N) (hM : N ≤ M) (hrw : r < w.heap.size) (hBr : B ≤ r) :
    DrawGL w B r M (.returned (.tuple #[.agg #[.slice ao m c], .int .i64 s])) (wx.setCell ⟨w.heap.size, 0, none⟩ (.slice ao m c)) := by
  obtain ⟨ao', m', c', ys', he, h1, h2, h3, h4, h5, h6⟩ := DrawGr.mk ho hl hmc hm h6 h7 hM hrw hBr
  simp only [Ending.returned.injEq, Value.agg.injEq, Array.mk.injEq, List.cons.injEq, Value.slice.injEq, and_true] at he
  obtain ⟨rfl, rfl, rfl⟩ := he
  exact ⟨ao, m, c, ys', s, rfl, h1, h2, h3, h4, h5, h6⟩

theorem sr_drew (W : World) (r R : Nat) : (∀ b o, b < W.heap.size → b ≠ r → b ≠ R → W.drew.cell? ⟨b, o, none⟩ = W.cell? ⟨b, o, none⟩) ∧ W.heap.size ≤ W.drew.heap.size := ⟨fun _ _ _ _ _ => rfl, Nat.le_refl _⟩
theorem sr_pick {W w0 w1 : World} {r R : Nat} (h : (∀ b o, b < W.heap.size → b ≠ r → b ≠ R → w0.cell? ⟨b, o, none⟩ = W.cell? ⟨b, o, none⟩) ∧ W.heap.size ≤ w0.heap.size) (g : w0.grownBy w1 (some r)) :
    (∀ b o, b < W.heap.size → b ≠ r → b ≠ R → w1.cell? ⟨b, o, none⟩ = W.cell? ⟨b, o, none⟩) ∧ W.heap.size ≤ w1.heap.size :=
  ⟨fun b o hb hr hR => (World.cell?_of_block (a := ⟨b, o, none⟩) (g.block b (by have := h.2; omega) (fun e => hr (Option.some.inj e)))).trans (h.1 b o hb hr hR), Nat.le_trans h.2 g.size⟩
theorem sr_call {W w0 w1 : World} {r R : Nat} (h : (∀ b o, b < W.heap.size → b ≠ r → b ≠ R → w0.cell? ⟨b, o, none⟩ = W.cell? ⟨b, o, none⟩) ∧ W.heap.size ≤ w0.heap.size) (g : Below w0.heap.size w0 w1) :
    (∀ b o, b < W.heap.size → b ≠ r → b ≠ R → w1.cell? ⟨b, o, none⟩ = W.cell? ⟨b, o, none⟩) ∧ W.heap.size ≤ w1.heap.size :=
  sr_pick h ⟨g.os, g.tape, g.output, g.size, fun k hk _ => g.block k hk⟩
theorem sr_set {W w0 : World} {r R : Nat} (h : (∀ b o, b < W.heap.size → b ≠ r → b ≠ R → w0.cell? ⟨b, o, none⟩ = W.cell? ⟨b, o, none⟩) ∧ W.heap.size ≤ w0.heap.size) (j : Nat) (u : Value) :
    (∀ b o, b < W.heap.size → b ≠ r → b ≠ R → (w0.setCell ⟨R, j, none⟩ u).cell? ⟨b, o, none⟩ = W.cell? ⟨b, o, none⟩) ∧ W.heap.size ≤ (w0.setCell ⟨R, j, none⟩ u).heap.size :=
  ⟨fun b o hb hr hR => (World.cell?_of_block (a := ⟨b, o, none⟩) ((grownBy_setCell w0 R j u).block b (by have := h.2; omega) (fun e => hR (Option.some.inj e)))).trans (h.1 b o hb hr hR), Nat.le_trans h.2 (grownBy_setCell w0 R j u).size⟩

set_option maxRecDepth 100000 in
set_option maxHeartbeats 2000000 in
theorem l20Set_any (r B N : Nat) (n : Int) (w : World) (h : Rdr w B r N) (hN : N ≤ 900000) (hn : n ≤ 1000) :
    Calls Try.prog 48 #[.pointer (some ⟨r, 0, none⟩), .int .i64 n] w (DrawGL w B r (N + 104)) := by
  obtain ⟨hBr, hrw⟩ := h.lt
  have b1 := Blk.new w #[.slice none 0 0] 25
  have B1 := (Below.refl w.heap.size w).alloc (Nat.le_refl _) (.cells #[.slice none 0 0] 25)
  have hg0 := grown_alloc w (.cells #[.slice none 0 0] 25) (some r)
  have hr0 := h.below B1 (Nat.le_refl _)
  have hsz : (w.alloc (.cells #[.slice none 0 0] 25)).heap.size = w.heap.size + 1 := by simp
  clear h
  go_enter Try.func48, Try.ntmps48
  go_wp2_with fail
  generalize (w.alloc (.cells #[.slice none 0 0] 25)) = W at *
  refine (l20Graph_any r B N n W hr0 (by omega) hn).mono fun e w1 hp => ?_
  obtain ⟨ao, m, c, ys, rfl, hl, hmc, hm, ho, hg1, hr1⟩ := hp
  have HL := hid hl
  have b1 := b1.kept hg1 (fun e => by have := Option.some.inj e; omega)
  have hg1 := grownBy_trans hg0 hg1
  rw [hsz] at ho
  have hlt1 := b1.lt
  clear hr0 hg0 B1 hl
  have bb := Blk.new w1 #[.slice ao m c] 25
  have ba := (Below.refl w1.heap.size w1).alloc (Nat.le_refl _) (.cells #[.slice ao m c] 25)
  have ho := ho.alloc (.cells #[.slice ao m c] 25)
  have b1 := b1.alloc (.cells #[.slice ao m c] 25)
  have hg1 := grown_new hg1 (grown_alloc w1 (.cells #[.slice ao m c] 25) none) (fun g e => by cases e)
  have hr1 := hr1.below ba (Nat.le_refl _)
  go_upto_region 2 with fail
  generalize (w1.alloc (.cells #[.slice ao m c] 25)) = w2 at *
  generalize w1.heap.size = gb at *
  clear ba hsz
  have e0 := bb.at 0 rfl
  go_cut [7] (fun v wx => wx = w2 ∧ ∃ q : Nat, v = .int .i64 q ∧ q ≤ 9)
  case first =>
    by_cases h9 : 9 < m
    · have hd9 : (9 : Int) < m := by omega
      go_wp2
      go_meet
      exact ⟨rfl, 9, rfl, Nat.le_refl _⟩
    · have hd9 : ¬ ((9 : Int) < m) := by omega
      go_wp2
      go_meet
      exact ⟨rfl, m, rfl, by omega⟩
  case rest =>
    obtain ⟨rfl, q, rfl, hq⟩ := hcut
    have hp : wrap64 (2 ^ q) = ((2 ^ q : Nat) : Int) := wrap_pow (by omega)
    have hp2 : IntKind.i64.wrap ((2 : Int) ^ q) = ((2 ^ q : Nat) : Int) := wrap_powk (by omega)
    have hp1 : 1 ≤ 2 ^ q := Nat.one_le_two_pow
    generalize 2 ^ q = P at *
    have hP0 : ¬ (P = 0) := by omega
    have hP1 : ¬ ((P : Int) = 0) := by omega
    have hP2 : ((P : Int) == 0) = false := by simp; omega
    have hgb := bb.lt
    have hwr := b1.lt
    go_upto_region 3 with fail
    have hne1 : gb ≠ r := by omega
    have hne2 : gb ≠ w.heap.size := by omega
    have hneR : some w.heap.size ≠ some r := fun e => by have := Option.some.inj e; omega
    have hN0 : N + 100 ≤ 1099511627776 := by omega
    have hN1 : N + 101 ≤ 1099511627776 := by omega
    have hN2 : N + 102 ≤ 1099511627776 := by omega
    have hN3 : N + 103 ≤ 1099511627776 := by omega
    have hr1d : Rdr wc.drew B r (N + 100) := hr1
    have b1d : Blk wc.drew w.heap.size #[.slice none 0 0] 25 := b1
    go_region_held3 (fun w' => (∀ b o, b < wc.heap.size → b ≠ r → b ≠ w.heap.size → w'.cell? ⟨b, o, none⟩ = wc.cell? ⟨b, o, none⟩) ∧ wc.heap.size ≤ w'.heap.size)
      (first | with_reducible exact sr_drew _ _ _ | with_reducible assumption | with_reducible exact sr_pick ‹_› hg5 | with_reducible exact sr_pick ‹_› hg6 | with_reducible exact sr_pick ‹_› hg7 | with_reducible exact sr_pick ‹_› hg8 | with_reducible exact sr_set ‹_› _ _)
      (first | (go_at_call 49; (with_reducible refine (pick_rdr r 256 B (N + 100) wc.drew hr1d hN0).mono fun e w5 hp => ?_); obtain ⟨q5, rfl, x0, x1, _, _, hg5, hr5⟩ := hp; have x2 := x1 (by omega); clear x1)
             | (go_at_call 49; (with_reducible refine (pick_rdr r 2 B (N + 101) w5 hr5 hN1).mono fun e w6 hp => ?_); obtain ⟨q6, rfl, y0, y1, _, _, hg6, hr6⟩ := hp; have y2 := y1 (by omega); clear y1)
             | (go_at_call 49; (with_reducible refine (pick_rdr r 40 B (N + 102) w6 hr6 hN2).mono fun e w7 hp => ?_); obtain ⟨q7, rfl, z0, z1, _, _, hg7, hr7⟩ := hp; have z2 := z1 (by omega); clear z1)
             | (go_at_call 49; (with_reducible refine (pick_rdr r 40 B (N + 103) w7 hr7 hN3).mono fun e w8 hp => ?_); obtain ⟨q8, rfl, u0, u1, _, _, hg8, hr8⟩ := hp; have u2 := u1 (by omega); clear u1; have b8 := (((b1d.kept hg5 hneR).kept hg6 hneR).kept hg7 hneR).kept hg8 hneR; have f8 := b8.free 0; have g8 := b8.at 0 rfl))
    all_goals rename_i hH
    all_goals
      have hgd : wc.grownBy wc.drew (some r) := ⟨rfl, rfl, rfl, Nat.le_refl _, fun _ _ _ => rfl⟩
      have hgx := grownBy_trans (grownBy_trans (grownBy_trans (grownBy_trans hgd hg5) hg6) hg7) hg8
      have hfin := fun s => DrawGL.mk (M := N + 104) s (ho.kept hgx (ho.ne_of_lt (by omega))) HL.out hmc hm (grownBy_trans hg1 hgx) hr8 (by omega) hrw hBr
      clear hH hr1 hr1d b1 b1d hg5 hg6 hg7 hg8 hr5 hr6 hr7 hr8 b8 bb ho hg1 hgx hgd e0
      go_wp2
      exact bodyPost_ret (v := .tuple #[.agg #[.slice ao m c], .int .i64 _]) (by simp [results, Try.results48, go_sem, g8]; rfl) rfl (hfin _)

set_option maxRecDepth 100000 in
set_option maxHeartbeats 2000000 in
theorem l20Lit_any (r B N : Nat) (n : Int) (w : World) (h : Rdr w B r N) (hN : N ≤ 800000) (hn : n ≤ 1000) :
    Calls Try.prog 31 #[.pointer (some ⟨r, 0, none⟩), .int .i64 n] w (DrawGL w B r (N + 110)) := by
  obtain ⟨hBr, hrw⟩ := h.lt
  have b1 := Blk.new w #[.slice none 0 0] 25
  have B1 := (Below.refl w.heap.size w).alloc (Nat.le_refl _) (.cells #[.slice none 0 0] 25)
  have hg0 := grown_alloc w (.cells #[.slice none 0 0] 25) (some r)
  have hr0 := h.below B1 (Nat.le_refl _)
  have hsz : (w.alloc (.cells #[.slice none 0 0] 25)).heap.size = w.heap.size + 1 := by simp
  clear h
  go_enter Try.func31, Try.ntmps31
  go_wp2_with fail
  generalize (w.alloc (.cells #[.slice none 0 0] 25)) = W at *
  refine (l20Set_any r B N n W hr0 (by omega) hn).mono fun e w1 hp => ?_
  obtain ⟨ao, m, c, ys, s, rfl, hl, hmc, hm, ho, hg1, hr1⟩ := hp
  have HL := hid hl
  have b1 := b1.kept hg1 (fun e => by have := Option.some.inj e; omega)
  have hg1 := grownBy_trans hg0 hg1
  rw [hsz] at ho
  have hlt1 := b1.lt
  clear hr0 hg0 B1 hl
  have bb := Blk.new w1 #[.slice ao m c] 25
  have ba := (Below.refl w1.heap.size w1).alloc (Nat.le_refl _) (.cells #[.slice ao m c] 25)
  have ho := ho.alloc (.cells #[.slice ao m c] 25)
  have b1 := b1.alloc (.cells #[.slice ao m c] 25)
  have hg1 := grown_new hg1 (grown_alloc w1 (.cells #[.slice ao m c] 25) none) (fun g e => by cases e)
  have hr1 := hr1.below ba (Nat.le_refl _)
  go_wp2_with fail
  generalize (w1.alloc (.cells #[.slice ao m c] 25)) = w2 at *
  generalize w1.heap.size = gb at *
  clear ba hsz
  refine (specGraphValid_any ao ys m c w2 HL.out (by omega) ho.ints).mono fun e w3 h => ?_
  cases hgv : grB ys with
  | false =>
    rw [hgv] at h
    obtain ⟨rfl, b⟩ := h
    have ho := ho.below b (Nat.le_refl _)
    have b1 := b1.below b (Nat.le_refl _)
    have bb := bb.below b (Nat.le_refl _)
    have hr1 := hr1.below b (Nat.le_refl _)
    have hg1 := grown_new hg1 ⟨b.os, b.tape, b.output, b.size, fun k hk _ => b.block k hk⟩ (row := none) (fun g e => by cases e)
    have hfin := DrawGL.mk (M := N + 110) s ho HL.out hmc hm hg1 hr1 (by omega) hrw hBr
    have e0 := bb.at 0 rfl
    have f1 := b1.free 0
    have g1 := b1.at 0 rfl
    clear b ho b1 bb hr1 hg1 hgv
    go_wp2
    exact bodyPost_ret (v := .tuple #[.agg #[.slice ao m c], .int .i64 s]) (by simp [results, Try.results31, go_sem, g1]) rfl hfin
  | true =>
    rw [hgv] at h
    obtain ⟨rfl, b⟩ := h
    have hok := hid (grB_iff.1 hgv)
    have hm9 := hok.out.max
    rw [HL.out] at hm9
    have ho := ho.below b (Nat.le_refl _)
    have b1 := b1.below b (Nat.le_refl _)
    have bb := bb.below b (Nat.le_refl _)
    have hr1 := hr1.below b (Nat.le_refl _)
    have hg1 := grown_new hg1 ⟨b.os, b.tape, b.output, b.size, fun k hk _ => b.block k hk⟩ (row := none) (fun g e => by cases e)
    clear b hgv
    go_wp2_with fail
    refine (pick_rdr r 3 B (N + 104) w3 hr1 (by omega)).mono fun e w4 hp => ?_
    obtain ⟨v, rfl, _, _, _, _, hg4, hr4⟩ := hp
    have ho := ho.kept hg4 (ho.ne_of_lt (by omega))
    have b1 := b1.kept hg4 (fun e => by have := Option.some.inj e; omega)
    have bb := bb.kept hg4 (fun e => by have := Option.some.inj e; omega)
    have hg1 := grownBy_trans hg1 hg4
    clear hr1 hg4
    have e0 := bb.at 0 rfl
    by_cases hv : v = 0
    · subst hv
      have hp : wrap64 (2 ^ m) = ((2 ^ m : Nat) : Int) := wrap_pow (by omega)
      have hp2 : IntKind.i64.wrap ((2 : Int) ^ m) = ((2 ^ m : Nat) : Int) := wrap_powk (by omega)
      have hp1 : 1 ≤ 2 ^ m := Nat.one_le_two_pow
      have h512 := pow9 hm9
      generalize 2 ^ m = P at *
      have hP0 : ¬ (P = 0) := by omega
      have hP1 : ¬ ((P : Int) = 0) := by omega
      have hP2 : ((P : Int) == 0) = false := by simp; omega
      have hPd : Hid (∀ k : Nat, ∃ d : Nat, d < 2 ^ 62 ∧ (k : Int).tmod P = (d : Int) ∧ (k : Int) % P = (d : Int)) := fun k => ⟨k % P, Nat.lt_of_lt_of_le (Nat.mod_lt k (by omega)) (by omega), by rw [Int.tmod_eq_emod_of_nonneg (by omega)]; omega, by omega⟩
      have hgb := bb.lt
      have hwr := b1.lt
      have hne1 : gb ≠ r := by omega
      have hne2 : gb ≠ w.heap.size := by omega
      have hneR : some w.heap.size ≠ some r := fun e => by have := Option.some.inj e; omega
      have hN0 : N + 105 ≤ 1099511627776 := by omega
      have hr1d : Rdr w4.drew B r (N + 105) := hr4
      have b1d : Blk w4.drew w.heap.size #[.slice none 0 0] 25 := b1
      have hod : Own w4.drew (w.heap.size + 1) (.slice ao m c) ys := ho
      have hoR := hid (ho.ne_of_lt (g := r) (by omega))
      go_upto_region 3 with fail
      go_region_held3 (fun w' => (∀ b o, b < w4.heap.size → b ≠ r → b ≠ w.heap.size → w'.cell? ⟨b, o, none⟩ = w4.cell? ⟨b, o, none⟩) ∧ w4.heap.size ≤ w'.heap.size)
        (first | with_reducible exact sr_drew _ _ _ | with_reducible assumption | with_reducible exact sr_pick ‹_› hg5 | with_reducible exact sr_call ‹_› b6 | with_reducible exact sr_set ‹_› _ _)
        (first | (go_at_call 49; (with_reducible refine (pick_rdr r 256 B (N + 105) w4.drew hr1d hN0).mono fun e w5 hp => ?_); obtain ⟨q5, rfl, x0, x1, _, _, hg5, hr5⟩ := hp; obtain ⟨k5, rfl⟩ : ∃ k : Nat, q5 = k := Int.eq_ofNat_of_zero_le x0; obtain ⟨d5, hd5, ht5, ht6⟩ := hPd.out k5; have ho5 := hod.kept hg5 hoR.out; clear x1)
               | (go_at_call 40; (with_reducible refine (l2Press_any ao ys m c d5 w5 HL.out hok.out hd5 ho5.ints).mono fun e w6 h => ?_); obtain ⟨rfl, b6⟩ := h; have b8 := (b1d.kept hg5 hneR).below b6 (Nat.le_refl _); have f8 := b8.free 0; have g8 := b8.at 0 rfl))
      all_goals rename_i hH
      all_goals
        have hgd : w4.grownBy w4.drew (some r) := ⟨rfl, rfl, rfl, Nat.le_refl _, fun _ _ _ => rfl⟩
        have hgx := grownBy_trans (grownBy_trans hgd hg5) ⟨b6.os, b6.tape, b6.output, b6.size, fun k hk _ => b6.block k hk⟩
        have hfin := fun s => DrawGL.mk (M := N + 110) s (ho5.below b6 (Nat.le_refl _)) HL.out hmc hm (grownBy_trans hg1 hgx) (hr5.below b6 (Nat.le_refl _)) (by omega) hrw hBr
        clear hH hr1d b1 b1d hg5 hr5 b8 bb ho hod hg1 hgx hgd e0 b6 ho5
        go_wp2
        exact bodyPost_ret (v := .tuple #[.agg #[.slice ao m c], .int .i64 _]) (by simp [results, Try.results31, go_sem, g8]; rfl) rfl (hfin _)
    · have hvb : (v == 0) = false := by simpa using hv
      have hfin := DrawGL.mk (M := N + 110) s ho HL.out hmc hm hg1 hr4 (by omega) hrw hBr
      have f1 := b1.free 0
      have g1 := b1.at 0 rfl
      clear ho b1 bb hg1 hr4
      go_wp2
      exact bodyPost_ret (v := .tuple #[.agg #[.slice ao m c], .int .i64 s]) (by simp [results, Try.results31, go_sem, g1]) rfl hfin

end Go.Proofs.Ytgmjffplinpobaa
