/- DrawTileMove. -/
import Derived.Test.YtncebcgiljkbnaaDd
namespace Go.Proofs.Ytncebcgiljkbnaa
open Go Go.RowKit

/-- A board and a number that a law has drawn. -/
def DrawBT (w : World) (e : Ending) (w' : World) : Prop :=
  ∃ wide ao m c ys t, e = .returned (.tuple #[.agg #[.int .i64 wide, .slice ao m c], .int .i64 t]) ∧ ys.length = m ∧ m ≤ c ∧ m ≤ 9 ∧ (0 ≤ wide ∧ wide ≤ 10) ∧ Own w' w.heap.size (.slice ao m c) ys ∧ Below w.heap.size w w'

theorem sh_drew (W : World) (r s : Nat) : ∀ b o, b < W.heap.size → b ≠ r → b ≠ s → W.drew.cell? ⟨b, o, none⟩ = W.cell? ⟨b, o, none⟩ := fun _ _ _ _ _ => rfl
theorem sh_pick {W w0 w1 : World} {r s : Nat} (h : ∀ b o, b < W.heap.size → b ≠ r → b ≠ s → w0.cell? ⟨b, o, none⟩ = W.cell? ⟨b, o, none⟩) (hs : W.heap.size ≤ w0.heap.size) (g : w0.grownBy w1 (some r)) : ∀ b o, b < W.heap.size → b ≠ r → b ≠ s → w1.cell? ⟨b, o, none⟩ = W.cell? ⟨b, o, none⟩ :=
  fun b o hb hr hs' => (World.cell?_of_block (a := ⟨b, o, none⟩) (g.block b (by omega) (fun e => hr (Option.some.inj e)))).trans (h b o hb hr hs')
theorem sh_set {W w0 : World} {r s : Nat} (h : ∀ b o, b < W.heap.size → b ≠ r → b ≠ s → w0.cell? ⟨b, o, none⟩ = W.cell? ⟨b, o, none⟩) (j : Nat) (u : Value) : ∀ b o, b < W.heap.size → b ≠ r → b ≠ s → (w0.setCell ⟨s, j, none⟩ u).cell? ⟨b, o, none⟩ = W.cell? ⟨b, o, none⟩ :=
  fun b o hb hr hs => (by simp only [World.cell?]; rw [Below.heap_setCell _ _ _ _ hs] : _ = w0.cell? ⟨b, o, none⟩).trans (h b o hb hr hs)

theorem DrawBT.of {w w1 w2 : World} {r m c : Nat} {wide t : Int} {ao : Option Addr} {ys : List Int} (hl : ys.length = m) (hmc : m ≤ c) (hm : m ≤ 9) (hw : 0 ≤ wide ∧ wide ≤ 10) (ho : Own w1 (w.heap.size + 1) (.slice ao m c) ys) (hB : Below w.heap.size w w1) (hg : w1.grownBy w2 (some r)) (hrr : w.heap.size + 1 ≤ r) (hob : (Value.slice ao m c).ownBlock ≠ some r) :
    DrawBT w (.returned (.tuple #[.agg #[.int .i64 wide, .slice ao m c], .int .i64 t])) ((w2.setCell ⟨w.heap.size, 0, none⟩ (.int .i64 wide)).setCell ⟨w.heap.size, 1, none⟩ (.slice ao m c)) := by
  have h1 : Below w.heap.size w w2 := below_grown hB hg (by omega)
  have ho2 := ho.kept hg (.inr hob)
  refine ⟨wide, ao, m, c, ys, t, rfl, hl, hmc, hm, hw, ?_, ?_⟩
  · exact ((ho2.setOther w.heap.size 0 _ (ho2.ne_of_lt (by omega))).setOther w.heap.size 1 _ (ho2.ne_of_lt (by omega))).lower (by omega)
  · exact (h1.setCell (p := ⟨w.heap.size, 0, none⟩) (Nat.le_refl _) _).setCell (p := ⟨w.heap.size, 1, none⟩) (Nat.le_refl _) _

set_option maxRecDepth 100000 in
set_option maxHeartbeats 2000000 in
theorem drawTileMove_any (ao : Option Addr) (bs : List Int) (l c : Nat) (w : World) (hn : bs.length = l) (hlc : l ≤ c) (hcm : c ≤ 9223372036854775807) (hx : BytesAt w ao bs) (h8 : B8 bs) :
    Calls Try.prog 18 #[.slice ao l c] w (DrawBT w) := by
  have bk := Blk.new w #[.int .i64 0, .slice none 0 0] 26
  have hx1 := hx.alloc (.cells #[.int .i64 0, .slice none 0 0] 26)
  have bel := (Below.refl w.heap.size w).alloc (Nat.le_refl _) (.cells #[.int .i64 0, .slice none 0 0] 26)
  have hsz : (w.alloc (.cells #[.int .i64 0, .slice none 0 0] 26)).heap.size = w.heap.size + 1 := by simp
  clear hx
  go_enter Try.func18, Try.ntmps18
  go_wp2_with fail
  generalize (w.alloc (.cells #[.int .i64 0, .slice none 0 0] 26)) = W at *
  refine (l20Open_any ao bs l c W hn hlc hcm hx1 h8).mono fun e w1 h => ?_
  obtain ⟨r, rfl, hr, B⟩ := h
  clear hx1 h8 hn
  rw [hsz] at hr B
  have bk1 := bk.below B (by omega)
  have bel1 := bel.trans (B.mono (by omega))
  have hsz1 := B.size
  rw [hsz] at hsz1
  go_wp2_with fail
  refine (l20Board_any r (w.heap.size + 1) 0 12 w1 hr (by omega) (by omega)).mono fun e w2 h => ?_
  obtain ⟨wide, ao', m, cc, ys, rfl, hl, hmc, hm, hw, ho, hg, hr2⟩ := h
  have hrl := hr2.lt
  have hrl1 := hr.lt
  have bk2 := bk1.kept hg (fun e => by have := Option.some.inj e; omega)
  have bel2 := below_grown bel1 hg (by omega)
  have hob := ho.base'
  have hnr : (Value.slice ao' m cc).ownBlock ≠ some r := by
    rcases hob with e | e
    · rw [e]; simp
    · intro e2; have := (e r e2).1; omega
  have ho2 := ho.lower hsz1
  have HL := hid hl
  have bb := Blk.new w2 #[.int .i64 wide, .slice ao' m cc] 26
  have bk3 := bk2.alloc (.cells #[.int .i64 wide, .slice ao' m cc] 26)
  have bel3 := bel2.alloc bel2.size (.cells #[.int .i64 wide, .slice ao' m cc] 26)
  have ho3 := ho2.alloc (.cells #[.int .i64 wide, .slice ao' m cc] 26)
  have hr3 := hr2.below ((Below.refl w2.heap.size w2).alloc (Nat.le_refl _) (.cells #[.int .i64 wide, .slice ao' m cc] 26)) (Nat.le_refl _)
  have hs2 : w.heap.size < w2.heap.size := bk2.lt
  clear hr hr2 ho hg bk bk1 bk2 bel bel1 bel2 B hl hob ho2 hrl1
  go_wp2_with fail
  generalize (w2.alloc (.cells #[.int .i64 wide, .slice ao' m cc] 26)) = W3 at *
  generalize w2.heap.size = gb at *
  obtain ⟨N, hN⟩ : ∃ N, (mayL wide ys).length = N := ⟨_, rfl⟩
  have hN9 := length_mayL wide ys
  rw [hN] at hN9
  have HN := hid hN
  clear hN
  refine (specTilesMay_any wide ao' ys m cc W3 HL.out (by omega) hmc ho3.ints).mono fun e w4 h => ?_
  obtain ⟨am, cm, rfl, om, b⟩ := h.to HN.out
  clear h
  have bb4 := bb.below b (Nat.le_refl _)
  have bk4 := bk3.below b (Nat.le_refl _)
  have bel4 := bel3.trans (b.mono bel3.size)
  have ho4 := ho3.below b (Nat.le_refl _)
  have hr4 := hr3.below b (Nat.le_refl _)
  have hrs := hr3.lt.2
  have hmb := om.base'
  have hmr : am ≠ some ⟨r, 0, none⟩ := fun e => by
    subst e
    rcases hmb with e | e
    · simp [Value.ownBlock] at e
    · have := (e r rfl).1; omega
  clear b bb bk3 bel3 ho3 hr3 hmb
  have hend : ∀ (w6 : World) (t : Int) (_hg6 : w4.grownBy w6 (some r)), DrawBT w (.returned (.tuple #[.agg #[.int .i64 wide, .slice ao' m cc], .int .i64 t])) ((w6.setCell ⟨w.heap.size, 0, none⟩ (.int .i64 wide)).setCell ⟨w.heap.size, 1, none⟩ (.slice ao' m cc)) :=
    fun w6 t hg6 => DrawBT.of HL.out hmc hm hw ho4 bel4 hg6 hrl.1 hnr
  have hEND := hid hend
  clear hend
  by_cases hN0 : N = 0
  · subst hN0
    clear om
    have e0 := bb4.at 0 rfl
    have e1 := bb4.at 1 rfl
    have lt1 := bb4.lt
    have lt2 := bk4.lt
    have hne1 : gb ≠ r := by omega
    have hne2 : gb ≠ w.heap.size := by omega
    go_upto_region 6 with fail
    go_region_held3 (fun w' => ∀ b o, b < w4.heap.size → b ≠ r → b ≠ w.heap.size → w'.cell? ⟨b, o, none⟩ = w4.cell? ⟨b, o, none⟩)
      (first | with_reducible exact sh_drew _ _ _ | with_reducible exact sh_pick (sh_drew _ _ _) (Nat.le_refl _) hg9 | with_reducible exact sh_set (sh_set ‹_› _ _) _ _)
      (first | (go_at_call 37; refine (pick_rdr r 11 (w.heap.size + 1) 300 w4.drew (hr4.more (by omega)) (by omega)).mono fun e w9 hp => ?_; obtain ⟨q, rfl, q0, q1, _, q2, hg9, hr9⟩ := hp; have hb9 : Blk w9 w.heap.size #[.int .i64 0, .slice none 0 0] 26 := Blk.kept (w := w4.drew) bk4 hg9 (fun e => by have := Option.some.inj e; omega); have f0 := hb9.free 0; have f1 := hb9.free 1; have g0 := hb9.at 0 rfl; have g1 := hb9.at 1 rfl; have q3 := q1 (by omega)))
    rename_i hH
    clear hH e0 e1
    have hwq : IntKind.i64.wrap (q - 1) = q - 1 := IntWalk.i64_in _ (by omega)
    go_wp2
    exact bodyPost_ret (v := .tuple #[.agg #[.int .i64 wide, .slice ao' m cc], .int .i64 (q - 1)]) (by simp [results, Try.results18, go_sem, g0, g1, hwq]) rfl (hEND.out w9 (q - 1) (⟨hg9.os, hg9.tape, hg9.output, hg9.size, hg9.block⟩))
  · have hd : decide ((0 : Int) < N) = true := decide_eq_true (by omega)
    obtain ⟨gm, rfl⟩ := om.addr (by rw [HN.out]; omega)
    have hgmr : gm ≠ r := fun e => hmr (by rw [e])
    have e0 := bb4.at 0 rfl
    have e1 := bb4.at 1 rfl
    go_wp2_with fail
    refine (pick_rdr r 4 (w.heap.size + 1) _ w4 hr4 (by omega)).mono fun e w5 hp => ?_
    obtain ⟨v, rfl, v0, v1, _, v2, hg5, hr5⟩ := hp
    have lt0 := bb4.lt
    have bb5 := bb4.kept hg5 (fun e => by have := Option.some.inj e; omega)
    have bk5 := bk4.kept hg5 (fun e => by have := Option.some.inj e; omega)
    have om5 := om.kept hg5 (.inr fun e => hgmr (Option.some.inj e))
    have hmlt := om5.base.2
    have hmlo := om5.base.1
    have hws : w.heap.size < W3.heap.size := by have := bel4.size; omega
    have hgms : gm ≠ w.heap.size := by omega
    clear bb4 bk4 om hr4 e0 e1
    by_cases hv : 0 < v
    · have hd2 : decide (0 < v) = true := decide_eq_true hv
      have e0 := bb5.at 0 rfl
      have e1 := bb5.at 1 rfl
      have lt1 := bb5.lt
      have lt2 := bk5.lt
      have hne1 : gb ≠ r := by omega
      have hne2 : gb ≠ w.heap.size := by omega
      go_upto_region 5 with fail
      go_region_held3 (fun w' => ∀ b o, b < w5.heap.size → b ≠ r → b ≠ w.heap.size → w'.cell? ⟨b, o, none⟩ = w5.cell? ⟨b, o, none⟩)
        (first | with_reducible exact sh_drew _ _ _ | with_reducible exact sh_pick (sh_drew _ _ _) (Nat.le_refl _) hg9 | with_reducible exact sh_set (sh_set ‹_› _ _) _ _)
        (first | (go_at_call 37; refine (pick_rdr r (N : Int) (w.heap.size + 1) 300 w5.drew (hr5.more (by omega)) (by omega)).mono fun e w9 hp => ?_; obtain ⟨q, rfl, q0, q1, _, q2, hg9, hr9⟩ := hp; have hb9 : Blk w9 w.heap.size #[.int .i64 0, .slice none 0 0] 26 := Blk.kept (w := w5.drew) bk5 hg9 (fun e => by have := Option.some.inj e; omega); have f0 := hb9.free 0; have f1 := hb9.free 1; have g0 := hb9.at 0 rfl; have g1 := hb9.at 1 rfl; have q3 := q1 (by omega); obtain ⟨j, rfl⟩ : ∃ j : Nat, q = j := Int.eq_ofNat_of_zero_le q0; have hjm : j < N := (by omega); have hcj := om5.cell (j := j) (by rw [HN.out]; exact hjm)))
      rename_i hH
      clear hH e0 e1
      go_wp2
      exact bodyPost_ret (v := .tuple #[.agg #[.int .i64 wide, .slice ao' m cc], .int .i64 (nth (mayL wide ys) j)]) (by simp [results, Try.results18, go_sem, g0, g1]) rfl (hEND.out w9 (nth (mayL wide ys) j) (grownBy_trans hg5 ⟨hg9.os, hg9.tape, hg9.output, hg9.size, hg9.block⟩))
    · have hd2 : decide (0 < v) = false := decide_eq_false hv
      have e0 := bb5.at 0 rfl
      have e1 := bb5.at 1 rfl
      have lt1 := bb5.lt
      have lt2 := bk5.lt
      have hne1 : gb ≠ r := by omega
      have hne2 : gb ≠ w.heap.size := by omega
      go_upto_region 6 with fail
      go_region_held3 (fun w' => ∀ b o, b < w5.heap.size → b ≠ r → b ≠ w.heap.size → w'.cell? ⟨b, o, none⟩ = w5.cell? ⟨b, o, none⟩)
        (first | with_reducible exact sh_drew _ _ _ | with_reducible exact sh_pick (sh_drew _ _ _) (Nat.le_refl _) hg9 | with_reducible exact sh_set (sh_set ‹_› _ _) _ _)
        (first | (go_at_call 37; refine (pick_rdr r 11 (w.heap.size + 1) 300 w5.drew (hr5.more (by omega)) (by omega)).mono fun e w9 hp => ?_; obtain ⟨q, rfl, q0, q1, _, q2, hg9, hr9⟩ := hp; have hb9 : Blk w9 w.heap.size #[.int .i64 0, .slice none 0 0] 26 := Blk.kept (w := w5.drew) bk5 hg9 (fun e => by have := Option.some.inj e; omega); have f0 := hb9.free 0; have f1 := hb9.free 1; have g0 := hb9.at 0 rfl; have g1 := hb9.at 1 rfl; have q3 := q1 (by omega)))
      rename_i hH
      clear hH e0 e1
      have hwq : IntKind.i64.wrap (q - 1) = q - 1 := IntWalk.i64_in _ (by omega)
      go_wp2
      exact bodyPost_ret (v := .tuple #[.agg #[.int .i64 wide, .slice ao' m cc], .int .i64 (q - 1)]) (by simp [results, Try.results18, go_sem, g0, g1, hwq]) rfl (hEND.out w9 (q - 1) (grownBy_trans hg5 ⟨hg9.os, hg9.tape, hg9.output, hg9.size, hg9.block⟩))

end Go.Proofs.Ytncebcgiljkbnaa
