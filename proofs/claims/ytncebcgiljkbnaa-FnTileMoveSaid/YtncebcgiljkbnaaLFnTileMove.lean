/- The walk of the law FnTileMove. -/
import Derived.Test.YtncebcgiljkbnaaBv
import Derived.Test.YtncebcgiljkbnaaTc
import Derived.Test.YtncebcgiljkbnaaTd
import Derived.Test.YtncebcgiljkbnaaTq
import Derived.Test.YtncebcgiljkbnaaSb
import Derived.Test.YtncebcgiljkbnaaAl
import Derived.Test.YtncebcgiljkbnaaDm
import Derived.Test.YtncebcgiljkbnaaCb
namespace Go.Proofs.Ytncebcgiljkbnaa
open Go Go.RowKit

theorem own_sb {W w0 : World} {B : Nat} {v : Value} {ys : List Int} (h : (∀ b o, b < W.heap.size → w0.cell? ⟨b, o, none⟩ = W.cell? ⟨b, o, none⟩) ∧ Below W.heap.size W w0) (ho : Own W B v ys) : Own w0 B v ys := ho.below h.2 (Nat.le_refl _)

set_option maxRecDepth 100000 in
set_option maxHeartbeats 1000000 in
theorem fnTileMove_walk (w : World) (ao : Option Addr) (bs : List Int) (l c : Nat) (hn : bs.length = l) (hlc : l ≤ c) (hcm : c ≤ 9223372036854775807) (hx : BytesAt w ao bs) (h8 : B8 bs) :
    Calls Try.prog 5 #[.slice ao l c] w fun e w' => e = .returned (.bool true) ∧ Below w.heap.size w w' := by
  by_cases hbig : 1048576 < l
  · have hd : decide ((1048576 : Int) < l) = true := decide_eq_true (by omega)
    clear hx hn h8
    go_enter Try.func5, Try.ntmps5
    go_wp2
    go_ret
    exact ⟨rfl, Below.refl _ _⟩
  have hd : decide ((1048576 : Int) < l) = false := decide_eq_false (by omega)
  go_enter Try.func5, Try.ntmps5
  go_wp2_with fail
  refine (drawTileMove_any ao bs l c w hn hlc hcm hx h8).mono fun e w1 h => ?_
  obtain ⟨wide, ao1, m, c1, ys, t, rfl, hl, hmc, hm9, hwd, o, B⟩ := h
  clear hx h8 hn hd hbig
  have HL := hid hl
  clear hl
  have bk := Blk.new w1 #[.int .i64 wide, .slice ao1 m c1] 26
  have o := o.alloc (.cells #[.int .i64 wide, .slice ao1 m c1] 26)
  have B := B.alloc B.size (.cells #[.int .i64 wide, .slice ao1 m c1] 26)
  go_wp2_with fail
  generalize (w1.alloc (.cells #[.int .i64 wide, .slice ao1 m c1] 26)) = W at *
  generalize w1.heap.size = gb at *
  obtain ⟨N, hN⟩ : ∃ N, (tmL wide ys t).length = N := ⟨_, rfl⟩
  have hNl := length_tmL wide ys t
  rw [hN] at hNl
  have HN := hid hN
  obtain ⟨X, hX⟩ : ∃ X, tmL wide ys t = X := ⟨_, rfl⟩
  obtain ⟨wx, hwx⟩ : ∃ wx, tmW wide ys = wx := ⟨_, rfl⟩
  obtain ⟨ok, hok⟩ : ∃ ok, canB wide ys t = ok := ⟨_, rfl⟩
  rw [hX] at HN
  have HX := hid hX
  have HWX := hid hwx
  have HOK := hid hok
  clear hX hwx hok hN
  refine (implTileMove_any wide ao1 ys m c1 t W HL.out (by omega) o.ints).mono fun e w2 h => ?_
  rw [HX.out, HWX.out, HOK.out] at h
  obtain ⟨ax, cx, rfl, hcx, ox, b⟩ := h.to HN.out
  clear h
  have o := o.below b (Nat.le_refl _)
  have bk := bk.below b (Nat.le_refl _)
  have B := B.trans (b.mono B.size)
  clear b
  have hgbl := bk.lt
  have bx := Blk.new w2 #[.int .i64 wx, .slice ax N cx] 26
  have o := o.alloc (.cells #[.int .i64 wx, .slice ax N cx] 26)
  have bk := bk.alloc (.cells #[.int .i64 wx, .slice ax N cx] 26)
  have ox := ox.alloc (.cells #[.int .i64 wx, .slice ax N cx] 26)
  have B := B.alloc B.size (.cells #[.int .i64 wx, .slice ax N cx] 26)
  have e0 := bk.at 0 rfl
  have e1 := bk.at 1 rfl
  go_wp2_with fail
  generalize (w2.alloc (.cells #[.int .i64 wx, .slice ax N cx] 26)) = W2 at *
  generalize w2.heap.size = gx at *
  refine (specTileMove_any wide ao1 ys m c1 t W2 HL.out (by omega) hmc o.ints).mono fun e w3 h => ?_
  rw [HX.out, HWX.out, HOK.out] at h
  obtain ⟨ay, cy, rfl, hcy, oy, b⟩ := h.to HN.out
  clear h
  clear e0 e1
  have o := o.below b (Nat.le_refl _)
  have bk := bk.below b (Nat.le_refl _)
  have ox := ox.below b (Nat.le_refl _)
  have bx := bx.below b (Nat.le_refl _)
  have B := B.trans (b.mono B.size)
  clear b
  have hgbl3 := bk.lt
  have hgxl3 := bx.lt
  have bY := Blk.new w3 #[.int .i64 wx, .slice ay N cy] 26
  have o := o.alloc (.cells #[.int .i64 wx, .slice ay N cy] 26)
  have bk := bk.alloc (.cells #[.int .i64 wx, .slice ay N cy] 26)
  have ox := ox.alloc (.cells #[.int .i64 wx, .slice ay N cy] 26)
  have bx := bx.alloc (.cells #[.int .i64 wx, .slice ay N cy] 26)
  have oy := oy.alloc (.cells #[.int .i64 wx, .slice ay N cy] 26)
  have B := B.alloc B.size (.cells #[.int .i64 wx, .slice ay N cy] 26)
  have d0 := bx.at 0 rfl
  have d1 := bx.at 1 rfl
  go_wp2_with fail
  generalize (w3.alloc (.cells #[.int .i64 wx, .slice ay N cy] 26)) = W3 at *
  generalize w3.heap.size = gy at *
  refine (sameBoard_self wx ax ay X N cx cy W3 HN.out (by omega) ox.ints oy.ints).mono fun e w4 h => ?_
  obtain ⟨rfl, b⟩ := h
  clear d0 d1
  have o := o.below b (Nat.le_refl _)
  have bk := bk.below b (Nat.le_refl _)
  have ox := ox.below b (Nat.le_refl _)
  have bx := bx.below b (Nat.le_refl _)
  have oy := oy.below b (Nat.le_refl _)
  have bY := bY.below b (Nat.le_refl _)
  have B := B.trans (b.mono B.size)
  clear b
  clear oy bY
  have hokk : (ok != ok) = false := by simp
  cases ok with
  | false =>
    have e0 := bk.at 0 rfl
    have e1 := bk.at 1 rfl
    have d0 := bx.at 0 rfl
    have d1 := bx.at 1 rfl
    cases hbo : boardB wide ys with
    | true =>
      have hbo' := boardB_iff.1 hbo
      obtain rfl : wx = wide := by rw [← HWX.out]; exact tmW_in hbo'
      have hXY : X = ys := by rw [← HX.out, tmL_in hbo', movedL_no HOK.out]
      subst hXY
      obtain rfl : N = m := by rw [← HN.out, ← HL.out]
      clear hbo hbo'
      go_wp2_with fail
      refine (sameBoard_self wx ax ao1 X N cx c1 w4 HN.out (by omega) ox.ints o.ints).mono fun e w5 h => ?_
      obtain ⟨rfl, b⟩ := h
      have B := B.trans (b.mono B.size)
      clear b e0 e1 d0 d1 o bk ox bx
      go_wp2_with fail
      refine (alive_any w5).mono fun e w6 h => ?_
      obtain ⟨rfl, b⟩ := h
      have B := B.trans (b.mono B.size)
      clear b
      go_wp2
      go_ret
      exact ⟨rfl, B⟩
    | false =>
      go_wp2_with fail
      refine (sameBoard_any wx wide ax ao1 X ys N m cx c1 w4 HN.out HL.out (by omega) ox.ints o.ints).mono fun e w5 h => ?_
      cases hsb : eqBd wx X wide ys with
      | true =>
        rw [hsb] at h
        obtain ⟨rfl, b⟩ := h
        have B := B.trans (b.mono B.size)
        clear b e0 e1 d0 d1 o bk ox bx
        go_wp2_with fail
        refine (alive_any w5).mono fun e w6 h => ?_
        obtain ⟨rfl, b⟩ := h
        have B := B.trans (b.mono B.size)
        clear b
        go_wp2
        go_ret
        exact ⟨rfl, B⟩
      | false =>
        rw [hsb] at h
        obtain ⟨rfl, b⟩ := h
        have bk := bk.below b (Nat.le_refl _)
        have o := o.below b (Nat.le_refl _)
        have B := B.trans (b.mono B.size)
        clear b e0 e1 d0 d1 ox bx
        have e0 := bk.at 0 rfl
        have e1 := bk.at 1 rfl
        go_wp2_with fail
        refine (implBoardValid_any wide ao1 ys m c1 w5 HL.out (by omega) o.ints).mono fun e w6 h => ?_
        rw [hbo] at h
        obtain ⟨rfl, b⟩ := h
        have B := B.trans (b.mono B.size)
        clear b e0 e1 o bk
        go_wp2_with fail
        refine (alive_any w6).mono fun e w7 h => ?_
        obtain ⟨rfl, b⟩ := h
        have B := B.trans (b.mono B.size)
        clear b
        go_wp2
        go_ret
        exact ⟨rfl, B⟩
  | true =>
    have hbo : BoardOk wide ys := Classical.byContradiction fun h => by have := canB_out (t := t) h; rw [HOK.out] at this; cases this
    obtain rfl : wx = wide := by rw [← HWX.out]; exact tmW_in hbo
    have hXY : X = movedL wx ys t := by rw [← HX.out, tmL_in hbo]
    obtain rfl : N = m := by rw [← HN.out, ← HL.out, hXY, length_movedL]
    have hboX : BoardOk wx X := by rw [hXY]; exact boardOk_moved hbo
    have hN2 : 2 ≤ N := by have := hbo.1; rw [HL.out] at this; exact this
    have hcb : Hid (canB wx X t = true) := by unfold Hid; rw [hXY]; exact can_back hbo HOK.out
    have hmb : Hid (movedL wx X t = ys) := by unfold Hid; rw [hXY]; exact moved_back hbo HOK.out
    have hodd : Hid (oddB wx X = !(oddB wx ys)) := by unfold Hid; rw [hXY]; exact moved_odd hbo HOK.out
    have hff : Hid ((freeFarI wx X + freeFarI wx ys) % 2 = 1) := by unfold Hid; rw [hXY]; exact moved_freeFar hbo HOK.out
    have htf := moved_tilesFar hbo HOK.out
    rw [← hXY] at htf
    have hfb := tilesFar_bounds hbo
    have hfx := tilesFar_bounds hboX
    have hrb := freeFarI_nonneg' hbo
    have hrx := freeFarI_nonneg' hboX
    have HBX := hid (boardB_iff.2 hboX)
    have HTW := hid (tmW_in hboX)
    have HTL := hid ((tmL_in (t := t) hboX).trans hmb.out)
    obtain ⟨F, hF⟩ : ∃ F, tilesFarI wx X = F := ⟨_, rfl⟩
    obtain ⟨E, hE⟩ : ∃ E, tilesFarI wx ys = E := ⟨_, rfl⟩
    obtain ⟨R, hR⟩ : ∃ R, freeFarI wx X = R := ⟨_, rfl⟩
    obtain ⟨S, hS⟩ : ∃ S, freeFarI wx ys = S := ⟨_, rfl⟩
    obtain ⟨ob, hob⟩ : ∃ ob, oddB wx ys = ob := ⟨_, rfl⟩
    rw [hF, hE] at htf
    rw [hF] at hfx
    rw [hE] at hfb
    rw [hR] at hrx
    rw [hS] at hrb
    rw [hR, hS] at hff
    rw [hob] at hodd
    have HF := hid hF
    have HE := hid hE
    have HR := hid hR
    have HS := hid hS
    have HOB := hid hob
    clear hF hE hR hS hob hbo hboX hXY hmb
    have d0 := bx.at 0 rfl
    have d1 := bx.at 1 rfl
    go_wp2_with fail
    refine (implTileMove_any wx ax X N cx t w4 HN.out (by omega) ox.ints).mono fun e w5 h => ?_
    rw [HTL.out, HTW.out, hcb.out] at h
    obtain ⟨az, cz, rfl, hcz, oz, b⟩ := h.to HL.out
    clear h
    clear d0 d1
    have o := o.below b (Nat.le_refl _)
    have bk := bk.below b (Nat.le_refl _)
    have ox := ox.below b (Nat.le_refl _)
    have bx := bx.below b (Nat.le_refl _)
    have B := B.trans (b.mono B.size)
    clear b
    have hgbl5 := bk.lt
    have hgxl5 := bx.lt
    have bz := Blk.new w5 #[.int .i64 wx, .slice az N cz] 26
    have o := o.alloc (.cells #[.int .i64 wx, .slice az N cz] 26)
    have bk := bk.alloc (.cells #[.int .i64 wx, .slice az N cz] 26)
    have ox := ox.alloc (.cells #[.int .i64 wx, .slice az N cz] 26)
    have bx := bx.alloc (.cells #[.int .i64 wx, .slice az N cz] 26)
    have oz := oz.alloc (.cells #[.int .i64 wx, .slice az N cz] 26)
    have B := B.alloc B.size (.cells #[.int .i64 wx, .slice az N cz] 26)
    go_upto_region 11 with fail
    generalize (w5.alloc (.cells #[.int .i64 wx, .slice az N cz] 26)) = W5 at *
    generalize w5.heap.size = gz at *
    have e0 := bk.at 0 rfl
    have e1 := bk.at 1 rfl
    have d0 := bx.at 0 rfl
    have d1 := bx.at 1 rfl
    have lb := bk.lt
    have lx := bx.lt
    have lz := bz.lt
    have hN17 : N ≤ 17592186044416 := by omega
    have hwFE : IntKind.i64.wrap (F - E) = F - E := IntWalk.i64_in _ (by omega)
    go_cut [11] (fun d wx' => d = .int .i64 (F - E) ∧ Below W5.heap.size W5 wx')
    case first =>
      go_region_held3 (fun w' => (∀ b o, b < W5.heap.size → w'.cell? ⟨b, o, none⟩ = W5.cell? ⟨b, o, none⟩) ∧ Below W5.heap.size W5 w')
        (first | with_reducible exact sb_drew _ | with_reducible exact sb_call ‹_› bv | with_reducible assumption)
        (first | (go_at_call 21; with_reducible refine (implTilesFar_any wx ax X N cx _ HN.out hN17 (own_sb ‹_› ox).ints).mono fun e wv h => ?_; rw [HF.out] at h; obtain ⟨rfl, bv⟩ := h)
               | (go_at_call 21; with_reducible refine (implTilesFar_any wx ao1 ys N c1 _ HL.out hN17 (own_sb ‹_› o).ints).mono fun e wv h => ?_; rw [HE.out] at h; obtain ⟨rfl, bv⟩ := h))
      all_goals rename_i hH
      all_goals
        have hb := hH.2
        clear hH
        go_wp2_with fail
        go_meet
        exact ⟨rfl, hb⟩
    case rest =>
      obtain ⟨rfl, b⟩ := hcut
      clear e0 e1 d0 d1
      have o := o.below b (Nat.le_refl _)
      have bk := bk.below b (Nat.le_refl _)
      have ox := ox.below b (Nat.le_refl _)
      have bx := bx.below b (Nat.le_refl _)
      have oz := oz.below b (Nat.le_refl _)
      have bz := bz.below b (Nat.le_refl _)
      have B := B.trans (b.mono B.size)
      clear b
      have e0 := bk.at 0 rfl
      have e1 := bk.at 1 rfl
      have d0 := bx.at 0 rfl
      have d1 := bx.at 1 rfl
      have q0 := bz.at 0 rfl
      have q1 := bz.at 1 rfl
      have lb := bk.lt
      have lx := bx.lt
      have lz := bz.lt
      have hbb : ((!ob) != ob) = true := by cases ob <;> rfl
      have hwRS : IntKind.i64.wrap (R + S) = R + S := IntWalk.i64_in _ (by omega)
      have htm : (R + S).tmod 2 = 1 := by rw [Int.tmod_eq_emod_of_nonneg (by omega)]; exact hff.out
      have hN63 : N ≤ 9223372036854775807 := by omega
      generalize F - E = d at *
      rcases htf with hd | hd
      · have hq1 : (d == 1) = true := by rw [hd]; rfl
        clear hd
        go_upto_region 12 with fail
        refine wp_region_noPanic ?_
        refine wp_region_held_drew (S := fun w' => (∀ b o, b < wc.heap.size → w'.cell? ⟨b, o, none⟩ = wc.cell? ⟨b, o, none⟩) ∧ Below wc.heap.size wc w') (by kernel_rfl) (sb_drew _) (fun hHeld => ?_)
        refine wpAnyH_take (i := 0) (v := ?vQ0) rfl (by kernel_rfl) (by kernel_rfl) (by kernel_rfl) (fun _ _ _ h => h) (Or.inl ⟨by rfl, ?hyQ0⟩) (by assumption) ?restQ0
        case hyQ0 => (intro w hSw; (try dsimp only at hSw); go_simp; try with_reducible rfl)
        try simp only [Act.put, List.getElem_toArray, List.getElem_cons_zero, List.setIfInBounds_toArray, List.set_cons_zero, List.set_cons_succ]
        refine wpAnyH_ready (rs := [1]) (by kernel_rfl) (by simp) ?rdQ1
        refine AllReadyH.cons (i := 1) rfl (fun K hK => ?stepQ1) ?moreQ1
        case moreQ1 => exact AllReadyH.nil
        go_simp
        refine (implBoardValid_any wx ax X N cx _ HN.out hN17 (own_sb ‹_› ox).ints).mono fun e wv h => ?_
        rw [HBX.out] at h
        obtain ⟨rfl, bv⟩ := h
        refine hK.out _ _ (sb_call ‹_› bv) (fun hHeld => ?heldQ1)
        clear hK K bv
        try simp only [Act.put, List.getElem_toArray, List.getElem_cons_succ, List.getElem_cons_zero, List.setIfInBounds_toArray, List.set_cons_zero, List.set_cons_succ]
        refine wpAnyH_take (i := 2) (v := ?vQ2) rfl (by kernel_rfl) (by kernel_rfl) (by kernel_rfl) (fun _ _ _ h => h) (Or.inl ⟨by rfl, ?hyQ2⟩) (by assumption) ?restQ2
        case hyQ2 => (intro w hSw; (try dsimp only at hSw); go_simp; try with_reducible rfl)
        try simp only [Act.put, List.getElem_toArray, List.getElem_cons_succ, List.getElem_cons_zero, List.setIfInBounds_toArray, List.set_cons_zero, List.set_cons_succ]
        refine wpAnyH_take (i := 3) (v := ?vQ3) rfl (by kernel_rfl) (by kernel_rfl) (by kernel_rfl) (fun _ _ _ h => h) (Or.inl ⟨by rfl, ?hyQ3⟩) (by assumption) ?restQ3
        case hyQ3 => (intro w hSw; (try dsimp only at hSw); go_simp; try with_reducible rfl)
        try simp only [Act.put, List.getElem_toArray, List.getElem_cons_succ, List.getElem_cons_zero, List.setIfInBounds_toArray, List.set_cons_zero, List.set_cons_succ]
        refine wpAnyH_take (i := 4) (v := ?vQ4) rfl (by kernel_rfl) (by kernel_rfl) (by kernel_rfl) (fun _ _ _ h => h) (Or.inl ⟨by rfl, ?hyQ4⟩) (by assumption) ?restQ4
        case hyQ4 => (intro w hSw; (try dsimp only at hSw); go_simp; try with_reducible rfl)
        try simp only [Act.put, List.getElem_toArray, List.getElem_cons_succ, List.getElem_cons_zero, List.setIfInBounds_toArray, List.set_cons_zero, List.set_cons_succ]
        refine wpAnyH_take (i := 5) (v := ?vQ5) rfl (by kernel_rfl) (by kernel_rfl) (by kernel_rfl) (fun _ _ _ h => h) (Or.inl ⟨by rfl, ?hyQ5⟩) (by assumption) ?restQ5
        case hyQ5 => (intro w hSw; (try dsimp only at hSw); go_simp; try with_reducible rfl)
        try simp only [Act.put, List.getElem_toArray, List.getElem_cons_succ, List.getElem_cons_zero, List.setIfInBounds_toArray, List.set_cons_zero, List.set_cons_succ]
        refine wpAnyH_take (i := 6) (v := ?vQ6) rfl (by kernel_rfl) (by kernel_rfl) (by kernel_rfl) (fun _ _ _ h => h) (Or.inl ⟨by rfl, ?hyQ6⟩) (by assumption) ?restQ6
        case hyQ6 => (intro w hSw; (try dsimp only at hSw); go_simp; try with_reducible rfl)
        try simp only [Act.put, List.getElem_toArray, List.getElem_cons_succ, List.getElem_cons_zero, List.setIfInBounds_toArray, List.set_cons_zero, List.set_cons_succ]
        refine wpAnyH_take (i := 7) (v := ?vQ7) rfl (by kernel_rfl) (by kernel_rfl) (by kernel_rfl) (fun _ _ _ h => h) (Or.inl ⟨by rfl, ?hyQ7⟩) (by assumption) ?restQ7
        case hyQ7 => (intro w hSw; (try dsimp only at hSw); go_simp; try with_reducible rfl)
        try simp only [Act.put, List.getElem_toArray, List.getElem_cons_succ, List.getElem_cons_zero, List.setIfInBounds_toArray, List.set_cons_zero, List.set_cons_succ]
        refine wpAnyH_ready (rs := [8]) (by kernel_rfl) (by simp) ?rdQ8
        refine AllReadyH.cons (i := 8) rfl (fun K hK => ?stepQ8) ?moreQ8
        case moreQ8 => exact AllReadyH.nil
        go_simp
        refine (sameBoard_self wx az ao1 ys N cz c1 _ HL.out hN63 (own_sb ‹_› oz).ints (own_sb ‹_› o).ints).mono fun e wv h => ?_
        obtain ⟨rfl, bv⟩ := h
        refine hK.out _ _ (sb_call ‹_› bv) (fun hHeld => ?heldQ8)
        clear hK K bv
        try simp only [Act.put, List.getElem_toArray, List.getElem_cons_succ, List.getElem_cons_zero, List.setIfInBounds_toArray, List.set_cons_zero, List.set_cons_succ]
        refine wpAnyH_take (i := 9) (v := ?vQ9) rfl (by kernel_rfl) (by kernel_rfl) (by kernel_rfl) (fun _ _ _ h => h) (Or.inl ⟨by rfl, ?hyQ9⟩) (by assumption) ?restQ9
        case hyQ9 => (intro w hSw; (try dsimp only at hSw); go_simp; try with_reducible rfl)
        try simp only [Act.put, List.getElem_toArray, List.getElem_cons_succ, List.getElem_cons_zero, List.setIfInBounds_toArray, List.set_cons_zero, List.set_cons_succ]
        refine wpAnyH_take (i := 10) (v := ?vQ10) rfl (by kernel_rfl) (by kernel_rfl) (by kernel_rfl) (fun _ _ _ h => h) (Or.inl ⟨by rfl, ?hyQ10⟩) (by assumption) ?restQ10
        case hyQ10 => (intro w hSw; (try dsimp only at hSw); go_simp; try with_reducible rfl)
        try simp only [Act.put, List.getElem_toArray, List.getElem_cons_succ, List.getElem_cons_zero, List.setIfInBounds_toArray, List.set_cons_zero, List.set_cons_succ]
        refine wpAnyH_take (i := 11) (v := ?vQ11) rfl (by kernel_rfl) (by kernel_rfl) (by kernel_rfl) (fun _ _ _ h => h) (Or.inl ⟨by rfl, ?hyQ11⟩) (by assumption) ?restQ11
        case hyQ11 => (intro w hSw; (try dsimp only at hSw); go_simp; try with_reducible rfl)
        try simp only [Act.put, List.getElem_toArray, List.getElem_cons_succ, List.getElem_cons_zero, List.setIfInBounds_toArray, List.set_cons_zero, List.set_cons_succ]
        refine wpAnyH_take (i := 13) (v := ?vQ13) rfl (by kernel_rfl) (by kernel_rfl) (by kernel_rfl) (fun _ _ _ h => h) (Or.inl ⟨by rfl, ?hyQ13⟩) (by assumption) ?restQ13
        case hyQ13 => (intro w hSw; (try dsimp only at hSw); go_simp; try with_reducible rfl)
        try simp only [Act.put, List.getElem_toArray, List.getElem_cons_succ, List.getElem_cons_zero, List.setIfInBounds_toArray, List.set_cons_zero, List.set_cons_succ]
        refine wpAnyH_ready (rs := [12]) (by kernel_rfl) (by simp) ?rdQ12
        refine AllReadyH.cons (i := 12) rfl (fun K hK => ?stepQ12) ?moreQ12
        case moreQ12 => exact AllReadyH.nil
        go_simp
        refine (implBoardOdd_any wx ax X N cx _ HN.out hN17 hcx (own_sb ‹_› ox).ints).mono fun e wv h => ?_
        rw [hodd.out] at h
        obtain ⟨rfl, bv⟩ := h
        refine hK.out _ _ (sb_call ‹_› bv) (fun hHeld => ?heldQ12)
        clear hK K bv
        try simp only [Act.put, List.getElem_toArray, List.getElem_cons_succ, List.getElem_cons_zero, List.setIfInBounds_toArray, List.set_cons_zero, List.set_cons_succ]
        refine wpAnyH_ready (rs := [14]) (by kernel_rfl) (by simp) ?rdQ14
        refine AllReadyH.cons (i := 14) rfl (fun K hK => ?stepQ14) ?moreQ14
        case moreQ14 => exact AllReadyH.nil
        go_simp
        refine (implBoardOdd_any wx ao1 ys N c1 _ HL.out hN17 hmc (own_sb ‹_› o).ints).mono fun e wv h => ?_
        rw [HOB.out] at h
        obtain ⟨rfl, bv⟩ := h
        refine hK.out _ _ (sb_call ‹_› bv) (fun hHeld => ?heldQ14)
        clear hK K bv
        try simp only [Act.put, List.getElem_toArray, List.getElem_cons_succ, List.getElem_cons_zero, List.setIfInBounds_toArray, List.set_cons_zero, List.set_cons_succ]
        refine wpAnyH_take (i := 15) (v := ?vQ15) rfl (by kernel_rfl) (by kernel_rfl) (by kernel_rfl) (fun _ _ _ h => h) (Or.inl ⟨by rfl, ?hyQ15⟩) (by assumption) ?restQ15
        case hyQ15 => (intro w hSw; (try dsimp only at hSw); go_simp; try with_reducible rfl)
        try simp only [Act.put, List.getElem_toArray, List.getElem_cons_succ, List.getElem_cons_zero, List.setIfInBounds_toArray, List.set_cons_zero, List.set_cons_succ]
        refine wpAnyH_take (i := 16) (v := ?vQ16) rfl (by kernel_rfl) (by kernel_rfl) (by kernel_rfl) (fun _ _ _ h => h) (Or.inl ⟨by rfl, ?hyQ16⟩) (by assumption) ?restQ16
        case hyQ16 => (intro w hSw; (try dsimp only at hSw); go_simp; try with_reducible rfl)
        try simp only [Act.put, List.getElem_toArray, List.getElem_cons_succ, List.getElem_cons_zero, List.setIfInBounds_toArray, List.set_cons_zero, List.set_cons_succ]
        refine wpAnyH_take (i := 17) (v := ?vQ17) rfl (by kernel_rfl) (by kernel_rfl) (by kernel_rfl) (fun _ _ _ h => h) (Or.inl ⟨by rfl, ?hyQ17⟩) (by assumption) ?restQ17
        case hyQ17 => (intro w hSw; (try dsimp only at hSw); go_simp; try with_reducible rfl)
        try simp only [Act.put, List.getElem_toArray, List.getElem_cons_succ, List.getElem_cons_zero, List.setIfInBounds_toArray, List.set_cons_zero, List.set_cons_succ]
        refine wpAnyH_take (i := 18) (v := ?vQ18) rfl (by kernel_rfl) (by kernel_rfl) (by kernel_rfl) (fun _ _ _ h => h) (Or.inl ⟨by rfl, ?hyQ18⟩) (by assumption) ?restQ18
        case hyQ18 => (intro w hSw; (try dsimp only at hSw); go_simp; try with_reducible rfl)
        try simp only [Act.put, List.getElem_toArray, List.getElem_cons_succ, List.getElem_cons_zero, List.setIfInBounds_toArray, List.set_cons_zero, List.set_cons_succ]
        refine wpAnyH_take (i := 20) (v := ?vQ20) rfl (by kernel_rfl) (by kernel_rfl) (by kernel_rfl) (fun _ _ _ h => h) (Or.inl ⟨by rfl, ?hyQ20⟩) (by assumption) ?restQ20
        case hyQ20 => (intro w hSw; (try dsimp only at hSw); go_simp; try with_reducible rfl)
        try simp only [Act.put, List.getElem_toArray, List.getElem_cons_succ, List.getElem_cons_zero, List.setIfInBounds_toArray, List.set_cons_zero, List.set_cons_succ]
        refine wpAnyH_ready (rs := [19]) (by kernel_rfl) (by simp) ?rdQ19
        refine AllReadyH.cons (i := 19) rfl (fun K hK => ?stepQ19) ?moreQ19
        case moreQ19 => exact AllReadyH.nil
        go_simp
        refine (implFreeFar_any wx ax X N cx _ HN.out hN17 (own_sb ‹_› ox).ints).mono fun e wv h => ?_
        rw [HR.out] at h
        obtain ⟨rfl, bv⟩ := h
        refine hK.out _ _ (sb_call ‹_› bv) (fun hHeld => ?heldQ19)
        clear hK K bv
        try simp only [Act.put, List.getElem_toArray, List.getElem_cons_succ, List.getElem_cons_zero, List.setIfInBounds_toArray, List.set_cons_zero, List.set_cons_succ]
        refine wpAnyH_ready (rs := [21]) (by kernel_rfl) (by simp) ?rdQ21
        refine AllReadyH.cons (i := 21) rfl (fun K hK => ?stepQ21) ?moreQ21
        case moreQ21 => exact AllReadyH.nil
        go_simp
        refine (implFreeFar_any wx ao1 ys N c1 _ HL.out hN17 (own_sb ‹_› o).ints).mono fun e wv h => ?_
        rw [HS.out] at h
        obtain ⟨rfl, bv⟩ := h
        refine hK.out _ _ (sb_call ‹_› bv) (fun hHeld => ?heldQ21)
        clear hK K bv
        try simp only [Act.put, List.getElem_toArray, List.getElem_cons_succ, List.getElem_cons_zero, List.setIfInBounds_toArray, List.set_cons_zero, List.set_cons_succ]
        refine wpAnyH_take (i := 22) (v := ?vQ22) rfl (by kernel_rfl) (by kernel_rfl) (by kernel_rfl) (fun _ _ _ h => h) (Or.inl ⟨by rfl, ?hyQ22⟩) (by assumption) ?restQ22
        case hyQ22 => (intro w hSw; (try dsimp only at hSw); go_simp; try with_reducible rfl)
        try simp only [Act.put, List.getElem_toArray, List.getElem_cons_succ, List.getElem_cons_zero, List.setIfInBounds_toArray, List.set_cons_zero, List.set_cons_succ]
        refine wpAnyH_take (i := 23) (v := ?vQ23) rfl (by kernel_rfl) (by kernel_rfl) (by kernel_rfl) (fun _ _ _ h => h) (Or.inl ⟨by rfl, ?hyQ23⟩) (by assumption) ?restQ23
        case hyQ23 => (intro w hSw; (try dsimp only at hSw); go_simp; try with_reducible rfl)
        try simp only [Act.put, List.getElem_toArray, List.getElem_cons_succ, List.getElem_cons_zero, List.setIfInBounds_toArray, List.set_cons_zero, List.set_cons_succ]
        refine wpAnyH_take (i := 24) (v := ?vQ24) rfl (by kernel_rfl) (by kernel_rfl) (by kernel_rfl) (fun _ _ _ h => h) (Or.inl ⟨by rfl, ?hyQ24⟩) (by assumption) ?restQ24
        case hyQ24 => (intro w hSw; (try dsimp only at hSw); go_simp; try with_reducible rfl)
        try simp only [Act.put, List.getElem_toArray, List.getElem_cons_succ, List.getElem_cons_zero, List.setIfInBounds_toArray, List.set_cons_zero, List.set_cons_succ]
        refine wpAnyH_take (i := 25) (v := ?vQ25) rfl (by kernel_rfl) (by kernel_rfl) (by kernel_rfl) (fun _ _ _ h => h) (Or.inl ⟨by rfl, ?hyQ25⟩) (by assumption) ?restQ25
        case hyQ25 => (intro w hSw; (try dsimp only at hSw); go_simp; try with_reducible rfl)
        try simp only [Act.put, List.getElem_toArray, List.getElem_cons_succ, List.getElem_cons_zero, List.setIfInBounds_toArray, List.set_cons_zero, List.set_cons_succ]
        refine wpAnyH_take (i := 26) (v := ?vQ26) rfl (by kernel_rfl) (by kernel_rfl) (by kernel_rfl) (fun _ _ _ h => h) (Or.inl ⟨by rfl, ?hyQ26⟩) (by assumption) ?restQ26
        case hyQ26 => (intro w hSw; (try dsimp only at hSw); go_simp; try with_reducible rfl)
        try simp only [Act.put, List.getElem_toArray, List.getElem_cons_succ, List.getElem_cons_zero, List.setIfInBounds_toArray, List.set_cons_zero, List.set_cons_succ]
        refine wpAnyH_take (i := 27) (v := ?vQ27) rfl (by kernel_rfl) (by kernel_rfl) (by kernel_rfl) (fun _ _ _ h => h) (Or.inl ⟨by rfl, ?hyQ27⟩) (by assumption) ?restQ27
        case hyQ27 => (intro w hSw; (try dsimp only at hSw); go_simp; try with_reducible rfl)
        try simp only [Act.put, List.getElem_toArray, List.getElem_cons_succ, List.getElem_cons_zero, List.setIfInBounds_toArray, List.set_cons_zero, List.set_cons_succ]
        refine wpAnyH_take (i := 28) (v := ?vQ28) rfl (by kernel_rfl) (by kernel_rfl) (by kernel_rfl) (fun _ _ _ h => h) (Or.inl ⟨by rfl, ?hyQ28⟩) (by assumption) ?restQ28
        case hyQ28 => (intro w hSw; (try dsimp only at hSw); go_simp; try with_reducible rfl)
        try simp only [Act.put, List.getElem_toArray, List.getElem_cons_succ, List.getElem_cons_zero, List.setIfInBounds_toArray, List.set_cons_zero, List.set_cons_succ]
        refine wpAnyH_take (i := 29) (v := ?vQ29) rfl (by kernel_rfl) (by kernel_rfl) (by kernel_rfl) (fun _ _ _ h => h) (Or.inl ⟨by rfl, ?hyQ29⟩) (by assumption) ?restQ29
        case hyQ29 => (intro w hSw; (try dsimp only at hSw); go_simp; try with_reducible rfl)
        try simp only [Act.put, List.getElem_toArray, List.getElem_cons_succ, List.getElem_cons_zero, List.setIfInBounds_toArray, List.set_cons_zero, List.set_cons_succ]
        refine wpAnyH_take (i := 30) (v := undef) rfl (by kernel_rfl) (by kernel_rfl) (by kernel_rfl) (fun _ _ _ h => h) (Or.inr ⟨by rfl, rfl⟩) (by assumption) ?restQ30
        try simp only [Act.put, List.getElem_toArray, List.getElem_cons_succ, List.getElem_cons_zero, List.setIfInBounds_toArray, List.set_cons_zero, List.set_cons_succ]
        refine wpAnyH_take (i := 31) (v := undef) rfl (by kernel_rfl) (by kernel_rfl) (by kernel_rfl) (fun _ _ _ h => h) (Or.inr ⟨by rfl, rfl⟩) (by assumption) ?restQ31
        try simp only [Act.put, List.getElem_toArray, List.getElem_cons_succ, List.getElem_cons_zero, List.setIfInBounds_toArray, List.set_cons_zero, List.set_cons_succ]
        refine wpAnyH_take (i := 32) (v := ?vQ32) rfl (by kernel_rfl) (by kernel_rfl) (by kernel_rfl) (fun _ _ _ h => h) (Or.inl ⟨by rfl, ?hyQ32⟩) (by assumption) ?restQ32
        case hyQ32 => (intro w hSw; (try dsimp only at hSw); go_simp; try with_reducible rfl)
        try simp only [Act.put, List.getElem_toArray, List.getElem_cons_succ, List.getElem_cons_zero, List.setIfInBounds_toArray, List.set_cons_zero, List.set_cons_succ]
        refine wpAnyH_take (i := 33) (v := ?vQ33) rfl (by kernel_rfl) (by kernel_rfl) (by kernel_rfl) (fun _ _ _ h => h) (Or.inl ⟨by rfl, ?hyQ33⟩) (by assumption) ?restQ33
        case hyQ33 => (intro w hSw; (try dsimp only at hSw); go_simp; try with_reducible rfl)
        try simp only [Act.put, List.getElem_toArray, List.getElem_cons_succ, List.getElem_cons_zero, List.setIfInBounds_toArray, List.set_cons_zero, List.set_cons_succ]
        refine wpAnyH_take (i := 34) (v := ?vQ34) rfl (by kernel_rfl) (by kernel_rfl) (by kernel_rfl) (fun _ _ _ h => h) (Or.inl ⟨by rfl, ?hyQ34⟩) (by assumption) ?restQ34
        case hyQ34 => (intro w hSw; (try dsimp only at hSw); go_simp; try with_reducible rfl)
        try simp only [Act.put, List.getElem_toArray, List.getElem_cons_succ, List.getElem_cons_zero, List.setIfInBounds_toArray, List.set_cons_zero, List.set_cons_succ]
        refine wpAnyH_done (by kernel_rfl) ?_ _
        refine NoPanic.normal ?_
        rename_i hH
        have B := B.trans (hHeld.2.mono B.size)
        go_wp2
        go_ret
        exact ⟨rfl, B⟩
      · have hq1 : (d == 1) = false := by rw [hd]; rfl
        have hq2 : (d == -1) = true := by rw [hd]; rfl
        clear hd
        go_upto_region 12 with fail
        first | (go_region_held3 (fun w' => (∀ b o, b < wc.heap.size → w'.cell? ⟨b, o, none⟩ = wc.cell? ⟨b, o, none⟩) ∧ Below wc.heap.size wc w')
          (first | with_reducible exact sb_drew _ | with_reducible exact sb_call ‹_› bv | with_reducible assumption)
          (first | (go_at_call 17; with_reducible refine (implBoardValid_any wx ax X N cx _ HN.out hN17 (own_sb ‹_› ox).ints).mono fun e wv h => ?_; rw [HBX.out] at h; obtain ⟨rfl, bv⟩ := h)
                 | (go_at_call 12; with_reducible refine (sameBoard_self wx az ao1 ys N cz c1 _ HL.out hN63 (own_sb ‹_› oz).ints (own_sb ‹_› o).ints).mono fun e wv h => ?_; obtain ⟨rfl, bv⟩ := h)
                 | (go_at_call 22; with_reducible refine (implBoardOdd_any wx ax X N cx _ HN.out hN17 hcx (own_sb ‹_› ox).ints).mono fun e wv h => ?_; rw [hodd.out] at h; obtain ⟨rfl, bv⟩ := h)
                 | (go_at_call 22; with_reducible refine (implBoardOdd_any wx ao1 ys N c1 _ HL.out hN17 hmc (own_sb ‹_› o).ints).mono fun e wv h => ?_; rw [HOB.out] at h; obtain ⟨rfl, bv⟩ := h)
                 | (go_at_call 23; with_reducible refine (implFreeFar_any wx ax X N cx _ HN.out hN17 (own_sb ‹_› ox).ints).mono fun e wv h => ?_; rw [HR.out] at h; obtain ⟨rfl, bv⟩ := h)
                 | (go_at_call 23; with_reducible refine (implFreeFar_any wx ao1 ys N c1 _ HL.out hN17 (own_sb ‹_› o).ints).mono fun e wv h => ?_; rw [HS.out] at h; obtain ⟨rfl, bv⟩ := h)))
              | fail
        all_goals rename_i hH
        all_goals
          have B := B.trans (hH.2.mono B.size)
          clear hH
          go_wp2
          go_ret
          exact ⟨rfl, B⟩

end Go.Proofs.Ytncebcgiljkbnaa
