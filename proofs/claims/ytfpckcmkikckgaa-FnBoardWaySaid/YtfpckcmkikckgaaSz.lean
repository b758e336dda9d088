/- The walk of the reference's BoardWay. -/
import Derived.Test.YtfpckcmkikckgaaSy
import Derived.Deep.DeepCutAuto
namespace Go.Proofs.Ytfpckcmkikckgaa
open Go Go.RowKit

theorem IntsAt.keptB {w w' : World} {ao : Option Addr} {xs : List Int} {row : Option Nat} (h : IntsAt w ao xs) (hg : w.grownBy w' row) (hne : ∀ a, ao = some a → some a.block ≠ row) : IntsAt w' ao xs := by
  intro h0
  obtain ⟨b, off, rfl, hc⟩ := h h0
  refine ⟨b, off, rfl, fun j hj => hg.cell (hc j hj) (hne ⟨b, off, none⟩ rfl)⟩

/-- The state of the reference's search for a way. -/
def WSq (w : World) (wide : Int) (n D : Nat) (S : List (List Int × Int)) (xs0 : List Int) (g1 gs M cs i d : Nat) (pend : List Int) (v : Value) (wr : World) : Prop :=
  ∃ ab cb ws, i < S.length ∧ dpS S i = d ∧ Own wr w.heap.size v ws ∧ wayS wide S D xs0 = ws ++ pend ++ wayS wide S d (bdS S i) ∧ n ≤ cb ∧ IntsAt wr ab (bdS S i) ∧ (∀ a, ab = some a → some a.block ≠ v.ownBlock ∧ a.block ≠ g1 ∧ a.block < wr.heap.size) ∧
    Blk wr g1 #[.int .i64 wide, .slice ab n cb] 25 ∧ Own wr w.heap.size (.slice (some ⟨gs, 0, none⟩) M cs) (stL n S) ∧ v.ownBlock ≠ some gs ∧ w.heap.size ≤ g1 ∧ Below w.heap.size w wr

theorem WSq.below {w w1 w2 : World} {wide : Int} {n D : Nat} {S : List (List Int × Int)} {xs0 : List Int} {g1 gs M cs i d : Nat} {pend : List Int} {v : Value} (h : WSq w wide n D S xs0 g1 gs M cs i d pend v w1) (hb : Below w1.heap.size w1 w2) : WSq w wide n D S xs0 g1 gs M cs i d pend v w2 := by
  obtain ⟨ab, cb, ws, h1, h2, h3, h4, h5, h6, h7, h8, h9, h10, h11, h12⟩ := h
  exact ⟨ab, cb, ws, h1, h2, h3.below hb (Nat.le_refl _), h4, h5, h6.below hb (Nat.le_refl _), fun a e => ⟨(h7 a e).1, (h7 a e).2.1, Nat.lt_of_lt_of_le (h7 a e).2.2 hb.size⟩, h8.below hb (Nat.le_refl _), h9.below hb (Nat.le_refl _), h10, h11, h12.trans (hb.mono h12.size)⟩

theorem WSq.qt {w w1 w2 : World} {wide : Int} {n D : Nat} {S : List (List Int × Int)} {xs0 : List Int} {g1 gs M cs i d : Nat} {pend : List Int} {v : Value} (h : WSq w wide n D S xs0 g1 gs M cs i d pend v w1) (hq : Qt w1 w2) : WSq w wide n D S xs0 g1 gs M cs i d pend v w2 := h.below (hq.below _)

theorem WSq.len {w wr : World} {wide : Int} {n D : Nat} {S : List (List Int × Int)} {xs0 : List Int} {g1 gs M cs i d : Nat} {pend : List Int} {v : Value} (h : WSq w wide n D S xs0 g1 gs M cs i d pend v wr) : lenOf v + pend.length + d = D := by
  obtain ⟨ab, cb, ws, h1, h2, h3, h4, _⟩ := h
  have e := congrArg List.length h4
  rw [List.length_append, List.length_append, length_wayS, length_wayS] at e
  obtain ⟨ao, c, rfl, _⟩ := h3.shape
  simp only [lenOf]
  omega

/-- The board is replaced by the next one. -/
theorem WSq.move {w w1 w2 : World} {wide t : Int} {n D : Nat} {S : List (List Int × Int)} {xs0 : List Int} {g1 gs M cs i d k L cx : Nat} {v : Value} {ax : Option Addr} (h : WSq w wide n D S xs0 g1 gs M cs i (d + 1) [] v w1) (hb : Below w1.heap.size w1 w2)
    (hk : k < S.length) (hkb : bdS S k = movedL wide (bdS S i) t) (hkd : dpS S k = d) (hnt : nextT wide S (bdS S i) = t) (ho : Own w2 L (.slice ax n cx) (movedL wide (bdS S i) t)) (hL : w1.heap.size ≤ L) (hcx : n ≤ cx) :
    WSq w wide n D S xs0 g1 gs M cs k d [t] v ((w2.setCell ⟨g1, 0, none⟩ (.int .i64 wide)).setCell ⟨g1, 1, none⟩ (.slice ax n cx)) := by
  have hv : ∀ q, v.ownBlock = some q → q < w1.heap.size := fun q e => by
    obtain ⟨_, _, _, _, _, h3, _⟩ := h
    exact (World.ownsRow.lt h3 q e).2
  have hg1 : g1 < w1.heap.size := by
    obtain ⟨_, _, _, _, _, _, _, _, _, _, h8, _⟩ := h
    exact h8.lt
  obtain ⟨ab, cb, ws, h1, h2, h3, h4, h5, h6, h7, h8, h9, h10, h11, h12⟩ := h.below hb
  have ha : ∀ a, ax = some a → L ≤ a.block ∧ a.block < w2.heap.size := fun a e => by
    subst e
    exact World.ownsRow.lt ho a.block rfl
  have hne : ∀ u zs B, Own w2 B u zs → u.ownBlock = none ∨ u.ownBlock ≠ some g1 := fun u zs B hu => hu.neT h8 neBI
  refine ⟨ax, cx, ws, hk, hkd, (h3.setOther g1 0 _ (hne _ _ _ h3)).setOther g1 1 _ (hne _ _ _ h3), ?_, hcx, ?_, fun a e => ?_, (h8.set 0 _).set 1 _, (h9.setOther g1 0 _ (hne _ _ _ h9)).setOther g1 1 _ (hne _ _ _ h9), h10, h11, ?_⟩
  · rw [h4, wayS_succ, hnt, hkb]; simp
  · rw [hkb]
    exact ((ho.setOther g1 0 _ (hne _ _ _ ho)).setOther g1 1 _ (hne _ _ _ ho)).ints
  · have := ha a e
    refine ⟨fun e2 => by have := hv a.block e2.symm; omega, by omega, ?_⟩
    simp [World.setCell]; omega
  · exact (h12.setCell (p := ⟨g1, 0, none⟩) h11 _).setCell (p := ⟨g1, 1, none⟩) h11 _

/-- A tile more on the way. -/
theorem wpList_appendV {ops : Array Oper} {rest : List Oper} {o : Oper} {a : Act} {Q : Exit → Act → World → Prop} {w wr : World} {wide t : Int} {n D : Nat} {S : List (List Int × Int)} {xs0 : List Int} {g1 gs M cs i d : Nat} {v : Value}
    (hgd : o.guard = none) (s x : Operand) (ho : o.op = .call { callee := .builtin .append, args := #[s, x], argTypes := #[23, 23] }) (hs : a.eval s = v)
    (h : WSq w wide n D S xs0 g1 gs M cs i d [t] v wr) (hD : D ≤ 1000) {L0 : Nat} (hx0 : a.eval x = .slice (some ⟨L0, 0, none⟩) 1 1) (hL0 : L0 = wr.heap.size)
    (hK : ∀ v' w', WSq w wide n D S xs0 g1 gs M cs i d [] v' w' → wpList Try.prog ops Q rest (a.put o.dst v') w') :
    wpList Try.prog ops Q (o :: rest) a (wr.alloc (.cells #[.int .i64 t] 3)) := by
  have hx : a.eval x = .slice (some ⟨wr.heap.size, 0, none⟩) 1 1 := by rw [hx0, hL0]
  have hlen := h.len
  have h' := h.below ((Below.refl wr.heap.size wr).alloc (Nat.le_refl _) (.cells #[.int .i64 t] 3))
  have hc := cell1 wr (.int .i64 t) 3
  generalize hW : wr.alloc (.cells #[.int .i64 t] 3) = W at *
  obtain ⟨ab, cb, ws, h1, h2, h3, h4, h5, h6, h7, h8, h9, h10, h11, h12⟩ := h'
  obtain ⟨i0, hi, hz0, hz1, hz2⟩ := info_parts Try.infoInt
  have hlw : ws.length ≤ 1000 := by
    obtain ⟨ao, c, rfl, _⟩ := h3.shape
    simp only [lenOf] at hlen
    omega
  refine wpList_append_own_at W hgd s x 23 ho w.heap.size 3 i0 (.int .i64 0) 1 8 Try.underlying23 hi hz0 hz1 hz2 rfl (by decide) v ws.length (ws.map (Value.int .i64)) hs h3 ⟨wr.heap.size, 0, none⟩ 1 1 [.int .i64 t] hx rfl hc (cell1_one t) (by unfold maxLen; omega) (by omega) h12.size ?_
  intro v' w' hown' hgrow hnil hat
  have ho' : Own w' w.heap.size v' (ws ++ [t]) := Own.appended hown'
  have hgsl := h9.base.2
  have hne2 : v'.ownBlock ≠ some gs := fun e => by
    rcases hat with e2 | e2
    · exact h10 (e2.symm.trans e)
    · rw [e2] at e
      have := Option.some.inj e
      omega
  have hgb : some g1 ≠ v.ownBlock := fun e => by
    rcases h3.neT h8 neBI with h | h
    · rw [h] at e; cases e
    · exact h e.symm
  refine hK v' w' ⟨ab, cb, ws ++ [t], h1, h2, ho', ?_, h5, h6.keptB hgrow (fun a e => (h7 a e).1), fun a e => ⟨fun e2 => ?_, (h7 a e).2.1, Nat.lt_of_lt_of_le (h7 a e).2.2 hgrow.size⟩, h8.kept hgrow hgb, h9.kept hgrow (.inr fun e => h10 e.symm), hne2, h11, ?_⟩
  · rw [h4]; simp
  · rcases hat with e3 | e3
    · exact (h7 a e).1 (e2.trans e3)
    · rw [e3] at e2
      have := Option.some.inj e2
      have := (h7 a e).2.2
      omega
  · exact h12.grown hgrow h12.size (fun q hq => (World.ownsRow.lt h3 q hq).1)

theorem firstG_cons {wide : Int} {S : List (List Int × Int)} {xs ts : List Int} {t : Int} : firstG wide S xs (t :: ts) = if nearS wide S xs t = true then t else firstG wide S xs ts := by
  unfold firstG
  rw [List.find?_cons]
  cases nearS wide S xs t <;> rfl

theorem drop_nth {xs : List Int} {k : Nat} (h : k < xs.length) : xs.drop k = nth xs k :: xs.drop (k + 1) := by rw [List.drop_eq_getElem_cons h, nth_eq h]

/-- What the table says of a board. -/
theorem tab_at {wide : Int} {n : Nat} {S : List (List Int × Int)} (h : Srch wide n S S.length 0) {i : Nat} (hi : i < S.length) : nth (stL n S) (rankL (bdS S i)) = dpS S i := by
  have hok := h.ok i hi
  have hd := hok.1.2.2.2.2
  rw [hok.2] at hd
  rw [nth_stL (rank_lt hok.2), stV_far (AllIn.of h) hd hok.2, farS_at h hi]

set_option maxRecDepth 100000 in
set_option maxHeartbeats 1000000 in
theorem specBoardWay_any (wide : Int) (ao : Option Addr) (xs : List Int) (n c : Nat) (w : World) (hn : xs.length = n) (hl : n ≤ 17592186044416) (hnc : n ≤ c) (hx : IntsAt w ao xs) :
    Calls Try.prog 16 #[.agg #[.int .i64 wide, .slice ao n c]] w (RetIB w (wayL wide xs) (wayB wide xs)) := by
  have HN := hid hn
  clear hn
  have B := ((Below.refl w.heap.size w).alloc (Nat.le_refl _) (.cells #[.int .i64 wide, .slice ao n c] 25)).alloc (by simp) (.cells #[] 3)
  have bk := (Blk.new w #[.int .i64 wide, .slice ao n c] 25).alloc (.cells #[] 3)
  have o0 := Own.lit0 (B := w.heap.size) (w.alloc (.cells #[.int .i64 wide, .slice ao n c] 25)) (by simp)
  have hsz0 : (w.alloc (.cells #[.int .i64 wide, .slice ao n c] 25)).heap.size = w.heap.size + 1 := by simp
  rw [hsz0] at o0
  have e0 := bk.at 0 rfl
  have e1 := bk.at 1 rfl
  go_enter Try.func16, Try.ntmps16
  go_wp2_with fail
  clear hsz0
  generalize ((w.alloc (.cells #[.int .i64 wide, .slice ao n c] 25)).alloc (.cells #[] 3)) = W at *
  refine (specBoardLeast_any wide ao xs n c W HN.out hl hnc (hx.below B (Nat.le_refl _))).mono fun e w1 h => ?_
  obtain ⟨rfl, b⟩ := h
  have hBW := B.size
  have B := B.trans (b.mono B.size)
  have bk := bk.below b (Nat.le_refl _)
  have o0 := o0.below b (Nat.le_refl _)
  clear b e0 e1
  rcases least_cases wide xs with hls | ⟨hok', hl6, i0, hi0, hbi, hle, h0, h1, hsr'⟩
  · have hfin := hid (wayL_out (wide := wide) (xs := xs) (by omega))
    have hb2 : Hid (wayB wide xs = false) := by unfold Hid wayB; rw [hls]; rfl
    have hd : decide (leastI wide xs < 0) = true := decide_eq_true (by omega)
    clear hls
    go_wp2
    go_ret2
    rw [hfin.out, hb2.out]
    exact RetIB.mk rfl o0 B
  · rw [HN.out] at hl6 hi0 hbi hle hsr'
    have hw2 : Hid (wayL wide xs = wayS wide (allS wide n) (leastI wide xs).toNat xs) := by unfold Hid; rw [wayL_in h0, HN.out]
    have hb2 : Hid (wayB wide xs = true) := decide_eq_true h0
    have hd : decide (leastI wide xs < 0) = false := decide_eq_false (by omega)
    obtain ⟨D, hD⟩ : ∃ D : Nat, leastI wide xs = D := Int.eq_ofNat_of_zero_le h0
    rw [hD] at hw2 hle h1
    have hD7 : D ≤ 720 := by omega
    have hok := hid hok'
    have hsr := hid hsr'
    have HBI := hid hbi
    have HD : Hid (dpS (allS wide n) i0 = D) := hle.symm
    have hsd := sides6 hok.out (by rw [HN.out]; exact hl6)
    rw [HN.out] at hsd
    have hw1 : 1 ≤ wide := hok.out.2.2.1
    have hwz : (wide == 0) = false := by simp; omega
    have hwz2 : ¬ wide = 0 := by omega
    obtain ⟨tall, ht⟩ : ∃ tall, (n : Int) / wide = tall := ⟨_, rfl⟩
    rw [ht] at hsd
    have HS := hid hsd
    have htd : ((n : Int)).tdiv wide = tall := by rw [Int.tdiv_eq_ediv_of_nonneg (by omega)]; exact ht
    have hwt : IntKind.i64.wrap tall = tall := IntWalk.i64_in _ (by have := hsd.1.2.1; omega)
    have hM1 := fct_pos n
    have hM7 := fct_le hl6
    have hln := hid (length_stL n (allS wide n))
    clear hok' hbi hle hsr' hD hsd h0 h1
    have e0 := bk.at 0 rfl
    have e1 := bk.at 1 rfl
    have lt := bk.lt
    go_wp2_with fail
    go_region_held3 (fun w' => (∀ b o, b < w1.heap.size → w'.cell? ⟨b, o, none⟩ = w1.cell? ⟨b, o, none⟩) ∧ Below w1.heap.size w1 w')
      (first | with_reducible exact sb_drew _ | with_reducible exact sb_call ‹_› bt)
      (first | (go_at_call 37; refine (l3Steps_any wide tall n _ HS.out.1 HS.out.2).mono fun e wt h => ?_; obtain ⟨ao_s, c_s, rfl, o_s, bt⟩ := h.to hln.out; clear h))
    rename_i hH
    have hn2 : 2 ≤ n := by have := hok.out.1; rw [HN.out] at this; exact this
    obtain ⟨gs, rfl⟩ := o_s.addr (by rw [hln.out]; omega)
    obtain ⟨ba, oa, rfl, hca⟩ := hx (by rw [HN.out]; omega)
    have hbal : ba < w.heap.size := World.block_lt_of_cell? _ _ (hca 0 (by rw [HN.out]; omega))
    have hgsb : w1.heap.size ≤ gs := o_s.base.1
    have hB1s := B.size
    have b1 := hH.2
    have lv : w.heap.size + 1 < w1.heap.size := o0.base.2
    have hinit : WSq w wide n D (allS wide n) xs w.heap.size gs (fct n) c_s i0 D [] (.slice (some ⟨w.heap.size + 1, 0, none⟩) 0 0) wt := by
      refine ⟨some ⟨ba, oa, none⟩, c, [], hi0, HD.out, o0.below b1 (Nat.le_refl _), by rw [HBI.out]; rfl, hnc, by rw [HBI.out]; exact hx.below (B.trans (b1.mono B.size)) (Nat.le_refl _), fun a e => ?_, bk.below b1 (Nat.le_refl _), o_s.lower hB1s, fun e => ?_, Nat.le_refl _, B.trans (b1.mono B.size)⟩
      · have := Option.some.inj e
        subst this
        refine ⟨fun e2 => ?_, ?_, ?_⟩
        · simp only [Value.ownBlock, Option.some.injEq] at e2; omega
        · show ba ≠ w.heap.size; omega
        · have := b1.size; show ba < wt.heap.size; omega
      · simp only [Value.ownBlock, Option.some.injEq] at e; omega
    clear o0 o_s bk b1 hH bt hca hgsb e0 e1 lt lv B hB1s hBW hbal hnc
    generalize allS wide n = S at *
    have hS7 := Nat.le_trans hsr.out.len_le hM7
    obtain ⟨M, hM⟩ : ∃ M, fct n = M := ⟨_, rfl⟩
    have HM := hid hM
    rw [hM] at hinit hM1 hM7 hln
    rw [hM]
    clear hM
    go_wp2_with fail
    go_loopw [4, 6, 7, 8, 9, 10, 11, 12] (fun v _ _ _ _ _ _ _ wi => ∃ i d, WSq w wide n D S xs w.heap.size gs M c_s i d [] v wi) (fun v _ _ _ _ _ _ _ _ => D - lenOf v)
    case atStart => exact ⟨i0, D, hinit⟩
    case round =>
      obtain ⟨i, d, hS⟩ := hrel
      clear hinit
      have hlen := hS.len
      simp only [List.length_nil, Nat.add_zero] at hlen
      have hS2 := hS
      obtain ⟨ab, cb, ws, hi, hdi, hws, hway, hcb, hxi, _, hbk, hst, _, _, hB⟩ := hS2
      have hoki := hid (hsr.out.ok i hi)
      have HDI := hid hdi
      have htab := hid ((tab_at hsr.out hi).trans hdi)
      have hrk := rank_lt hoki.out.2
      rw [HM.out] at hrk
      obtain ⟨r, hr⟩ : ∃ r, rankL (bdS S i) = r := ⟨_, rfl⟩
      have HR := hid hr
      rw [hr] at htab hrk
      clear hr hdi
      have c0 := hbk.at 0 rfl
      have c1 := hbk.at 1 rfl
      have hr2 : (r : Int) < M := by omega
      go_wp2_with fail
      refine (l3Rank_any ab (bdS S i) n cb wr hoki.out.2 hl6 hxi).mono fun e w2 h => ?_
      rw [HR.out] at h
      obtain ⟨rfl, hq⟩ := h
      have hS := hS.qt hq
      have hck := (hst.qt hq).cell (j := r) (by rw [hln.out]; exact hrk)
      rw [htab.out] at hck
      by_cases hd0 : d = 0
      · subst hd0
        have hdz : decide ((0 : Int) < ((0 : Nat) : Int)) = false := rfl
        obtain ⟨aw, cw, rfl, _⟩ := hws.shape
        have hwl : Hid (wayL wide xs = ws) := by unfold Hid; rw [hw2.out, Int.toNat_natCast, hway]; simp [wayS]
        have hfin := hid (RetIB.mk (w := w) (ok := true) rfl (hws.qt hq) (hB.trans (hq.below _)))
        clear hws hway hq hst hxi hbk c0 c1 hB hS
        go_wp2
        go_ret2
        rw [hwl.out, hb2.out]
        exact hfin.out
      · obtain ⟨d, rfl⟩ : ∃ d', d = d' + 1 := ⟨d - 1, by omega⟩
        have hdz : decide ((0 : Int) < ((d + 1 : Nat) : Int)) = true := decide_eq_true (by omega)
        have hdz2 : decide ((0 : Int) < (d : Int) + 1) = true := decide_eq_true (by omega)
        have hLw : w.heap.size ≤ w2.heap.size := (hB.trans (hq.below _)).size
        clear hws hway hst hxi hbk c0 c1 hB hd0
        have hS2 := hS
        obtain ⟨ab2, cb2, _, _, _, _, _, hcb2, hxi2, _, hbk2, _, _, _, _⟩ := hS2
        have c0 := hbk2.at 0 rfl
        have c1 := hbk2.at 1 rfl
        clear hbk2 hq
        go_wp2_with fail
        refine (specTilesMay_any wide ab2 (bdS S i) n cb2 w2 hoki.out.2 (by omega) hcb2 hxi2).mono fun e wm h => ?_
        obtain ⟨mm, hmm⟩ : ∃ mm, (mayL wide (bdS S i)).length = mm := ⟨_, rfl⟩
        obtain ⟨am, cm, rfl, om, bm⟩ := h.to hmm
        clear h c0 c1 hck
        have hm0 := may_some hoki.out.1
        rw [hmm] at hm0
        have hm81 := may_le9 hoki.out.1
        rw [hmm] at hm81
        have hMM := hid hmm
        have hS := hS.below bm
        have oml := om.lower hLw
        obtain ⟨gm, rfl⟩ := om.addr (by rw [hMM.out]; exact hm0)
        clear hmm bm om hxi2
        have hnsp := hid (next_spec hsr.out hi (by rw [HDI.out]; omega))
        go_wp2_with fail
        go_loopw [7, 8, 9, 10] (fun fv jv _ _ wi => ∃ (jx : Int) (m : Nat), jv = .int .i64 jx ∧ jx + 1 = m ∧ m ≤ mm ∧ fv = .int .i64 (firstG wide S (bdS S i) ((mayL wide (bdS S i)).drop m)) ∧ WSq w wide n D S xs w.heap.size gs M c_s i (d + 1) [] u4 wi ∧ Own wi w.heap.size (.slice (some ⟨gm, 0, none⟩) mm cm) (mayL wide (bdS S i))) (fun _ jv _ _ _ => (intOf jv + 1).toNat)
        case atStart => exact ⟨(mm : Int) - 1, mm, rfl, by omega, Nat.le_refl _, by rw [List.drop_of_length_le (by rw [hMM.out]; exact Nat.le_refl _)]; rfl, hS, oml⟩
        case round =>
          obtain ⟨jx, m, rfl, hjx, hmm, rfl, hS, hY⟩ := hrel
          clear oml
          by_cases hj0 : 0 ≤ jx
          · obtain ⟨q, rfl⟩ := Int.eq_ofNat_of_zero_le hj0
            obtain rfl : m = q + 1 := by omega
            have hdj : decide ((0 : Int) ≤ (q : Int)) = true := decide_eq_true hj0
            have hqm : q < mm := by omega
            have hcj := hY.cell (j := q) (by rw [hMM.out]; exact hqm)
            have hcan := hid (may_can (wide := wide) (xs := bdS S i) (k := q) (by rw [hMM.out]; exact hqm))
            have hdr : Hid (firstG wide S (bdS S i) ((mayL wide (bdS S i)).drop q) = if nearS wide S (bdS S i) (nth (mayL wide (bdS S i)) q) = true then nth (mayL wide (bdS S i)) q else firstG wide S (bdS S i) ((mayL wide (bdS S i)).drop (q + 1))) := by
              unfold Hid; rw [drop_nth (by rw [hMM.out]; exact hqm), firstG_cons]
            generalize firstG wide S (bdS S i) ((mayL wide (bdS S i)).drop (q + 1)) = fo at *
            have hS2 := hS
            obtain ⟨ab3, cb3, _, _, _, _, _, hcb3, hxi3, _, hbk3, hst3, _, _, hB3⟩ := hS2
            have e0 := hbk3.at 0 rfl
            have e1 := hbk3.at 1 rfl
            have lt3 := hbk3.lt
            have hgms := hY.base.2
            have hW2 := hid (tmW_in hoki.out.1)
            have hL2 := hid (tmL_in (t := nth (mayL wide (bdS S i)) q) hoki.out.1)
            have hyl := hid ((length_movedL wide (bdS S i) (nth (mayL wide (bdS S i)) q)).trans hoki.out.2)
            have hokm := hid (boardOk_moved (t := nth (mayL wide (bdS S i)) q) hoki.out.1)
            have hclo := hid (hsr.out.clo i (nth (mayL wide (bdS S i)) q) hi (.inl hi) hcan.out)
            obtain ⟨t, htv⟩ : ∃ t, nth (mayL wide (bdS S i)) q = t := ⟨_, rfl⟩
            have HTV := hid htv
            rw [htv] at hcj hcan hdr hL2 hyl hokm hclo
            clear htv
            have hLr := hB3.size
            clear hbk3 hst3 hB3
            go_wp2_with fail
            go_upto_region 11 with fail
            go_cut [9, 10] (fun p _ wx => XSt2 wr w.heap.size wide n (movedL wide (bdS S i) t) p wx)
            case first =>
              have hn9 : n ≤ 17592186044416 := by omega
              go_region_held3 (fun w' => (∀ b o, b < wr.heap.size → w'.cell? ⟨b, o, none⟩ = wr.cell? ⟨b, o, none⟩) ∧ Below wr.heap.size wr w')
                (first | with_reducible exact sb_drew _ | with_reducible exact sb_ad _ _ | with_reducible exact sb_call ‹_› bt | with_reducible exact sb_alloc (sb_call (sb_drew _) bt) _ | with_reducible exact sb_set (sb_set ‹_› (Nat.le_refl _) _ _) (Nat.le_refl _) _ _ | with_reducible exact sb_alloc ‹_› _)
                (first | (go_at_call 46; refine (specTileMove_any wide ab3 (bdS S i) n cb3 t _ hoki.out.2 hn9 hcb3 (hxi3.below (sb_below ‹_›) (Nat.le_refl _))).mono fun e wt h => ?_; rw [hW2.out, hL2.out, hcan.out] at h; obtain ⟨ao_t, c_t, rfl, hc_t, t1, bt⟩ := h.to hyl.out; clear h; obtain ⟨hct, hft⟩ := bcell bt))
              all_goals rename_i hH
              · have bkd := Blk.new wt #[.int .i64 wide, .slice ao_t n c_t] 25
                have od := (t1.alloc (.cells #[.int .i64 wide, .slice ao_t n c_t] 25)).lower (B' := w.heap.size) (by first | exact hLr | (simp; omega))
                have b1 := hH.2
                clear hH hct hft t1 bt
                go_wp2_with fail
                go_meet
                exact XSt2.mk bkd hc_t od b1
              · have k0 : Blk ((wr.alloc (.cells #[.int .i64 0, .slice none 0 0] 25)).drew) wr.heap.size #[.int .i64 0, .slice none 0 0] 25 := Blk.new wr _ _
                have bkd : Blk _ wr.heap.size #[.int .i64 wide, .slice ao_t n c_t] 25 := ((k0.below bt (Nat.le_refl _)).set 0 (.int .i64 wide)).set 1 (.slice ao_t n c_t)
                have od := ((t1.setOther wr.heap.size 0 (.int .i64 wide) (t1.ne_of_lt (by simp))).setOther wr.heap.size 1 (.slice ao_t n c_t) (t1.ne_of_lt (by simp))).lower (B' := w.heap.size) (by simp; omega)
                have b1 := hH.2
                clear hH hct hft t1 bt k0
                go_wp2_with fail
                go_meet
                exact XSt2.mk bkd hc_t od b1
            case rest =>
              obtain ⟨gx, ay, cy, rfl, hbx, hcy, hoy, hBx⟩ := hcut
              have hS := hS.below hBx
              have hY := hY.below hBx (Nat.le_refl _)
              clear e0 e1 hcj hxi3 lt3 hBx
              obtain ⟨k, hk, hkb, _⟩ := hclo.out
              have hS2 := hS
              obtain ⟨ab4, cb4, _, _, _, _, _, hcb4, hxi4, _, hbk4, hst4, _, _, _⟩ := hS2
              have c1 := hbk4.at 1 rfl
              have x1 := hbx.at 1 rfl
              have hyi := hoy.ints
              have hry : rankL (movedL wide (bdS S i) t) < M := by have := rank_lt hyl.out; rw [HM.out] at this; exact this
              have hrx : rankL (bdS S i) < M := by rw [HR.out]; exact hrk
              have cy1 := hst4.cell (j := rankL (movedL wide (bdS S i) t)) (by rw [hln.out]; exact hry)
              have cx1 := hst4.cell (j := rankL (bdS S i)) (by rw [hln.out]; exact hrx)
              have hvy : Hid (nth (stL n S) (rankL (movedL wide (bdS S i) t)) = dpS S k) := by unfold Hid; rw [← hkb]; exact tab_at hsr.out hk
              have hvx : Hid (nth (stL n S) (rankL (bdS S i)) = (d : Int) + 1) := by unfold Hid; rw [HR.out, htab.out]; rfl
              rw [hvy.out] at cy1
              rw [hvx.out] at cx1
              have hb1 : ((rankL (movedL wide (bdS S i) t) : Nat) : Int) < M := by omega
              have hb2' : ((rankL (bdS S i) : Nat) : Int) < M := by omega
              have hdw : IntKind.i64.wrap ((d : Int) + 1 - 1) = d := by rw [IntWalk.i64_in _ (by omega)]; omega
              have hds : (d : Int) + 1 - 1 = d := by omega
              have hnr : Hid (nearS wide S (bdS S i) t = (dpS S k == (d : Int))) := by
                unfold Hid nearS
                rw [hcan.out, Bool.true_and, ← hkb, valS_in (hasS_iff.2 ⟨k, hk, rfl⟩), farS_at hsr.out hk, farS_at hsr.out hi, HDI.out, show ((d + 1 : Nat) : Int) - 1 = (d : Int) by omega]
              generalize dpS S k = ek at *
              clear hbk4 hst4 hoy hbx hkb hk
              cases hnv : (ek == (d : Int)) with
              | true =>
                have hfo : Hid (firstG wide S (bdS S i) ((mayL wide (bdS S i)).drop q) = t) := by unfold Hid; rw [hdr.out, hnr.out, hnv, if_pos rfl]
                go_wp2_with fail
                go_quiet ((first | (go_at_call 38; with_reducible exact quiet_qt (l3Rank_any ay (movedL wide (bdS S i) t) n cy _ hyl.out hl6 (hyi.drewN _))) | (go_at_call 38; with_reducible exact quiet_qt (l3Rank_any ab4 (bdS S i) n cb4 _ hoki.out.2 hl6 (hxi4.drewN _)))))
                have hS := hS.qt ⟨nq, rfl⟩
                have hcq := (hY.qt ⟨nq, rfl⟩ : Own (wc.drewN nq) _ _ _).cell (j := q) (by rw [hMM.out]; exact hqm)
                have hY := (hY.qt ⟨nq, rfl⟩ : Own (wc.drewN nq) _ _ _)
                rw [HTV.out] at hcq
                clear hyi hxi4 cy1 cx1 c1 x1
                generalize wc.drewN nq = wq at *
                go_wp2
                go_roundw
                case rel => exact ⟨(q : Int) - 1, q, by go_num, by omega, by omega, by rw [hfo.out], hS, hY⟩
                case measure => first | (simp [intOf]; done) | (simp [intOf]; omega)
              | false =>
                have hfo : Hid (firstG wide S (bdS S i) ((mayL wide (bdS S i)).drop q) = fo) := by unfold Hid; rw [hdr.out, hnr.out, hnv, if_neg (by decide)]
                go_wp2_with fail
                go_quiet ((first | (go_at_call 38; with_reducible exact quiet_qt (l3Rank_any ay (movedL wide (bdS S i) t) n cy _ hyl.out hl6 (hyi.drewN _))) | (go_at_call 38; with_reducible exact quiet_qt (l3Rank_any ab4 (bdS S i) n cb4 _ hoki.out.2 hl6 (hxi4.drewN _)))))
                have hS := hS.qt ⟨nq, rfl⟩
                have hY := (hY.qt ⟨nq, rfl⟩ : Own (wc.drewN nq) _ _ _)
                clear hyi hxi4 cy1 cx1 c1 x1
                generalize wc.drewN nq = wq at *
                go_wp2
                go_roundw
                case rel => exact ⟨(q : Int) - 1, q, by go_num, by omega, by omega, by rw [hfo.out], hS, hY⟩
                case measure => first | (simp [intOf]; done) | (simp [intOf]; omega)
          · obtain rfl : m = 0 := by omega
            have hdj : decide ((0 : Int) ≤ jx) = false := decide_eq_false hj0
            rw [List.drop_zero]
            have hnt : Hid (firstG wide S (bdS S i) (mayL wide (bdS S i)) = nextT wide S (bdS S i)) := rfl
            rw [hnt.out]
            obtain ⟨_, hcan', k, hk, hkb, hkd⟩ := hnsp.out
            rw [HDI.out] at hkd
            have hkd' : Hid (dpS S k = (d : Int)) := by unfold Hid; rw [hkd]; omega
            have HK := hid hkb
            have HC := hid hcan'
            have hW2 := hid (tmW_in hoki.out.1)
            have hL2 := hid (tmL_in (t := nextT wide S (bdS S i)) hoki.out.1)
            have hyl := hid ((length_movedL wide (bdS S i) (nextT wide S (bdS S i))).trans hoki.out.2)
            clear hkb hkd hcan' hY
            obtain ⟨t, htt⟩ : ∃ t, nextT wide S (bdS S i) = t := ⟨_, rfl⟩
            have HT := hid htt
            rw [htt] at HK HC hL2 hyl ⊢
            clear htt
            have hS2 := hS
            obtain ⟨ab3, cb3, _, _, _, _, _, hcb3, hxi3, _, hbk3, _, _, _, _⟩ := hS2
            have e0 := hbk3.at 0 rfl
            have e1 := hbk3.at 1 rfl
            clear hbk3
            go_wp2_with fail
            refine (specTileMove_any wide ab3 (bdS S i) n cb3 t wr hoki.out.2 (by omega) hcb3 hxi3).mono fun e wt2 h => ?_
            rw [hW2.out, hL2.out, HC.out] at h
            obtain ⟨ao_t, c_t, rfl, hc_t, t1, bt⟩ := h.to hyl.out
            clear h e0 e1 hxi3
            have bal := bt.alloc bt.size (.cells #[.int .i64 wide, .slice ao_t n c_t] 25)
            have b14 := Blk.new wt2 #[.int .i64 wide, .slice ao_t n c_t] 25
            have t1 := t1.alloc (.cells #[.int .i64 wide, .slice ao_t n c_t] 25)
            have f0 := b14.at 0 rfl
            have f1 := b14.at 1 rfl
            have hSb := hS.below bal
            have hS2 := hSb
            obtain ⟨ab5, cb5, _, _, _, _, _, _, _, _, hbk5, _, _, _, _⟩ := hS2
            have e0 := hbk5.at 0 rfl
            have e1 := hbk5.at 1 rfl
            have r0 := hbk5.free 0
            have r1 := hbk5.free 1
            have hmv := hS.move bal hk HK.out hkd'.out HT.out t1 (Nat.le_refl _) hc_t
            clear bt hbk5 b14 t1 hSb bal hS
            go_upto_region 15 with fail
            generalize (wt2.alloc (.cells #[.int .i64 wide, .slice ao_t n c_t] 25)) = wv at *
            go_wp2_with (at_builtin; refine wpList_appendV rfl _ _ rfl rfl hmv (by omega) rfl (by simp only [World.size_setCell]) ?_)
            intro v' w9 hfin
            have hle := hfin.len
            simp only [List.length_nil, Nat.add_zero] at hle
            have HFI := hid hfin
            clear hfin hmv f0 f1 e0 e1 r0 r1
            go_wp2
            go_roundw
            case rel => exact ⟨k, d, HFI.out⟩
            case measure => omega

end Go.Proofs.Ytfpckcmkikckgaa
