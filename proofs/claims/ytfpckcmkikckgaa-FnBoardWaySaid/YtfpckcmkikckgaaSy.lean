/- The walk of the program's BoardWay. -/
import Derived.Test.YtfpckcmkikckgaaSx
import Derived.Maps.AppendAt
namespace Go.Proofs.Ytfpckcmkikckgaa
open Go Go.RowKit

/-- A call that hands back a list of its own make, and a bool. -/
def RetIB (w : World) (xs : List Int) (ok : Bool) (e : Ending) (w' : World) : Prop :=
  ∃ ao c, e = .returned (.tuple #[.slice ao xs.length c, .bool ok]) ∧ Own w' w.heap.size (.slice ao xs.length c) xs ∧ Below w.heap.size w w'
theorem RetIB.mk {w w' : World} {xs : List Int} {ok : Bool} {ao : Option Addr} {n c : Nat} (hn : xs.length = n) (ho : Own w' w.heap.size (.slice ao n c) xs) (hb : Below w.heap.size w w') :
    RetIB w xs ok (.returned (.tuple #[.slice ao n c, .bool ok])) w' := by
  subst hn; exact ⟨ao, c, rfl, ho, hb⟩
theorem RetIB.to {w w' : World} {xs : List Int} {ok : Bool} {e : Ending} {n : Nat} (h : RetIB w xs ok e w') (hn : xs.length = n) :
    ∃ ao c, e = .returned (.tuple #[.slice ao n c, .bool ok]) ∧ Own w' w.heap.size (.slice ao n c) xs ∧ Below w.heap.size w w' := by
  subst hn; exact h

theorem Blk.neT {w : World} {g g' : Nat} {cs cs' : Array Value} {t t' : TypeId} (h : Blk w g cs t) (h' : Blk w g' cs' t') (ht : t ≠ t') : g ≠ g' := fun e => by
  subst e
  unfold Blk at h h'
  rw [h] at h'
  simp only [Option.some.injEq, Obj.cells.injEq] at h'
  exact ht h'.2.1
theorem Own.neT {w : World} {B g : Nat} {v : Value} {xs : List Int} {cs : Array Value} {t : TypeId} (h : Own w B v xs) (hb : Blk w g cs t) (ht : t ≠ 3) : v.ownBlock = none ∨ v.ownBlock ≠ some g := by
  rcases h.2 with ⟨rfl, _⟩ | ⟨g', cap, cur, rfl, _, hg, _⟩
  · exact .inl rfl
  · refine .inr fun e => ?_
    simp only [Value.ownBlock, Option.some.injEq] at e
    exact (Blk.neT hb (show Blk w g' cur 3 from hg) ht) e.symm
theorem MapS.neB {w : World} {b n g : Nat} {S : List (List Int × Int)} {cs : Array Value} {t : TypeId} (h : MapS w b n S) (hb : Blk w g cs t) : some b ≠ some g := fun e => by
  obtain ⟨D, ⟨es, clock, he, _⟩, _⟩ := h
  have e := Option.some.inj e
  subst e
  unfold Blk at hb
  rw [he] at hb
  simp at hb
theorem MapS.neO {w : World} {B b n : Nat} {v : Value} {xs : List Int} {S : List (List Int × Int)} (h : MapS w b n S) (ho : Own w B v xs) : some b ≠ v.ownBlock := fun e => by
  rcases ho.2 with ⟨rfl, _⟩ | ⟨g', cap, cur, rfl, _, hg, _⟩
  · simp [Value.ownBlock] at e
  · exact h.neB (show Blk w g' cur 3 from hg) e

def lenOf : Value → Nat
  | .slice _ n _ => n
  | _ => 0

/-- The state of the search for a way: board i of the search lies in the variable g10, the tiles moved so far are v. -/
def WSt (w : World) (wide : Int) (n D : Nat) (S : List (List Int × Int)) (xs0 : List Int) (g9 g10 bM i d : Nat) (v : Value) (wr : World) : Prop :=
  ∃ gn cn ws, i < S.length ∧ dpS S i = d ∧ Own wr w.heap.size v ws ∧ wayS wide S D xs0 = ws ++ wayS wide S d (bdS S i) ∧ n ≤ cn ∧ Own wr w.heap.size (.slice (some ⟨gn, 0, none⟩) n cn) (bdS S i) ∧ v.ownBlock ≠ some gn ∧
    Blk wr g10 #[.int .i64 wide, .slice (some ⟨gn, 0, none⟩) n cn] 25 ∧ Blk wr g9 #[.int .i64 (nth (ordL n) 0), .int .i64 (nth (ordL n) 1), .int .i64 (nth (ordL n) 2), .int .i64 (nth (ordL n) 3), .int .i64 (nth (ordL n) 4), .int .i64 (nth (ordL n) 5)] 53 ∧ MapS wr bM n S ∧ Below w.heap.size w wr

theorem WSt.below {w w1 w2 : World} {wide : Int} {n D : Nat} {S : List (List Int × Int)} {xs0 : List Int} {g9 g10 bM i d : Nat} {v : Value} (h : WSt w wide n D S xs0 g9 g10 bM i d v w1) (hb : Below w1.heap.size w1 w2) : WSt w wide n D S xs0 g9 g10 bM i d v w2 := by
  obtain ⟨gn, cn, ws, h1, h2, h3, h4, h5, h6, h7, h8, h9, h10, h11⟩ := h
  exact ⟨gn, cn, ws, h1, h2, h3.below hb (Nat.le_refl _), h4, h5, h6.below hb (Nat.le_refl _), h7, h8.below hb (Nat.le_refl _), h9.below hb (Nat.le_refl _), h10.below hb h10.lt, h11.trans (hb.mono h11.size)⟩

theorem WSt.size {w w1 : World} {wide : Int} {n D : Nat} {S : List (List Int × Int)} {xs0 : List Int} {g9 g10 bM i d : Nat} {v : Value} (h : WSt w wide n D S xs0 g9 g10 bM i d v w1) : w.heap.size ≤ w1.heap.size := by
  obtain ⟨_, _, _, _, _, _, _, _, _, _, _, _, _, hb⟩ := h
  exact hb.size

/-- What the state says, one by one. -/
theorem WSt.len {w wr : World} {wide : Int} {n D : Nat} {S : List (List Int × Int)} {xs0 : List Int} {g9 g10 bM i d : Nat} {v : Value} (h : WSt w wide n D S xs0 g9 g10 bM i d v wr) : lenOf v + d = D := by
  obtain ⟨gn, cn, ws, h1, h2, h3, h4, h5, h6, h7, h8, h9, h10, h11⟩ := h
  have e := congrArg List.length h4
  rw [List.length_append, length_wayS, length_wayS] at e
  obtain ⟨ao, c, rfl, _⟩ := h3.shape
  simp only [lenOf]
  omega

/-- A write into a block that is newer than all of it. -/
theorem WSt.grown {w w1 w2 w3 : World} {wide : Int} {n D g : Nat} {S : List (List Int × Int)} {xs0 : List Int} {g9 g10 bM i d : Nat} {v : Value} (h : WSt w wide n D S xs0 g9 g10 bM i d v w1) (hb : Below w1.heap.size w1 w2) (hg : w2.grownBy w3 (some g)) (hgn : w1.heap.size ≤ g) : WSt w wide n D S xs0 g9 g10 bM i d v w3 :=
  h.below (hb.grown hg hb.size (fun k hk => by have := Option.some.inj hk; omega))

/-- Behind the append, ahead of the store. -/
def WMid (w : World) (wide : Int) (n D : Nat) (S : List (List Int × Int)) (xs0 : List Int) (g9 g10 bM k d g2 c2 gx : Nat) (v : Value) (wr : World) : Prop :=
  ∃ ws gm cm, k < S.length ∧ dpS S k = d ∧ Own wr w.heap.size v ws ∧ wayS wide S D xs0 = ws ++ wayS wide S d (bdS S k) ∧ n ≤ c2 ∧ Own wr w.heap.size (.slice (some ⟨g2, 0, none⟩) n c2) (bdS S k) ∧ v.ownBlock ≠ some g2 ∧
    Blk wr g10 #[.int .i64 wide, .slice (some ⟨gm, 0, none⟩) n cm] 25 ∧ Blk wr gx #[.int .i64 wide, .slice (some ⟨g2, 0, none⟩) n c2] 25 ∧ Blk wr g9 #[.int .i64 (nth (ordL n) 0), .int .i64 (nth (ordL n) 1), .int .i64 (nth (ordL n) 2), .int .i64 (nth (ordL n) 3), .int .i64 (nth (ordL n) 4), .int .i64 (nth (ordL n) 5)] 53 ∧ MapS wr bM n S ∧ Below w.heap.size w wr ∧ w.heap.size ≤ g10

theorem neKB : 53 ≠ 25 := by decide
theorem neKI : 53 ≠ 3 := by decide

theorem WMid.store {w wr : World} {wide : Int} {n D : Nat} {S : List (List Int × Int)} {xs0 : List Int} {g9 g10 bM k d g2 c2 gx : Nat} {v : Value} (h : WMid w wide n D S xs0 g9 g10 bM k d g2 c2 gx v wr) :
    WSt w wide n D S xs0 g9 g10 bM k d v ((wr.setCell ⟨g10, 0, none⟩ (.int .i64 wide)).setCell ⟨g10, 1, none⟩ (.slice (some ⟨g2, 0, none⟩) n c2)) := by
  obtain ⟨ws, gm, cm, h1, h2, h3, h4, h5, h6, h7, h8, _, h9, h10, h11, h12⟩ := h
  have a1 := h3.setOther g10 0 (.int .i64 wide) (h3.neT h8 neBI)
  have a2 := h6.setOther g10 0 (.int .i64 wide) (h6.neT h8 neBI)
  have hb := h8.set 0 (.int .i64 wide)
  refine ⟨g2, c2, ws, h1, h2, a1.setOther g10 1 _ (h3.neT h8 neBI), h4, h5, a2.setOther g10 1 _ (h6.neT h8 neBI), h7, hb.set 1 _, (h9.setOther (h9.neT h8 neKB) 0 _).setOther (h9.neT h8 neKB) 1 _, ?_, ?_⟩
  · exact (h10.kept (grownBy_setCell wr g10 0 _) (h10.neB h8)).kept (grownBy_setCell _ g10 1 _) (h10.neB h8)
  · exact (h11.setCell (p := ⟨g10, 0, none⟩) h12 _).setCell (p := ⟨g10, 1, none⟩) h12 _

/-- A tile more on the way. -/
theorem wpList_appendW {ops : Array Oper} {rest : List Oper} {o : Oper} {a : Act} {Q : Exit → Act → World → Prop} {w wr : World} {wide t : Int} {n D : Nat} {S : List (List Int × Int)} {xs0 : List Int} {g9 g10 bM i d k L g2 c2 gx : Nat} {v : Value}
    (hgd : o.guard = none) (s x : Operand) (ho : o.op = .call { callee := .builtin .append, args := #[s, x], argTypes := #[23, 23] }) (hs : a.eval s = v)
    (h : WSt w wide n D S xs0 g9 g10 bM i (d + 1) v wr) (hD : D ≤ 1000) (hk : k < S.length) (hkb : bdS S k = movedL wide (bdS S i) t) (hkd : dpS S k = d) (hnt : nextT wide S (bdS S i) = t) (hg10 : w.heap.size ≤ g10)
    (hL : w.heap.size ≤ L) (hc2 : n ≤ c2) (hoy : Own wr L (.slice (some ⟨g2, 0, none⟩) n c2) (movedL wide (bdS S i) t)) (hvg : v.ownBlock ≠ some g2) (hbx : Blk wr gx #[.int .i64 wide, .slice (some ⟨g2, 0, none⟩) n c2] 25)
    (hx : a.eval x = .slice (some ⟨wr.heap.size, 0, none⟩) 1 1)
    (hK : ∀ v' w', WMid w wide n D S xs0 g9 g10 bM k d g2 c2 gx v' w' → wpList Try.prog ops Q rest (a.put o.dst v') w') :
    wpList Try.prog ops Q (o :: rest) a (wr.alloc (.cells #[.int .i64 t] 3)) := by
  have hlen := h.len
  have h' := h.below ((Below.refl wr.heap.size wr).alloc (Nat.le_refl _) (.cells #[.int .i64 t] 3))
  have hoy' := hoy.alloc (.cells #[.int .i64 t] 3)
  have hbx' := hbx.alloc (.cells #[.int .i64 t] 3)
  have hc := cell1 wr (.int .i64 t) 3
  have hg2l := hoy.base.2
  generalize hW : wr.alloc (.cells #[.int .i64 t] 3) = W at *
  have hsz : W.heap.size = wr.heap.size + 1 := by rw [← hW]; simp
  obtain ⟨gm, cm, ws, h1, h2, h3, h4, h5, h6, h7, h8, h9, h10, h11⟩ := h'
  obtain ⟨i0, hi, hz0, hz1, hz2⟩ := info_parts Try.infoInt
  have hlw : ws.length ≤ 1000 := by
    obtain ⟨ao, c, rfl, _⟩ := h3.shape
    simp only [lenOf] at hlen
    omega
  refine wpList_append_own_at W hgd s x 23 ho w.heap.size 3 i0 (.int .i64 0) 1 8 Try.underlying23 hi hz0 hz1 hz2 rfl (by decide) v ws.length (ws.map (Value.int .i64)) hs h3 ⟨wr.heap.size, 0, none⟩ 1 1 [.int .i64 t] hx rfl hc (cell1_one t) (by unfold maxLen; omega) (by omega) h11.size ?_
  intro v' w' hown' hgrow hnil hat
  have ho' : Own w' w.heap.size v' (ws ++ [t]) := Own.appended hown'
  have hne2 : v'.ownBlock ≠ some g2 := fun e => by
    rcases hat with e2 | e2
    · exact hvg (e2.symm.trans e)
    · rw [e2] at e
      have := Option.some.inj e
      omega
  have hne : ∀ {g : Nat} {cs : Array Value} {T : TypeId}, Blk W g cs T → T ≠ 3 → some g ≠ v.ownBlock := fun {g cs T} hb hT e => by
    rcases h3.neT hb hT with h | h
    · rw [h] at e; cases e
    · exact h e.symm
  refine hK v' w' ⟨ws ++ [t], gm, cm, hk, hkd, ho', ?_, hc2, ?_, hne2, h8.kept hgrow (hne h8 neBI), hbx'.kept hgrow (hne hbx' neBI), h9.kept hgrow (hne h9 neKI), h10.kept hgrow (h10.neO h3), ?_, hg10⟩
  · rw [h4, wayS_succ, hnt, hkb, List.append_assoc]; rfl
  · rw [hkb]
    exact (hoy'.kept hgrow (.inr fun e => hvg e.symm)).lower hL
  · exact h11.grown hgrow h11.size (fun q hq => (World.ownsRow.lt h3 q hq).1)

set_option maxRecDepth 100000 in
set_option maxHeartbeats 1000000 in
theorem implBoardWay_any (wide : Int) (ao : Option Addr) (xs : List Int) (n c : Nat) (w : World) (hn : xs.length = n) (hl : n ≤ 17592186044416) (hx : IntsAt w ao xs) :
    Calls Try.prog 15 #[.agg #[.int .i64 wide, .slice ao n c]] w (RetIB w (wayL wide xs) (wayB wide xs)) := by
  have HN := hid hn
  clear hn
  have B := (Below.refl w.heap.size w).alloc (Nat.le_refl _) (.cells #[.int .i64 wide, .slice ao n c] 25)
  have bk := Blk.new w #[.int .i64 wide, .slice ao n c] 25
  have hnil : Hid (leastI wide xs = -1 → wayL wide xs = [] ∧ wayB wide xs = false) := fun h => ⟨wayL_out (by omega), by unfold wayB; rw [h]; rfl⟩
  cases hv : boardB wide xs with
  | false =>
    have hfin := hid (hnil.out (leastI_out (wide := wide) (xs := xs) fun h => boardB_not.1 hv h.1))
    go_enter Try.func15, Try.ntmps15
    go_wp2_with fail
    generalize (w.alloc (.cells #[.int .i64 wide, .slice ao n c] 25)) = W at *
    refine (implBoardValid_any wide ao xs n c W HN.out hl (hx.below B (Nat.le_refl _))).mono fun e w1 h => ?_
    rw [hv] at h
    obtain ⟨rfl, b⟩ := h
    have B := B.trans (b.mono B.size)
    clear b bk
    go_wp2
    go_ret2
    rw [hfin.out.1, hfin.out.2]
    exact RetIB.mk rfl (Own.nil _ _) B
  | true =>
    have hok := hid (boardB_iff.1 hv)
    have hw1 : 1 ≤ wide := hok.out.2.2.1
    by_cases h6 : n ≤ 6
    rotate_left
    · have hfin := hid (hnil.out (leastI_out (wide := wide) (xs := xs) fun h => h6 (by have := h.2; rwa [HN.out] at this)))
      have hd : decide ((6 : Int) < n) = true := decide_eq_true (by omega)
      go_enter Try.func15, Try.ntmps15
      go_wp2_with fail
      generalize (w.alloc (.cells #[.int .i64 wide, .slice ao n c] 25)) = W at *
      refine (implBoardValid_any wide ao xs n c W HN.out hl (hx.below B (Nat.le_refl _))).mono fun e w1 h => ?_
      rw [hv] at h
      obtain ⟨rfl, b⟩ := h
      have B := B.trans (b.mono B.size)
      have bk := bk.below b (Nat.le_refl _)
      have e0 := bk.at 0 rfl
      have e1 := bk.at 1 rfl
      clear b bk
      go_wp2
      go_ret2
      rw [hfin.out.1, hfin.out.2]
      exact RetIB.mk rfl (Own.nil _ _) B
    · have hd : decide ((6 : Int) < n) = false := decide_eq_false (by omega)
      have hls : Hid (leastI wide xs = farS (allS wide n) xs) := by have := leastI_in hok.out (by rw [HN.out]; exact h6); rwa [HN.out] at this
      have hsd := sides6 hok.out (by rw [HN.out]; exact h6)
      rw [HN.out] at hsd
      have hwz : (wide == 0) = false := by simp; omega
      obtain ⟨tall, ht⟩ : ∃ tall, (n : Int) / wide = tall := ⟨_, rfl⟩
      rw [ht] at hsd
      have HS := hid hsd
      have hsr := hid (all_srch hsd.1 hsd.2)
      have hIn := hid (In6.of hok.out HN.out h6)
      have hS7 := Nat.le_trans hsr.out.len_le (fct_le h6)
      have htb : 1 ≤ tall ∧ tall ≤ 6 := hsd.1.2.1
      have hwe : Hid (wayL wide xs = if 0 ≤ farS (allS wide n) xs then wayS wide (allS wide n) (farS (allS wide n) xs).toNat xs else []) := by
        unfold Hid wayL; rw [hls.out, HN.out]
      have hbe : Hid (wayB wide xs = decide (0 ≤ farS (allS wide n) xs)) := by unfold Hid wayB; rw [hls.out]
      clear hsd hnil hls
      go_enter Try.func15, Try.ntmps15
      go_wp2_with fail
      generalize (w.alloc (.cells #[.int .i64 wide, .slice ao n c] 25)) = W at *
      refine (implBoardValid_any wide ao xs n c W HN.out hl (hx.below B (Nat.le_refl _))).mono fun e w1 h => ?_
      rw [hv] at h
      obtain ⟨rfl, b⟩ := h
      have B := B.trans (b.mono B.size)
      have bk := bk.below b (Nat.le_refl _)
      clear b hv
      have e0 := bk.at 0 rfl
      have e1 := bk.at 1 rfl
      go_wp2_with fail
      ((with_reducible refine (boardsFrom_any wide tall n _ HS.out.1 HS.out.2).mono ?_); intro e wt h)
      obtain ⟨g, cc, bM, rfl, ho, hm, hbm, bt⟩ := h
      have B := B.trans (bt.mono B.size)
      have bk := bk.below bt (Nat.le_refl _)
      clear e0 e1 bt ho hbm
      generalize allS wide n = S at *
      have e0 := bk.at 0 rfl
      have e1 := bk.at 1 rfl
      go_wp2_with fail
      refine (placesOf_any ao xs n c wt HN.out h6 (hx.below B (Nat.le_refl _))).mono fun e w5 h => ?_
      obtain ⟨rfl, b⟩ := h
      have hml := hm.lt
      have hm5 := hm.below b hml
      have B := B.trans (b.mono B.size)
      have bk := bk.below b (Nat.le_refl _)
      have hlk := hm5.lookOk hIn.out
      clear b e0 e1 hm hml
      unfold keyV at hlk ⊢
      have e0 := bk.at 0 rfl
      have e1 := bk.at 1 rfl
      cases hsn : hasS S xs with
      | false =>
        have hfa := farS_no hsn
        rw [hsn] at hlk
        have hw2 : Hid (wayL wide xs = []) := by unfold Hid; rw [hwe.out, hfa]; rfl
        have hb2 : Hid (wayB wide xs = false) := by unfold Hid; rw [hbe.out, hfa]; rfl
        clear hsn hfa
        go_wp2
        go_ret2
        rw [hw2.out, hb2.out]
        exact RetIB.mk rfl (Own.nil _ _) B
      | true =>
        obtain ⟨i0, hi0, hbi⟩ := hasS_iff.1 hsn
        have hfa := farS_at hsr.out hi0
        rw [hbi] at hfa
        have hdp := dep_pos hsr.out hi0
        have hdl := dep_le hsr.out i0 hi0
        obtain ⟨D, hD⟩ : ∃ D : Nat, dpS S i0 = D := Int.eq_ofNat_of_zero_le hdp
        have hD7 : D ≤ 720 := by omega
        have hw2 : Hid (wayL wide xs = wayS wide S D xs) := by unfold Hid; rw [hwe.out, hfa, hD, if_pos (by omega)]; rfl
        have hb2 : Hid (wayB wide xs = true) := by unfold Hid; rw [hbe.out, hfa, hD]; exact decide_eq_true (by omega)
        rw [hsn] at hlk
        have HBI := hid hbi
        have HD := hid hD
        clear hsn hfa hbi hD hdp hdl hwe hbe
        have hs9 : SidesOk 9 wide tall := ⟨⟨HS.out.1.1.1, by have := HS.out.1.1.2; omega⟩, ⟨HS.out.1.2.1.1, by have := HS.out.1.2.1.2; omega⟩, HS.out.1.2.2.1, by have := HS.out.1.2.2.2; omega⟩
        have hdW := hid (doneW_in hs9)
        have hdL := hid (doneL_in hs9 HS.out.2)
        have hord := hid (sides_ord (by omega) HS.out.1 HS.out.2)
        have hInO := hid (In6.of hord.out.1 hord.out.2.1 h6)
        have hn2 : 2 ≤ n := hord.out.2.2.1
        clear hs9
        go_wp2_with fail
        refine (implBoardDone_any wide tall w5).mono fun e w6 h => ?_
        rw [hdW.out, hdL.out] at h
        obtain ⟨aod, cd, rfl, hcd, od, b⟩ := h.to (n := n) hord.out.2.1
        have hm6 := hm5.below b hm5.lt
        have B := B.trans (b.mono B.size)
        have bk := bk.below b (Nat.le_refl _)
        clear b e0 e1 h hm5 hlk
        have hfd : ∀ w, (Instr.field 25 (.agg #[.int .i64 wide, .slice aod n cd]) 1).run Try.prog w = .ok (.slice aod n cd) w := fun _ => by kernel_rfl
        go_wp2_with fail
        refine (placesOf_any aod (ordL n) n cd w6 hord.out.2.1 h6 od.ints).mono fun e w7 h => ?_
        obtain ⟨rfl, b⟩ := h
        have hm7 := hm6.below b hm6.lt
        have B := B.trans (b.mono B.size)
        have bk := bk.below b (Nat.le_refl _)
        clear b od hfd hm6
        unfold keyV
        have e0 := bk.at 0 rfl
        have e1 := bk.at 1 rfl
        have b9 := Blk.new w7 #[.int .i64 (nth (ordL n) 0), .int .i64 (nth (ordL n) 1), .int .i64 (nth (ordL n) 2), .int .i64 (nth (ordL n) 3), .int .i64 (nth (ordL n) 4), .int .i64 (nth (ordL n) 5)] 53
        have ba := (Below.refl w7.heap.size w7).alloc (Nat.le_refl _) (.cells #[.int .i64 (nth (ordL n) 0), .int .i64 (nth (ordL n) 1), .int .i64 (nth (ordL n) 2), .int .i64 (nth (ordL n) 3), .int .i64 (nth (ordL n) 4), .int .i64 (nth (ordL n) 5)] 53)
        have hm8 := hm7.below ba hm7.lt
        have B := B.trans (ba.mono B.size)
        have bk := bk.below ba (Nat.le_refl _)
        have e0' := bk.at 0 rfl
        have e1' := bk.at 1 rfl
        clear hm7 ba
        go_wp2_with fail
        generalize w7.alloc (.cells #[.int .i64 (nth (ordL n) 0), .int .i64 (nth (ordL n) 1), .int .i64 (nth (ordL n) 2), .int .i64 (nth (ordL n) 3), .int .i64 (nth (ordL n) 4), .int .i64 (nth (ordL n) 5)] 53) = w8 at *
        refine (boardCopy_any wide ao xs n c w8 HN.out (by omega) (hx.below B (Nat.le_refl _))).mono fun e w9 h => ?_
        obtain ⟨an, cn, rfl, hcn, on, b⟩ := h.to HN.out
        clear h e0 e1 e0' e1' bk
        have hm9 := hm8.below b hm8.lt
        have b9 := b9.below b (Nat.le_refl _)
        have hBs := B.size
        have hB9s := b.size
        have B := B.trans (b.mono B.size)
        clear b hm8
        obtain ⟨gn, rfl⟩ := on.addr (by rw [HN.out]; have := hok.out.1; rw [HN.out] at this; omega)
        go_wp2_with fail
        have b10 := Blk.new w9 #[.int .i64 wide, .slice (some ⟨gn, 0, none⟩) n cn] 25
        have bb := (Below.refl w9.heap.size w9).alloc (Nat.le_refl _) (.cells #[.int .i64 wide, .slice (some ⟨gn, 0, none⟩) n cn] 25)
        have hst : WSt w wide n D S xs w7.heap.size w9.heap.size bM i0 D (.slice none 0 0) (w9.alloc (.cells #[.int .i64 wide, .slice (some ⟨gn, 0, none⟩) n cn] 25)) :=
          ⟨gn, cn, [], hi0, HD.out, Own.nil _ _, by rw [HBI.out]; rfl, hcn, by rw [HBI.out]; exact (on.lower hBs).below bb (Nat.le_refl _), by simp [Value.ownBlock], b10, b9.below bb (Nat.le_refl _), hm9.below bb hm9.lt, B.trans (bb.mono B.size)⟩
        clear on hm9 b9 B bb b10 hcn
        generalize (w9.alloc (.cells #[.int .i64 wide, .slice (some ⟨gn, 0, none⟩) n cn] 25)) = wA at *
        have hG10 : Hid (w.heap.size ≤ w9.heap.size) := Nat.le_trans hBs hB9s
        generalize w7.heap.size = g9 at *
        generalize w9.heap.size = g10 at *
        go_loopw [11, 12, 13, 14] (fun v _ _ _ wi => ∃ i d, WSt w wide n D S xs g9 g10 bM i d v wi) (fun v _ _ _ _ => D - lenOf v)
        case atStart => exact ⟨i0, D, hst⟩
        case round =>
          obtain ⟨i, d, hS⟩ := hrel
          clear hst
          have hlen := hS.len
          have hS2 := hS
          obtain ⟨gm, cm, ws, hi, hdi, hws, hway, hcm, hon, hne, hb10, hb9, hmp, hB⟩ := hS2
          have hoki := hid (hsr.out.ok i hi)
          have hIi := hid (In6.of hoki.out.1 hoki.out.2 h6)
          have hoi := hon.ints
          have HDI := hid hdi
          have HWS := hid hws
          have HWAY := hid hway
          have c10 := hb10.at 1 rfl
          have k0 := hb9.at 0 rfl
          have k1 := hb9.at 1 rfl
          have k2 := hb9.at 2 rfl
          have k3 := hb9.at 3 rfl
          have k4 := hb9.at 4 rfl
          have k5 := hb9.at 5 rfl
          have l10 := hb10.lt
          have l9 := hb9.lt
          have hnq := fun w => neqK hIi.out hInO.out w
          unfold keyV at hnq
          have hgd := eqGuardK
          clear hdi hws hway hon hb10 hb9 hB hmp
          go_wp2_with fail
          have hz : d = 0 ↔ eqL (bdS S i) (ordL n) = true := by
            unfold eqL
            rw [decide_eq_true_iff]
            constructor
            · intro e
              have := (dep_zero hsr.out hi).1 (by rw [HDI.out, e]; rfl)
              rw [this]; exact hsr.out.zero.1
            · intro e
              have : i = 0 := hsr.out.one i 0 hi hsr.out.pos (by rw [e, hsr.out.zero.1])
              have h0 := (dep_zero hsr.out hi).2 this
              rw [HDI.out] at h0
              omega
          cases heq : eqL (bdS S i) (ordL n) with
          | true =>
            have hd0 := hz.2 heq
            subst hd0
            rw [heq] at hnq
            clear hz heq
            go_region_held3 (fun w' => (∀ b o, b < wr.heap.size → w'.cell? ⟨b, o, none⟩ = wr.cell? ⟨b, o, none⟩) ∧ Below wr.heap.size wr w')
              (first | with_reducible exact sb_drew _ | with_reducible exact sb_call ‹_› bt)
              (first | (go_at_call 36; refine (placesOf_any (some ⟨gm, 0, none⟩) (bdS S i) n cm _ hoki.out.2 h6 (hoi.below (sb_below ‹_›) (Nat.le_refl _))).mono fun e wt h => ?_; unfold keyV at h; obtain ⟨rfl, bt⟩ := h))
            rename_i hH
            have hS2 := hS.below hH.2
            obtain ⟨_, _, ws2, _, _, hws2, hway2, _, _, _, _, _, _, hB2⟩ := hS2
            obtain ⟨aw, cw, rfl, _⟩ := hws2.shape
            have hwl : Hid (wayL wide xs = ws2) := by unfold Hid; rw [hw2.out, hway2]; simp [wayS]
            have hfin := hid (RetIB.mk (w := w) (ok := true) rfl hws2 hB2)
            clear hH bt hS hws2 hway2 hB2 hnq
            go_wp2
            go_ret2
            rw [hwl.out, hb2.out]
            exact hfin.out
          | false =>
            have hd0 : 0 < d := by
              rcases Nat.eq_zero_or_pos d with e | e
              · have := hz.1 e; rw [heq] at this; cases this
              · exact e
            obtain ⟨d, rfl⟩ : ∃ d', d = d' + 1 := ⟨d - 1, by omega⟩
            rw [heq] at hnq
            clear hz heq
            go_region_held3 (fun w' => (∀ b o, b < wr.heap.size → w'.cell? ⟨b, o, none⟩ = wr.cell? ⟨b, o, none⟩) ∧ Below wr.heap.size wr w')
              (first | with_reducible exact sb_drew _ | with_reducible exact sb_call ‹_› bt)
              (first | (go_at_call 36; refine (placesOf_any (some ⟨gm, 0, none⟩) (bdS S i) n cm _ hoki.out.2 h6 (hoi.below (sb_below ‹_›) (Nat.le_refl _))).mono fun e wt h => ?_; unfold keyV at h; obtain ⟨rfl, bt⟩ := h))
            rename_i hH
            have hS := hS.below hH.2
            have hoi := hoi.below hH.2 (Nat.le_refl _)
            have hS2 := hS
            obtain ⟨_, _, _, _, _, _, _, _, _, _, hb10, _, _, _⟩ := hS2
            clear hH bt hnq k0 k1 k2 k3 k4 k5 c10 l10 l9 hgd
            have hS2 := hS
            obtain ⟨gm2, cm2, ws2, _, _, _, _, hcm2, hon2, _, hb10, _, _, _⟩ := hS2
            have c10 := hb10.at 1 rfl
            clear hb10
            go_wp2_with fail
            refine (placesOf_any (some ⟨gm2, 0, none⟩) (bdS S i) n cm2 wt hoki.out.2 h6 hon2.ints).mono fun e wu h => ?_
            obtain ⟨rfl, b⟩ := h
            have hS := hS.below b
            have hS2 := hS
            obtain ⟨_, _, _, _, _, _, _, _, _, _, _, _, hmp, _⟩ := hS2
            have hlk := hmp.look hIi.out
            have hvx : valS S (bdS S i) = (d : Int) + 1 := by rw [valS_in (hasS_iff.2 ⟨i, hi, rfl⟩), farS_at hsr.out hi]; exact HDI.out
            rw [hvx] at hlk
            clear hmp b c10 hon2 hvx
            unfold keyV at hlk ⊢
            go_wp2_with fail
            clear hlk
            have hnsp := hid (next_spec hsr.out hi (by rw [HDI.out]; omega))
            have hdD : d + 1 ≤ D := by omega
            have hneq := hid (fun t h1 h2 => next_eq (S := S) (t := t) hoki.out.1 h1 h2)
            have hg10 : Hid (w.heap.size ≤ g10) := hG10
            clear hoi hIi
            go_loopw [11, 13, 14] (fun v tv _ wi => v = u11 ∧ ∃ j : Nat, tv = .int .i64 ((j : Int) + 1) ∧ j + 1 ≤ n ∧ Hid (∀ u : Int, 1 ≤ u → u ≤ j → nearS wide S (bdS S i) u = false) ∧ WSt w wide n D S xs g9 g10 bM i (d + 1) u11 wi) (fun _ tv _ _ => n + 1 - (intOf tv).toNat)
            case atStart => exact ⟨rfl, 0, rfl, by omega, fun u h1 h2 => absurd h1 (by have h3 : u ≤ 0 := h2; omega), hS⟩
            case round =>
              obtain ⟨rfl, j, rfl, hj, hno, hS⟩ := hrel
              have hS2 := hS
              obtain ⟨gm3, cm3, ws3, _, _, hw3, _, hcm3, hon3, _, hb10, _, _, _⟩ := hS2
              have e0 := hb10.at 0 rfl
              have e1 := hb10.at 1 rfl
              clear hb10
              have hwbl : ∀ k, u11.ownBlock = some k → k < wr.heap.size := fun k hk => (World.ownsRow.lt hw3 k hk).2
              by_cases hjn : j + 1 < n
              · have hdj : decide ((j : Int) + 1 < n) = true := decide_eq_true (by omega)
                go_wp2_with fail
                refine (boardCopy_any wide (some ⟨gm3, 0, none⟩) (bdS S i) n cm3 wr hoki.out.2 (by omega) hon3.ints).mono fun e w1 h => ?_
                obtain ⟨ao2, c2, rfl, hc2, o2, b⟩ := h.to hoki.out.2
                clear h e0 e1 hon3 hw3
                obtain ⟨g2, rfl⟩ := o2.addr (by rw [hoki.out.2]; omega)
                have hg2 := o2.base.1
                have bal := b.alloc b.size (.cells #[.int .i64 wide, .slice (some ⟨g2, 0, none⟩) n c2] 25)
                have b14 := Blk.new w1 #[.int .i64 wide, .slice (some ⟨g2, 0, none⟩) n c2] 25
                have o2 := o2.alloc (.cells #[.int .i64 wide, .slice (some ⟨g2, 0, none⟩) n c2] 25)
                have f0 := b14.at 0 rfl
                have f1 := b14.at 1 rfl
                clear b
                go_wp2_with fail
                generalize (w1.alloc (.cells #[.int .i64 wide, .slice (some ⟨g2, 0, none⟩) n c2] 25)) = w2 at *
                refine (moveTile_own wide g2 n c2 wr.heap.size (bdS S i) ((j : Int) + 1) w2 hoki.out.2 hoki.out.1 o2).mono fun e w3 h => ?_
                obtain ⟨rfl, o3, hg3⟩ := h
                have hS3 := hS.grown bal hg3 hg2
                have b14' := b14.kept hg3 (fun e => by
                  rcases o2.neT b14 neBI with h | h
                  · cases h
                  · exact h e.symm)
                clear f0 f1 b14 o2 bal hg3
                cases hc : canB wide (bdS S i) ((j : Int) + 1) with
                | false =>
                  have hno2 : Hid (∀ u : Int, 1 ≤ u → u ≤ ((j + 1 : Nat) : Int) → nearS wide S (bdS S i) u = false) := fun u h1 h2 => by
                    by_cases e : u = (j : Int) + 1
                    · rw [e]; unfold nearS; rw [hc]; rfl
                    · exact hno.out u h1 (by omega)
                  clear hc
                  go_wp2
                  go_roundw
                  case rel => exact ⟨rfl, j + 1, by go_num, by omega, hno2, hS3⟩
                  case measure => simp [intOf]; omega
                | true =>
                  have hc2' := hid hc
                  have hIy : Hid (In6 n (movedL wide (bdS S i) ((j : Int) + 1))) := In6.of (boardOk_moved hoki.out.1) (by rw [length_movedL]; exact hoki.out.2) h6
                  have hly : Hid ((movedL wide (bdS S i) ((j : Int) + 1)).length = n) := hIy.out.2.2
                  clear hc
                  have f0 := b14'.at 0 rfl
                  have f1 := b14'.at 1 rfl
                  go_wp2_with fail
                  refine (placesOf_any (some ⟨g2, 0, none⟩) (movedL wide (bdS S i) ((j : Int) + 1)) n c2 w3 hly.out h6 o3.ints).mono fun e w4 h => ?_
                  obtain ⟨rfl, b4⟩ := h
                  have hS4 := hS3.below b4
                  have o4 := o3.below b4 (Nat.le_refl _)
                  have b14 := b14'.below b4 (Nat.le_refl _)
                  have hS2 := hS4
                  obtain ⟨_, _, _, _, _, _, _, _, _, _, hb10, _, hmp, _⟩ := hS2
                  have hlk := hmp.look hIy.out
                  have hl4 : wr.heap.size ≤ w4.heap.size := Nat.le_trans hg2 (Nat.le_of_lt o4.base.2)
                  have hdw : IntKind.i64.wrap ((d : Int) + 1 - 1) = d := by rw [IntWalk.i64_in _ (by omega)]; omega
                  have hds : (d : Int) + 1 - 1 = d := by omega
                  have hfx : Hid (farS S (bdS S i) = (d : Int) + 1) := by unfold Hid; rw [farS_at hsr.out hi]; exact HDI.out
                  clear hmp b4 f0 f1 b14' o3 hS3
                  unfold keyV at hlk ⊢
                  cases hnr : (valS S (movedL wide (bdS S i) ((j : Int) + 1)) == (d : Int)) with
                  | false =>
                    have hno2 : Hid (∀ u : Int, 1 ≤ u → u ≤ ((j + 1 : Nat) : Int) → nearS wide S (bdS S i) u = false) := fun u h1 h2 => by
                      by_cases e : u = (j : Int) + 1
                      · rw [e]; unfold nearS; rw [hc2'.out, hfx.out, hds, hnr]; rfl
                      · exact hno.out u h1 (by omega)
                    clear hb10
                    generalize valS S (movedL wide (bdS S i) ((j : Int) + 1)) = vl at *
                    go_wp2
                    go_roundw
                    case rel => exact ⟨rfl, j + 1, by go_num, by omega, hno2, hS4⟩
                    case measure => simp [intOf]; omega
                  | true =>
                    have hnt : nextT wide S (bdS S i) = (j : Int) + 1 := hneq.out _ (by unfold nearS; rw [hc2'.out, hfx.out, hds, hnr]; rfl) (fun u h1 h2 => hno.out u h1 (by omega))
                    obtain ⟨_, _, k, hk, hkb, hkd⟩ := hnsp.out
                    rw [hnt] at hkb
                    rw [HDI.out] at hkd
                    have hkd' : Hid (dpS S k = (d : Int)) := by unfold Hid; rw [hkd]; omega
                    have HK := hid hkb
                    have HNT := hid hnt
                    clear hkb hnt hkd
                    generalize valS S (movedL wide (bdS S i) ((j : Int) + 1)) = vl at *
                    have hvg : Hid (u11.ownBlock ≠ some g2) := fun e => by have := hwbl g2 e; omega
                    have hWl : w.heap.size ≤ wr.heap.size := hS.size
                    go_wp2_with (at_builtin; refine wpList_appendW rfl _ _ rfl rfl hS4 (by omega) hk HK.out hkd'.out HNT.out hg10.out hWl hc2 o4 hvg.out b14 rfl ?_)
                    intro v' w5 hmid
                    have hm2 := hmid
                    obtain ⟨_, gm5, cm5, _, _, _, _, _, _, _, hb10', hbx', _⟩ := hm2
                    have t0 := hbx'.at 0 rfl
                    have t1 := hbx'.at 1 rfl
                    have s0 := hb10'.at 0 rfl
                    have s1 := hb10'.at 1 rfl
                    have r0 := hb10'.free 0
                    have r1 := hb10'.free 1
                    have hfin := hmid.store
                    have hle := hfin.len
                    have HFI := hid hfin
                    clear hmid hb10' hbx' hfin hS4 o4 b14
                    go_wp2
                    go_roundw
                    case rel => exact ⟨k, d, HFI.out⟩
                    case measure => omega
              · exfalso
                obtain rfl : j = n - 1 := by omega
                have hb := can_bound hoki.out.1 hnsp.out.2.1
                rw [hoki.out.2] at hb
                have := hno.out _ hb.1 (by omega)
                rw [hnsp.out.1] at this
                cases this

end Go.Proofs.Ytfpckcmkikckgaa
