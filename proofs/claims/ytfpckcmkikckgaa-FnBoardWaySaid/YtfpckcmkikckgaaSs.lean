/- The walk of l3Steps. -/
import Derived.Test.YtfpckcmkikckgaaSq
import Derived.Test.YtfpckcmkikckgaaSn
import Derived.Test.YtfpckcmkikckgaaTg
import Derived.Deep.RegionHeld3
import Derived.Deep.DeepCutAuto
namespace Go.Proofs.Ytfpckcmkikckgaa
open Go Go.RowKit

theorem fct_step {k : Nat} (h : 1 ≤ k) : fct (k - 1) * k = fct k := by
  obtain ⟨j, rfl⟩ : ∃ j, k = j + 1 := ⟨k - 1, by omega⟩
  rw [Nat.add_sub_cancel, fct, Nat.mul_comm]

theorem Own.ptr {w : World} {B n : Nat} {v : Value} {xs : List Int} (h : Own w B v xs) (hn : xs.length = n) (h0 : 0 < n) : ∃ g c, v = .slice (some ⟨g, 0, none⟩) n c ∧ n ≤ c := by
  obtain ⟨ao, c, rfl, _, hc⟩ := h.shapeN hn
  obtain ⟨g, rfl⟩ := h.addr (by omega)
  exact ⟨g, c, rfl, hc⟩

theorem OwnQ.first {w : World} {B g n c : Nat} {wide d : Int} {ao : Option Addr} {xs : List Int} (hb : Blk w g #[.int .i64 wide, .slice ao n c] 25) (hBg : B ≤ g) (ho : Own w B (.slice ao n c) xs) (hnc : n ≤ c) :
    OwnQ w B wide n (.slice (some ⟨g, 0, none⟩) 1 1) [(xs, d)] := by
  refine ⟨[(ao, c)], rfl, ⟨rfl, .inr ⟨g, 1, _, rfl, hBg, hb, Nat.le_refl _, by unfold maxLen; simp, rfl, rfl⟩⟩, fun i hi => ?_⟩
  obtain rfl : i = 0 := by simpa using hi
  exact ⟨ho, hnc⟩

theorem board_new {w : World} {wide : Int} {ao : Option Addr} {n c : Nat} : Blk (w.alloc (.cells #[.int .i64 wide, .slice ao n c] 25)) w.heap.size #[.int .i64 wide, .slice ao n c] 25 := Blk.new _ _ _

theorem setCell_setCell (w : World) (blk off : Nat) (v v' : Value) : (w.setCell ⟨blk, off, none⟩ v).setCell ⟨blk, off, none⟩ v' = w.setCell ⟨blk, off, none⟩ v' := by
  simp only [World.setCell]
  congr 1
  refine Array.ext_getElem? fun i => ?_
  simp only [Array.getElem?_modify]
  by_cases h : blk = i
  · rw [if_pos h, if_pos h, if_pos h]
    cases hw : w.heap[i]? with
    | none => rfl
    | some o => cases o <;> first | rfl | simp
  · rw [if_neg h, if_neg h, if_neg h]

/-! A drawn region that loads beside calls that only read, and then stores at place r of block g7. -/
/-- What stands at a place. -/
def cvW (g7 r : Nat) (w : World) : Value := (w.cell? ⟨g7, r, none⟩).getD undef
theorem cvW_of {g7 r : Nat} {w : World} (h : (w.cell? ⟨g7, r, none⟩).isSome = true) : w.cell? ⟨g7, r, none⟩ = some (cvW g7 r w) := by
  unfold cvW
  cases e : w.cell? ⟨g7, r, none⟩ with
  | none => rw [e] at h; simp at h
  | some v => rfl
def StW (W : World) (g7 r : Nat) (e : Int) (w' : World) : Prop := Qt W w' ∨ ∃ w0, Qt W w0 ∧ w' = w0.setCell ⟨g7, r, none⟩ (.int .i64 e)
theorem st_drew {W : World} {g7 r r2 : Nat} {d e x : Int} (h2 : W.cell? ⟨g7, r2, none⟩ = some (.int .i64 d)) (h3 : W.cell? ⟨g7, r, none⟩ = some (.int .i64 x)) (h4 : W.frozen? ⟨g7, r, none⟩ = false) : (∀ b o, b < W.heap.size → b ≠ g7 → W.drew.cell? ⟨b, o, none⟩ = W.cell? ⟨b, o, none⟩) ∧ W.drew.cell? ⟨g7, r2, none⟩ = some (.int .i64 d) ∧ W.drew.cell? ⟨g7, r, none⟩ = some (cvW g7 r W.drew) ∧ W.drew.frozen? ⟨g7, r, none⟩ = false ∧ StW W g7 r e W.drew :=
  ⟨fun _ _ _ _ => rfl, h2, cvW_of (by show (W.cell? _).isSome = true; rw [h3]; rfl), h4, .inl ⟨1, rfl⟩⟩
theorem st_call {W w0 w1 : World} {g7 r r2 : Nat} {d e : Int} (h : (∀ b o, b < W.heap.size → b ≠ g7 → w0.cell? ⟨b, o, none⟩ = W.cell? ⟨b, o, none⟩) ∧ w0.cell? ⟨g7, r2, none⟩ = some (.int .i64 d) ∧ w0.cell? ⟨g7, r, none⟩ = some (cvW g7 r w0) ∧ w0.frozen? ⟨g7, r, none⟩ = false ∧ StW W g7 r e w0) (hq : Qt w0 w1) : (∀ b o, b < W.heap.size → b ≠ g7 → w1.cell? ⟨b, o, none⟩ = W.cell? ⟨b, o, none⟩) ∧ w1.cell? ⟨g7, r2, none⟩ = some (.int .i64 d) ∧ w1.cell? ⟨g7, r, none⟩ = some (cvW g7 r w1) ∧ w1.frozen? ⟨g7, r, none⟩ = false ∧ StW W g7 r e w1 := by
  obtain ⟨q, rfl⟩ := hq
  obtain ⟨h1, h2, h3, h4, h5⟩ := h
  refine ⟨h1, h2, h3, h4, ?_⟩
  rcases h5 with ⟨a, rfl⟩ | ⟨w2, ⟨a, rfl⟩, rfl⟩
  · exact .inl ⟨a + q, by rw [World.drewN_drewN]⟩
  · exact .inr ⟨W.drewN (a + q), ⟨a + q, rfl⟩, by rw [← World.drewN_drewN]; rfl⟩
theorem IntsAt.st {W w0 : World} {g7 r r2 : Nat} {d e : Int} {ao : Option Addr} {xs : List Int} (h : IntsAt W ao xs) (hS : (∀ b o, b < W.heap.size → b ≠ g7 → w0.cell? ⟨b, o, none⟩ = W.cell? ⟨b, o, none⟩) ∧ w0.cell? ⟨g7, r2, none⟩ = some (.int .i64 d) ∧ w0.cell? ⟨g7, r, none⟩ = some (cvW g7 r w0) ∧ w0.frozen? ⟨g7, r, none⟩ = false ∧ StW W g7 r e w0) (hne : ∀ x, ao = some x → x.block ≠ g7) : IntsAt w0 ao xs := by
  intro h0
  obtain ⟨b, off, rfl, hc⟩ := h h0
  refine ⟨b, off, rfl, fun j hj => ?_⟩
  have hcj := hc j hj
  rw [hS.1 b _ (World.block_lt_of_cell? _ _ hcj) (hne _ rfl)]
  exact hcj
theorem st_store {W w0 : World} {g7 r r2 : Nat} {d e : Int} (h : (∀ b o, b < W.heap.size → b ≠ g7 → w0.cell? ⟨b, o, none⟩ = W.cell? ⟨b, o, none⟩) ∧ w0.cell? ⟨g7, r2, none⟩ = some (.int .i64 d) ∧ w0.cell? ⟨g7, r, none⟩ = some (cvW g7 r w0) ∧ w0.frozen? ⟨g7, r, none⟩ = false ∧ StW W g7 r e w0) (hne : r2 ≠ r) : (∀ b o, b < W.heap.size → b ≠ g7 → (w0.setCell ⟨g7, r, none⟩ (.int .i64 e)).cell? ⟨b, o, none⟩ = W.cell? ⟨b, o, none⟩) ∧ (w0.setCell ⟨g7, r, none⟩ (.int .i64 e)).cell? ⟨g7, r2, none⟩ = some (.int .i64 d) ∧ (w0.setCell ⟨g7, r, none⟩ (.int .i64 e)).cell? ⟨g7, r, none⟩ = some (cvW g7 r (w0.setCell ⟨g7, r, none⟩ (.int .i64 e))) ∧ (w0.setCell ⟨g7, r, none⟩ (.int .i64 e)).frozen? ⟨g7, r, none⟩ = false ∧ StW W g7 r e (w0.setCell ⟨g7, r, none⟩ (.int .i64 e)) := by
  obtain ⟨h1, h2, h3, h4, h5⟩ := h
  have hc : ∀ b o, (b ≠ g7 ∨ o ≠ r) → (w0.setCell ⟨g7, r, none⟩ (.int .i64 e)).cell? ⟨b, o, none⟩ = w0.cell? ⟨b, o, none⟩ := fun b o hb => by
    by_cases e1 : b = g7
    · subst e1
      have ho : o ≠ r := by rcases hb with hb | hb; exact absurd rfl hb; exact hb
      exact World.cell?_setCell_other (h := fun e => by simp only [Addr.mk.injEq] at e; exact ho e.2.1.symm) ..
    · simp only [World.cell?]
      rw [Below.heap_setCell _ _ _ _ e1]
  have hs := cvW_of (g7 := g7) (r := r) (w := w0.setCell ⟨g7, r, none⟩ (.int .i64 e)) (by rw [World.cell?_setCell_same' w0 _ _ (by rw [h3]; rfl)]; rfl)
  refine ⟨fun b o hb hg => (hc b o (.inl hg)).trans (h1 b o hb hg), (hc _ _ (.inr hne)).trans h2, hs, ?_, ?_⟩
  · rw [World.frozen?_setCell]; exact h4
  · rcases h5 with h5 | ⟨w2, h6, rfl⟩
    · exact .inr ⟨w0, h5, rfl⟩
    · exact .inr ⟨w2, h6, setCell_setCell _ _ _ _ _⟩

theorem st_end {W w0 : World} {g7 r r2 : Nat} {d e x : Int} (h : (∀ b o, b < W.heap.size → b ≠ g7 → (w0.setCell ⟨g7, r, none⟩ (.int .i64 e)).cell? ⟨b, o, none⟩ = W.cell? ⟨b, o, none⟩) ∧ (w0.setCell ⟨g7, r, none⟩ (.int .i64 e)).cell? ⟨g7, r2, none⟩ = some (.int .i64 d) ∧ (w0.setCell ⟨g7, r, none⟩ (.int .i64 e)).cell? ⟨g7, r, none⟩ = some (cvW g7 r (w0.setCell ⟨g7, r, none⟩ (.int .i64 e))) ∧ (w0.setCell ⟨g7, r, none⟩ (.int .i64 e)).frozen? ⟨g7, r, none⟩ = false ∧ StW W g7 r e (w0.setCell ⟨g7, r, none⟩ (.int .i64 e))) (hr : W.cell? ⟨g7, r, none⟩ = some (.int .i64 x)) (hne : x ≠ e) :
    ∃ w2, Qt W w2 ∧ w0.setCell ⟨g7, r, none⟩ (.int .i64 e) = w2.setCell ⟨g7, r, none⟩ (.int .i64 e) := by
  rcases h.2.2.2.2 with h5 | h5
  · exfalso
    have hc := h5.cell ⟨g7, r, none⟩
    rw [hr] at hc
    have h2 : (w0.cell? ⟨g7, r, none⟩).isSome = true := by
      cases hx : w0.cell? ⟨g7, r, none⟩ with
      | some v => rfl
      | none =>
        exfalso
        have : (w0.setCell ⟨g7, r, none⟩ (.int .i64 e)).cell? ⟨g7, r, none⟩ = none := by
          simp only [World.cell?, World.setCell, Array.getElem?_modify] at hx ⊢
          rw [if_pos trivial]
          cases hw : w0.heap[g7]? with
          | none => rfl
          | some o =>
            rw [hw] at hx
            cases o <;> simp_all
        rw [this] at hc; cases hc
    rw [World.cell?_setCell_same' w0 _ _ h2] at hc
    simp only [Option.some.injEq, Value.int.injEq, true_and] at hc
    exact hne hc.symm
  · exact h5

/-- A board that a move made, in a variable. -/
def XSt2 (wi : World) (L : Nat) (wide : Int) (n : Nat) (ys : List Int) (p : Value) (wx : World) : Prop :=
  ∃ gx ao c, p = .pointer (some ⟨gx, 0, none⟩) ∧ Blk wx gx #[.int .i64 wide, .slice ao n c] 25 ∧ n ≤ c ∧ Own wx L (.slice ao n c) ys ∧ Below wi.heap.size wi wx

theorem XSt2.mk {wi wx : World} {L gx n c : Nat} {wide : Int} {ys : List Int} {ao : Option Addr} (hb : Blk wx gx #[.int .i64 wide, .slice ao n c] 25) (hnc : n ≤ c) (ho : Own wx L (.slice ao n c) ys) (hB : Below wi.heap.size wi wx) :
    XSt2 wi L wide n ys (.pointer (some ⟨gx, 0, none⟩)) wx := ⟨gx, ao, c, rfl, hb, hnc, ho, hB⟩

set_option maxRecDepth 100000 in
set_option maxHeartbeats 4000000 in
theorem l3Steps_any (wide tall : Int) (n : Nat) (w : World) (hs : SidesOk 6 wide tall) (hN : wide * tall = n) :
    Calls Try.prog 37 #[.int .i64 wide, .int .i64 tall] w (RetOwn w (stL n (allS wide n))) := by
  have hs9 : SidesOk 9 wide tall := ⟨⟨hs.1.1, by have := hs.1.2; omega⟩, ⟨hs.2.1.1, by have := hs.2.1.2; omega⟩, hs.2.2.1, by have := hs.2.2.2; omega⟩
  have hord := sides_ord (by omega) hs hN
  have hok := hid hord.1
  have hol := hid hord.2.1
  have h2 : 2 ≤ n := hord.2.2.1
  have h6 : n ≤ 6 := by have := hord.2.2.2; omega
  have hW := hid (doneW_in hs9)
  have hL := hid (doneL_in hs9 hN)
  have HN := hid hN
  have hwb := hs.1
  have htb := hs.2.1
  have hM7 := fct_le h6
  have hM1 := fct_pos n
  obtain ⟨i0, hi, hz0, hz1, hz2⟩ := info_parts Try.infoInt
  clear hs hs9 hord
  go_enter Try.func37, Try.ntmps37
  go_wp2_with fail
  go_loopw [5, 6] (fun mv kv wr => ∃ k : Nat, kv = .int .i64 k ∧ mv = .int .i64 (fct (k - 1)) ∧ 2 ≤ k ∧ k ≤ n + 1 ∧ wr = w) (fun _ kv _ => n + 1 - (intOf kv).toNat)
  case atStart => exact ⟨2, rfl, rfl, by omega, by omega, rfl⟩
  case round =>
    obtain ⟨k, rfl, rfl, hk2, hkn, rfl⟩ := hrel
    by_cases hlt : k ≤ n
    · have hd : decide ((k : Int) ≤ n) = true := decide_eq_true (by omega)
      have hf1 := fct_le (n := k - 1) (by omega)
      have hf2 := fct_le (n := k) (by omega)
      have hp : ((fct (k - 1) : Nat) : Int) * k = ((fct k : Nat) : Int) := by rw [← fct_step (by omega : 1 ≤ k), Int.natCast_mul]
      go_wp2
      go_roundw
      case rel => exact ⟨k + 1, by go_num, by rw [Nat.add_sub_cancel], by omega, by omega, trivial⟩
      case measure => simp [intOf]; omega
    · obtain ⟨q, hq⟩ : ∃ q, q = k := ⟨_, rfl⟩
      subst hq
      have hd : decide ((q : Int) ≤ n) = false := decide_eq_false (by omega)
      rw [show q - 1 = n by omega]
      generalize hF : fct n = M at *
      have HF := hid hF
      clear hF
      have o0 := Own.lit0 (B := wr.heap.size) wr (Nat.le_refl _)
      have B0 := (Below.refl wr.heap.size wr).alloc (Nat.le_refl _) (.cells #[] 3)
      go_wp2_with fail
      obtain ⟨wo, hwo⟩ : ∃ wo : World, wo = wr := ⟨_, rfl⟩
      subst hwo
      go_loopw [7, 8] (fun v kv wi => ∃ (k : Nat) (zs : List Int), kv = .int .i64 k ∧ k ≤ M ∧ Hid (zs = List.replicate k (-1)) ∧ Own wi wo.heap.size v zs ∧ Below wo.heap.size wo wi) (fun _ kv _ => M - (intOf kv).toNat)
      case atStart => exact ⟨0, [], rfl, Nat.zero_le _, rfl, o0, B0⟩
      case round =>
        obtain ⟨k, zs, rfl, hk, hzs, hO, hB⟩ := hrel
        clear o0 B0
        by_cases hkM : k < M
        · have hd2 : decide ((k : Int) < M) = true := decide_eq_true (by omega)
          have hlen : Hid (zs.length = k) := by unfold Hid; rw [hzs.out, List.length_replicate]
          go_wp2_with (at_builtin; refine wpList_append_own _ rfl _ _ 23 rfl wo.heap.size 3 i0 (.int .i64 0) 1 8 Try.underlying23 hi hz0 hz1 hz2 rfl (by decide) _ _ _ rfl (hO.alloc _) ⟨wr.heap.size, 0, none⟩ 1 1 [.int .i64 (-1)] rfl rfl (cell1 _ _ _) (cell1_one _) ?c3 ?c4 ?c5 ?_)
          case c3 => have := hlen.out; unfold maxLen; omega
          case c4 => have := hlen.out; omega
          case c5 => have := hB.size; simp; omega
          intro v' w4 hown' hgrow _
          have ho := Own.appended hown'
          have hsn : Hid (zs ++ [-1] = List.replicate (k + 1) (-1)) := by unfold Hid; rw [hzs.out, List.replicate_succ']
          have hB' := (hB.alloc hB.size _).grown hgrow (by have := hB.size; simp; omega) (fun i hi => (World.ownsRow.lt hO i hi).1)
          clear hown' hgrow hO hB
          go_wp2
          go_roundw
          case rel => exact ⟨k + 1, _, by go_num, by omega, hsn, ho, hB'⟩
          case measure => simp [intOf]; omega
        · obtain rfl : k = M := by omega
          have hd2 : decide ((k : Int) < k) = false := by simp
          have hlen : Hid (zs.length = k) := by unfold Hid; rw [hzs.out, List.length_replicate]
          obtain ⟨g7, c7, rfl, hc7⟩ := hO.ptr hlen.out hM1
          clear hi hz0 hz1 hz2 i0
          go_wp2_with fail
          refine (specBoardDone_any wide tall wr).mono fun e w5 h => ?_
          rw [hW.out, hL.out] at h
          obtain ⟨ao, c, rfl, hnc, ho, hb⟩ := h.to (n := n) hol.out
          clear h
          have hg7 := hO.base
          have hO5 := hO.below hb (Nat.le_refl _)
          have hB5 := hB.trans (hb.mono hB.size)
          have hsz5 := hb.size
          clear hO hB hb
          go_wp2_with fail
          have h0 := hid (round_srch hok.out hol.out 0 (Nat.zero_le _))
          have hoI := (ho.alloc (.cells #[.int .i64 wide, .slice ao n c] 25)).ints
          refine (l3Rank_any ao (ordL n) n c _ hol.out h6 hoI).mono fun e w6 h => ?_
          obtain ⟨rfl, hq6⟩ := h
          have hrk := rank_lt hol.out
          rw [HF.out] at hrk
          have hbq := (Blk.new w5 #[.int .i64 wide, .slice ao n c] 25).qt hq6
          have hO6 := (hO5.alloc (.cells #[.int .i64 wide, .slice ao n c] 25)).qt hq6
          have hB6 := (hB5.alloc hB5.size (.cells #[.int .i64 wide, .slice ao n c] 25)).trans (hq6.below _)
          have ho6 := ((ho.alloc (.cells #[.int .i64 wide, .slice ao n c] 25)).qt hq6)
          have hsz6 : w5.heap.size < w6.heap.size := hbq.lt
          clear ho hoI hO5 hB5 hq6
          have hRK : Hid (rankL (ordL n) < fct n) := by unfold Hid; rw [HF.out]; exact hrk
          have hput := hid (stL_put (S := []) (fun p hp => by cases hp) (ord_dis (by omega)) hol.out 0 rfl)
          have hzf : Hid (zs = stL n []) := by unfold Hid; rw [hzs.out, stL_nil, HF.out]
          rw [hzf.out] at hO6
          generalize rankL (ordL n) = rk at *
          have ck := hO6.cell (j := rk) (by rw [length_stL]; exact hRK.out)
          have fk := hO6.free (by rw [length_stL]; exact HF.out.symm) rk
          have hO7 := hO6.stored (by rw [length_stL]; exact HF.out.symm) rk 0
          rw [hput.out] at hO7
          have hB7 := hB6.setCell (p := ⟨g7, rk, none⟩) hg7.1 (.int .i64 0)
          have hQ6 : OwnQ w6 wr.heap.size wide n (.slice (some ⟨w5.heap.size, 0, none⟩) 1 1) [(ordL n, 0)] := OwnQ.first hbq hsz5 ho6 hnc
          have hQ7 := hQ6.kept (grownBy_setCell w6 g7 rk (.int .i64 0)) (fun g e => by have := Option.some.inj e; omega)
          have hL7 : wr.heap.size ≤ (w6.setCell ⟨g7, rk, none⟩ (.int .i64 0)).heap.size := by simp [World.setCell]; omega
          have hi1 : ((rk : Nat) : Int) < (k : Int) := by omega
          clear hO6 hB6 hbq ho6 hQ6 hput hzf hnc
          go_wp2_with fail
          clear ck fk
          obtain ⟨hg70, hg7L⟩ := hg7
          generalize wr.heap.size = L at *
          generalize (w6.setCell ⟨g7, rk, none⟩ (.int .i64 0)) = w8 at *
          go_loopw [9, 10, 11, 12, 13, 14] (fun v kv _ _ _ _ wi => ∃ a : Nat, kv = .int .i64 a ∧ a ≤ (roundS wide n a).length ∧ Own wi wo.heap.size (.slice (some ⟨g7, 0, none⟩) k c7) (stL n (roundS wide n a)) ∧ OwnQ wi L wide n v (roundS wide n a) ∧ L ≤ wi.heap.size ∧ Below wo.heap.size wo wi) (fun _ kv _ _ _ _ _ => k + 1 - (intOf kv).toNat)
          case atStart => exact ⟨0, rfl, Nat.zero_le _, hO7, hQ7, hL7, hB7⟩
          case round =>
            obtain ⟨a, rfl, hal, hO, hQ, hLw, hB⟩ := hrel
            clear hO7 hQ7 hB7 h0 hL7
            have hsr := hid (round_srch hok.out hol.out a hal)
            have hSl : Hid ((roundS wide n a).length ≤ k) := by have := hsr.out.len_le; rw [HF.out] at this; exact this
            by_cases hlt : a < (roundS wide n a).length
            · have hnext := hid (roundS_succ hlt)
              have HA := hid hlt
              have hSk := hSl.out
              generalize roundS wide n a = S at *
              obtain ⟨g, c2, rfl, hgL, hgs⟩ := hQ.shape (by omega)
              have hd2 : decide ((a : Int) < S.length) = true := decide_eq_true (by omega)
              obtain ⟨ax, cx, e0, e1, hcx, hox⟩ := hQ.at hlt
              have hbo := hid (hsr.out.ok a hlt)
              have hmf := hid (mays_full hsr.out hlt)
              have hms := hid (fun j hj => mays_srch hsr.out hlt (j := j) hj)
              go_wp2_with fail
              refine (specTilesMay_any wide ax (bdS S a) n cx wr hbo.out.2 (by omega) hcx hox.ints).mono fun e wm h => ?_
              obtain ⟨mm, hmm⟩ : ∃ mm, (mayL wide (bdS S a)).length = mm := ⟨_, rfl⟩
              obtain ⟨am, cm, rfl, om, bm⟩ := h.to hmm
              clear h
              have hm0 := may_some hbo.out.1
              rw [hmm] at hm0
              have hm81 := may_le9 hbo.out.1
              rw [hmm] at hm81
              have hMM := hid hmm
              obtain ⟨gm, rfl⟩ := om.addr (by omega)
              have hOm := hO.below bm (Nat.le_refl _)
              have hQm := hQ.below bm (Nat.le_refl _)
              have hBm := hB.trans (bm.mono hB.size)
              have hLm : L ≤ wm.heap.size := Nat.le_trans hLw bm.size
              have oml := om.lower hLw
              have hgm := om.base.1
              clear hmm hO hQ hB e0 e1 hox om bm
              go_wp2_with fail
              go_loopw [9, 12, 13, 14] (fun v jv _ _ wi => ∃ j : Nat, jv = .int .i64 j ∧ j ≤ mm ∧ Own wi wo.heap.size (.slice (some ⟨g7, 0, none⟩) k c7) (stL n (maysS wide S a ((mayL wide (bdS S a)).take j))) ∧ OwnQ wi L wide n v (maysS wide S a ((mayL wide (bdS S a)).take j)) ∧ Own wi L (.slice (some ⟨gm, 0, none⟩) mm cm) (mayL wide (bdS S a)) ∧ L ≤ wi.heap.size ∧ Below wo.heap.size wo wi) (fun _ jv _ _ _ => mm - (intOf jv).toNat)
              case atStart => exact ⟨0, rfl, Nat.zero_le _, by rw [List.take_zero]; exact hOm, by rw [List.take_zero]; exact hQm, oml, hLm, hBm⟩
              case round =>
                obtain ⟨j, rfl, hj, hO, hQ, hY, hLw2, hB⟩ := hrel
                clear hOm hQm oml hLm hBm
                by_cases hjm : j < mm
                · have hd3 : decide ((j : Int) < mm) = true := decide_eq_true (by omega)
                  obtain ⟨m', hm', heq⟩ := hms.out j (by rw [hMM.out]; exact hj)
                  have hsT := hid (hsr.out.tiles HA.out m')
                  have hTb := hid (tilesS_bd wide a HA.out m')
                  have hTl := hid (tilesS_len wide S a m')
                  rw [← heq] at hsT hTb hTl
                  have hcan := hid (may_can (wide := wide) (xs := bdS S a) (k := j) (by rw [hMM.out]; exact hjm))
                  have htk := hid (take_succ_nth (xs := mayL wide (bdS S a)) (k := j) (by rw [hMM.out]; exact hjm))
                  have hsnoc : Hid (maysS wide S a ((mayL wide (bdS S a)).take (j + 1)) = stepS wide (maysS wide S a ((mayL wide (bdS S a)).take j)) a (nth (mayL wide (bdS S a)) j)) := by unfold Hid; rw [htk.out, maysS_snoc]
                  have hcj := hY.cell (j := j) (by rw [hMM.out]; exact hjm)
                  have hTa : a < (maysS wide S a ((mayL wide (bdS S a)).take j)).length := Nat.lt_of_lt_of_le HA.out hTl.out
                  have hTk : (maysS wide S a ((mayL wide (bdS S a)).take j)).length ≤ k := by have := hsT.out.len_le; rw [HF.out] at this; exact this
                  clear heq
                  generalize maysS wide S a ((mayL wide (bdS S a)).take j) = T at *
                  obtain ⟨g, c2, rfl, hgL, hgs⟩ := hQ.shape (by omega)
                  obtain ⟨ax, cx, e0, e1, hcx, hox⟩ := hQ.at hTa
                  rw [hTb.out.1] at hox
                  have hW2 := hid (tmW_in hbo.out.1)
                  have hL2 := hid (tmL_in (t := nth (mayL wide (bdS S a)) j) hbo.out.1)
                  have hok2 := hid (boardOk_moved (t := nth (mayL wide (bdS S a)) j) hbo.out.1)
                  have hyl2 := hid ((length_movedL wide (bdS S a) (nth (mayL wide (bdS S a)) j)).trans hbo.out.2)
                  generalize hmv : movedL wide (bdS S a) (nth (mayL wide (bdS S a)) j) = ys at *
                  have HMV := hid hmv
                  clear hmv
                  generalize nth (mayL wide (bdS S a)) j = t at *
                  generalize bdS S a = xs at *
                  have hxi := hox.ints
                  go_wp2_with fail
                  go_upto_region 20 with fail
                  go_cut [13, 14] (fun p _ wx => XSt2 wr L wide n ys p wx)
                  case first =>
                    have hgms : gm < wr.heap.size := hY.base.2
                    have hn9 : n ≤ 17592186044416 := by omega
                    go_region_held3 (fun w' => (∀ b o, b < wr.heap.size → w'.cell? ⟨b, o, none⟩ = wr.cell? ⟨b, o, none⟩) ∧ Below wr.heap.size wr w')
                      (first | with_reducible exact sb_drew _ | with_reducible exact sb_ad _ _ | with_reducible exact sb_call ‹_› bt | with_reducible exact sb_alloc (sb_call (sb_drew _) bt) _ | with_reducible exact sb_set (sb_set ‹_› (Nat.le_refl _) _ _) (Nat.le_refl _) _ _ | with_reducible exact sb_alloc ‹_› _)
                      (first | (go_at_call 46; refine (specTileMove_any wide ax xs n cx t _ hbo.out.2 hn9 hcx (hxi.below (sb_below ‹_›) (Nat.le_refl _))).mono fun e wt h => ?_; rw [hW2.out, hL2.out, hcan.out] at h; obtain ⟨ao_t, c_t, rfl, hc_t, t1, bt⟩ := h.to hyl2.out; clear h; obtain ⟨hct, hft⟩ := bcell bt))
                    all_goals rename_i hH
                    · have bkd := Blk.new wt #[.int .i64 wide, .slice ao_t n c_t] 25
                      have od := (t1.alloc (.cells #[.int .i64 wide, .slice ao_t n c_t] 25)).lower (B' := L) (by first | exact hLw2 | (simp; omega))
                      have b1 := hH.2
                      clear hH hct hft t1 bt
                      go_wp2_with fail
                      go_meet
                      exact XSt2.mk bkd hc_t od b1
                    · have k0 : Blk ((wr.alloc (.cells #[.int .i64 0, .slice none 0 0] 25)).drew) wr.heap.size #[.int .i64 0, .slice none 0 0] 25 := Blk.new wr _ _
                      have bkd : Blk _ wr.heap.size #[.int .i64 wide, .slice ao_t n c_t] 25 := ((k0.below bt (Nat.le_refl _)).set 0 (.int .i64 wide)).set 1 (.slice ao_t n c_t)
                      have od := ((t1.setOther wr.heap.size 0 (.int .i64 wide) (t1.ne_of_lt (by simp))).setOther wr.heap.size 1 (.slice ao_t n c_t) (t1.ne_of_lt (by simp))).lower (B' := L) (by simp; omega)
                      have b1 := hH.2
                      clear hH hct hft t1 bt k0
                      go_wp2_with fail
                      go_meet
                      exact XSt2.mk bkd hc_t od b1
                  case rest =>
                    obtain ⟨gx, ao', c', rfl, hbx, hnc', hoy, hBx⟩ := hcut
                    have hO := hO.below hBx (Nat.le_refl _)
                    have hQ := hQ.below hBx (Nat.le_refl _)
                    have hY := hY.below hBx (Nat.le_refl _)
                    have hB := hB.trans (hBx.mono hB.size)
                    have hLc := Nat.le_trans hLw2 hBx.size
                    have hAll := hid (AllIn.of hsT.out)
                    have hdy : Hid (Dis n ys) := by have := hok2.out.2.2.2.2; rw [hyl2.out] at this; exact this
                    have hrky : Hid (rankL ys < fct n) := rank_lt hyl2.out
                    have hval : Hid (nth (stL n T) (rankL ys) = farS T ys) := by unfold Hid; rw [nth_stL hrky.out, stV_far hAll.out hdy.out hyl2.out]
                    have hok3 := hid (hsT.out.ok a hTa)
                    clear hox hxi e0 e1 hcj hBx
                    have x1 := hbx.at 1 rfl
                    go_wp2_with fail
                    refine (l3Rank_any ao' ys n c' wc hyl2.out h6 hoy.ints).mono fun e wd h => ?_
                    obtain ⟨rfl, hqd⟩ := h
                    have hO := hO.qt hqd
                    have hQ := hQ.qt hqd
                    have hY := hY.qt hqd
                    have hbx := hbx.qt hqd
                    have hoy := hoy.qt hqd
                    have hB := hB.trans (hqd.below _)
                    have hLd : L ≤ wd.heap.size := by obtain ⟨qq, rfl⟩ := hqd; exact hLc
                    clear hqd x1
                    have ry := hid (⟨rankL ys, rfl⟩ : ∃ r, rankL ys = r)
                    obtain ⟨r, hr⟩ := ry.out
                    have hr1 : r < k := by have := hrky.out; rw [HF.out, hr] at this; exact this
                    have hr2 : (r : Int) < k := by omega
                    have HR := hid hr
                    rw [hr] at hval hrky
                    rw [hr]
                    clear hr ry
                    have cr := hO.cell (j := r) (by rw [length_stL]; exact hrky.out)
                    rw [hval.out] at cr
                    cases hsn : hasS T ys with
                    | true =>
                      have hdn : decide (farS T ys < 0) = false := by
                        have := farS_has hsT.out ys
                        rw [hsn] at this
                        have h0 := of_decide_eq_true this.symm
                        exact decide_eq_false (by omega)
                      have hT' : Hid (stepS wide T a t = T) := stepS_seen (by rw [hTb.out.1, HMV.out]; exact hsn)
                      clear hsn
                      go_wp2
                      go_roundw
                      case rel => exact ⟨j + 1, by go_num, by omega, by rw [hsnoc.out, hT'.out]; exact hO, by rw [hsnoc.out, hT'.out]; exact hQ, hY, hLd, hB⟩
                      case measure => simp [intOf]; omega
                    | false =>
                      have hfar := farS_no hsn
                      rw [hfar] at cr
                      have hdn : decide ((-1 : Int) < 0) = true := rfl
                      have hT' : Hid (stepS wide T a t = T ++ [(ys, dpS T a + 1)]) := by
                        have := stepS_yes (wide := wide) (S := T) (a := a) (t := t) (by rw [hTb.out.1]; exact hcan.out) (by rw [hTb.out.1, HMV.out]; exact hsn)
                        rw [hTb.out.1, HMV.out] at this
                        exact this
                      have hput := hid (stL_put hAll.out hdy.out hyl2.out (dpS T a + 1) hsn)
                      have HS := hid hsn
                      clear hsn hfar
                      obtain ⟨az, cz, _, q1, hcz, hoz⟩ := hQ.at hTa
                      rw [hTb.out.1] at hoz
                      have lg : g < wd.heap.size := World.block_lt_of_cell? _ _ q1
                      have hdd := dep_pos hsT.out hTa
                      have hdl := dep_le hsT.out a hTa
                      have hfx := hid (farS_at hsT.out hTa)
                      generalize dpS T a = d at *
                      have hdx : Hid (Dis n xs) := by have := hbo.out.1.2.2.2.2; rw [hbo.out.2] at this; exact this
                      have hrkx : Hid (rankL xs < fct n) := rank_lt hbo.out.2
                      have hvx : Hid (nth (stL n T) (rankL xs) = d) := by unfold Hid; rw [nth_stL hrkx.out, stV_far hAll.out hdx.out hbo.out.2, ← hTb.out.1, hfx.out]
                      obtain ⟨r2, hr2'⟩ : ∃ r2, rankL xs = r2 := ⟨_, rfl⟩
                      have HR2 := hid hr2'
                      rw [hr2'] at hvx hrkx
                      clear hr2'
                      have hx1 : r2 < k := by have := hrkx.out; rw [HF.out] at this; exact this
                      have hx2 : (r2 : Int) < k := by omega
                      have cx2 := hO.cell (j := r2) (by rw [length_stL]; exact hrkx.out)
                      rw [hvx.out] at cx2
                      have fr := hO.free (by rw [length_stL]; exact HF.out.symm) r
                      have x1 := hbx.at 1 rfl
                      have hwr : IntKind.i64.wrap (d + 1) = d + 1 := IntWalk.i64_in _ (by omega)
                      have hyi := hoy.ints
                      have hzi := hoz.ints
                      have lx := hbx.lt
                      have hny : ∀ x, ao' = some x → x.block ≠ g7 := fun x e => by subst e; have := (World.ownsRow.lt hoy x.block rfl).1; omega
                      have hnz : ∀ x, az = some x → x.block ≠ g7 := fun x e => by subst e; have := (World.ownsRow.lt hoz x.block rfl).1; omega
                      have l7 := hO.base.2
                      go_wp2_with fail
                      have hrr : r2 ≠ r := fun e => by
                        have h1 := HR.out
                        have h2 := HR2.out
                        rw [← e, ← h2] at h1
                        have h3 := rank_inj hdy.out hdx.out hyl2.out hbo.out.2 h1
                        have h4 := hasS_iff.2 ⟨a, hTa, rfl⟩
                        rw [hTb.out.1, ← h3, HS.out] at h4
                        simp at h4
                      have hng : ¬ g = g7 := by omega
                      have hngx : ¬ gx = g7 := fun e => by
                        obtain ⟨cur, hcur, _⟩ := hO.row
                        rw [e] at hbx
                        unfold Blk at hcur hbx
                        rw [hbx] at hcur
                        simp only [Option.some.injEq, Obj.cells.injEq] at hcur
                        exact neBI hcur.2.1
                      go_region_held3 (fun w' => (∀ b o, b < wd.heap.size → b ≠ g7 → w'.cell? ⟨b, o, none⟩ = wd.cell? ⟨b, o, none⟩) ∧ w'.cell? ⟨g7, r2, none⟩ = some (.int .i64 d) ∧ w'.cell? ⟨g7, r, none⟩ = some (cvW g7 r w') ∧ w'.frozen? ⟨g7, r, none⟩ = false ∧ StW wd g7 r (d + 1) w')
                        (first | with_reducible exact st_drew cx2 cr fr | with_reducible exact st_call ‹_› hqt | with_reducible exact st_store ‹_› hrr)
                        (first | (go_at_call 38; ((with_reducible refine (l3Rank_any ao' ys n c' _ hyl2.out h6 (hyi.st ‹_› hny)).mono ?_)); intro e wt h; rw [HR.out] at h; obtain ⟨rfl, hqt⟩ := h) | (go_at_call 38; ((with_reducible refine (l3Rank_any az xs n cz _ hbo.out.2 h6 (hzi.st ‹_› hnz)).mono ?_)); intro e wt h; rw [HR2.out] at h; obtain ⟨rfl, hqt⟩ := h))
                      rename_i hH
                      obtain ⟨w2', hq2, hw2⟩ := st_end hH cr (by omega)
                      rw [hw2]
                      clear hH hw2 hyi hzi x1 q1 cx2 hwr cr
                      have hO2 := (hO.qt hq2).stored (by rw [length_stL]; exact HF.out.symm) r (d + 1)
                      rw [HR.out] at hput
                      rw [hput.out] at hO2
                      have hQ2 := (hQ.qt hq2).kept (grownBy_setCell w2' g7 r (.int .i64 (d + 1))) (fun g' e => by have := Option.some.inj e; omega)
                      have hY2 := (hY.qt hq2).setOther g7 r (.int .i64 (d + 1)) ((hY.qt hq2).ne_of_lt (by omega))
                      have hoy2 := (hoy.qt hq2).setOther g7 r (.int .i64 (d + 1)) ((hoy.qt hq2).ne_of_lt (by omega))
                      have hbx2 := (hbx.qt hq2).setOther hngx r (.int .i64 (d + 1))
                      have hB2 := (hB.trans (hq2.below _)).setCell (p := ⟨g7, r, none⟩) hg70 (.int .i64 (d + 1))
                      have hL2' : L ≤ (w2'.setCell ⟨g7, r, none⟩ (.int .i64 (d + 1))).heap.size := by obtain ⟨qq, rfl⟩ := hq2; simp [World.setCell]; exact hLd
                      generalize w2'.setCell ⟨g7, r, none⟩ (.int .i64 (d + 1)) = w9 at *
                      clear hO hQ hY hoy hbx hB hq2 fr hoz
                      have z0 := hbx2.at 0 rfl
                      have z1 := hbx2.at 1 rfl
                      have bn := Blk.new w9 #[.int .i64 wide, .slice ao' n c'] 25
                      have hO3 := hO2.alloc (.cells #[.int .i64 wide, .slice ao' n c'] 25)
                      have hQ3 := hQ2.below ((Below.refl w9.heap.size w9).alloc (Nat.le_refl _) (.cells #[.int .i64 wide, .slice ao' n c'] 25)) (Nat.le_refl _)
                      have hY3 := hY2.alloc (.cells #[.int .i64 wide, .slice ao' n c'] 25)
                      have hoy3 := hoy2.alloc (.cells #[.int .i64 wide, .slice ao' n c'] 25)
                      have hB3 := hB2.alloc hB2.size (.cells #[.int .i64 wide, .slice ao' n c'] 25)
                      go_wp2_with (at_builtin; with_reducible refine wpList_appendQ (d + 1) rfl _ _ rfl rfl hQ3 ?k1 rfl bn hnc' hoy3 ?k2 ?_)
                      case k1 => omega
                      case k2 => simp; omega
                      intro v' wz hQz hgz
                      have hgz2 : ∀ u zs' B', Own (w9.alloc (.cells #[.int .i64 wide, .slice ao' n c'] 25)) B' u zs' → Own wz B' u zs' := fun u zs' B' ho => ho.kept hgz (hQ3.ne ho)
                      have hO4 := hgz2 _ _ _ hO3
                      have hY4 := hgz2 _ _ _ hY3
                      have hrow : ∀ k', (Value.slice (some ⟨g, 0, none⟩) T.length c2).ownBlock = some k' → g = k' := fun k' e => Option.some.inj e
                      have hB4 := hB3.grown hgz hB3.size (fun k' hk' => by have := hrow k' hk'; omega)
                      have hL4 : L ≤ wz.heap.size := Nat.le_trans (by simp; omega) hgz.size
                      clear hgz hgz2 hO3 hQ3 hY3 hoy3 hB3 bn z0 z1 hO2 hQ2 hY2 hoy2 hB2
                      go_wp2
                      go_roundw
                      case rel => exact ⟨j + 1, by go_num, by omega, by rw [hsnoc.out, hT'.out]; exact hO4, by rw [hsnoc.out, hT'.out]; exact hQz, hY4, hL4, hB4⟩
                      case measure => simp [intOf]; omega
                · obtain rfl : j = mm := by omega
                  have hd3 : decide ((j : Int) < j) = false := by simp
                  rw [List.take_of_length_le (by rw [hMM.out]; exact Nat.le_refl _), hmf.out, ← hnext.out] at hO hQ
                  have hal2 : a + 1 ≤ (roundS wide n (a + 1)).length := by rw [hnext.out]; exact Nat.lt_of_lt_of_le HA.out (tilesS_len _ _ _ _)
                  have ha7 : a < k := by omega
                  clear hY hms
                  go_wp2
                  go_roundw
                  case rel => exact ⟨a + 1, by go_num, hal2, hO, hQ, hLw2, hB⟩
                  case measure => simp [intOf]; omega
            · have hd2 : decide ((a : Int) < (roundS wide n a).length) = false := decide_eq_false (by omega)
              have hall := hid (allS_eq (wide := wide) (n := n) (a := a) (by omega) (by rw [HF.out]; have := hSl.out; omega))
              obtain ⟨g, c2, rfl, hgL, hgs⟩ := hQ.shape hsr.out.pos
              have hfin := RetOwn.mk (w := wo) (w' := wr) (xs := stL n (roundS wide n a)) (by rw [length_stL]; exact HF.out) hO hB
              rw [← hall.out] at hfin
              have HFI := hid hfin
              clear hfin
              go_wp2
              go_ret
              exact HFI.out

end Go.Proofs.Ytfpckcmkikckgaa
