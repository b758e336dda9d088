/- The walk of the law FnPermValid. -/
import Derived.Test.YthcghpcmmjnijaaPv
import Derived.Test.YthcghpcmmjnijaaPq
import Derived.Test.YthcghpcmmjnijaaAl
import Derived.Test.YthcghpcmmjnijaaDp
namespace Go.Proofs.Ythcghpcmmjnijaa
open Go Go.RowKit

set_option maxRecDepth 100000 in
set_option maxHeartbeats 2000000 in
theorem fnPermValid_walk (w : World) (ao : Option Addr) (bs : List Int) (l c : Nat) (hn : bs.length = l) (hlc : l ≤ c) (hcm : c ≤ 9223372036854775807) (hx : BytesAt w ao bs) (h8 : B8 bs) :
    Calls Try.prog 5 #[.slice ao l c] w fun e w' => e = .returned (.bool true) ∧ Below w.heap.size w w' := by
  by_cases hbig : 1048576 < l
  · have hd : decide ((1048576 : Int) < l) = true := decide_eq_true (by omega)
    clear hx hn h8
    go_enter Try.func5, Try.ntmps5
    go_wp2
    go_ret
    exact ⟨rfl, Below.refl _ _⟩
  have hd : decide ((1048576 : Int) < l) = false := decide_eq_false (by omega)
  have hnil : permB [] = false := by decide
  go_enter Try.func5, Try.ntmps5
  go_wp2_with fail
  refine (drawPermValid_any ao bs l c w hn hlc hcm hx h8).mono fun e w1 h => ?_
  obtain ⟨ao1, m, c1, ys, rfl, hl, hmc, hm, o, B⟩ := h
  clear hx h8 hn hd hbig
  have HL := hid hl
  clear hl
  cases hpv : permB ys with
  | false =>
    go_wp2_with fail
    refine (implPermValid_any ao1 ys m c1 w1 HL.out (by omega) o.ints).mono fun e w2 h => ?_
    rw [hpv] at h
    obtain ⟨rfl, rfl⟩ := h
    go_wp2_with fail
    refine (specPermValid_any ao1 ys m c1 w1 HL.out (by omega) hmc o.ints).mono fun e w2 h => ?_
    rw [hpv] at h
    obtain ⟨rfl, hq⟩ := h
    have B := B.trans (hq.below _)
    clear o hq
    go_wp2_with fail
    refine (implPermValid_any none [] 0 0 w2 rfl (by omega) (IntsAt.nil _ _)).mono fun e w3 h => ?_
    rw [hnil] at h
    obtain ⟨rfl, rfl⟩ := h
    go_wp2_with fail
    refine (alive_any w2).mono fun e w3 h => ?_
    obtain ⟨rfl, hb⟩ := h
    have B := B.trans (hb.mono B.size)
    clear hb
    go_wp2
    go_ret
    exact ⟨rfl, B⟩
  | true =>
    go_wp2_with fail
    refine (implPermValid_any ao1 ys m c1 w1 HL.out (by omega) o.ints).mono fun e w2 h => ?_
    rw [hpv] at h
    obtain ⟨rfl, rfl⟩ := h
    go_wp2_with fail
    refine (specPermValid_any ao1 ys m c1 w1 HL.out (by omega) hmc o.ints).mono fun e w2 h => ?_
    rw [hpv] at h
    obtain ⟨rfl, hq⟩ := h
    have B := B.trans (hq.below _)
    have o := o.qt hq
    clear hq
    by_cases h2 : m < 2
    · have hd2 : decide ((m : Int) < 2) = true := decide_eq_true (by omega)
      clear o
      go_wp2_with fail
      refine (implPermValid_any none [] 0 0 w2 rfl (by omega) (IntsAt.nil _ _)).mono fun e w3 h => ?_
      rw [hnil] at h
      obtain ⟨rfl, rfl⟩ := h
      go_wp2_with fail
      refine (alive_any w2).mono fun e w3 h => ?_
      obtain ⟨rfl, hb⟩ := h
      have B := B.trans (hb.mono B.size)
      clear hb
      go_wp2
      go_ret
      exact ⟨rfl, B⟩
    · have hd2 : decide ((m : Int) < 2) = false := decide_eq_false (by omega)
      have hpl := perm_swap (permB_iff.1 hpv) (by rw [HL.out]; omega)
      have hX := hid (permB_true hpl.1)
      have hY := hid (permB_false hpl.2)
      clear hpl hpv
      obtain ⟨g, rfl⟩ := o.addr (by rw [HL.out]; omega)
      have hgb := o.base
      have hsB := B.size
      have hok0 := Own.lit0 w2 (B := w2.heap.size) (Nat.le_refl _)
      have oA := o.alloc (.cells #[] 3)
      have BA := B.alloc hsB (.cells #[] 3)
      have hcd : ∀ j u, (ys.map (Value.int .i64))[j]? = some u → (w2.alloc (.cells #[] 3)).cell? ((⟨g, 0, none⟩ : Addr).add j) = some u := by have := cells_drop oA 0; rwa [List.drop_zero] at this
      go_wp2_with (at_builtin; refine wpList_appendI rfl _ _ rfl w2.heap.size w2.heap.size 0 0 [] rfl rfl hok0 ⟨g, 0, none⟩ m c1 ys rfl HL.out hcd ?c3 ?c5 ?_)
      case c3 => omega
      case c5 => simp
      try simp only [List.nil_append, Nat.zero_add]
      intro gx cx w3 ox hgrow hf
      have hf := hf.out
      have o3 := oA.kept hgrow (.inr (fun e => by have : g = w2.heap.size := Option.some.inj e; omega))
      have B3 := BA.grown hgrow (by simp; omega) (fun j hj => by have := Option.some.inj hj; omega)
      clear hgrow oA BA hcd hok0 o B
      have hs3 := B3.size
      have c0 := o3.cell (j := 0) (by rw [HL.out]; omega)
      have c1' := o3.cell (j := 1) (by rw [HL.out]; omega)
      have x0 := ox.cell (j := 0) (by rw [HL.out]; omega)
      have f0 := ox.free HL.out.symm 0
      have ox4 := ox.stored HL.out.symm 0 (nth ys 1)
      have o4 := o3.setOther gx 0 (.int .i64 (nth ys 1)) (.inr (fun e => by have : g = gx := Option.some.inj e; omega))
      have B4 := B3.setCell (p := ⟨gx, 0, none⟩) (by simp; omega) (.int .i64 (nth ys 1))
      have hL4 : (ys.set 0 (nth ys 1)).length = m := by have := HL.out; simp [this]
      have d0 := o4.cell (j := 0) (by rw [HL.out]; omega)
      have x1 := ox4.cell (j := 1) (by omega)
      have f1 := ox4.free hL4.symm 1
      have ox5 := ox4.stored hL4.symm 1 (nth ys 0)
      have o5 := o4.setOther gx 1 (.int .i64 (nth ys 0)) (.inr (fun e => by have : g = gx := Option.some.inj e; omega))
      have B5 := B4.setCell (p := ⟨gx, 1, none⟩) (by simp; omega) (.int .i64 (nth ys 0))
      have HL5 : Hid (((ys.set 0 (nth ys 1)).set 1 (nth ys 0)).length = m) := by have := HL.out; simp [Hid, this]
      have hs5 : w3.heap.size ≤ ((w3.setCell ⟨gx, 0, none⟩ (.int .i64 (nth ys 1))).setCell ⟨gx, 1, none⟩ (.int .i64 (nth ys 0))).heap.size := by simp
      clear ox ox4 o3 o4 B3 B4 hL4
      generalize (ys.set 0 (nth ys 1)).set 1 (nth ys 0) = X at *
      have hWs : ((w3.setCell ⟨gx, 0, none⟩ (.int .i64 (nth ys 1))).setCell ⟨gx, 1, none⟩ (.int .i64 (nth ys 0))).heap.size = w3.heap.size := by simp
      have hok0 := Own.lit0 ((w3.setCell ⟨gx, 0, none⟩ (.int .i64 (nth ys 1))).setCell ⟨gx, 1, none⟩ (.int .i64 (nth ys 0))) (B := w3.heap.size) (by rw [hWs]; exact Nat.le_refl _)
      have oA := o5.alloc (.cells #[] 3)
      have BA := B5.alloc (by rw [hWs]; exact hs3) (.cells #[] 3)
      have oxA := ox5.alloc (.cells #[] 3)
      have hWs2 : w3.heap.size ≤ (((w3.setCell ⟨gx, 0, none⟩ (.int .i64 (nth ys 1))).setCell ⟨gx, 1, none⟩ (.int .i64 (nth ys 0))).alloc (.cells #[] 3)).heap.size := by rw [World.size_alloc, hWs]; omega
      rw [hWs] at hok0
      clear o5 ox5 B5 hWs hs5
      have hcd : ∀ j u, (ys.map (Value.int .i64))[j]? = some u → (((w3.setCell ⟨gx, 0, none⟩ (.int .i64 (nth ys 1))).setCell ⟨gx, 1, none⟩ (.int .i64 (nth ys 0))).alloc (.cells #[] 3)).cell? ((⟨g, 0, none⟩ : Addr).add j) = some u := by have := cells_drop oA 0; rwa [List.drop_zero] at this
      go_wp2_with (at_builtin; refine wpList_appendI rfl _ _ rfl w3.heap.size w3.heap.size 0 0 [] rfl rfl hok0 ⟨g, 0, none⟩ m c1 ys rfl HL.out hcd ?c3 ?c5 ?_)
      case c3 => omega
      case c5 => exact hWs2
      try simp only [List.nil_append, Nat.zero_add]
      intro gy cy w4 oy hgrow hf2
      have hf2 := hf2.out
      have o6 := oA.kept hgrow (.inr (fun e => by have : g = w3.heap.size := Option.some.inj e; omega))
      have ox6 := oxA.kept hgrow (.inr (fun e => by have : gx = w3.heap.size := Option.some.inj e; omega))
      have B6 := BA.grown hgrow (by omega) (fun j hj => by have := Option.some.inj hj; omega)
      clear hgrow oA oxA BA hcd hok0 hWs2
      have d0' := o6.cell (j := 0) (by rw [HL.out]; omega)
      have y1 := oy.cell (j := 1) (by rw [HL.out]; omega)
      have fy := oy.free HL.out.symm 1
      have oy7 := oy.stored HL.out.symm 1 (nth ys 0)
      have ox7 := ox6.setOther gy 1 (.int .i64 (nth ys 0)) (.inr (fun e => by have : gx = gy := Option.some.inj e; omega))
      have B7 := B6.setCell (p := ⟨gy, 1, none⟩) (by simp; omega) (.int .i64 (nth ys 0))
      have HL7 : Hid ((ys.set 1 (nth ys 0)).length = m) := by have := HL.out; simp [Hid, this]
      clear oy ox6 B6 o6
      generalize ys.set 1 (nth ys 0) = Y at *
      go_wp2_with fail
      refine (implPermValid_any _ X m cx _ HL5.out (by omega) ox7.ints).mono fun e w5 h => ?_
      rw [hX.out] at h
      obtain ⟨rfl, rfl⟩ := h
      go_wp2_with fail
      refine (implPermValid_any _ Y m cy _ HL7.out (by omega) oy7.ints).mono fun e w5 h => ?_
      rw [hY.out] at h
      obtain ⟨rfl, rfl⟩ := h
      go_wp2
      go_ret
      exact ⟨rfl, B7⟩

end Go.Proofs.Ythcghpcmmjnijaa
