/- The walks of PermBack, the program's and the reference's. -/
import Derived.Test.YthcghpcmmjnijaaPj
namespace Go.Proofs.Ythcghpcmmjnijaa
open Go Go.RowKit

set_option maxRecDepth 100000 in
theorem permTurn_any (ao : Option Addr) (xs : List Int) (n c : Nat) (w : World) (hn : xs.length = n) (hl : n ≤ 17592186044416) (hx : IntsAt w ao xs) (hr : ∀ x ∈ xs, 0 ≤ x ∧ x < n) :
    Calls Try.prog 35 #[.slice ao n c] w (RetOwn w (turnL xs)) := by
  have HN := hid hn
  have HR := hid hr
  clear hn hr
  obtain ⟨i0, hi, hz0, hz1, hz2⟩ := info_parts Try.infoInt
  go_enter Try.func35, Try.ntmps35
  go_wp2_with (at_make; refine wpList_make_full _ rfl _ _ 29 rfl w.heap.size 3 i0 (.int .i64 0) 1 Try.underlying29 hi hz0 hz1 _ _ _ _ n rfl rfl rfl rfl ?m1 ?m2 (Nat.le_refl _) ?_)
  case m1 => rw [hz2]; omega
  case m2 => unfold maxLen; omega
  intro w1 hown hgrow
  have ho := Own.made hown
  have hb : Below w.heap.size w w1 := (Below.refl _ _).grown hgrow (Nat.le_refl _) (by simp)
  clear hown hgrow hi hz0 hz1 hz2 i0
  go_wp2
  go_loopw [4, 5, 11] (fun _ _ i wr => ∃ k : Nat, k ≤ n ∧ i = .int .i64 k ∧ Own wr w.heap.size (.slice (some ⟨w.heap.size, 0, none⟩) n n) (turnTo xs k) ∧ Below w.heap.size w wr) (fun _ _ i _ => n - (intOf i).toNat)
  case atStart => exact ⟨0, Nat.zero_le _, rfl, by rw [turnTo_zero, HN.out]; exact ho, hb⟩
  case round =>
    obtain ⟨k, hk, rfl, hok, hbk⟩ := hrel
    clear ho hb
    have hlen : Hid ((turnTo xs k).length = n) := by unfold Hid; rw [length_turnTo, HN.out]
    by_cases hlt : k < n
    · have hkl : k < xs.length := by rw [HN.out]; exact hlt
      have hxk := HR.out _ (nth_mem hkl)
      obtain ⟨t, ht⟩ := Int.eq_ofNat_of_zero_le hxk.1
      have htm : t < n := by omega
      obtain ⟨b, off, rfl, hc⟩ := (hx.below hbk (Nat.le_refl _)) (by omega)
      have hck := hc k hkl
      rw [ht] at hck
      have hck' := hok.cell (j := t) (by rw [hlen.out]; exact htm)
      have hfk := hok.free hlen.out.symm t
      have hst := hok.stored hlen.out.symm t (k : Int)
      have hbs := hbk.setCell (p := ⟨w.heap.size, t, none⟩) (Nat.le_refl _) (.int .i64 (k : Int))
      have hset : Hid ((turnTo xs k).set t (k : Int) = turnTo xs (k + 1)) := by unfold Hid; rw [turnTo_succ, ht]; rfl
      rw [hset.out] at hst
      generalize turnTo xs k = X at *
      clear hc hx ht hxk hset hok hbk
      go_wp2
      go_roundw
      case rel => exact ⟨k + 1, by omega, by go_num, hst, hbs⟩
      case measure => simp [intOf]; omega
    · have hfin : Hid (turnTo xs k = turnL xs) := by have := HN.out; unfold Hid turnL; congr 1; omega
      rw [hfin.out] at hok
      have hjn : Hid ((turnL xs).length = n) := by unfold Hid turnL; rw [length_turnTo, HN.out]
      go_wp2
      go_ret
      unfold RetOwn
      rw [hjn.out]
      exact ⟨_, _, rfl, hok, hbk⟩

set_option maxRecDepth 100000 in
theorem implPermBack_any (ao : Option Addr) (xs : List Int) (n c : Nat) (w : World) (hn : xs.length = n) (hl : n ≤ 17592186044416) (hx : IntsAt w ao xs) :
    Calls Try.prog 19 #[.slice ao n c] w (RetOwn w (backL xs)) := by
  have HN := hid hn
  clear hn
  cases h1 : permB xs with
  | false =>
    have hfin : Hid (backL xs = []) := backL_out (permB_not.1 h1)
    go_enter Try.func19, Try.ntmps19
    go_wp2_with fail
    refine (implPermValid_any ao xs n c w HN.out (by omega) hx).mono fun e w1 h => ?_
    rw [h1] at h
    obtain ⟨rfl, rfl⟩ := h
    go_wp2_with fail
    go_ret
    unfold RetOwn
    rw [hfin.out]
    exact ⟨_, _, rfl, Own.nil _ _, Below.refl _ _⟩
  | true =>
    have hfin : Hid (backL xs = turnL xs) := backL_in (permB_iff.1 h1)
    have hr : Hid (∀ x ∈ xs, 0 ≤ x ∧ x < n) := by have := (permB_iff.1 h1).2.2.1; rwa [HN.out] at this
    go_enter Try.func19, Try.ntmps19
    go_wp2_with fail
    refine (implPermValid_any ao xs n c w HN.out (by omega) hx).mono fun e w1 h => ?_
    rw [h1] at h
    obtain ⟨rfl, rfl⟩ := h
    go_wp2_with fail
    refine (permTurn_any ao xs n c w HN.out hl hx hr.out).mono fun e w1 h => ?_
    obtain ⟨ao1, c1, rfl, o1, b1⟩ := h
    go_wp2_with fail
    go_ret
    unfold RetOwn
    rw [hfin.out]
    exact ⟨_, _, rfl, o1, b1⟩

set_option maxRecDepth 100000 in
theorem specPermBack_any (ao : Option Addr) (xs : List Int) (n c : Nat) (w : World) (hn : xs.length = n) (hl : n ≤ 17592186044416) (hnc : n ≤ c) (hx : IntsAt w ao xs) :
    Calls Try.prog 27 #[.slice ao n c] w (RetOwn w (backL xs)) := by
  have HN := hid hn
  clear hn
  cases h1 : permB xs with
  | false =>
    have hfin : Hid (backL xs = []) := backL_out (permB_not.1 h1)
    go_enter Try.func27, Try.ntmps27
    go_wp2_with fail
    refine (specPermValid_any ao xs n c w HN.out (by omega) hnc hx).mono fun e w1 h => ?_
    rw [h1] at h
    obtain ⟨rfl, hq⟩ := h
    go_wp2_with fail
    go_ret
    unfold RetOwn
    rw [hfin.out]
    have hb := hq.below w.heap.size
    exact ⟨_, _, rfl, Own.lit0 w1 hb.size, hb.alloc hb.size _⟩
  | true =>
    have hfin : Hid (backL xs = turnL xs) := backL_in (permB_iff.1 h1)
    have HR : Hid (∀ x ∈ xs, 0 ≤ x ∧ x < n) := by have := (permB_iff.1 h1).2.2.1; rwa [HN.out] at this
    obtain ⟨i0, hi, hz0, hz1, hz2⟩ := info_parts Try.infoInt
    go_enter Try.func27, Try.ntmps27
    go_wp2_with fail
    refine (specPermValid_any ao xs n c w HN.out (by omega) hnc hx).mono fun e w0 h => ?_
    rw [h1] at h
    obtain ⟨rfl, hq⟩ := h
    have hb0 := hq.below w.heap.size
    have hsz0 := hb0.size
    clear hq h1
    go_wp2_with (at_make; refine wpList_make_full _ rfl _ _ 29 rfl w.heap.size 3 i0 (.int .i64 0) 1 Try.underlying29 hi hz0 hz1 _ _ _ _ n rfl rfl rfl rfl ?m1 ?m2 hsz0 ?_)
    case m1 => rw [hz2]; omega
    case m2 => unfold maxLen; omega
    intro w1 hown hgrow
    have ho := Own.made hown
    have hb : Below w.heap.size w w1 := hb0.grown hgrow hsz0 (by simp)
    clear hown hgrow hi hz0 hz1 hz2 i0 hb0
    go_wp2
    go_loopw [4] (fun i wr => ∃ k : Nat, k ≤ n ∧ i = .int .i64 k ∧ Own wr w.heap.size (.slice (some ⟨w0.heap.size, 0, none⟩) n n) (turnTo xs k) ∧ Below w.heap.size w wr) (fun i _ => n - (intOf i).toNat)
    case atStart => exact ⟨0, Nat.zero_le _, rfl, by rw [turnTo_zero, HN.out]; exact ho, hb⟩
    case round =>
      obtain ⟨k, hk, rfl, hok, hbk⟩ := hrel
      clear ho hb
      have hlen : Hid ((turnTo xs k).length = n) := by unfold Hid; rw [length_turnTo, HN.out]
      by_cases hlt : k < n
      · have hkl : k < xs.length := by rw [HN.out]; exact hlt
        have hxk := HR.out _ (nth_mem hkl)
        obtain ⟨t, ht⟩ := Int.eq_ofNat_of_zero_le hxk.1
        have htm : t < n := by omega
        obtain ⟨b, off, rfl, hc⟩ := (hx.below hbk (Nat.le_refl _)) (by omega)
        have hck := hc k hkl
        rw [ht] at hck
        have hck' := hok.cell (j := t) (by rw [hlen.out]; exact htm)
        have hfk := hok.free hlen.out.symm t
        have hst := hok.stored hlen.out.symm t (k : Int)
        have hbs := hbk.setCell (p := ⟨w0.heap.size, t, none⟩) hsz0 (.int .i64 (k : Int))
        have hset : Hid ((turnTo xs k).set t (k : Int) = turnTo xs (k + 1)) := by unfold Hid; rw [turnTo_succ, ht]; rfl
        rw [hset.out] at hst
        generalize turnTo xs k = X at *
        clear hc hx ht hxk hset hok hbk
        go_wp2
        go_roundw
        case rel => exact ⟨k + 1, by omega, by go_num, hst, hbs⟩
        case measure => simp [intOf]; omega
      · have hfin2 : Hid (turnTo xs k = turnL xs) := by have := HN.out; unfold Hid turnL; congr 1; omega
        rw [hfin2.out] at hok
        have hjn : Hid ((turnL xs).length = n) := by unfold Hid turnL; rw [length_turnTo, HN.out]
        go_wp2
        go_ret
        unfold RetOwn
        rw [hfin.out, hjn.out]
        exact ⟨_, _, rfl, hok, hbk⟩

end Go.Proofs.Ythcghpcmmjnijaa
