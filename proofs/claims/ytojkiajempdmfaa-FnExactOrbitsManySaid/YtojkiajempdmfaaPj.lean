/- The walks of PermThen and PermBack, the program's and the reference's. -/
import Derived.Test.YtojkiajempdmfaaPv
namespace Go.Proofs.Ytojkiajempdmfaa
open Go Go.RowKit

/-- Each place to where the second brings the place to which the first brings it. -/
def joinL (xs ys : List Int) : List Int := xs.map (fun x => nth ys x.toNat)

theorem length_joinL (xs ys : List Int) : (joinL xs ys).length = xs.length := by simp [joinL]

theorem joinL_take_succ {xs ys : List Int} {k : Nat} (h : k < xs.length) : joinL (xs.take (k + 1)) ys = joinL (xs.take k) ys ++ [nth ys (nth xs k).toNat] := by
  rw [take_succ_nth h]; simp [joinL]

set_option maxRecDepth 100000 in
theorem permJoin_any (ao bo : Option Addr) (xs ys : List Int) (n m c d : Nat) (w : World) (hn : xs.length = n) (hm : ys.length = m) (hl : n ≤ 17592186044416)
    (hx : IntsAt w ao xs) (hy : IntsAt w bo ys) (hr : ∀ x ∈ xs, 0 ≤ x ∧ x < m) :
    Calls Try.prog 39 #[.slice ao n c, .slice bo m d] w (RetOwn w (joinL xs ys)) := by
  have HN := hid hn
  have HM := hid hm
  have HR := hid hr
  clear hn hm hr
  obtain ⟨i0, hi, hz0, hz1, hz2⟩ := info_parts Try.infoInt
  go_enter Try.func39, Try.ntmps39
  go_wp2_with (at_make; refine wpList_make_full _ rfl _ _ 28 rfl w.heap.size 3 i0 (.int .i64 0) 1 Try.underlying28 hi hz0 hz1 _ _ _ _ n rfl rfl rfl rfl ?m1 ?m2 (Nat.le_refl _) ?_)
  case m1 => rw [hz2]; omega
  case m2 => unfold maxLen; omega
  intro w1 hown hgrow
  have ho := Own.made hown
  have hb : Below w.heap.size w w1 := (Below.refl _ _).grown hgrow (Nat.le_refl _) (by simp)
  clear hown hgrow hi hz0 hz1 hz2 i0
  go_wp2
  go_loopw [6, 7, 13] (fun _ _ i wr => ∃ k : Nat, k ≤ n ∧ i = .int .i64 k ∧ Own wr w.heap.size (.slice (some ⟨w.heap.size, 0, none⟩) n n) (filled (joinL (xs.take k) ys) n) ∧ Below w.heap.size w wr) (fun _ _ i _ => n - (intOf i).toNat)
  case atStart => exact ⟨0, Nat.zero_le _, rfl, by rw [List.take_zero]; exact (filled_nil n) ▸ ho, hb⟩
  case round =>
    obtain ⟨k, hk, rfl, hok, hbk⟩ := hrel
    clear ho hb
    have hjl : Hid ((joinL (xs.take k) ys).length = k) := by have := HN.out; unfold Hid; rw [length_joinL, List.length_take]; omega
    have hlen : Hid ((filled (joinL (xs.take k) ys) n).length = n) := length_filled (by rw [hjl.out]; exact hk)
    by_cases hlt : k < n
    · have hkl : k < xs.length := by rw [HN.out]; exact hlt
      have hxk := HR.out _ (nth_mem hkl)
      obtain ⟨t, ht⟩ := Int.eq_ofNat_of_zero_le hxk.1
      have htm : t < m := by omega
      obtain ⟨b, off, rfl, hc⟩ := (hx.below hbk (Nat.le_refl _)) (by omega)
      obtain ⟨b', off', rfl, hd⟩ := (hy.below hbk (Nat.le_refl _)) (by rw [HM.out]; omega)
      have hck := hc k hkl
      have hdt := hd t (by rw [HM.out]; exact htm)
      rw [ht] at hck
      have hck' := hok.cell (j := k) (by rw [hlen.out]; omega)
      have hfk := hok.free hlen.out.symm k
      have hst := hok.stored hlen.out.symm k (nth ys t)
      have hbs := hbk.setCell (p := ⟨w.heap.size, k, none⟩) (Nat.le_refl _) (.int .i64 (nth ys t))
      have hset : Hid ((filled (joinL (xs.take k) ys) n).set k (nth ys t) = filled (joinL (xs.take (k + 1)) ys) n) := by
        unfold Hid
        rw [filled_set hjl.out hlt, joinL_take_succ hkl, ht]; rfl
      rw [hset.out] at hst
      generalize filled (joinL (xs.take k) ys) n = X at *
      generalize nth ys t = y at *
      clear hc hd hx hy ht hxk hset hok hbk
      go_wp2
      go_roundw
      case rel => exact ⟨k + 1, by omega, by go_num, hst, hbs⟩
      case measure => simp [intOf]; omega
    · have hfin : Hid (filled (joinL (xs.take k) ys) n = joinL xs ys) := by
        unfold Hid
        have := HN.out
        rw [List.take_of_length_le (by omega)] at hjl ⊢
        exact filled_full (by rw [hjl.out]; omega)
      rw [hfin.out] at hok
      have hjn : Hid ((joinL xs ys).length = n) := by unfold Hid; rw [length_joinL, HN.out]
      go_wp2
      go_ret
      unfold RetOwn
      rw [hjn.out]
      exact ⟨_, _, rfl, hok, hbk⟩

def ThenOk (xs ys : List Int) : Prop := PermOk xs ∧ PermOk ys ∧ xs.length = ys.length
instance (xs ys : List Int) : Decidable (ThenOk xs ys) := by unfold ThenOk; infer_instance
def thenL (xs ys : List Int) : List Int := if ThenOk xs ys then joinL xs ys else []
theorem thenL_in {xs ys : List Int} (h : ThenOk xs ys) : thenL xs ys = joinL xs ys := if_pos h
theorem thenL_out {xs ys : List Int} (h : ¬ ThenOk xs ys) : thenL xs ys = [] := if_neg h

theorem length_thenL (xs ys : List Int) : (thenL xs ys).length ≤ 17592186044416 - 1048576 := by
  by_cases h : ThenOk xs ys
  · rw [thenL_in h, length_joinL]; have := h.1.2.1; omega
  · rw [thenL_out h]; simp

/-- What brings back what the first k places of xs bring away. -/
def turnTo (xs : List Int) (k : Nat) : List Int := (List.range k).foldl (fun acc (j : Nat) => acc.set (nth xs j).toNat (j : Int)) (List.replicate xs.length 0)
def turnL (xs : List Int) : List Int := turnTo xs xs.length
theorem turnTo_zero (xs : List Int) : turnTo xs 0 = List.replicate xs.length 0 := rfl
theorem turnTo_succ (xs : List Int) (k : Nat) : turnTo xs (k + 1) = (turnTo xs k).set (nth xs k).toNat k := by simp [turnTo, List.range_succ]
theorem length_turnTo (xs : List Int) (k : Nat) : (turnTo xs k).length = xs.length := by
  induction k with
  | zero => simp [turnTo_zero]
  | succ k ih => rw [turnTo_succ, List.length_set, ih]
def backL (xs : List Int) : List Int := if PermOk xs then turnL xs else []
theorem backL_in {xs : List Int} (h : PermOk xs) : backL xs = turnL xs := if_pos h
theorem backL_out {xs : List Int} (h : ¬ PermOk xs) : backL xs = [] := if_neg h

theorem length_backL (xs : List Int) : (backL xs).length ≤ 17592186044416 - 1048576 := by
  by_cases h : PermOk xs
  · rw [backL_in h]; unfold turnL; rw [length_turnTo]; have := h.2.1; omega
  · rw [backL_out h]; simp

theorem permB_iff {xs : List Int} : permB xs = true ↔ PermOk xs := by simp [permB]
theorem permB_not {xs : List Int} : permB xs = false ↔ ¬ PermOk xs := by simp [permB]

set_option maxRecDepth 100000 in
set_option maxHeartbeats 800000 in
theorem specPermThen_any (ao bo : Option Addr) (xs ys : List Int) (n m c d : Nat) (w : World) (hn : xs.length = n) (hm : ys.length = m) (hl : n ≤ 17592186044416) (hl2 : m ≤ 17592186044416) (hnc : n ≤ c) (hmd : m ≤ d)
    (hx : IntsAt w ao xs) (hy : IntsAt w bo ys) :
    Calls Try.prog 33 #[.slice ao n c, .slice bo m d] w (RetOwn w (thenL xs ys)) := by
  have HN := hid hn
  have HM := hid hm
  clear hn hm
  obtain ⟨i0, hi, hz0, hz1, hz2⟩ := info_parts Try.infoInt
  go_enter Try.func33, Try.ntmps33
  go_wp2
  go_loopw [5, 6] (fun v i wr => ∃ k : Nat, k ≤ n ∧ i = .int .i64 k ∧ Own wr w.heap.size v (joinL (xs.take k) ys) ∧ Below w.heap.size w wr ∧ Hid (k = 0 ∨ ThenOk xs ys)) (fun _ i _ => n - (intOf i).toNat)
  case atStart => exact ⟨0, Nat.zero_le _, rfl, Own.lit0 w (Nat.le_refl _), (Below.refl _ _).alloc (Nat.le_refl _) _, .inl rfl⟩
  case round =>
    obtain ⟨k, hk, rfl, hok, hb, hz⟩ := hrel
    have hjl : Hid ((joinL (xs.take k) ys).length = k) := by have := HN.out; unfold Hid; rw [length_joinL, List.length_take]; omega
    have hsz := hb.size
    by_cases hlt : k < n
    · have hkl : k < xs.length := by rw [HN.out]; exact hlt
      have hout : Hid (¬ ThenOk xs ys → joinL (xs.take k) ys = thenL xs ys) := fun h => by
        rcases hz.out with rfl | h'
        · rw [thenL_out h]; rfl
        · exact absurd h' h
      cases h1 : permB xs with
      | false =>
        have hno := hid (hout.out fun h => permB_not.1 h1 h.1)
        rw [hno.out] at hok
        obtain ⟨ao1, c1, rfl, _, _⟩ := hok.shape
        go_wp2_with fail
        refine (specPermValid_any ao xs n c wr HN.out (by omega) hnc (hx.below hb (Nat.le_refl _))).mono fun e w1 h => ?_
        rw [h1] at h
        obtain ⟨rfl, hq⟩ := h
        go_wp2_with fail
        go_ret
        exact ⟨_, _, rfl, hok.qt hq, hb.trans (hq.below _)⟩
      | true =>
        cases h2 : permB ys with
        | false =>
          have hno := hid (hout.out fun h => permB_not.1 h2 h.2.1)
          rw [hno.out] at hok
          obtain ⟨ao1, c1, rfl, _, _⟩ := hok.shape
          go_wp2_with fail
          refine (specPermValid_any ao xs n c wr HN.out (by omega) hnc (hx.below hb (Nat.le_refl _))).mono fun e w1 h => ?_
          rw [h1] at h
          obtain ⟨rfl, hq⟩ := h
          have hb := hb.trans (hq.below _)
          have hok := hok.qt hq
          go_wp2_with fail
          refine (specPermValid_any bo ys m d w1 HM.out (by omega) hmd (hy.below hb (Nat.le_refl _))).mono fun e w2 h => ?_
          rw [h2] at h
          obtain ⟨rfl, hq⟩ := h
          go_wp2_with fail
          go_ret
          exact ⟨_, _, rfl, hok.qt hq, hb.trans (hq.below _)⟩
        | true =>
          by_cases hnm : n = m
          · subst hnm
            have hyes : Hid (ThenOk xs ys) := ⟨permB_iff.1 h1, permB_iff.1 h2, by rw [HN.out, HM.out]⟩
            have hxk : 0 ≤ nth xs k ∧ nth xs k < n := by have := (permB_iff.1 h1).2.2.1 _ (nth_mem hkl); rwa [HN.out] at this
            obtain ⟨t, ht⟩ := Int.eq_ofNat_of_zero_le hxk.1
            have htm : t < n := by omega
            have hbq : ((n : Int) == n) = true := by simp
            have hsnoc : Hid (joinL (xs.take (k + 1)) ys = joinL (xs.take k) ys ++ [nth ys t]) := by unfold Hid; rw [joinL_take_succ hkl, ht]; rfl
            have hn5 : n ≤ 5 := by have := (permB_iff.1 h1).2.1; rwa [HN.out] at this
            go_wp2_with fail
            refine (specPermValid_any ao xs n c wr HN.out (by omega) hnc (hx.below hb (Nat.le_refl _))).mono fun e w1 h => ?_
            rw [h1] at h
            obtain ⟨rfl, hq⟩ := h
            have hb := hb.trans (hq.below _)
            have hok := hok.qt hq
            clear hq
            go_wp2_with fail
            refine (specPermValid_any bo ys n d w1 HM.out (by omega) hmd (hy.below hb (Nat.le_refl _))).mono fun e w2 h => ?_
            rw [h2] at h
            obtain ⟨rfl, hq⟩ := h
            have hb := hb.trans (hq.below _)
            have hok := hok.qt hq
            clear hq
            obtain ⟨b, off, rfl, hc⟩ := (hx.below hb (Nat.le_refl _)) (by omega)
            obtain ⟨b', off', rfl, hd⟩ := (hy.below hb (Nat.le_refl _)) (by rw [HM.out]; omega)
            have hck := hc k hkl
            have hdt := hd t (by rw [HM.out]; exact htm)
            rw [ht] at hck
            have hsz := hb.size
            generalize nth ys t = y at *
            clear hc hd hx hy ht hxk h1 h2
            go_wp2_with (at_builtin; refine wpList_append_own _ rfl _ _ 28 rfl w.heap.size 3 i0 (.int .i64 0) 1 8 Try.underlying28 hi hz0 hz1 hz2 rfl (by decide) _ _ _ rfl (hok.alloc _) ⟨w2.heap.size, 0, none⟩ 1 1 [.int .i64 y] rfl rfl ?c1 ?c2 ?c3 ?c4 ?c5 ?_)
            case c1 => exact cell1 _ _ _
            case c2 => exact cell1_one _
            case c3 => rw [hjl.out]; unfold maxLen; omega
            case c4 => rw [hjl.out]; omega
            case c5 => first | omega | (simp; omega)
            intro v' w3 hown' hgrow _
            have ho := Own.appended hown'
            have hb' := (hb.alloc hb.size _).grown hgrow (by simp; omega) (fun j hj => (World.ownsRow.lt hok j hj).1)
            rw [← hsnoc.out] at ho
            clear hown' hgrow hok hb
            go_wp2
            go_roundw
            case rel => exact ⟨k + 1, by omega, by go_num, ho, hb', .inr hyes.out⟩
            case measure => simp [intOf]; omega
          · have hno := hid (hout.out fun h => hnm (by have := h.2.2; rwa [HN.out, HM.out] at this))
            rw [hno.out] at hok
            obtain ⟨ao1, c1, rfl, _, _⟩ := hok.shape
            have hbq : ((n : Int) == m) = false := by simp; omega
            go_wp2_with fail
            refine (specPermValid_any ao xs n c wr HN.out (by omega) hnc (hx.below hb (Nat.le_refl _))).mono fun e w1 h => ?_
            rw [h1] at h
            obtain ⟨rfl, hq⟩ := h
            have hb := hb.trans (hq.below _)
            have hok := hok.qt hq
            clear hq
            go_wp2_with fail
            refine (specPermValid_any bo ys m d w1 HM.out (by omega) hmd (hy.below hb (Nat.le_refl _))).mono fun e w2 h => ?_
            rw [h2] at h
            obtain ⟨rfl, hq⟩ := h
            go_wp2_with fail
            go_ret
            exact ⟨_, _, rfl, hok.qt hq, hb.trans (hq.below _)⟩
    · have hfin : Hid (joinL (xs.take k) ys = thenL xs ys) := by
        have h1 := HN.out
        rcases hz.out with h0 | h'
        · have : xs = [] := List.eq_nil_of_length_eq_zero (by omega)
          subst this
          unfold Hid; rw [thenL_out (fun h => by have := h.1.1; simp at this)]; simp [joinL]
        · unfold Hid; rw [thenL_in h', List.take_of_length_le (by omega)]
      rw [hfin.out] at hok
      obtain ⟨ao1, c1, rfl, _, _⟩ := hok.shape
      go_wp2
      go_ret
      exact ⟨_, _, rfl, hok, hb⟩

end Go.Proofs.Ytojkiajempdmfaa
