/- The walks of the small helpers on lists of int: l1In, l1Has, eqIntS, markIntS, heldIntS, toIntS. -/
import Derived.Test.YtaepoddlhghdpaaBase
import Derived.Deep.QuietTactic
import Derived.BigQuiet
namespace Go.Proofs.Ytaepoddlhghdpaa
open Go Go.RowKit

def inR (lo hi n : Int) : Bool := decide (lo ≤ n) && decide (n ≤ hi)

theorem l1In_any (n lo hi : Int) (w : World) :
    Calls Try.prog 39 #[.int .i64 n, .int .i64 lo, .int .i64 hi] w fun e w' => e = .returned (.bool (inR lo hi n)) ∧ w = w' := by
  by_cases h1 : lo ≤ n
  · go_enter Try.func39, Try.ntmps39
    go_wp2
    go_ret
    exact ⟨by simp [inR]; try omega, rfl⟩
  · go_enter Try.func39, Try.ntmps39
    go_wp2
    go_ret
    exact ⟨by simp [inR]; try omega, rfl⟩

def hasL (xs : List Int) (n : Int) : Bool := xs.contains n

theorem hasL_take_succ (xs : List Int) (k : Nat) (n : Int) (h : k < xs.length) : hasL (xs.take (k + 1)) n = (hasL (xs.take k) n || (nth xs k == n)) := by
  rw [nth_eq h, Bool.eq_iff_iff]
  simp only [hasL, List.take_add_one, h, List.getElem?_eq_getElem, Option.toList_some, List.contains_iff_mem, List.mem_append, Bool.or_eq_true, beq_iff_eq, List.mem_singleton]
  constructor
  · rintro (h | h)
    · exact .inl h
    · exact .inr h.symm
  · rintro (h | h)
    · exact .inl h
    · exact .inr h.symm

theorem hasL_of_nth {xs : List Int} {k : Nat} {n : Int} (h : k < xs.length) (e : nth xs k = n) : hasL xs n = true := by
  have := nth_mem h
  rw [e] at this
  simpa [hasL] using this

set_option maxRecDepth 100000 in
theorem l1Has_any (ao : Option Addr) (xs : List Int) (l c : Nat) (n : Int) (w : World) (hn : xs.length = l) (hl : l ≤ 9223372036854775807) (hx : IntsAt w ao xs) :
    Calls Try.prog 40 #[.slice ao l c, .int .i64 n] w fun e w' => e = .returned (.bool (hasL xs n)) ∧ w = w' := by
  have HN := hid hn
  clear hn
  go_enter Try.func40, Try.ntmps40
  go_wp2
  go_loop [5] (fun i => ∃ k : Nat, k ≤ l ∧ i = .int .i64 k ∧ Hid (hasL (xs.take k) n = false)) (fun i => l - (intOf i).toNat)
  case atStart => exact ⟨0, Nat.zero_le _, rfl, by simp [Hid, hasL]⟩
  case round =>
    obtain ⟨k, hk, rfl, hh⟩ := hrel
    by_cases hlt : k < l
    · obtain ⟨b, off, rfl, hc⟩ := hx (by rw [HN.out]; omega)
      have hkl : k < xs.length := by rw [HN.out]; exact hlt
      have hck := hc k hkl
      clear hc hx
      by_cases he : nth xs k = n
      · have hb : (nth xs k == n) = true := by simp [he]
        have hfin : Hid (hasL xs n = true) := hasL_of_nth hkl he
        clear he
        go_wp2
        go_ret
        exact ⟨by rw [hfin.out]; rfl, rfl⟩
      · have hb : (nth xs k == n) = false := by simp [he]
        have hnext : Hid (hasL (xs.take (k+1)) n = false) := by
          have := hasL_take_succ xs k n hkl
          rw [hb, hh.out] at this
          exact this
        clear he
        go_wp2
        go_round
        case rel => exact ⟨k + 1, by omega, by go_num, hnext⟩
        case measure => simp [intOf]; omega
    · have hkl : xs.take k = xs := List.take_of_length_le (by rw [HN.out]; omega)
      rw [hkl] at hh
      go_wp2
      go_ret
      exact ⟨by rw [hh.out]; rfl, rfl⟩

theorem eqL_false_len {xs ys : List Int} (h : xs.length ≠ ys.length) : eqL xs ys = false := by
  simp only [eqL, decide_eq_false_iff_not]
  exact fun e => h (by rw [e])

theorem eqL_false_at {xs ys : List Int} {k : Nat} (h : nth xs k ≠ nth ys k) : eqL xs ys = false := by
  simp only [eqL, decide_eq_false_iff_not]
  exact fun e => h (by rw [e])

theorem eqL_true_all {xs ys : List Int} (hl : xs.length = ys.length) (h : ∀ j, j < xs.length → nth xs j = nth ys j) : eqL xs ys = true := by
  simp only [eqL, decide_eq_true_eq]
  exact ext_nth hl h

set_option maxRecDepth 100000 in
theorem eqIntS_any (ao bo : Option Addr) (xs ys : List Int) (n m c d : Nat) (w : World) (hn : xs.length = n) (hm : ys.length = m) (hl : n ≤ 9223372036854775807) (hx : IntsAt w ao xs) (hy : IntsAt w bo ys) :
    Calls Try.prog 27 #[.slice ao n c, .slice bo m d] w fun e w' => e = .returned (.bool (eqL xs ys)) ∧ Qt w w' := by
  have HN := hid hn
  have HM := hid hm
  clear hn hm
  by_cases hnm : n = m
  · subst hnm
    have hb0 : ((n : Int) != (n : Int)) = false := by simp
    go_enter Try.func27, Try.ntmps27
    go_wp2
    go_loopw [5] (fun i wr => ∃ k q : Nat, k ≤ n ∧ i = .int .i64 k ∧ wr = w.drewN q ∧ Hid (∀ j, j < k → nth xs j = nth ys j)) (fun i _ => n - (intOf i).toNat)
    case atStart => exact ⟨0, 0, Nat.zero_le _, rfl, rfl, fun j h => absurd h (by omega)⟩
    case round =>
      obtain ⟨k, q, hk, rfl, rfl, hh⟩ := hrel
      by_cases hlt : k < n
      · obtain ⟨b, off, rfl, hc⟩ := hx (by rw [HN.out]; omega)
        obtain ⟨b', off', rfl, hd⟩ := hy (by rw [HM.out]; omega)
        have hck := hc k (by rw [HN.out]; omega)
        have hdk := hd k (by rw [HM.out]; omega)
        clear hc hd hx hy
        by_cases he : nth xs k = nth ys k
        · have hb : (nth xs k != nth ys k) = false := by simp [he]
          have hnext : Hid (∀ j, j < k + 1 → nth xs j = nth ys j) := fun j hj => by
            by_cases e : j = k
            · subst e; exact he
            · exact hh.out j (by omega)
          clear he
          go_wp2
          go_quiet (fail)
          go_wp2
          go_roundw
          case rel => exact ⟨k + 1, _, by omega, by go_num, rfl, hnext⟩
          case measure => simp [intOf]; omega
        · have hb : (nth xs k != nth ys k) = true := by simp [he]
          have hfin : Hid (eqL xs ys = false) := eqL_false_at he
          clear he
          go_wp2
          go_quiet (fail)
          go_wp2
          go_ret
          exact ⟨by rw [hfin.out]; rfl, (((Qt.refl w).drewN _).drewN _)⟩
      · have hfin : Hid (eqL xs ys = true) := eqL_true_all (by rw [HN.out, HM.out]) fun j hj => hh.out j (by rw [HN.out] at hj; omega)
        go_wp2
        go_ret
        exact ⟨by rw [hfin.out]; rfl, _, rfl⟩
  · have hb : ((n : Int) != (m : Int)) = true := by simp; omega
    have hfin : Hid (eqL xs ys = false) := eqL_false_len (by rw [HN.out, HM.out]; exact hnm)
    go_enter Try.func27, Try.ntmps27
    go_wp2
    go_ret
    exact ⟨by rw [hfin.out]; rfl, 0, rfl⟩

set_option maxRecDepth 100000 in
theorem toIntS_any (ao : Option Addr) (xs : List Int) (n c : Nat) (w : World) (hn : xs.length = n) (hl : n ≤ 17592186044416) (hx : IntsAt w ao xs) :
    Calls Try.prog 24 #[.slice ao n c] w fun e w' => e = .returned (.slice (some ⟨w.heap.size, 0, none⟩) n n) ∧ Own w' w.heap.size (.slice (some ⟨w.heap.size, 0, none⟩) n n) xs ∧ Below w.heap.size w w' := by
  have HN := hid hn
  clear hn
  obtain ⟨i0, hi, hz0, hz1, hz2⟩ := info_parts Try.infoInt
  go_enter Try.func24, Try.ntmps24
  go_wp2_with (at_make; refine wpList_make_full _ rfl _ _ 22 rfl w.heap.size 3 i0 (.int .i64 0) 1 Try.underlying22 hi hz0 hz1 _ _ _ _ n rfl rfl rfl rfl ?m1 ?m2 (Nat.le_refl _) ?_)
  case m1 => rw [hz2]; omega
  case m2 => unfold maxLen; omega
  intro w1 hown hgrow
  have ho := Own.made hown
  have hb : Below w.heap.size w w1 := (Below.refl _ _).grown hgrow (Nat.le_refl _) (by simp)
  clear hown hgrow hi hz0 hz1 hz2 i0
  go_wp2
  go_loopw [4] (fun i wr => ∃ k : Nat, k ≤ n ∧ i = .int .i64 k ∧ Own wr w.heap.size (.slice (some ⟨w.heap.size, 0, none⟩) n n) (xs.take k ++ List.replicate (n - k) 0) ∧ Below w.heap.size w wr) (fun i _ => n - (intOf i).toNat)
  case atStart => exact ⟨0, Nat.zero_le _, rfl, by simpa using ho, hb⟩
  case round =>
    obtain ⟨k, hk, rfl, hok, hbk⟩ := hrel
    clear ho hb
    by_cases hlt : k < n
    · obtain ⟨b, off, rfl, hc⟩ := (hx.below hbk (Nat.le_refl _)) (by rw [HN.out]; omega)
      have hck := hc k (by rw [HN.out]; omega)
      have hlen : Hid ((xs.take k ++ List.replicate (n - k) 0).length = n) := by have := HN.out; simp [Hid]; omega
      have hdk := hok.cell (j := k) (by rw [hlen.out]; omega)
      have hfk := hok.free hlen.out.symm k
      have hst := hok.stored hlen.out.symm k (nth xs k)
      have hbs := hbk.setCell (p := ⟨w.heap.size, k, none⟩) (Nat.le_refl _) (.int .i64 (nth xs k))
      have hset : Hid ((xs.take k ++ List.replicate (n - k) 0).set k (nth xs k) = xs.take (k + 1) ++ List.replicate (n - (k + 1)) 0) := by
        have h1 : (xs.take k).length = k := by have := HN.out; simp; omega
        unfold Hid
        rw [List.set_append_right _ _ (by omega), h1, Nat.sub_self, show n - k = (n - (k + 1)) + 1 from by omega, List.replicate_succ, List.set_cons_zero, take_succ_nth (by rw [HN.out]; omega)]
        simp
      clear hc hx
      generalize hX : (xs.take k ++ List.replicate (n - k) 0) = X at *
      clear hX
      go_wp2
      go_roundw
      case rel => exact ⟨k + 1, by omega, by go_num, by rw [← hset.out]; exact hst, hbs⟩
      case measure => simp [intOf]; omega
    · have hfin : Hid (xs.take k ++ List.replicate (n - k) 0 = xs) := by
        have := HN.out
        unfold Hid
        rw [List.take_of_length_le (by omega), show n - k = 0 from by omega]; simp
      rw [hfin.out] at hok
      go_wp2
      go_ret
      exact ⟨rfl, hok, hbk⟩

def markL (xs : List Int) (k0 : Int) (i : Nat) : List Int := iota k0 i ++ xs.drop i
theorem length_markL (xs : List Int) (k0 : Int) (i : Nat) (h : i ≤ xs.length) : (markL xs k0 i).length = xs.length := by simp [markL, length_iota]; omega
theorem markL_step (xs : List Int) (k0 : Int) (i : Nat) (h : i < xs.length) : (markL xs k0 i).set i (k0 + i) = markL xs k0 (i + 1) := by
  unfold markL
  rw [List.set_append_right _ _ (by rw [length_iota]; exact Nat.le_refl _), length_iota, Nat.sub_self, List.drop_eq_getElem_cons h, List.set_cons_zero]
  simp [iota, List.range_succ]

set_option maxRecDepth 100000 in
theorem markIntS_any (ao : Option Addr) (xs : List Int) (n c B : Nat) (k0 : Int) (w : World) (hn : xs.length = n) (hl : n ≤ 17592186044416) (hk0 : 0 ≤ k0) (hk1 : k0 ≤ 17592186044416) (hx : Own w B (.slice ao n c) xs) :
    Calls Try.prog 31 #[.slice ao n c, .int .i64 k0] w fun e w' => e = .returned (.int .i64 (k0 + n)) ∧ Own w' B (.slice ao n c) (iota k0 n) ∧ w.grownBy w' (Value.slice ao n c).ownBlock := by
  have HN := hid hn
  clear hn
  go_enter Try.func31, Try.ntmps31
  go_wp2
  go_loopw [1, 5] (fun kv i wr => ∃ k : Nat, k ≤ n ∧ i = .int .i64 k ∧ kv = .int .i64 (k0 + k) ∧ Own wr B (.slice ao n c) (markL xs k0 k) ∧ w.grownBy wr (Value.slice ao n c).ownBlock) (fun _ i _ => n - (intOf i).toNat)
  case atStart => exact ⟨0, Nat.zero_le _, rfl, by simp, by simpa [markL, iota] using hx, grownBy_refl _ _⟩
  case round =>
    obtain ⟨k, hk, rfl, rfl, hok, hbk⟩ := hrel
    have hlen : Hid ((markL xs k0 k).length = n) := by unfold Hid; rw [length_markL _ _ _ (by rw [HN.out]; exact hk), HN.out]
    by_cases hlt : k < n
    · obtain ⟨g, rfl⟩ := hx.addr (by rw [HN.out]; omega)
      have hdk := hok.cell (j := k) (by rw [hlen.out]; omega)
      have hfk := hok.free hlen.out.symm k
      have hst := hok.stored hlen.out.symm k (k0 + k)
      have hbs := grownBy_trans hbk (grownBy_setCell wr g k (.int .i64 (k0 + k)))
      rw [markL_step _ _ _ (by rw [HN.out]; exact hlt)] at hst
      clear hx hok hbk
      go_wp2
      go_roundw
      case rel => exact ⟨k + 1, by omega, by go_num, by go_num, hst, hbs⟩
      case measure => simp [intOf]; omega
    · obtain rfl : k = n := by omega
      have hfin : Hid (markL xs k0 k = iota k0 k) := by
        have := HN.out
        unfold Hid markL
        rw [List.drop_of_length_le (by omega), List.append_nil]
      rw [hfin.out] at hok
      clear hx
      go_wp2
      go_ret
      exact ⟨rfl, hok, hbk⟩

set_option maxRecDepth 100000 in
theorem heldIntS_any (ao : Option Addr) (n c : Nat) (k0 : Int) (w : World) (hl : n ≤ 17592186044416) (hk0 : 0 ≤ k0) (hk1 : k0 ≤ 17592186044416) (hx : IntsAt w ao (iota k0 n)) :
    Calls Try.prog 32 #[.slice ao n c, .int .i64 k0] w fun e w' => e = .returned (.int .i64 (k0 + n)) ∧ w = w' := by
  go_enter Try.func32, Try.ntmps32
  go_wp2
  go_loop [1, 5] (fun kv i => ∃ k : Nat, k ≤ n ∧ i = .int .i64 k ∧ kv = .int .i64 (k0 + k)) (fun _ i => n - (intOf i).toNat)
  case atStart => exact ⟨0, Nat.zero_le _, rfl, by simp⟩
  case round =>
    obtain ⟨k, hk, rfl, rfl⟩ := hrel
    by_cases hlt : k < n
    · obtain ⟨b, off, rfl, hc⟩ := hx (by rw [length_iota]; omega)
      have hck := hc k (by rw [length_iota]; exact hlt)
      rw [nth_iota hlt] at hck
      have hb : ((k0 + (k : Int)) != (k0 + (k : Int))) = false := by simp
      clear hc hx
      go_wp2
      go_round
      case rel => exact ⟨k + 1, by omega, by go_num, by go_num⟩
      case measure => simp [intOf]; omega
    · obtain rfl : k = n := by omega
      go_wp2
      go_ret
      exact ⟨rfl, rfl⟩

end Go.Proofs.Ytaepoddlhghdpaa
