/- The walks of PermNone, the program's and the reference's. -/
import Derived.Test.YtojkiajempdmfaaInts
namespace Go.Proofs.Ytojkiajempdmfaa
open Go Go.RowKit

/-- The permutation of so many places that moves nothing; none for other numbers. -/
def noneL (p : Int) : List Int := if 1 ≤ p ∧ p ≤ 5 then iota 0 p.toNat else []

theorem noneL_in {p : Int} (h : 1 ≤ p ∧ p ≤ 5) : noneL p = iota 0 p.toNat := if_pos h
theorem noneL_out {p : Int} (h : ¬ (1 ≤ p ∧ p ≤ 5)) : noneL p = [] := if_neg h



set_option maxRecDepth 100000 in
theorem specPermNone_any (p : Int) (w : World) :
    Calls Try.prog 32 #[.int .i64 p] w (RetOwn w (noneL p)) := by
  by_cases hp : p ≤ 5
  · obtain ⟨i0, hi, hz0, hz1, hz2⟩ := info_parts Try.infoInt
    have hd1 : decide (p ≤ 5) = true := decide_eq_true hp
    go_enter Try.func32, Try.ntmps32
    go_wp2
    go_loopw [3, 4] (fun v i wr => ∃ k : Nat, (k : Int) ≤ max p 0 ∧ i = .int .i64 k ∧ Own wr w.heap.size v (iota 0 k) ∧ Below w.heap.size w wr) (fun _ i _ => (p - intOf i).toNat)
    case atStart => exact ⟨0, by omega, rfl, Own.lit0 w (Nat.le_refl _), (Below.refl _ _).alloc (Nat.le_refl _) _⟩
    case round =>
      obtain ⟨k, hk, rfl, hok, hb⟩ := hrel
      by_cases hlt : (k : Int) < p
      · have hsz := hb.size
        have hd2 : decide ((k : Int) < p) = true := decide_eq_true hlt
        go_wp2_with (at_builtin; refine wpList_append_own _ rfl _ _ 28 rfl w.heap.size 3 i0 (.int .i64 0) 1 8 Try.underlying28 hi hz0 hz1 hz2 rfl (by decide) _ _ _ rfl (hok.alloc _) ⟨wr.heap.size, 0, none⟩ 1 1 [.int .i64 k] rfl rfl ?c1 ?c2 ?c3 ?c4 ?c5 ?_)
        case c1 => exact cell1 _ _ _
        case c2 => exact cell1_one _
        case c3 => rw [length_iota]; unfold maxLen; omega
        case c4 => rw [length_iota]; omega
        case c5 => first | omega | (simp; omega)
        intro v' w1 hown' hgrow _
        have ho := Own.appended (xs := iota 0 k) hown'
        have hb' := (hb.alloc hb.size _).grown hgrow (by simp; omega) (fun j hj => by have := World.ownsRow.lt hok j hj; exact this.1)
        clear hown' hgrow hok hb
        go_wp2
        go_roundw
        case rel => exact ⟨k + 1, by omega, by go_num, by rw [iota_succ]; simpa using ho, hb'⟩
        case measure => simp [intOf]; omega
      · have hd2 : decide ((k : Int) < p) = false := decide_eq_false hlt
        have hfin : Hid (iota 0 k = noneL p) := by
          by_cases h1 : 1 ≤ p
          · unfold Hid; rw [noneL_in ⟨h1, hp⟩]; congr 1; omega
          · unfold Hid; rw [noneL_out (by omega), show k = 0 from by omega]; rfl
        rw [hfin.out] at hok
        obtain ⟨ao, c, rfl, _, _⟩ := hok.shape
        go_wp2
        go_ret
        exact ⟨ao, c, rfl, hok, hb⟩
  · have hd1 : decide (p ≤ 5) = false := decide_eq_false hp
    have hd2 : decide (0 < p) = true := decide_eq_true (by omega)
    have hfin : Hid (noneL p = []) := noneL_out (by omega)
    go_enter Try.func32, Try.ntmps32
    go_wp2
    refine wp_loop_rounds 1 ?_
    rw [rounds_succ]
    go_wp2
    go_ret
    unfold RetOwn
    rw [hfin.out]
    exact ⟨_, _, rfl, Own.lit0 w (Nat.le_refl _), (Below.refl _ _).alloc (Nat.le_refl _) _⟩

set_option maxRecDepth 100000 in
theorem implPermNone_any (p : Int) (w : World) :
    Calls Try.prog 38 #[.int .i64 p] w (RetOwn w (noneL p)) := by
  by_cases hp : 1 ≤ p ∧ p ≤ 5
  · obtain ⟨hp1, hp5⟩ := hp
    obtain ⟨n, rfl⟩ := Int.eq_ofNat_of_zero_le (show 0 ≤ p by omega)
    obtain ⟨i0, hi, hz0, hz1, hz2⟩ := info_parts Try.infoInt
    have hd1 : decide ((n : Int) < 1) = false := decide_eq_false (by omega)
    have hd2 : decide ((5 : Int) < n) = false := decide_eq_false (by omega)
    have hnone : Hid (noneL (n : Int) = iota 0 n) := by unfold Hid; rw [noneL_in ⟨hp1, hp5⟩]; rfl
    go_enter Try.func38, Try.ntmps38
    go_wp2_with (at_make; refine wpList_make_full _ rfl _ _ 28 rfl w.heap.size 3 i0 (.int .i64 0) 1 Try.underlying28 hi hz0 hz1 _ _ _ _ n rfl rfl rfl rfl ?m1 ?m2 (Nat.le_refl _) ?_)
    case m1 => rw [hz2]; omega
    case m2 => unfold maxLen; omega
    intro w1 hown hgrow
    have ho := Own.made hown
    have hb : Below w.heap.size w w1 := (Below.refl _ _).grown hgrow (Nat.le_refl _) (by simp)
    clear hown hgrow hi hz0 hz1 hz2 i0
    go_wp2
    go_loopw [4, 15] (fun _ i wr => ∃ k : Nat, k ≤ n ∧ i = .int .i64 k ∧ Own wr w.heap.size (.slice (some ⟨w.heap.size, 0, none⟩) n n) (iota 0 k ++ List.replicate (n - k) 0) ∧ Below w.heap.size w wr) (fun _ i _ => n - (intOf i).toNat)
    case atStart => exact ⟨0, Nat.zero_le _, rfl, by simpa [iota] using ho, hb⟩
    case round =>
      obtain ⟨k, hk, rfl, hok, hbk⟩ := hrel
      clear ho hb
      by_cases hlt : k < n
      · have hlen : Hid ((iota 0 k ++ List.replicate (n - k) 0).length = n) := by simp [Hid, length_iota]; omega
        have hdk := hok.cell (j := k) (by rw [hlen.out]; omega)
        have hfk := hok.free hlen.out.symm k
        have hst := hok.stored hlen.out.symm k (k : Int)
        have hbs := hbk.setCell (p := ⟨w.heap.size, k, none⟩) (Nat.le_refl _) (.int .i64 (k : Int))
        have hset : Hid ((iota 0 k ++ List.replicate (n - k) 0).set k (k : Int) = iota 0 (k + 1) ++ List.replicate (n - (k + 1)) 0) := by
          unfold Hid
          rw [List.set_append_right _ _ (by rw [length_iota]; exact Nat.le_refl _), length_iota, Nat.sub_self, show n - k = (n - (k + 1)) + 1 from by omega, List.replicate_succ, List.set_cons_zero, iota_succ]
          simp
        generalize hX : (iota 0 k ++ List.replicate (n - k) 0) = X at *
        clear hX
        go_wp2
        go_roundw
        case rel => exact ⟨k + 1, by omega, by go_num, by rw [← hset.out]; exact hst, hbs⟩
        case measure => simp [intOf]; omega
      · have hfin : Hid (iota 0 k ++ List.replicate (n - k) 0 = noneL n) := by
          unfold Hid
          rw [hnone.out, show k = n from by omega]; simp
        have hlen : Hid ((noneL n).length = n) := by unfold Hid; rw [hnone.out, length_iota]
        rw [hfin.out] at hok
        go_wp2
        go_ret
        unfold RetOwn
        rw [hlen.out]
        exact ⟨_, _, rfl, hok, hbk⟩
  · have hfin : Hid (noneL p = []) := noneL_out hp
    by_cases h1 : p < 1
    · have hd1 : decide (p < 1) = true := decide_eq_true h1
      go_enter Try.func38, Try.ntmps38
      go_wp2
      go_ret
      unfold RetOwn
      rw [hfin.out]
      exact ⟨_, _, rfl, Own.nil _ _, Below.refl _ _⟩
    · have hd1 : decide (p < 1) = false := decide_eq_false h1
      have hd2 : decide (5 < p) = true := decide_eq_true (by omega)
      go_enter Try.func38, Try.ntmps38
      go_wp2
      go_ret
      unfold RetOwn
      rw [hfin.out]
      exact ⟨_, _, rfl, Own.nil _ _, Below.refl _ _⟩

end Go.Proofs.Ytojkiajempdmfaa
