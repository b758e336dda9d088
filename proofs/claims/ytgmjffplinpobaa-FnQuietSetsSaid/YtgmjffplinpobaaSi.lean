/- sameInts: whether two lists of numbers are equal. -/
import Derived.Test.YtgmjffplinpobaaInts
import Derived.BigQuiet
namespace Go.Proofs.Ytgmjffplinpobaa
open Go Go.RowKit

set_option maxRecDepth 100000 in
theorem sameInts_any (ao bo : Option Addr) (xs ys : List Int) (n m c d : Nat) (w : World) (hn : xs.length = n) (hm : ys.length = m) (hl : n ≤ 9223372036854775807) (hx : IntsAt w ao xs) (hy : IntsAt w bo ys) :
    Calls Try.prog 20 #[.slice ao n c, .slice bo m d] w fun e w' => e = .returned (.bool (eqL xs ys)) ∧ Qt w w' := by
  have HN := hid hn
  have HM := hid hm
  clear hn hm
  by_cases hnm : n = m
  · subst hnm
    have hb0 : ((n : Int) != (n : Int)) = false := by simp
    go_enter Try.func20, Try.ntmps20
    go_wp2
    go_loopw [5] (fun i wr => ∃ k q : Nat, k ≤ n ∧ i = .int .i64 k ∧ wr = w.drewN q ∧ Hid (∀ j, j < k → nth xs j = nth ys j)) (fun i _ => n - (intOf i).toNat)
    case atStart => exact ⟨0, 0, Nat.zero_le _, rfl, rfl, fun j h => absurd h (by omega)⟩
    case round =>
      obtain ⟨k, q, hk, rfl, rfl, hh⟩ := hrel
      by_cases hlt : k < n
      · obtain ⟨b, off, rfl, hc⟩ := hx (by rw [HN.out]; omega)
        obtain ⟨b', off', rfl, hd⟩ := hy (by rw [HM.out]; omega)
        have hck := hc k (by rw [HN.out]; omega)
        have hdk := hd k (by rw [HM.out]; omega)
        clear hc hd hx hy
        by_cases he : nth xs k = nth ys k
        · have hb : (nth xs k != nth ys k) = false := by simp [he]
          have hnext : Hid (∀ j, j < k + 1 → nth xs j = nth ys j) := fun j hj => by
            by_cases e : j = k
            · subst e; exact he
            · exact hh.out j (by omega)
          clear he
          go_wp2
          go_quiet (fail)
          go_wp2
          go_roundw
          case rel => exact ⟨k + 1, _, by omega, by go_num, rfl, hnext⟩
          case measure => simp [intOf]; omega
        · have hb : (nth xs k != nth ys k) = true := by simp [he]
          have hfin : Hid (eqL xs ys = false) := eqL_false_at he
          clear he
          go_wp2
          go_quiet (fail)
          go_wp2
          go_ret
          exact ⟨by rw [hfin.out]; rfl, (((Qt.refl w).drewN _).drewN _)⟩
      · have hfin : Hid (eqL xs ys = true) := eqL_true_all (by rw [HN.out, HM.out]) fun j hj => hh.out j (by rw [HN.out] at hj; omega)
        go_wp2
        go_ret
        exact ⟨by rw [hfin.out]; rfl, _, rfl⟩
  · have hb : ((n : Int) != (m : Int)) = true := by simp; omega
    have hfin : Hid (eqL xs ys = false) := eqL_false_len (by rw [HN.out, HM.out]; exact hnm)
    go_enter Try.func20, Try.ntmps20
    go_wp2
    go_ret
    exact ⟨by rw [hfin.out]; rfl, Qt.refl w⟩

/-- Equal lists are equal. -/
theorem sameInts_self (ao bo : Option Addr) (xs : List Int) (n c d : Nat) (w : World) (hn : xs.length = n) (hl : n ≤ 9223372036854775807) (hx : IntsAt w ao xs) (hy : IntsAt w bo xs) :
    Calls Try.prog 20 #[.slice ao n c, .slice bo n d] w fun e w' => e = .returned (.bool true) ∧ Qt w w' :=
  (sameInts_any ao bo xs xs n n c d w hn hn hl hx hy).mono fun _ _ h => by rw [eqL_self] at h; exact h

end Go.Proofs.Ytgmjffplinpobaa
