/- The walks of permSame, permIn and groupWords. -/
import Derived.Test.YtojkiajempdmfaaGw
import Derived.Test.YtojkiajempdmfaaPn
import Derived.Test.YtojkiajempdmfaaPj
import Derived.Deep.QuietTactic
import Derived.BigQuiet
import Derived.OwnWalk
namespace Go.Proofs.Ytojkiajempdmfaa
open Go Go.RowKit

set_option maxRecDepth 100000 in
theorem permSame_any (ao bo : Option Addr) (xs ys : List Int) (n c d : Nat) (w : World) (hn : xs.length = n) (hm : ys.length = n) (hl : n ≤ 9223372036854775807) (hx : IntsAt w ao xs) (hy : IntsAt w bo ys) :
    Calls Try.prog 42 #[.slice ao n c, .slice bo n d] w fun e w' => e = .returned (.bool (eqL xs ys)) ∧ Qt w w' := by
  have HN := hid hn
  have HM := hid hm
  clear hn hm
  go_enter Try.func42, Try.ntmps42
  go_wp2
  go_loopw [5, 8] (fun _ i wr => ∃ k q : Nat, k ≤ n ∧ i = .int .i64 k ∧ wr = w.drewN q ∧ Hid (∀ j, j < k → nth xs j = nth ys j)) (fun _ i _ => n - (intOf i).toNat)
  case atStart => exact ⟨0, 0, Nat.zero_le _, rfl, rfl, fun j h => absurd h (by omega)⟩
  case round =>
    obtain ⟨k, q, hk, rfl, rfl, hh⟩ := hrel
    by_cases hlt : k < n
    · obtain ⟨b, off, rfl, hc⟩ := hx (by rw [HN.out]; omega)
      obtain ⟨b', off', rfl, hd⟩ := hy (by rw [HM.out]; omega)
      have hck := hc k (by rw [HN.out]; omega)
      have hdk := hd k (by rw [HM.out]; omega)
      clear hc hd hx hy
      by_cases he : nth xs k = nth ys k
      · have hb : (nth xs k != nth ys k) = false := by simp [he]
        have hnext : Hid (∀ j, j < k + 1 → nth xs j = nth ys j) := fun j hj => by
          by_cases e : j = k
          · subst e; exact he
          · exact hh.out j (by omega)
        clear he
        go_wp2
        go_quiet (fail)
        go_wp2
        go_roundw
        case rel => exact ⟨k + 1, _, by omega, by go_num, rfl, hnext⟩
        case measure => simp [intOf]; omega
      · have hb : (nth xs k != nth ys k) = true := by simp [he]
        have hfin : Hid (eqL xs ys = false) := eqL_false_at he
        clear he
        go_wp2
        go_quiet (fail)
        go_wp2
        go_ret
        exact ⟨by rw [hfin.out]; rfl, (((Qt.refl w).drewN _).drewN _)⟩
    · have hfin : Hid (eqL xs ys = true) := eqL_true_all (by rw [HN.out, HM.out]) fun j hj => hh.out j (by rw [HN.out] at hj; omega)
      go_wp2
      go_ret
      exact ⟨by rw [hfin.out]; rfl, _, rfl⟩

/-- A list is among rows: closed to simp. -/
def hasG (rs : List (List Int)) (p : List Int) : Bool := decide (p ∈ rs)
theorem hasG_true {rs : List (List Int)} {p : List Int} (h : p ∈ rs) : hasG rs p = true := decide_eq_true h
theorem hasG_false {rs : List (List Int)} {p : List Int} (h : p ∉ rs) : hasG rs p = false := decide_eq_false h
theorem eqL_iff {xs ys : List Int} : eqL xs ys = true ↔ xs = ys := by simp [eqL]

theorem Qt.trans {a b c : World} (h : Qt a b) (k : Qt b c) : Qt a c := by
  obtain ⟨q, rfl⟩ := k; exact h.drewN q

set_option maxRecDepth 100000 in
theorem permIn_any (ao bo : Option Addr) (rs : List (List Int)) (p : List Int) (n c q d : Nat) (w : World) (hn : rs.length = n) (hl : n ≤ 1000000) (hm : p.length = q) (hq : q ≤ 1000000) (hr : ∀ x ∈ rs, x.length = q) (hx : RowsAt w ao rs) (hy : IntsAt w bo p) :
    Calls Try.prog 40 #[.slice ao n c, .slice bo q d] w fun e w' => e = .returned (.bool (hasG rs p)) ∧ Qt w w' := by
  have HN := hid hn
  have HM := hid hm
  have HR := hid hr
  clear hn hm hr
  go_enter Try.func40, Try.ntmps40
  go_wp2
  go_loopw [6, 9] (fun _ i wr => ∃ k : Nat, k ≤ n ∧ i = .int .i64 k ∧ Qt w wr ∧ Hid (p ∉ rs.take k)) (fun _ i _ => n - (intOf i).toNat)
  case atStart => exact ⟨0, Nat.zero_le _, rfl, Qt.refl w, by simp [Hid]⟩
  case round =>
    obtain ⟨k, hk, rfl, hqt, hh⟩ := hrel
    by_cases hlt : k < n
    · have hkl : k < rs.length := by rw [HN.out]; exact hlt
      obtain ⟨b, off, rfl, hr⟩ := (hx.qt hqt) (by omega)
      obtain ⟨a, cc, hck, hl2, hcm, hin⟩ := hr k hkl
      have hrow : (nthR rs k).length = q := HR.out _ (nthR_mem hkl)
      have HROW := hid hrow
      rw [hrow] at hck hl2
      clear hr hrow
      have hyq := hy.qt hqt
      cases hcs : eqL (nthR rs k) p with
      | true =>
        have HC := hid hcs
        have hfin := hid (hasG_true (rs := rs) (p := p) (by rw [← eqL_iff.1 hcs]; exact nthR_mem hkl))
        clear hcs
        go_wp2_with (go_at_call 42; refine (permSame_any a bo (nthR rs k) p q cc d wr HROW.out HM.out (by omega) hin hyq).mono ?_; rintro e w2 ⟨rfl, hq2⟩; rw [HC.out])
        go_ret
        exact ⟨by rw [hfin.out]; rfl, hqt.trans hq2⟩
      | false =>
        have HC := hid hcs
        have hnext : Hid (p ∉ rs.take (k + 1)) := fun h => by
          rcases (mem_take_succ hkl p).1 h with h | h
          · exact hh.out h
          · rw [h, eqL_self] at hcs; cases hcs
        clear hcs
        go_wp2_with (go_at_call 42; refine (permSame_any a bo (nthR rs k) p q cc d wr HROW.out HM.out (by omega) hin hyq).mono ?_; rintro e w2 ⟨rfl, hq2⟩; rw [HC.out])
        go_roundw
        case rel => exact ⟨k + 1, by omega, by go_num, hqt.trans hq2, hnext⟩
        case measure => simp [intOf]; omega
    · have hfin : Hid (hasG rs p = false) := hasG_false (by have := hh.out; rwa [List.take_of_length_le (by rw [HN.out]; omega)] at this)
      have hd : decide ((k : Int) < n) = false := decide_eq_false (by omega)
      go_wp2
      go_ret
      exact ⟨by rw [hfin.out]; rfl, hqt⟩

end Go.Proofs.Ytojkiajempdmfaa
