/- The walks of firstWith, Quiet. -/
import Derived.Test.YtgmjffplinpobaaLw
namespace Go.Proofs.Ytgmjffplinpobaa
open Go Go.RowKit

/-- A list of sets as numbers. -/
def iN (ls : List Nat) : List Int := ls.map fun n : Nat => (n : Int)
theorem length_iN (ls : List Nat) : (iN ls).length = ls.length := by simp [iN]
theorem nth_iN {ls : List Nat} {k : Nat} (h : k < ls.length) : nth (iN ls) k = (ng ls k : Int) := by
  unfold nth iN ng
  simp [List.getD, h]
theorem iN_set (ls : List Nat) (k x : Nat) : (iN ls).set k (x : Int) = iN (ls.set k x) := by
  unfold iN; rw [List.map_set]

def FwRet (ls : List Nat) (n ch l : Nat) (e : Ending) : Prop :=
  (e = .returned (.int .i64 (-1)) ∧ ∀ k, k < n → ch.testBit k = false → (ng ls k).testBit l = false) ∨ ∃ p : Nat, p < n ∧ e = .returned (.int .i64 p) ∧ ch.testBit p = false ∧ (ng ls p).testBit l = true

set_option maxRecDepth 100000 in
theorem firstWith_any (ao : Option Addr) (ls : List Nat) (n c ch l : Nat) (w : World) (hn : ls.length = n) (hl : n ≤ 9) (hs : ∀ k, k < n → ng ls k < 1024) (hch : ch < 1024) (hll : l ≤ 9) (hx : IntsAt w ao (iN ls)) :
    Calls Try.prog 45 #[.slice ao n c, .int .i64 ch, .int .i64 l] w fun e w' => FwRet ls n ch l e ∧ w = w' := by
  have HN : Hid ((iN ls).length = n) := (length_iN ls).trans hn
  have HS := hid hs
  have HM : Hid (∀ k, k < n → nth (iN ls) k = (ng ls k : Int)) := fun k hk => nth_iN (by omega)
  clear hn hs
  go_enter Try.func45, Try.ntmps45
  go_wp2_with fail
  go_loop [7, 8, 11] (fun _ _ i => ∃ k : Nat, k ≤ n ∧ i = .int .i64 k ∧ Hid (∀ j, j < k → ch.testBit j = false → (ng ls j).testBit l = false)) (fun _ _ i => n - (intOf i).toNat)
  case atStart => exact ⟨0, Nat.zero_le _, rfl, fun j hj => absurd hj (by omega)⟩
  case round =>
    obtain ⟨k, hk, rfl, hno⟩ := hrel
    by_cases hlt : k < n
    · obtain ⟨b, off, rfl, hc⟩ := hx (by rw [HN.out]; omega)
      have hck := hc k (by rw [HN.out]; exact hlt)
      rw [HM.out k hlt] at hck
      have hm9 := HS.out k hlt
      obtain ⟨m, hm⟩ : ∃ m, ng ls k = m := ⟨_, rfl⟩
      rw [hm] at hck hm9
      have HMm := hid hm
      have hb1 := bit_test (m := m) (t := l) (by omega)
      have hb2 := shr_and (m := ch) (t := k) (by omega)
      rw [bitN_test] at hb2
      clear hc hm
      cases h1 : m.testBit l with
      | false =>
        rw [h1] at hb1
        have hn2 : Hid (∀ j, j < k + 1 → ch.testBit j = false → (ng ls j).testBit l = false) := fun j hj hcj => by
          by_cases e : j = k
          · subst e; rw [HMm.out]; exact h1
          · exact hno.out j (by omega) hcj
        clear h1 hb2
        go_wp2
        go_round
        case rel => exact ⟨k + 1, by omega, by go_num, hn2⟩
        case measure => simp [intOf]; omega
      | true =>
        rw [h1] at hb1
        cases h2 : ch.testBit k with
        | true =>
          rw [h2] at hb2
          have hb3 : (bits .and .i64 ((ch : Int) / 2 ^ k) 1 == 0) = false := by rw [hb2]; rfl
          have hn2 : Hid (∀ j, j < k + 1 → ch.testBit j = false → (ng ls j).testBit l = false) := fun j hj hcj => by
            by_cases e : j = k
            · subst e; rw [h2] at hcj; cases hcj
            · exact hno.out j (by omega) hcj
          clear h1 h2 hb2
          go_wp2
          go_round
          case rel => exact ⟨k + 1, by omega, by go_num, hn2⟩
          case measure => simp [intOf]; omega
        | false =>
          rw [h2] at hb2
          have hb3 : (bits .and .i64 ((ch : Int) / 2 ^ k) 1 == 0) = true := by rw [hb2]; rfl
          have hfin : Hid (FwRet ls n ch l (.returned (.int .i64 k))) := .inr ⟨k, hlt, rfl, h2, by rw [HMm.out]; exact h1⟩
          clear h1 h2 hb2
          go_wp2
          go_ret
          exact ⟨hfin.out, rfl⟩
    · obtain rfl : k = n := by omega
      have hfin : Hid (FwRet ls k ch l (.returned (.int .i64 (-1)))) := .inl ⟨rfl, hno.out⟩
      go_wp2
      go_ret
      exact ⟨hfin.out, rfl⟩

set_option maxRecDepth 100000 in
theorem implQuiet_any (ao : Option Addr) (xs : List Int) (n c s : Nat) (w : World) (hn : xs.length = n) (hl : n ≤ 17592186044416) (hg : setB xs s = true) (hs : s < 2 ^ 62) (hx : IntsAt w ao xs) :
    Calls Try.prog 23 #[.agg #[.slice ao n c], .int .i64 s] w fun e w' => e = .returned (.bool (decide (press xs s = 0))) ∧ Below w.heap.size w w' := by
  have HN := hid hn
  have HG := hid hg
  have hok := hid (setB_iff.1 hg).1
  have B := (Below.refl w.heap.size w).alloc (Nat.le_refl _) (.cells #[.slice ao n c] 25)
  have bk := Blk.new w #[.slice ao n c] 25
  have hx := hx.below B (Nat.le_refl _)
  have e0 := bk.at 0 rfl
  clear hn hg
  go_enter Try.func23, Try.ntmps23
  go_wp2_with fail
  generalize (w.alloc (.cells #[.slice ao n c] 25)) = w0 at *
  refine (implSetValid_any ao xs n c s w0 HN.out hl hx).mono fun e w1 h => ?_
  rw [HG.out] at h
  obtain ⟨rfl, b⟩ := h
  have B := B.trans (b.mono B.size)
  have bk := bk.below b (Nat.le_refl _)
  have hx := hx.below b (Nat.le_refl _)
  clear b e0
  have e0 := bk.at 0 rfl
  go_wp2_with fail
  refine (pressesChange_any ao xs n c s w1 HN.out hok.out hs hx).mono fun e w2 h => ?_
  obtain ⟨rfl, b⟩ := h
  have B := B.trans (b.mono B.size)
  by_cases hp : press xs s = 0
  · have hd : decide (press xs s = 0) = true := decide_eq_true hp
    have hz : (((press xs s : Nat) : Int) == 0) = true := by rw [hp]; rfl
    have HD := hid hd
    clear hp hd
    go_wp2
    go_ret
    exact ⟨ret_bool HD.out.symm, B⟩
  · have hd : decide (press xs s = 0) = false := decide_eq_false hp
    have hz : (((press xs s : Nat) : Int) == 0) = false := by simpa using hp
    have HD := hid hd
    clear hp hd
    go_wp2
    go_ret
    exact ⟨ret_bool HD.out.symm, B⟩

end Go.Proofs.Ytgmjffplinpobaa
