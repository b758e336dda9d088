/- The walks of FreePlace, the program's and the reference's. -/
import Derived.Test.YtaepoddlhghdpaaBv
import Derived.Test.YtaepoddlhghdpaaBd
namespace Go.Proofs.Ytaepoddlhghdpaa
open Go Go.RowKit

/-- The first place of 0, -1 if there is none. -/
def zeroI (xs : List Int) : Int := match (List.range xs.length).find? (fun j => nth xs j == 0) with
  | some j => (j : Int)
  | none => -1

theorem zeroI_at {xs : List Int} {k : Nat} (hk : k < xs.length) (h0 : nth xs k = 0) (hb : ∀ j, j < k → nth xs j ≠ 0) : zeroI xs = k := by
  have h : (List.range xs.length).find? (fun j => nth xs j == 0) = some k := by
    rw [List.find?_range_eq_some]
    exact ⟨by simp [h0], by simpa using hk, fun j hj => by simpa using hb j hj⟩
  unfold zeroI
  rw [h]

theorem zeroI_none {xs : List Int} (hb : ∀ j, j < xs.length → nth xs j ≠ 0) : zeroI xs = -1 := by
  have h : (List.range xs.length).find? (fun j => nth xs j == 0) = none := by
    rw [List.find?_range_eq_none]
    exact fun j hj => by simpa using hb j hj
  unfold zeroI
  rw [h]

/-- The free place of a valid board, -1 for others. -/
def freeI (wide : Int) (xs : List Int) : Int := if BoardOk wide xs then zeroI xs else -1
theorem freeI_in {wide : Int} {xs : List Int} (h : BoardOk wide xs) : freeI wide xs = zeroI xs := if_pos h
theorem freeI_out {wide : Int} {xs : List Int} (h : ¬ BoardOk wide xs) : freeI wide xs = -1 := if_neg h

set_option maxRecDepth 100000 in
set_option maxHeartbeats 400000 in
theorem specFreePlace_any (wide : Int) (ao : Option Addr) (xs : List Int) (n c : Nat) (w : World) (hn : xs.length = n) (hl : n ≤ 17592186044416) (hnc : n ≤ c) (hx : IntsAt w ao xs) :
    Calls Try.prog 50 #[.agg #[.int .i64 wide, .slice ao n c]] w fun e w' => e = .returned (.int .i64 (freeI wide xs)) ∧ Below w.heap.size w w' := by
  have HN := hid hn
  clear hn
  have B := (Below.refl w.heap.size w).alloc (Nat.le_refl _) (.cells #[.int .i64 wide, .slice ao n c] 27)
  have bk := Blk.new w #[.int .i64 wide, .slice ao n c] 27
  go_enter Try.func50, Try.ntmps50
  go_wp2
  generalize (w.alloc (.cells #[.int .i64 wide, .slice ao n c] 27)) = w0 at *
  go_loopw [3] (fun i wr => ∃ k : Nat, k ≤ n ∧ i = .int .i64 k ∧ Below w.heap.size w wr ∧ Blk wr w.heap.size #[.int .i64 wide, .slice ao n c] 27 ∧ Hid (k = 0 ∨ BoardOk wide xs) ∧ Hid (∀ j, j < k → nth xs j ≠ 0)) (fun i _ => n - (intOf i).toNat)
  case atStart => exact ⟨0, Nat.zero_le _, rfl, B, bk, .inl rfl, fun j h => absurd h (by omega)⟩
  case round =>
    obtain ⟨k, hk, rfl, hB, hbk, hz, hh⟩ := hrel
    clear B bk
    have e0 := hbk.at 0 rfl
    have e1 := hbk.at 1 rfl
    by_cases hlt : k < n
    · have hkl : k < xs.length := by rw [HN.out]; exact hlt
      cases h1 : boardB wide xs with
      | false =>
        have hfin := hid (freeI_out (boardB_not.1 h1))
        go_wp2_with fail
        refine (specBoardValid_any wide ao xs n c wr HN.out hl hnc (hx.below hB (Nat.le_refl _))).mono fun e w1 h => ?_
        rw [h1] at h
        obtain ⟨rfl, b⟩ := h
        clear e0 e1
        go_wp2_with fail
        go_ret
        exact ⟨by rw [hfin.out]; rfl, hB.trans (b.mono hB.size)⟩
      | true =>
        have hok := hid (boardB_iff.1 h1)
        have hin := hid (freeI_in hok.out)
        go_wp2_with fail
        refine (specBoardValid_any wide ao xs n c wr HN.out hl hnc (hx.below hB (Nat.le_refl _))).mono fun e w1 h => ?_
        rw [h1] at h
        obtain ⟨rfl, b⟩ := h
        have hB := hB.trans (b.mono hB.size)
        have hbk := hbk.below b (Nat.le_refl _)
        clear b h1 e0 e1
        have e0 := hbk.at 0 rfl
        have e1 := hbk.at 1 rfl
        obtain ⟨b, off, rfl, hc⟩ := (hx.below hB (Nat.le_refl _)) (by omega)
        have hck := hc k hkl
        clear hc hx
        by_cases he : nth xs k = 0
        · have hb : (nth xs k == 0) = true := by simp [he]
          have hfin := hid (zeroI_at hkl he hh.out)
          clear he
          go_wp2
          go_ret
          exact ⟨by rw [hin.out, hfin.out]; rfl, hB⟩
        · have hb : (nth xs k == 0) = false := by simp [he]
          have hnext : Hid (∀ j, j < k + 1 → nth xs j ≠ 0) := fun j hj => by
            by_cases e : j = k
            · subst e; exact he
            · exact hh.out j (by omega)
          clear he
          go_wp2
          go_roundw
          case rel => exact ⟨k + 1, by omega, by go_num, hB, hbk, .inr hok.out, hnext⟩
          case measure => simp [intOf]; omega
    · have hfin : Hid (freeI wide xs = -1) := by
        rcases hz.out with h0 | h0
        · exact freeI_out fun h => by have := h.1; rw [HN.out] at this; omega
        · unfold Hid; rw [freeI_in h0]; exact zeroI_none fun j hj => hh.out j (by rw [HN.out] at hj; omega)
      go_wp2
      go_ret
      exact ⟨by rw [hfin.out]; rfl, hB⟩

end Go.Proofs.Ytaepoddlhghdpaa
