/- Boards as keys: placesOf. -/
import Derived.Test.YtfpckcmkikckgaaSf
import Derived.Test.YtfpckcmkikckgaaTc
namespace Go.Proofs.Ytfpckcmkikckgaa
open Go Go.RowKit

/-- A board as a value: its numbers, and 0 behind them. -/
def keyV (xs : List Int) : Value := .agg #[.int .i64 (nth xs 0), .int .i64 (nth xs 1), .int .i64 (nth xs 2), .int .i64 (nth xs 3), .int .i64 (nth xs 4), .int .i64 (nth xs 5)]

theorem zero6_at {j : Nat} (h : j < 6) : ([.int .i64 0, .int .i64 0, .int .i64 0, .int .i64 0, .int .i64 0, .int .i64 0] : List Value)[j]? = some (.int .i64 0) := by
  match j, h with
  | 0, _ => rfl
  | 1, _ => rfl
  | 2, _ => rfl
  | 3, _ => rfl
  | 4, _ => rfl
  | 5, _ => rfl

theorem nth_out {xs : List Int} {j : Nat} (h : xs.length ≤ j) : nth xs j = 0 := by unfold nth; simp [List.getD_eq_getElem?_getD, h]

theorem splice6 {xs : List Int} (_h6 : xs.length ≤ 6) {j : Nat} (h : j < 6) : (splice [.int .i64 0, .int .i64 0, .int .i64 0, .int .i64 0, .int .i64 0, .int .i64 0] 0 (xs.map (Value.int .i64))).toArray[j]? = some (.int .i64 (nth xs j)) := by
  rw [List.getElem?_toArray]
  unfold splice
  simp only [List.take_zero, List.nil_append, Nat.zero_add]
  by_cases hj : j < xs.length
  · rw [List.getElem?_append_left (by simpa using hj)]
    simp [hj, nth_eq hj]
  · rw [List.getElem?_append_right (by simpa using hj), nth_out (by omega), List.length_map, List.getElem?_drop, show xs.length + (j - xs.length) = j by omega]
    exact zero6_at h

set_option maxRecDepth 100000 in
set_option maxHeartbeats 1000000 in
theorem placesOf_any (ao : Option Addr) (xs : List Int) (n c : Nat) (w : World) (hn : xs.length = n) (h6 : n ≤ 6) (hx : IntsAt w ao xs) :
    Calls Try.prog 36 #[.slice ao n c] w fun e w' => e = .returned (keyV xs) ∧ Below w.heap.size w w' := by
  have HN := hid hn
  clear hn
  have B := ((Below.refl w.heap.size w).alloc (Nat.le_refl _) (.cells #[.int .i64 0, .int .i64 0, .int .i64 0, .int .i64 0, .int .i64 0, .int .i64 0] 53)).alloc (by simp) (.cells #[.int .i64 0, .int .i64 0, .int .i64 0, .int .i64 0, .int .i64 0, .int .i64 0] 53)
  have b1 := Blk.new' (w.alloc (.cells #[.int .i64 0, .int .i64 0, .int .i64 0, .int .i64 0, .int .i64 0, .int .i64 0] 53)) #[.int .i64 0, .int .i64 0, .int .i64 0, .int .i64 0, .int .i64 0, .int .i64 0] 53 (g := w.heap.size + 1) (by simp)
  have b0 := (Blk.new w #[.int .i64 0, .int .i64 0, .int .i64 0, .int .i64 0, .int .i64 0, .int .i64 0] 53).alloc (.cells #[.int .i64 0, .int .i64 0, .int .i64 0, .int .i64 0, .int .i64 0, .int .i64 0] 53)
  have hx1 := hid (hx.below B (Nat.le_refl _))
  clear hx
  go_enter Try.func36, Try.ntmps36
  go_wp2_with (with_reducible refine wpList_copy_splice rfl (.tmp 4) (.tmp 5) 23 23 rfl 3 Try.underlying23 Try.sizeInt _ _ 6 6 n c rfl rfl (w.heap.size + 1) 0 [.int .i64 0, .int .i64 0, .int .i64 0, .int .i64 0, .int .i64 0, .int .i64 0] 53 (by unfold Blk at b1; exact b1) (xs.map (Value.int .i64)) ?h1 ?h2 ?h3 ?h4 (w.heap.size + 1) _ (Below.refl _ _) (Nat.le_refl _) ?_)
  case h1 => have h := HN.out; simp only [List.length_map, h]; exact (Nat.min_eq_left h6).symm
  case h2 =>
    intro h0
    obtain ⟨b, off, rfl, hc⟩ := hx1.out h0
    refine ⟨⟨b, off, none⟩, rfl, fun j v hj => ?_⟩
    have hjl : j < xs.length := by
      by_cases h : j < xs.length
      · exact h
      · simp [Nat.not_lt.1 h] at hj
    rw [Addr.add_lit, hc j hjl, nth_eq hjl]
    simpa [hjl] using hj
  case h3 => have h := HN.out; simp only [List.length_map, List.length_cons, List.length_nil]; omega
  case h4 => exact ints_oneCell _ _
  intro w2 hrow hB2
  have hB3 := B.trans (hB2.mono (by omega))
  have c0 := b0.belowLt hB2 (by omega)
  have e0 : w2.cell? ⟨w.heap.size + 1, 0, none⟩ = some (.int .i64 (nth xs 0)) := ((show Blk _ _ _ _ from hrow.out).cell 0).trans (splice6 (by have := HN.out; omega) (by omega))
  have e1 : w2.cell? ⟨w.heap.size + 1, 1, none⟩ = some (.int .i64 (nth xs 1)) := ((show Blk _ _ _ _ from hrow.out).cell 1).trans (splice6 (by have := HN.out; omega) (by omega))
  have e2 : w2.cell? ⟨w.heap.size + 1, 2, none⟩ = some (.int .i64 (nth xs 2)) := ((show Blk _ _ _ _ from hrow.out).cell 2).trans (splice6 (by have := HN.out; omega) (by omega))
  have e3 : w2.cell? ⟨w.heap.size + 1, 3, none⟩ = some (.int .i64 (nth xs 3)) := ((show Blk _ _ _ _ from hrow.out).cell 3).trans (splice6 (by have := HN.out; omega) (by omega))
  have e4 : w2.cell? ⟨w.heap.size + 1, 4, none⟩ = some (.int .i64 (nth xs 4)) := ((show Blk _ _ _ _ from hrow.out).cell 4).trans (splice6 (by have := HN.out; omega) (by omega))
  have e5 : w2.cell? ⟨w.heap.size + 1, 5, none⟩ = some (.int .i64 (nth xs 5)) := ((show Blk _ _ _ _ from hrow.out).cell 5).trans (splice6 (by have := HN.out; omega) (by omega))
  have g0 : w2.cell? ⟨w.heap.size, 0, none⟩ = some (.int .i64 0) := c0.at 0 rfl
  have g1 : w2.cell? ⟨w.heap.size, 1, none⟩ = some (.int .i64 0) := c0.at 1 rfl
  have g2 : w2.cell? ⟨w.heap.size, 2, none⟩ = some (.int .i64 0) := c0.at 2 rfl
  have g3 : w2.cell? ⟨w.heap.size, 3, none⟩ = some (.int .i64 0) := c0.at 3 rfl
  have g4 : w2.cell? ⟨w.heap.size, 4, none⟩ = some (.int .i64 0) := c0.at 4 rfl
  have g5 : w2.cell? ⟨w.heap.size, 5, none⟩ = some (.int .i64 0) := c0.at 5 rfl
  have f0 := c0.free 0
  have f1 := c0.free 1
  have f2 := c0.free 2
  have f3 := c0.free 3
  have f4 := c0.free 4
  have f5 := c0.free 5
  have bk3 : Hid (Blk ((((((w2.setCell ⟨w.heap.size, 0, none⟩ (.int .i64 (nth xs 0))).setCell ⟨w.heap.size, 1, none⟩ (.int .i64 (nth xs 1))).setCell ⟨w.heap.size, 2, none⟩ (.int .i64 (nth xs 2))).setCell ⟨w.heap.size, 3, none⟩ (.int .i64 (nth xs 3))).setCell ⟨w.heap.size, 4, none⟩ (.int .i64 (nth xs 4))).setCell ⟨w.heap.size, 5, none⟩ (.int .i64 (nth xs 5))) w.heap.size #[.int .i64 (nth xs 0), .int .i64 (nth xs 1), .int .i64 (nth xs 2), .int .i64 (nth xs 3), .int .i64 (nth xs 4), .int .i64 (nth xs 5)] 53) := ((((((c0.set 0 (.int .i64 (nth xs 0))).set 1 (.int .i64 (nth xs 1))).set 2 (.int .i64 (nth xs 2))).set 3 (.int .i64 (nth xs 3))).set 4 (.int .i64 (nth xs 4))).set 5 (.int .i64 (nth xs 5)))
  have hB4 := hid ((((((hB3.setCell (p := ⟨w.heap.size, 0, none⟩) (Nat.le_refl _) (.int .i64 (nth xs 0))).setCell (p := ⟨w.heap.size, 1, none⟩) (Nat.le_refl _) (.int .i64 (nth xs 1))).setCell (p := ⟨w.heap.size, 2, none⟩) (Nat.le_refl _) (.int .i64 (nth xs 2))).setCell (p := ⟨w.heap.size, 3, none⟩) (Nat.le_refl _) (.int .i64 (nth xs 3))).setCell (p := ⟨w.heap.size, 4, none⟩) (Nat.le_refl _) (.int .i64 (nth xs 4))).setCell (p := ⟨w.heap.size, 5, none⟩) (Nat.le_refl _) (.int .i64 (nth xs 5)))
  clear hrow hB2 b0 b1 B hx1 c0 hB3
  go_wp2
  have hfin := bk3
  clear bk3 e0 e1 e2 e3 e4 e5 g0 g1 g2 g3 g4 g5 f0 f1 f2 f3 f4 f5
  generalize ((((((w2.setCell ⟨w.heap.size, 0, none⟩ (.int .i64 (nth xs 0))).setCell ⟨w.heap.size, 1, none⟩ (.int .i64 (nth xs 1))).setCell ⟨w.heap.size, 2, none⟩ (.int .i64 (nth xs 2))).setCell ⟨w.heap.size, 3, none⟩ (.int .i64 (nth xs 3))).setCell ⟨w.heap.size, 4, none⟩ (.int .i64 (nth xs 4))).setCell ⟨w.heap.size, 5, none⟩ (.int .i64 (nth xs 5))) = w3 at *
  have k0 : w3.cell? ⟨w.heap.size, 0, none⟩ = some (.int .i64 (nth xs 0)) := hfin.out.at 0 rfl
  have k1 : w3.cell? ⟨w.heap.size, 1, none⟩ = some (.int .i64 (nth xs 1)) := hfin.out.at 1 rfl
  have k2 : w3.cell? ⟨w.heap.size, 2, none⟩ = some (.int .i64 (nth xs 2)) := hfin.out.at 2 rfl
  have k3 : w3.cell? ⟨w.heap.size, 3, none⟩ = some (.int .i64 (nth xs 3)) := hfin.out.at 3 rfl
  have k4 : w3.cell? ⟨w.heap.size, 4, none⟩ = some (.int .i64 (nth xs 4)) := hfin.out.at 4 rfl
  have k5 : w3.cell? ⟨w.heap.size, 5, none⟩ = some (.int .i64 (nth xs 5)) := hfin.out.at 5 rfl
  exact bodyPost_ret (v := keyV xs) (by simp [results, Try.results36, go_sem, keyV, k0, k1, k2, k3, k4, k5]) rfl ⟨rfl, hB4.out⟩

end Go.Proofs.Ytfpckcmkikckgaa
