/- The walk of RowsOf. -/
import Derived.Test.YtgmjffplinpobaaLx
namespace Go.Proofs.Ytgmjffplinpobaa
open Go Go.RowKit

/-- The rows of the first k points. -/
def rwl (xs : List Int) : Nat → List Nat
  | 0 => []
  | k + 1 => rwl xs k ++ [row xs k]
theorem length_rwl (xs : List Int) : ∀ k, (rwl xs k).length = k
  | 0 => rfl
  | k + 1 => by rw [rwl, List.length_append, length_rwl xs k]; rfl
theorem ng_rwl (xs : List Int) : ∀ {k j : Nat}, j < k → ng (rwl xs k) j = row xs j
  | k + 1, j, h => by
    have hl := length_rwl xs k
    unfold ng rwl
    by_cases e : j = k
    · subst e; simp [List.getD, hl]
    · have := ng_rwl xs (k := k) (j := j) (by omega)
      unfold ng at this
      simp only [List.getD] at this ⊢
      rw [List.getElem?_append_left (by omega)]; exact this
theorem iN_snoc (ls : List Nat) (x : Nat) : iN ls ++ [(x : Int)] = iN (ls ++ [x]) := by unfold iN; rw [List.map_append]; rfl

set_option maxRecDepth 100000 in
set_option maxHeartbeats 1000000 in
theorem implRowsOf_any (ao : Option Addr) (xs : List Int) (n c : Nat) (w : World) (hn : xs.length = n) (hok : GrOk xs) (hx : IntsAt w ao xs) :
    Calls Try.prog 25 #[.agg #[.slice ao n c]] w (RetOwn w (iN (rwl xs n))) := by
  have HN := hid hn
  have HOK := hid hok
  have hn1 := hok.pos
  have hn9 := hok.max
  rw [hn] at hn1 hn9
  have B := (Below.refl w.heap.size w).alloc (Nat.le_refl _) (.cells #[.slice ao n c] 25)
  have bk := Blk.new w #[.slice ao n c] 25
  have hsz : (w.alloc (.cells #[.slice ao n c] 25)).heap.size = w.heap.size + 1 := by simp
  have e0 := bk.at 0 rfl
  clear hn hok
  obtain ⟨i0, hi, hz0, hz1, hz2⟩ := info_parts Try.infoInt
  go_enter Try.func25, Try.ntmps25
  go_wp2_with fail
  generalize (w.alloc (.cells #[.slice ao n c] 25)) = w0 at *
  refine (implGraphValid_any ao xs n c w0 HN.out (by omega) (hx.below B (Nat.le_refl _))).mono fun e w1 h => ?_
  rw [grB_in HOK.out] at h
  obtain ⟨rfl, b⟩ := h
  have B := B.trans (b.mono B.size)
  have bk := bk.below b (Nat.le_refl _)
  have hlt1 := bk.lt
  clear b e0 hsz
  have e0 := bk.at 0 rfl
  go_wp2_with (at_make; refine wpList_make_full _ rfl _ _ 23 rfl (w.heap.size + 1) 3 i0 (.int .i64 0) 1 Try.underlying23 hi hz0 hz1 _ _ _ _ n rfl rfl ?m3 ?m4 ?m1 ?m2 (by omega) ?_)
  case m1 => rw [hz2]; omega
  case m2 => unfold maxLen; omega
  case m3 => rfl
  case m4 => rfl
  intro w2 hown hgrow
  have ho := Own.made hown
  have bk := bk.kept hgrow (fun e => by cases e)
  have B := B.grown hgrow B.size (by simp)
  obtain ⟨g, hgeq⟩ : ∃ g, w1.heap.size = g := ⟨_, rfl⟩
  rw [hgeq] at ho
  have hgl := ho.base
  clear hown hgrow hi hz0 hz1 hz2 i0 e0
  go_wp2_with fail
  rw [hgeq]
  clear hgeq
  go_loopw [4, 14] (fun _ i wr => ∃ k : Nat, k ≤ n ∧ i = .int .i64 k ∧ Own wr (w.heap.size + 1) (.slice (some ⟨g, 0, none⟩) n n) (filled (iN (rwl xs k)) n) ∧ Blk wr w.heap.size #[.slice ao n c] 25 ∧ Below w.heap.size w wr) (fun _ i _ => n - (intOf i).toNat)
  case atStart => exact ⟨0, Nat.zero_le _, rfl, by rw [show iN (rwl xs 0) = [] from rfl, filled_nil]; exact ho, bk, B⟩
  case round =>
    obtain ⟨k, hk, rfl, hok, hbk, hB⟩ := hrel
    clear ho bk B
    have e0 := hbk.at 0 rfl
    have hil : Hid ((iN (rwl xs k)).length = k) := by unfold Hid; rw [length_iN, length_rwl]
    by_cases hlt : k < n
    · go_wp2_with fail
      refine (pressChange_any ao xs n c k wr HN.out HOK.out hlt (hx.below hB (Nat.le_refl _))).mono fun e w3 h => ?_
      obtain ⟨rfl, b⟩ := h
      have hok := hok.below b (Nat.le_refl _)
      have hbk := hbk.below b (Nat.le_refl _)
      have hB := hB.trans (b.mono hB.size)
      have hlen : Hid ((filled (iN (rwl xs k)) n).length = n) := length_filled (by rw [hil.out]; omega)
      have hck := hok.cell (j := k) (by rw [hlen.out]; exact hlt)
      have hfk := hok.free hlen.out.symm k
      have hst := hok.stored hlen.out.symm k (row xs k : Nat)
      have hset : Hid ((filled (iN (rwl xs k)) n).set k (row xs k : Nat) = filled (iN (rwl xs (k + 1))) n) := by
        unfold Hid; rw [filled_set hil.out hlt, iN_snoc]; rfl
      rw [hset.out] at hst
      have hbs := hB.setCell (p := ⟨g, k, none⟩) (by show _ ≤ g; omega) (.int .i64 (row xs k : Nat))
      have hbb := hbk.setOther (g' := g) (by omega) k (.int .i64 (row xs k : Nat))
      clear b e0 hok hbk hB hset
      generalize row xs k = x at *
      generalize filled (iN (rwl xs k)) n = X at *
      go_wp2
      go_roundw
      case rel => exact ⟨k + 1, by omega, by go_num, hst, hbb, hbs⟩
      case measure => simp [intOf]; omega
    · obtain rfl : k = n := by omega
      rw [filled_full hil.out] at hok
      go_wp2
      go_ret
      exact RetOwn.mk hil.out (hok.lower (by omega)) hB

end Go.Proofs.Ytgmjffplinpobaa
