/- The graphs that laws draw: the reference's RingOf. -/
import Derived.Test.YtgmjffplinpobaaLo
import Derived.Test.YtgmjffplinpobaaAp
import Derived.Deep.RegionLawGrows
namespace Go.Proofs.Ytgmjffplinpobaa
open Go Go.RowKit

set_option maxRecDepth 100000 in
set_option maxHeartbeats 2000000 in
theorem specRingOf_any (n : Nat) (w : World) (hn : 3 ≤ n ∧ n ≤ 9) :
    Calls Try.prog 53 #[.int .i64 n] w (RetGraph w) := by
  obtain ⟨hn3, hn9⟩ := hn
  have hi1 : inR 3 9 (n : Int) = true := by unfold inR; rw [decide_eq_true (by omega), decide_eq_true (by omega)]; rfl
  have b1 := Blk.new w #[.slice none 0 0] 25
  have B := (Below.refl w.heap.size w).alloc (Nat.le_refl _) (.cells #[.slice none 0 0] 25)
  have hsz : (w.alloc (.cells #[.slice none 0 0] 25)).heap.size = w.heap.size + 1 := by simp
  go_enter Try.func53, Try.ntmps53
  go_wp2_with fail
  generalize (w.alloc (.cells #[.slice none 0 0] 25)) = W at *
  refine (l1In_any _ _ _ _).mono fun e w1 h => ?_
  obtain ⟨rfl, rfl⟩ := h
  rw [hi1]
  have bb := Blk.new W #[.slice none 0 0] 25
  have b1 := b1.alloc (.cells #[.slice none 0 0] 25)
  have B := B.alloc B.size (.cells #[.slice none 0 0] 25)
  rw [hsz] at bb
  go_wp2_with fail
  generalize (W.alloc (.cells #[.slice none 0 0] 25)) = W2 at *
  clear hsz
  go_loopw [4] (fun i wr => ∃ (k : Nat) (v : Value) (xs : List Int), k ≤ n ∧ i = .int .i64 k ∧ Hid (xs.length = k) ∧ Blk wr (w.heap.size + 1) #[v] 25 ∧ Own wr (w.heap.size + 2) v xs ∧ Blk wr w.heap.size #[.slice none 0 0] 25 ∧ Below w.heap.size w wr) (fun i _ => n - (intOf i).toNat)
  case atStart => exact ⟨0, _, [], Nat.zero_le _, rfl, rfl, bb, Own.nil _ _, b1, B⟩
  case round =>
    obtain ⟨k, v, xs, hk, rfl, HL, hbb, hov, hbr, hB⟩ := hrel
    clear bb b1 B
    have e1 := hbb.at 0 rfl
    obtain ⟨va, vc, rfl, _, hvc⟩ := hov.shapeN HL.out
    have hlb := hbb.lt
    by_cases hlt : k < n
    · obtain ⟨s, hs⟩ : ∃ s, (k + 1) % n = s := ⟨_, rfl⟩
      obtain ⟨t, ht⟩ : ∃ t, (k + n - 1) % n = t := ⟨_, rfl⟩
      have hsn : s < n := by rw [← hs]; exact Nat.mod_lt _ (by omega)
      have htn : t < n := by rw [← ht]; exact Nat.mod_lt _ (by omega)
      have hs1 : ((k : Int) + 1).tmod n = (s : Int) := by rw [Int.tmod_eq_emod_of_nonneg (by omega), ← hs]; simp
      have hkn : (k : Int) + n - 1 = ((k + n - 1 : Nat) : Int) := by omega
      have ht1 : ((k : Int) + n - 1).tmod n = (t : Int) := by rw [Int.tmod_eq_emod_of_nonneg (by omega), hkn, ← ht]; simp
      have hs2 : ((k : Int) + 1) % n = (s : Int) := by rw [← Int.tmod_eq_emod_of_nonneg (by omega)]; exact hs1
      have ht2 : ((k : Int) + n - 1) % n = (t : Int) := by rw [← Int.tmod_eq_emod_of_nonneg (by omega)]; exact ht1
      have hnz : ((n : Int) == 0) = false := by simp; omega
      have hnz2 : ¬ ((n : Int) = 0) := by omega
      have hnz3 : ¬ (n = 0) := by omega
      have hw1 : IntKind.i64.wrap ((k : Int) + 1) = (k : Int) + 1 := IntWalk.i64_in _ (by omega)
      have hw2 : IntKind.i64.wrap ((k : Int) + n) = (k : Int) + n := IntWalk.i64_in _ (by omega)
      have hw3 : IntKind.i64.wrap ((k : Int) + n - 1) = (k : Int) + n - 1 := IntWalk.i64_in _ (by omega)
      obtain ⟨p, hp⟩ : ∃ p : Int, wrap64 (2 ^ s) = p := ⟨_, rfl⟩
      have hp2 : IntKind.i64.wrap ((2 : Int) ^ s) = p := by rw [← hp, wrap_pow (by omega), wrap_powk (by omega)]
      obtain ⟨q, hq⟩ : ∃ q : Int, wrap64 (2 ^ t) = q := ⟨_, rfl⟩
      have hq2 : IntKind.i64.wrap ((2 : Int) ^ t) = q := by rw [← hq, wrap_pow (by omega), wrap_powk (by omega)]
      obtain ⟨x, hx⟩ : ∃ x, IntKind.i64.wrap (p + q) = x := ⟨_, rfl⟩
      clear hs ht hkn
      have ba : Below wr.heap.size wr (wr.alloc (.cells #[.int .i64 x] 3)).drew := ((Below.refl _ _).alloc (Nat.le_refl _) _).drew
      have hova : Own (wr.alloc (.cells #[.int .i64 x] 3)).drew (w.heap.size + 2) (.slice va k vc) xs := hov.alloc _
      have hol : Own (wr.alloc (.cells #[.int .i64 x] 3)).drew wr.heap.size (.slice (some ⟨wr.heap.size, 0, none⟩) 1 1) [x] := Own.one wr x (Nat.le_refl _)
      have hbba : Blk (wr.alloc (.cells #[.int .i64 x] 3)).drew (w.heap.size + 1) #[.slice va k vc] 25 := hbb.alloc _
      have hbra : Blk (wr.alloc (.cells #[.int .i64 x] 3)).drew w.heap.size #[.slice none 0 0] 25 := hbr.alloc _
      have hBa := hB.trans (ba.mono hB.size)
      have hsa : w.heap.size + 2 ≤ (wr.alloc (.cells #[.int .i64 x] 3)).drew.heap.size := by show _ ≤ (wr.alloc (.cells #[.int .i64 x] 3)).heap.size; simp; omega
      go_wp2
      go_region_law (first
        | (refine step_appL rfl (.tmp 16) (.tmp 30) rfl rfl hova rfl hol hsa (by rw [HL.out]; simp; omega) ?_
           intro v5 w5 hov5 hg5 hat5
           obtain ⟨a5, c5, hv5, _, _⟩ := hov5.shapeN (n := k + 1) (by have := HL.out; simp; omega)
           subst hv5
           have hbb5 := hbba.kept hg5 (hova.ne_blk (by omega))
           have hbr5 := hbra.kept hg5 (hova.ne_blk (by omega))
           have d5 := hbb5.at 0 rfl
           have f5 := hbb5.free 0))
      all_goals
        have hB5 := hBa.grown hg5 (by omega) (fun q e => by have := (World.ownsRow.lt hova q e).1; omega)
        have hbb6 := hbb5.set 0 (.slice a5 (k + 1) c5)
        have hbr6 := hbr5.setOther (g' := w.heap.size + 1) (by omega) 0 (.slice a5 (k + 1) c5)
        have hov6 := hov5.setOther (w.heap.size + 1) 0 (.slice a5 (k + 1) c5) (hov5.ne_of_lt (by omega))
        have hB6 := hB5.setCell (p := ⟨w.heap.size + 1, 0, none⟩) (Nat.le_succ _) (.slice a5 (k + 1) c5)
        have HL6 : Hid ((xs ++ [x]).length = k + 1) := by have := HL.out; unfold Hid; simp; omega
        clear hB5 hbb5 hbr5 hov5 hg5 hat5 hova hol hbba hbra hBa ba d5 f5 hov hbb hbr hB e1
        go_wp2
        go_roundw
        case rel => exact ⟨k + 1, _, _, by omega, by go_num, HL6, hbb6, hov6, hbr6, hB6⟩
        case measure => simp [intOf]; omega
    · obtain rfl : k = n := by omega
      have f9 := hbr.free 0
      have e0 := hbr.at 0 rfl
      have g9 := (hbr.set 0 (.slice va k vc)).at 0 rfl
      have o2 := (hov.setOther w.heap.size 0 (.slice va k vc) (hov.ne_of_lt (by omega))).lower (B' := w.heap.size) (by omega)
      have B2 := hB.setCell (p := ⟨w.heap.size, 0, none⟩) (Nat.le_refl _) (.slice va k vc)
      clear hbb hbr hB hov
      go_wp2
      exact bodyPost_ret (v := .agg #[.slice va k vc]) (by simp [results, Try.results53, go_sem, e0]) rfl ⟨_, k, vc, xs, rfl, HL.out, hvc, by omega, o2, B2⟩

end Go.Proofs.Ytgmjffplinpobaa
