/- Quiet sets: both walks. -/
import Derived.Test.YtgmjffplinpobaaLj
namespace Go.Proofs.Ytgmjffplinpobaa
open Go Go.RowKit

/-- The quiet sets below k, in ascending order. -/
def qtL (xs : List Int) : Nat → List Int
  | 0 => []
  | k + 1 => if press xs k = 0 then qtL xs k ++ [(k : Int)] else qtL xs k
theorem qtL_in {xs : List Int} {k : Nat} (h : press xs k = 0) : qtL xs (k + 1) = qtL xs k ++ [(k : Int)] := if_pos h
theorem qtL_not {xs : List Int} {k : Nat} (h : press xs k ≠ 0) : qtL xs (k + 1) = qtL xs k := if_neg h
theorem qtL_len (xs : List Int) : ∀ k, (qtL xs k).length ≤ k
  | 0 => Nat.le_refl _
  | k + 1 => by
    have h := qtL_len xs k
    by_cases e : press xs k = 0
    · rw [qtL_in e, List.length_append]; simp; omega
    · rw [qtL_not e]; omega
noncomputable def quietL (xs : List Int) : List Int := if grB xs = true then qtL xs (2 ^ xs.length) else []
theorem quietL_in {xs : List Int} (h : GrOk xs) : quietL xs = qtL xs (2 ^ xs.length) := if_pos (grB_in h)
theorem quietL_out {xs : List Int} (h : grB xs = false) : quietL xs = [] := if_neg (by rw [h]; simp)
theorem quietL_len (xs : List Int) : (quietL xs).length ≤ 512 := by
  cases h : grB xs with
  | false => rw [quietL_out h]; exact Nat.zero_le _
  | true =>
    have := qtL_len xs (2 ^ xs.length)
    have := pow9 (grB_iff.1 h).max
    rw [quietL_in (grB_iff.1 h)]; omega

set_option maxRecDepth 100000 in
set_option maxHeartbeats 1000000 in
theorem implQuietSets_any (ao : Option Addr) (xs : List Int) (n c : Nat) (w : World) (hn : xs.length = n) (hl : n ≤ 17592186044416) (hx : IntsAt w ao xs) :
    Calls Try.prog 15 #[.agg #[.slice ao n c]] w (RetOwn w (quietL xs)) := by
  have HN := hid hn
  have B := (Below.refl w.heap.size w).alloc (Nat.le_refl _) (.cells #[.slice ao n c] 25)
  have bk := Blk.new w #[.slice ao n c] 25
  have e0 := bk.at 0 rfl
  have hfin := hid (quietL_in (xs := xs))
  have hfin0 := hid (quietL_out (xs := xs))
  clear hn
  obtain ⟨i0, hi, hi0, hi1, hi2⟩ := info_parts Try.infoInt
  go_enter Try.func15, Try.ntmps15
  go_wp2_with fail
  generalize (w.alloc (.cells #[.slice ao n c] 25)) = w0 at *
  refine (implGraphValid_any ao xs n c w0 HN.out hl (hx.below B (Nat.le_refl _))).mono fun e w1 h => ?_
  cases hg : grB xs with
  | false =>
    rw [hg] at h
    obtain ⟨rfl, b⟩ := h
    clear e0
    go_wp2_with fail
    go_ret
    have := RetOwn.mk (w := w) (xs := []) rfl (Own.nil _ _) (B.trans (b.mono B.size))
    rw [hfin0.out hg]
    exact this
  | true =>
    rw [hg] at h
    obtain ⟨rfl, b⟩ := h
    have hok := hid (grB_iff.1 hg)
    have B := B.trans (b.mono B.size)
    have bk := bk.below b (Nat.le_refl _)
    have hn9 := hok.out.max
    rw [HN.out] at hn9
    have hp : wrap64 (2 ^ n) = ((2 ^ n : Nat) : Int) := wrap_pow (by omega)
    have h512 := pow9 hn9
    obtain ⟨P, hP⟩ : ∃ P, 2 ^ n = P := ⟨_, rfl⟩
    rw [hP] at hp h512
    have HF : Hid (quietL xs = qtL xs P) := by unfold Hid; rw [hfin.out hok.out, HN.out, hP]
    have HP := hid hp
    clear b hg e0 hP hp
    have e0 := bk.at 0 rfl
    go_wp2_with fail
    clear e0
    go_loopw [3, 4, 12] (fun v _ i wr => ∃ k : Nat, k ≤ P ∧ i = .int .i64 k ∧ Own wr (w.heap.size + 1) v (qtL xs k) ∧ Blk wr w.heap.size #[.slice ao n c] 25 ∧ Below w.heap.size w wr) (fun _ _ i _ => P - (intOf i).toNat)
    case atStart => exact ⟨0, Nat.zero_le _, rfl, Own.nil _ _, bk, B⟩
    case round =>
      obtain ⟨k, hk, rfl, hown, hbk, hB⟩ := hrel
      clear bk B
      have e0 := hbk.at 0 rfl
      by_cases hlt : k < P
      · have hd : decide ((k : Int) < wrap64 (2 ^ n)) = true := by rw [HP.out]; exact decide_eq_true (by omega)
        have hlen := hid (qtL_len xs k)
        go_wp2_with fail
        refine (pressesChange_any ao xs n c k wr HN.out hok.out (by omega) (hx.below hB (Nat.le_refl _))).mono fun e w3 h => ?_
        obtain ⟨rfl, b⟩ := h
        have hoi := hown.below b (Nat.le_refl _)
        have hbi := hbk.below b (Nat.le_refl _)
        have hBi := hB.trans (b.mono hB.size)
        have hlt3 := hbi.lt
        clear e0 b hown hbk hB
        by_cases hq : press xs k = 0
        · have hs := hid (qtL_in hq)
          have hqb : (((press xs k : Nat) : Int) == 0) = true := by rw [hq]; rfl
          clear hq
          go_wp2_with (at_builtin; refine wpList_append_own _ rfl _ _ 23 rfl (w.heap.size + 1) 3 i0 (.int .i64 0) 1 8 Try.underlying23 hi hi0 hi1 hi2 rfl (by decide) _ _ _ rfl (hoi.alloc _) ⟨w3.heap.size, 0, none⟩ 1 1 [.int .i64 (k : Int)] rfl rfl (cell1 _ _ _) (cell1_one _) ?c3 ?c4 ?c5 ?_)
          case c3 => have := hlen.out; unfold maxLen; omega
          case c4 => have := hlen.out; omega
          case c5 => first | omega | (simp; omega)
          intro v' w4 hown' hgrow _
          have ho := Own.appended hown'
          rw [← hs.out] at ho
          have hbi' := (hbi.alloc _).kept hgrow (hoi.ne_blk (by omega))
          have hB' := (hBi.alloc hBi.size _).grown hgrow (by have := hBi.size; first | omega | (simp; omega)) (fun i hi => by have := (World.ownsRow.lt hoi i hi).1; omega)
          clear hown' hgrow hoi hbi hBi
          go_wp2
          go_roundw
          case rel => exact ⟨k + 1, by omega, by go_num, ho, hbi', hB'⟩
          case measure => simp [intOf]; omega
        · have hs := hid (qtL_not hq)
          have hqb : (((press xs k : Nat) : Int) == 0) = false := by simp; exact hq
          clear hq
          rw [← hs.out] at hoi
          go_wp2
          go_roundw
          case rel => exact ⟨k + 1, by omega, by go_num, hoi, hbi, hBi⟩
          case measure => simp [intOf]; omega
      · obtain rfl : k = P := by omega
        have hd : decide ((k : Int) < wrap64 (2 ^ n)) = false := by rw [HP.out]; simp
        rw [← HF.out] at hown
        obtain ⟨ao2, c2, rfl, _, _⟩ := hown.shape
        clear e0
        go_wp2
        go_ret
        exact RetOwn.mk rfl (hown.lower (by omega)) hB

set_option maxRecDepth 100000 in
set_option maxHeartbeats 1000000 in
theorem specQuietSets_any (ao : Option Addr) (xs : List Int) (n c : Nat) (w : World) (hn : xs.length = n) (hl : n ≤ 17592186044416) (hx : IntsAt w ao xs) :
    Calls Try.prog 21 #[.agg #[.slice ao n c]] w (RetOwn w (quietL xs)) := by
  have HN := hid hn
  have B := (Below.refl w.heap.size w).alloc (Nat.le_refl _) (.cells #[.slice ao n c] 25)
  have bk := Blk.new w #[.slice ao n c] 25
  have e0 := bk.at 0 rfl
  have hfin := hid (quietL_in (xs := xs))
  have hfin0 := hid (quietL_out (xs := xs))
  clear hn
  obtain ⟨i0, hi, hi0, hi1, hi2⟩ := info_parts Try.infoInt
  go_enter Try.func21, Try.ntmps21
  go_wp2_with fail
  have hsz : (w.alloc (.cells #[.slice ao n c] 25)).heap.size = w.heap.size + 1 := by simp
  generalize (w.alloc (.cells #[.slice ao n c] 25)) = w0 at *
  have o0 := Own.lit0 w0 (B := w.heap.size + 1) bk.lt
  have bk := bk.alloc (.cells #[] 3)
  have B := B.alloc B.size (.cells #[] 3)
  rw [hsz] at o0
  generalize (w0.alloc (.cells #[] 3)) = w1 at *
  clear hsz e0
  cases hg : grB xs with
  | false =>
    have hf := hid (hfin0.out hg)
    have hg' := hid hg
    clear hg
    go_loopw [3, 4] (fun v i wr => i = .int .i64 0 ∧ v = .slice (some ⟨w.heap.size + 1, 0, none⟩) 0 0 ∧ wr = w1) (fun _ _ _ => 0)
    case atStart => exact ⟨rfl, rfl, rfl⟩
    case round =>
      obtain ⟨rfl, rfl, rfl⟩ := hrel
      have e0 := bk.at 0 rfl
      by_cases h9 : 9 < n
      · have hd9 : (9 : Int) < n := by omega
        go_wp2_with fail
        refine (specGraphValid_any ao xs n c _ HN.out hl (hx.below B (Nat.le_refl _))).mono fun e w2 h => ?_
        rw [hg'.out] at h
        obtain ⟨rfl, b⟩ := h
        go_wp2
        go_ret
        have := RetOwn.mk (w := w) (xs := []) rfl ((o0.below b (Nat.le_refl _)).lower (by omega)) (B.trans (b.mono B.size))
        rw [hf.out]
        exact this
      · have hd9 : ¬ ((9 : Int) < n) := by omega
        have hp : wrap64 (2 ^ n) = ((2 ^ n : Nat) : Int) := wrap_pow (by omega)
        have hp1 : 1 ≤ 2 ^ n := Nat.one_le_two_pow
        generalize 2 ^ n = P at *
        have hd0 : decide ((0 : Int) < P) = true := decide_eq_true (by omega)
        go_wp2_with fail
        refine (specGraphValid_any ao xs n c _ HN.out hl (hx.below B (Nat.le_refl _))).mono fun e w2 h => ?_
        rw [hg'.out] at h
        obtain ⟨rfl, b⟩ := h
        go_wp2
        go_ret
        have := RetOwn.mk (w := w) (xs := []) rfl ((o0.below b (Nat.le_refl _)).lower (by omega)) (B.trans (b.mono B.size))
        rw [hf.out]
        exact this
  | true =>
    have hok := hid (grB_iff.1 hg)
    have hn9 := hok.out.max
    rw [HN.out] at hn9
    have hp : wrap64 (2 ^ n) = ((2 ^ n : Nat) : Int) := wrap_pow (by omega)
    have h512 := pow9 hn9
    obtain ⟨P, hP⟩ : ∃ P, 2 ^ n = P := ⟨_, rfl⟩
    rw [hP] at hp h512
    have HF : Hid (quietL xs = qtL xs P) := by unfold Hid; rw [hfin.out hok.out, HN.out, hP]
    have hg' := hid hg
    have h9n : ¬ ((9 : Int) < n) := by omega
    clear hg hP
    go_loopw [3, 4] (fun v i wr => ∃ k : Nat, k ≤ P ∧ i = .int .i64 k ∧ Own wr (w.heap.size + 1) v (qtL xs k) ∧ Blk wr w.heap.size #[.slice ao n c] 25 ∧ Below w.heap.size w wr) (fun _ i _ => P - (intOf i).toNat)
    case atStart => exact ⟨0, Nat.zero_le _, rfl, o0, bk, B⟩
    case round =>
      obtain ⟨k, hk, rfl, hown, hbk, hB⟩ := hrel
      clear bk B o0
      have e0 := hbk.at 0 rfl
      by_cases hlt : k < P
      · have hd : decide ((k : Int) < P) = true := decide_eq_true (by omega)
        have hlen := hid (qtL_len xs k)
        go_wp2_with fail
        refine (specGraphValid_any ao xs n c wr HN.out hl (hx.below hB (Nat.le_refl _))).mono fun e w2 h => ?_
        rw [hg'.out] at h
        obtain ⟨rfl, b⟩ := h
        have hown := hown.below b (Nat.le_refl _)
        have hbk := hbk.below b (Nat.le_refl _)
        have hB := hB.trans (b.mono hB.size)
        clear b e0
        have e0 := hbk.at 0 rfl
        go_wp2_with fail
        refine (l2Press_any ao xs n c k w2 HN.out hok.out (by omega) (hx.below hB (Nat.le_refl _))).mono fun e w3 h => ?_
        obtain ⟨rfl, b⟩ := h
        have hoi := hown.below b (Nat.le_refl _)
        have hbi := hbk.below b (Nat.le_refl _)
        have hBi := hB.trans (b.mono hB.size)
        have hlt3 := hbi.lt
        clear e0 b hown hbk hB
        by_cases hq : press xs k = 0
        · have hs := hid (qtL_in hq)
          have hqb : (((press xs k : Nat) : Int) == 0) = true := by rw [hq]; rfl
          clear hq
          go_wp2_with (at_builtin; refine wpList_append_own _ rfl _ _ 23 rfl (w.heap.size + 1) 3 i0 (.int .i64 0) 1 8 Try.underlying23 hi hi0 hi1 hi2 rfl (by decide) _ _ _ rfl (hoi.alloc _) ⟨w3.heap.size, 0, none⟩ 1 1 [.int .i64 (k : Int)] rfl rfl (cell1 _ _ _) (cell1_one _) ?c3 ?c4 ?c5 ?_)
          case c3 => have := hlen.out; unfold maxLen; omega
          case c4 => have := hlen.out; omega
          case c5 => first | omega | (simp; omega)
          intro v' w4 hown' hgrow _
          have ho := Own.appended hown'
          rw [← hs.out] at ho
          have hbi' := (hbi.alloc _).kept hgrow (hoi.ne_blk (by omega))
          have hB' := (hBi.alloc hBi.size _).grown hgrow (by have := hBi.size; first | omega | (simp; omega)) (fun i hi => by have := (World.ownsRow.lt hoi i hi).1; omega)
          clear hown' hgrow hoi hbi hBi
          go_wp2
          go_roundw
          case rel => exact ⟨k + 1, by omega, by go_num, ho, hbi', hB'⟩
          case measure => simp [intOf]; omega
        · have hs := hid (qtL_not hq)
          have hqb : (((press xs k : Nat) : Int) == 0) = false := by simp; exact hq
          clear hq
          rw [← hs.out] at hoi
          go_wp2
          go_roundw
          case rel => exact ⟨k + 1, by omega, by go_num, hoi, hbi, hBi⟩
          case measure => simp [intOf]; omega
      · obtain rfl : k = P := by omega
        have hd : decide ((k : Int) < k) = false := by simp
        rw [← HF.out] at hown
        obtain ⟨ao2, c2, rfl, _, _⟩ := hown.shape
        go_wp2
        go_ret
        exact RetOwn.mk rfl (hown.lower (by omega)) hB

end Go.Proofs.Ytgmjffplinpobaa
