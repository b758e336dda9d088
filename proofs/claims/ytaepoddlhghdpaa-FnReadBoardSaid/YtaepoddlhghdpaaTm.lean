/- The walks of TilesMay, the program's and the reference's. -/
import Derived.Test.YtaepoddlhghdpaaTr
namespace Go.Proofs.Ytaepoddlhghdpaa
open Go Go.RowKit

/-- The tile t for each of the first k places where it lies beside the free one. -/
def mayIn (wide free : Int) (xs : List Int) (t : Int) : Nat → List Int
  | 0 => []
  | k + 1 => mayIn wide free xs t k ++ (if nth xs k = t ∧ farI wide k free = 1 then [t] else [])
/-- The tiles up to j that may be moved. -/
def mayTo (wide free : Int) (xs : List Int) : Nat → List Int
  | 0 => []
  | j + 1 => mayTo wide free xs j ++ mayIn wide free xs ((j : Int) + 1) xs.length
theorem mayIn_zero (wide free : Int) (xs : List Int) (t : Int) : mayIn wide free xs t 0 = [] := rfl
theorem mayIn_yes {wide free : Int} {xs : List Int} {t : Int} {k : Nat} (h : nth xs k = t) (h2 : farI wide k free = 1) : mayIn wide free xs t (k + 1) = mayIn wide free xs t k ++ [t] := by rw [mayIn, if_pos ⟨h, h2⟩]
theorem mayIn_no {wide free : Int} {xs : List Int} {t : Int} {k : Nat} (h : ¬ (nth xs k = t ∧ farI wide k free = 1)) : mayIn wide free xs t (k + 1) = mayIn wide free xs t k := by rw [mayIn, if_neg h, List.append_nil]
theorem mayTo_zero (wide free : Int) (xs : List Int) : mayTo wide free xs 0 = [] := rfl
theorem mayTo_succ (wide free : Int) (xs : List Int) (j : Nat) : mayTo wide free xs (j + 1) = mayTo wide free xs j ++ mayIn wide free xs ((j : Int) + 1) xs.length := rfl
theorem mayIn_len (wide free : Int) (xs : List Int) (t : Int) (k : Nat) : (mayIn wide free xs t k).length ≤ k := by
  induction k with
  | zero => simp [mayIn]
  | succ k ih => rw [mayIn]; split <;> simp <;> omega
theorem mayTo_len {wide free : Int} {xs : List Int} (hl : xs.length ≤ 9) (j : Nat) : (mayTo wide free xs j).length ≤ j * 9 := by
  induction j with
  | zero => simp [mayTo]
  | succ j ih => rw [mayTo_succ, List.length_append]; have := mayIn_len wide free xs ((j : Int) + 1) xs.length; omega
def mayAt (wide free : Int) (xs : List Int) (j k : Nat) : List Int := mayTo wide free xs j ++ mayIn wide free xs ((j : Int) + 1) k
theorem mayAt_zero (wide free : Int) (xs : List Int) (j : Nat) : mayAt wide free xs j 0 = mayTo wide free xs j := by simp [mayAt, mayIn]
theorem mayAt_yes {wide free : Int} {xs : List Int} {j k : Nat} (h : nth xs k = (j : Int) + 1) (h2 : farI wide k free = 1) : mayAt wide free xs j (k + 1) = mayAt wide free xs j k ++ [(j : Int) + 1] := by
  unfold mayAt; rw [mayIn_yes h h2, List.append_assoc]
theorem mayAt_no {wide free : Int} {xs : List Int} {j k : Nat} (h : ¬ (nth xs k = (j : Int) + 1 ∧ farI wide k free = 1)) : mayAt wide free xs j (k + 1) = mayAt wide free xs j k := by
  unfold mayAt; rw [mayIn_no h]
theorem mayAt_full (wide free : Int) (xs : List Int) (j : Nat) : mayAt wide free xs j xs.length = mayTo wide free xs (j + 1) := rfl
theorem mayAt_len {wide free : Int} {xs : List Int} (hl : xs.length ≤ 9) (j k : Nat) : (mayAt wide free xs j k).length ≤ j * 9 + k := by
  unfold mayAt
  rw [List.length_append]
  have h1 := mayTo_len (wide := wide) (free := free) hl j
  have h2 := mayIn_len wide free xs ((j : Int) + 1) k
  omega
def mayL (wide : Int) (xs : List Int) : List Int := if BoardOk wide xs then mayTo wide (zeroI xs) xs (xs.length - 1) else []
theorem mayL_in {wide : Int} {xs : List Int} (h : BoardOk wide xs) : mayL wide xs = mayTo wide (zeroI xs) xs (xs.length - 1) := if_pos h
theorem mayL_out {wide : Int} {xs : List Int} (h : ¬ BoardOk wide xs) : mayL wide xs = [] := if_neg h
theorem length_mayL (wide : Int) (xs : List Int) : (mayL wide xs).length ≤ 17592186044416 - 1048576 := by
  by_cases h : BoardOk wide xs
  · rw [mayL_in h]; have := mayTo_len (wide := wide) (free := zeroI xs) h.2.1 (xs.length - 1); have := h.2.1; omega
  · rw [mayL_out h]; simp

def nearB (wide a b : Int) : Bool := farI wide a b == 1
theorem nearB_same {wide a b : Int} (hq : a / wide = b / wide) : nearB wide a b = (inR (-1) 1 (a - b) && (a != b)) := by
  have h1 := Int.emod_add_mul_ediv a wide
  have h2 := Int.emod_add_mul_ediv b wide
  rw [← hq] at h2
  unfold nearB farI inR
  rw [hq, Bool.eq_iff_iff]
  simp only [beq_iff_eq, Bool.and_eq_true, decide_eq_true_eq, bne_iff_ne]
  generalize wide * (a / wide) = m at *
  omega
theorem nearB_other {wide a b : Int} (hq : a / wide ≠ b / wide) : nearB wide a b = ((a % wide == b % wide) && inR (-1) 1 (a / wide - b / wide)) := by
  unfold nearB farI inR
  rw [Bool.eq_iff_iff]
  simp only [beq_iff_eq, Bool.and_eq_true, decide_eq_true_eq]
  omega

set_option maxRecDepth 100000 in
set_option maxHeartbeats 1000000 in
theorem l3Near_any (wide a b : Int) (w : World) (hw : 1 ≤ wide) (ha : 0 ≤ a) (hb : 0 ≤ b) (ha1 : a ≤ 1000) (hb1 : b ≤ 1000) :
    Calls Try.prog 51 #[.int .i64 wide, .int .i64 a, .int .i64 b] w fun e w' => e = .returned (.bool (nearB wide a b)) ∧ Qt w w' := by
  by_cases hq : a / wide = b / wide
  · have hn := hid (nearB_same hq)
    obtain ⟨q1, hq1⟩ : ∃ q, a / wide = q := ⟨_, rfl⟩
    have hq2 : b / wide = q1 := by rw [← hq, hq1]
    clear hq
    cases hi : inR (-1) 1 (a - b) with
    | true =>
      go_enter Try.func51, Try.ntmps51
      go_wp2
      go_quiet (fail)
      go_wp2_with fail
      refine (l1In_any _ _ _ _).mono fun e w1 h => ?_
      rw [hi] at h
      obtain ⟨rfl, rfl⟩ := h
      go_wp2_with fail
      go_ret
      exact ⟨ret_bool (by rw [hn.out, hi]; rfl), (Qt.refl w).drewN _⟩
    | false =>
      go_enter Try.func51, Try.ntmps51
      go_wp2
      go_quiet (fail)
      go_wp2_with fail
      refine (l1In_any _ _ _ _).mono fun e w1 h => ?_
      rw [hi] at h
      obtain ⟨rfl, rfl⟩ := h
      go_wp2_with fail
      go_ret
      exact ⟨ret_bool (by rw [hn.out, hi]; rfl), (Qt.refl w).drewN _⟩
  · have hn := hid (nearB_other hq)
    obtain ⟨q1, hq1⟩ : ∃ q, a / wide = q := ⟨_, rfl⟩
    obtain ⟨q2, hq2⟩ : ∃ q, b / wide = q := ⟨_, rfl⟩
    obtain ⟨r1, hr1⟩ : ∃ q, a % wide = q := ⟨_, rfl⟩
    obtain ⟨r2, hr2⟩ : ∃ q, b % wide = q := ⟨_, rfl⟩
    have hb0 : (q1 == q2) = false := by rw [← hq1, ← hq2]; simpa using hq
    have hn' : Hid (nearB wide a b = ((r1 == r2) && inR (-1) 1 (q1 - q2))) := by unfold Hid; rw [hn.out, hq1, hq2, hr1, hr2]
    have h1 : 0 ≤ q1 := by rw [← hq1]; exact Int.ediv_nonneg ha (by omega)
    have h2 : q1 ≤ 1000 := by rw [← hq1]; exact Int.le_trans (Int.ediv_le_self _ ha) ha1
    have h3 : 0 ≤ q2 := by rw [← hq2]; exact Int.ediv_nonneg hb (by omega)
    have h4 : q2 ≤ 1000 := by rw [← hq2]; exact Int.le_trans (Int.ediv_le_self _ hb) hb1
    clear hq hn
    by_cases hr : r1 = r2
    · have hrb : (r1 == r2) = true := by simpa using hr
      clear hr
      have hsub : IntKind.i64.wrap (q1 - q2) = q1 - q2 := IntWalk.i64_in _ (by omega)
      go_enter Try.func51, Try.ntmps51
      go_wp2
      go_quiet (fail)
      have hq0 := (Qt.refl w).drewN nq
      generalize w.drewN nq = W at *
      go_wp2
      go_quiet (first | (go_at_call 39; exact quiet_same (l1In_any _ _ _ _)))
      go_wp2
      go_ret
      exact ⟨ret_bool (by rw [hn'.out, hrb]; rfl), hq0.drewN _⟩
    · have hrb : (r1 == r2) = false := by simpa using hr
      clear hr
      go_enter Try.func51, Try.ntmps51
      go_wp2
      go_quiet (fail)
      have hq0 := (Qt.refl w).drewN nq
      generalize w.drewN nq = W at *
      go_wp2
      go_quiet (first | (go_at_call 39; exact quiet_same (l1In_any _ _ _ _)))
      go_wp2
      go_ret
      exact ⟨ret_bool (by rw [hn'.out, hrb]; rfl), hq0.drewN _⟩

theorem nearB_true {wide a b : Int} (h : farI wide a b = 1) : nearB wide a b = true := by simp [nearB, h]
theorem nearB_false {wide a b : Int} (h : farI wide a b ≠ 1) : nearB wide a b = false := by simp [nearB, h]

set_option maxRecDepth 100000 in
set_option maxHeartbeats 2000000 in
theorem specTilesMay_any (wide : Int) (ao : Option Addr) (xs : List Int) (n c : Nat) (w : World) (hn : xs.length = n) (hl : n ≤ 17592186044416) (hnc : n ≤ c) (hx : IntsAt w ao xs) :
    Calls Try.prog 43 #[.agg #[.int .i64 wide, .slice ao n c]] w (RetOwn w (mayL wide xs)) := by
  have HN := hid hn
  clear hn
  have B := ((Below.refl w.heap.size w).alloc (Nat.le_refl _) (.cells #[.int .i64 wide, .slice ao n c] 27)).alloc (by simp) (.cells #[] 3)
  have bk := (Blk.new w #[.int .i64 wide, .slice ao n c] 27).alloc (.cells #[] 3)
  have o0 := Own.lit0 (B := w.heap.size + 1) (w.alloc (.cells #[.int .i64 wide, .slice ao n c] 27)) (by simp)
  have hsz0 : (w.alloc (.cells #[.int .i64 wide, .slice ao n c] 27)).heap.size = w.heap.size + 1 := by simp
  rw [hsz0] at o0
  by_cases hok' : BoardOk wide xs
  rotate_left
  · have hfin := hid (mayL_out hok')
    have hz := hid (freeI_out hok')
    clear hok'
    have hfinal : ∀ W, Own W (w.heap.size + 1) (.slice (some ⟨w.heap.size + 1, 0, none⟩) 0 0) [] → Below w.heap.size w W → RetOwn w (mayL wide xs) (.returned (.slice (some ⟨w.heap.size + 1, 0, none⟩) 0 0)) W := fun W o B => by
      rw [hfin.out]; exact RetOwn.mk rfl (o.lower (by omega)) B
    by_cases h1n : (1 : Int) < n
    · go_enter Try.func43, Try.ntmps43
      go_wp2_with fail
      generalize ((w.alloc (.cells #[.int .i64 wide, .slice ao n c] 27)).alloc (.cells #[] 3)) = w0 at *
      refine (specFreePlace_any wide ao xs n c w0 HN.out hl hnc (hx.below B (Nat.le_refl _))).mono fun e w1 h => ?_
      rw [hz.out] at h
      obtain ⟨rfl, b⟩ := h
      have o0 := o0.below b (Nat.le_refl _)
      have e1 := (bk.below b (Nat.le_refl _)).at 1 rfl
      have hF := hfinal w1 o0 (B.trans (b.mono B.size))
      clear hfinal o0 b B bk
      go_wp2
      refine wp_loop_rounds 1 ?_
      rw [rounds_succ]
      go_wp2
      go_ret
      exact hF
    · go_enter Try.func43, Try.ntmps43
      go_wp2_with fail
      generalize ((w.alloc (.cells #[.int .i64 wide, .slice ao n c] 27)).alloc (.cells #[] 3)) = w0 at *
      refine (specFreePlace_any wide ao xs n c w0 HN.out hl hnc (hx.below B (Nat.le_refl _))).mono fun e w1 h => ?_
      rw [hz.out] at h
      obtain ⟨rfl, b⟩ := h
      have o0 := o0.below b (Nat.le_refl _)
      have e1 := (bk.below b (Nat.le_refl _)).at 1 rfl
      have hF := hfinal w1 o0 (B.trans (b.mono B.size))
      clear hfinal o0 b B bk
      go_wp2
      refine wp_loop_rounds 1 ?_
      rw [rounds_succ]
      go_wp2
      go_ret
      exact hF
  · have hok := hid hok'
    have hfi := hid (freeI_in hok')
    clear hok'
    have hfin : Hid (mayL wide xs = mayTo wide (zeroI xs) xs (n - 1)) := by have := mayL_in hok.out; rwa [HN.out] at this
    have hn2 : 2 ≤ n := by have := hok.out.1; rwa [HN.out] at this
    have hn9 : n ≤ 9 := by have := hok.out.2.1; rwa [HN.out] at this
    have hx9 : Hid (xs.length ≤ 9) := hok.out.2.1
    have hw1 : 1 ≤ wide := hok.out.2.2.1
    have hz := zeroI_ok hok.out
    rw [HN.out] at hz
    obtain ⟨hz0, hz1⟩ := hz
    obtain ⟨i0, hi, hi0, hi1, hi2⟩ := info_parts Try.infoInt
    go_enter Try.func43, Try.ntmps43
    go_wp2_with fail
    generalize ((w.alloc (.cells #[.int .i64 wide, .slice ao n c] 27)).alloc (.cells #[] 3)) = w0 at *
    refine (specFreePlace_any wide ao xs n c w0 HN.out hl hnc (hx.below B (Nat.le_refl _))).mono fun e w1 h => ?_
    rw [hfi.out] at h
    obtain ⟨rfl, b⟩ := h
    have B := B.trans (b.mono B.size)
    have bk := bk.below b (Nat.le_refl _)
    have o0 := o0.below b (Nat.le_refl _)
    have e0 := bk.at 0 rfl
    have e1 := bk.at 1 rfl
    clear b
    generalize hZ : zeroI xs = z at *
    have HZ := hid hZ
    clear hZ
    go_wp2_with fail
    clear e0 e1
    go_loopw [3, 5, 6] (fun v t _ wr => ∃ j : Nat, j + 1 ≤ n ∧ t = .int .i64 ((j : Int) + 1) ∧ Own wr (w.heap.size + 1) v (mayTo wide z xs j) ∧ Blk wr w.heap.size #[.int .i64 wide, .slice ao n c] 27 ∧ Below w.heap.size w wr) (fun _ t _ _ => n + 1 - (intOf t).toNat)
    case atStart => exact ⟨0, by omega, rfl, o0, bk, B⟩
    case round =>
      obtain ⟨j, hj, rfl, hown, hbk, hB⟩ := hrel
      clear bk B o0
      have e0 := hbk.at 0 rfl
      have e1 := hbk.at 1 rfl
      by_cases hlt : (j : Int) + 1 < n
      · go_wp2_with fail
        clear e0 e1
        obtain ⟨wo, hwo⟩ : ∃ wo : World, wo = wr := ⟨_, rfl⟩
        subst hwo
        go_loopw [3, 6] (fun v i wi => ∃ k : Nat, k ≤ n ∧ i = .int .i64 k ∧ Own wi (w.heap.size + 1) v (mayAt wide z xs j k) ∧ Blk wi w.heap.size #[.int .i64 wide, .slice ao n c] 27 ∧ Below w.heap.size w wi) (fun _ i _ => n - (intOf i).toNat)
        case atStart => exact ⟨0, Nat.zero_le _, rfl, by rw [mayAt_zero]; exact hown, hbk, hB⟩
        case round =>
          obtain ⟨k, hk, rfl, hoi, hbi, hBi⟩ := hrel
          clear hown hbk hB
          have e0 := hbi.at 0 rfl
          have e1 := hbi.at 1 rfl
          by_cases hkn : k < n
          · have hkl : k < xs.length := by rw [HN.out]; exact hkn
            obtain ⟨b, off, rfl, hc⟩ := (hx.below hBi (Nat.le_refl _)) (by omega)
            have hck := hc k hkl
            clear hc
            by_cases he : nth xs k = (j : Int) + 1
            · have hb : (nth xs k == (j : Int) + 1) = true := by simpa using he
              by_cases hf : farI wide k z = 1
              · have hfb := nearB_true hf
                have hs := hid (mayAt_yes he hf)
                have hlen : Hid ((mayAt wide z xs j k).length ≤ 200) := by
                  have h1 := mayAt_len (wide := wide) (free := z) hx9.out j k
                  unfold Hid; omega
                clear he hf
                go_wp2_with fail
                refine (l3Near_any wide k z wr hw1 (by omega) hz0 (by omega) (by omega)).mono fun e w3 h => ?_
                rw [hfb] at h
                obtain ⟨rfl, hq⟩ := h
                have hoi := hoi.qt hq
                have hbi := hbi.qt hq
                have hBi := hBi.trans (hq.below _)
                have hlt3 := hbi.lt
                clear e0 e1 hck hq
                go_wp2_with (at_builtin; refine wpList_append_own _ rfl _ _ 22 rfl (w.heap.size + 1) 3 i0 (.int .i64 0) 1 8 Try.underlying22 hi hi0 hi1 hi2 rfl (by decide) _ _ _ rfl (hoi.alloc _) ⟨w3.heap.size, 0, none⟩ 1 1 [.int .i64 ((j : Int) + 1)] rfl rfl (cell1 _ _ _) (cell1_one _) ?c3 ?c4 ?c5 ?_)
                case c3 => have := hlen.out; unfold maxLen; omega
                case c4 => have := hlen.out; omega
                case c5 => first | omega | (simp; omega)
                intro v' w4 hown' hgrow _
                have ho := Own.appended hown'
                rw [← hs.out] at ho
                have hbi' := (hbi.alloc _).kept hgrow (hoi.ne_blk (by omega))
                have hB' := (hBi.alloc hBi.size _).grown hgrow (by have := hBi.size; first | omega | (simp; omega)) (fun i hi => by have := (World.ownsRow.lt hoi i hi).1; omega)
                clear hown' hgrow hoi hbi hBi
                go_wp2
                go_roundw
                case rel => exact ⟨k + 1, by omega, by go_num, ho, hbi', hB'⟩
                case measure => simp [intOf]; omega
              · have hfb := nearB_false hf
                have hs := hid (mayAt_no (wide := wide) (free := z) (xs := xs) (j := j) (k := k) fun h => hf h.2)
                clear he hf
                go_wp2_with fail
                refine (l3Near_any wide k z wr hw1 (by omega) hz0 (by omega) (by omega)).mono fun e w3 h => ?_
                rw [hfb] at h
                obtain ⟨rfl, hq⟩ := h
                have hoi := hoi.qt hq
                have hbi := hbi.qt hq
                have hBi := hBi.trans (hq.below _)
                clear e0 e1 hck hq
                rw [← hs.out] at hoi
                go_wp2
                go_roundw
                case rel => exact ⟨k + 1, by omega, by go_num, hoi, hbi, hBi⟩
                case measure => simp [intOf]; omega
            · have hb : (nth xs k == (j : Int) + 1) = false := by simpa using he
              have hs := hid (mayAt_no (wide := wide) (free := z) (xs := xs) (j := j) (k := k) fun h => he h.1)
              clear he
              rw [← hs.out] at hoi
              go_wp2
              go_roundw
              case rel => exact ⟨k + 1, by omega, by go_num, hoi, hbi, hBi⟩
              case measure => simp [intOf]; omega
          · have hs : Hid (mayTo wide z xs (j + 1) = mayAt wide z xs j k) := by unfold Hid; rw [← mayAt_full, HN.out, show n = k from by omega]
            rw [← hs.out] at hoi
            go_wp2
            go_roundw
            case rel => exact ⟨j + 1, by omega, by go_num, hoi, hbi, hBi⟩
            case measure => simp [intOf]; omega
      · have hmn : Hid (mayTo wide z xs j = mayL wide xs) := by unfold Hid; rw [hfin.out, show n - 1 = j from by omega]
        rw [hmn.out] at hown
        obtain ⟨ao', c', rfl, _, _⟩ := hown.shapeN rfl
        go_wp2
        go_ret
        exact RetOwn.mk rfl (hown.lower (by omega)) hB

end Go.Proofs.Ytaepoddlhghdpaa
