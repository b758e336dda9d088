/- The walks of the helpers on boards: szIntS, szBoard, toBoard, eqBoard, markBoard, heldBoard. -/
import Derived.Test.YtaepoddlhghdpaaInts
namespace Go.Proofs.Ytaepoddlhghdpaa
open Go Go.RowKit

/-- What is left of a budget. -/
def szV (left : Int) (n : Nat) : Int := if left < n then -1 else left - n
theorem szV_le {left : Int} {n : Nat} (h : ¬ szV left n < 0) : (n : Int) ≤ left := by unfold szV at h; split at h <;> omega

set_option maxRecDepth 100000 in
theorem szIntS_any (ao : Option Addr) (n c : Nat) (left : Int) (w : World) (hl : n ≤ 9223372036854775807) (h0 : 0 ≤ left) (h1 : left ≤ 17592186044416) :
    Calls Try.prog 21 #[.slice ao n c, .int .i64 left] w fun e w' => e = .returned (.int .i64 (szV left n)) ∧ w = w' := by
  by_cases h : left < n
  · have hv : Hid (szV left n = -1) := if_pos h
    have hd : decide (left - n < 0) = true := decide_eq_true (by omega)
    go_enter Try.func21, Try.ntmps21
    go_wp2
    go_ret
    exact ⟨by rw [hv.out]; rfl, rfl⟩
  · have hv : Hid (szV left n = left - n) := if_neg h
    have hd : decide (left - n < 0) = false := decide_eq_false (by omega)
    go_enter Try.func21, Try.ntmps21
    go_wp2
    go_ret
    exact ⟨by rw [hv.out]; rfl, rfl⟩

set_option maxRecDepth 100000 in
theorem szBoard_any (wide : Int) (ao : Option Addr) (n c : Nat) (left : Int) (w : World) (hl : n ≤ 9223372036854775807) (h0 : 0 ≤ left) (h1 : left ≤ 17592186044416) :
    Calls Try.prog 7 #[.agg #[.int .i64 wide, .slice ao n c], .int .i64 left] w fun e w' => e = .returned (.int .i64 (szV left n)) ∧ Below w.heap.size w w' := by
  have B := (Below.refl w.heap.size w).alloc (Nat.le_refl _) (.cells #[.int .i64 wide, .slice ao n c] 24)
  by_cases h : szV left n < 0
  · have hv : Hid (szV left n = -1) := by unfold szV at h ⊢; split at h <;> rename_i h2 <;> first | exact if_pos h2 | omega
    have hd : decide (szV left n < 0) = true := decide_eq_true h
    go_enter Try.func7, Try.ntmps7
    go_wp2_with fail
    refine (szIntS_any ao n c left _ hl h0 h1).mono fun e w1 h => ?_
    obtain ⟨rfl, rfl⟩ := h
    go_wp2_with fail
    go_ret
    exact ⟨by rw [hv.out]; rfl, B⟩
  · have hd : decide (szV left n < 0) = false := decide_eq_false h
    go_enter Try.func7, Try.ntmps7
    go_wp2_with fail
    refine (szIntS_any ao n c left _ hl h0 h1).mono fun e w1 h => ?_
    obtain ⟨rfl, rfl⟩ := h
    go_wp2_with fail
    go_ret
    exact ⟨rfl, B⟩

set_option maxRecDepth 100000 in
set_option maxHeartbeats 400000 in
theorem toBoard_any (wide : Int) (ao : Option Addr) (xs : List Int) (n c : Nat) (w : World) (hn : xs.length = n) (hl : n ≤ 17592186044416) (hx : IntsAt w ao xs) :
    Calls Try.prog 9 #[.agg #[.int .i64 wide, .slice ao n c]] w (RetBoard w wide xs) := by
  have HN := hid hn
  clear hn
  go_enter Try.func9, Try.ntmps9
  go_wp2_with fail
  have b1 := ((Blk.new' (w.alloc (.cells #[.int .i64 wide, .slice ao n c] 24)) #[.int .i64 0, .slice none 0 0] 27 (g := w.heap.size + 1) (by simp)).alloc (.cells #[.int .i64 wide, .slice none 0 0] 27))
  have b2 := Blk.new' ((w.alloc (.cells #[.int .i64 wide, .slice ao n c] 24)).alloc (.cells #[.int .i64 0, .slice none 0 0] 27)) #[.int .i64 wide, .slice none 0 0] 27 (g := w.heap.size + 1 + 1) (by simp)
  have B := (((Below.refl w.heap.size w).alloc (Nat.le_refl _) (.cells #[.int .i64 wide, .slice ao n c] 24)).alloc (by simp) (.cells #[.int .i64 0, .slice none 0 0] 27)).alloc (by simp; omega) (.cells #[.int .i64 wide, .slice none 0 0] 27)
  generalize (((w.alloc (.cells #[.int .i64 wide, .slice ao n c] 24)).alloc (.cells #[.int .i64 0, .slice none 0 0] 27)).alloc (.cells #[.int .i64 wide, .slice none 0 0] 27)) = W at *
  have hx1 := hx.below B (Nat.le_refl _)
  refine (toIntS_any ao xs n c W HN.out (by omega) hx1).mono fun e w1 h => ?_
  obtain ⟨rfl, o1, b⟩ := h
  have b1' := b1.below b (Nat.le_refl _)
  have b2' := b2.below b (Nat.le_refl _)
  have hlt := b2.lt
  have B1 := B.trans (b.mono B.size)
  have B2 := ((B1.setCell (p := ⟨w.heap.size + 1 + 1, 1, none⟩) (by simp; omega) (.slice (some ⟨W.heap.size, 0, none⟩) n n)).setCell (p := ⟨w.heap.size + 1, 0, none⟩) (by simp) (.int .i64 wide)).setCell (p := ⟨w.heap.size + 1, 1, none⟩) (by simp) (.slice (some ⟨W.heap.size, 0, none⟩) n n)
  have o2 := ((o1.setOther (w.heap.size + 1 + 1) 1 (.slice (some ⟨W.heap.size, 0, none⟩) n n) (o1.ne_of_lt hlt)).setOther (w.heap.size + 1) 0 (.int .i64 wide) (o1.ne_of_lt (by omega))).setOther (w.heap.size + 1) 1 (.slice (some ⟨W.heap.size, 0, none⟩) n n) (o1.ne_of_lt (by omega))
  have o3 := o2.lower (B' := w.heap.size) (by omega)
  have e10 := b1'.cell 0
  have e11 := b1'.cell 1
  have e20 := b2'.cell 0
  have e21 := b2'.cell 1
  have f10 := b1'.free 0
  have f11 := b1'.free 1
  have f20 := b2'.free 0
  have f21 := b2'.free 1
  have hsz := b.size
  clear b1 b2 b1' b2' B b hx hx1 B1 o1 o2
  go_wp2
  exact bodyPost_ret (v := .agg #[.int .i64 wide, .slice (some ⟨W.heap.size, 0, none⟩) n n]) (by simp [results, Try.results9, go_sem, e10, e11]) rfl (RetBoard.mk HN.out (Nat.le_refl _) o3 B2)

/-- Equality of boards. -/
def eqBd (wa : Int) (xs : List Int) (wb : Int) (ys : List Int) : Bool := decide (wa = wb) && eqL xs ys
theorem eqBd_self (wa : Int) (xs : List Int) : eqBd wa xs wa xs = true := by simp [eqBd, eqL_self]

set_option maxRecDepth 100000 in
theorem eqBoard_any (wa wb : Int) (ao bo : Option Addr) (xs ys : List Int) (n m c d : Nat) (w : World) (hn : xs.length = n) (hm : ys.length = m) (hl : n ≤ 9223372036854775807) (hx : IntsAt w ao xs) (hy : IntsAt w bo ys) :
    Calls Try.prog 11 #[.agg #[.int .i64 wa, .slice ao n c], .agg #[.int .i64 wb, .slice bo m d]] w fun e w' => e = .returned (.bool (eqBd wa xs wb ys)) ∧ Below w.heap.size w w' := by
  have HN := hid hn
  have HM := hid hm
  clear hn hm
  have B := ((Below.refl w.heap.size w).alloc (Nat.le_refl _) (.cells #[.int .i64 wa, .slice ao n c] 27)).alloc (by simp) (.cells #[.int .i64 wb, .slice bo m d] 27)
  by_cases hw : wa = wb
  · subst hw
    have hb0 : (wa != wa) = false := by simp
    have hx1 := hx.below B (Nat.le_refl _)
    have hy1 := hy.below B (Nat.le_refl _)
    have heq : Hid (eqBd wa xs wa ys = eqL xs ys) := by simp [Hid, eqBd]
    cases he : eqL xs ys with
    | true =>
      go_enter Try.func11, Try.ntmps11
      go_wp2_with fail
      refine (eqIntS_any ao bo xs ys n m c d _ HN.out HM.out hl hx1 hy1).mono fun e w1 h => ?_
      rw [he] at h
      obtain ⟨rfl, hq⟩ := h
      go_wp2_with fail
      go_ret
      exact ⟨by rw [heq.out]; exact ret_bool he.symm, B.trans (hq.below _)⟩
    | false =>
      go_enter Try.func11, Try.ntmps11
      go_wp2_with fail
      refine (eqIntS_any ao bo xs ys n m c d _ HN.out HM.out hl hx1 hy1).mono fun e w1 h => ?_
      rw [he] at h
      obtain ⟨rfl, hq⟩ := h
      go_wp2_with fail
      go_ret
      exact ⟨by rw [heq.out]; exact ret_bool he.symm, B.trans (hq.below _)⟩
  · have hb0 : (wa != wb) = true := by simp [hw]
    have hfin : Hid (eqBd wa xs wb ys = false) := by simp [Hid, eqBd, hw]
    clear hw
    go_enter Try.func11, Try.ntmps11
    go_wp2
    go_ret
    exact ⟨by rw [hfin.out]; rfl, B⟩

set_option maxRecDepth 100000 in
theorem markBoard_any (wide : Int) (ao : Option Addr) (xs : List Int) (n c B : Nat) (k0 : Int) (w : World) (hn : xs.length = n) (hl : n ≤ 17592186044416) (hk0 : 0 ≤ k0) (hk1 : k0 ≤ 17592186044416) (hx : Own w B (.slice ao n c) xs) :
    Calls Try.prog 14 #[.agg #[.int .i64 wide, .slice ao n c], .int .i64 k0] w fun e w' => e = .returned (.int .i64 (k0 + n)) ∧ Own w' B (.slice ao n c) (iota k0 n) ∧ w.grownBy w' (Value.slice ao n c).ownBlock := by
  have hx1 := hx.alloc (.cells #[.int .i64 wide, .slice ao n c] 27)
  go_enter Try.func14, Try.ntmps14
  go_wp2_with fail
  refine (markIntS_any ao xs n c B k0 _ hn hl hk0 hk1 hx1).mono fun e w1 h => ?_
  obtain ⟨rfl, o1, hg⟩ := h
  clear hn
  go_wp2_with fail
  go_ret
  exact ⟨rfl, o1, grownBy_trans (World.grownBy_alloc w _ _) hg⟩

set_option maxRecDepth 100000 in
theorem heldBoard_any (wide : Int) (ao : Option Addr) (n c : Nat) (k0 : Int) (w : World) (hl : n ≤ 17592186044416) (hk0 : 0 ≤ k0) (hk1 : k0 ≤ 17592186044416) (hx : IntsAt w ao (iota k0 n)) :
    Calls Try.prog 15 #[.agg #[.int .i64 wide, .slice ao n c], .int .i64 k0] w fun e w' => e = .returned (.int .i64 (k0 + n)) ∧ Below w.heap.size w w' := by
  have B := (Below.refl w.heap.size w).alloc (Nat.le_refl _) (.cells #[.int .i64 wide, .slice ao n c] 27)
  have hx1 := hx.below B (Nat.le_refl _)
  have hd : decide (k0 + n < 0) = false := decide_eq_false (by omega)
  go_enter Try.func15, Try.ntmps15
  go_wp2_with fail
  refine (heldIntS_any ao n c k0 _ hl hk0 hk1 hx1).mono fun e w1 h => ?_
  obtain ⟨rfl, rfl⟩ := h
  go_wp2_with fail
  go_ret
  exact ⟨rfl, B⟩

end Go.Proofs.Ytaepoddlhghdpaa
