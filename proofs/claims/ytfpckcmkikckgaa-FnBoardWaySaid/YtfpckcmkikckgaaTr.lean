/- The walks of placesFar, TilesFar and FreeFar, the program's and the reference's. -/
import Derived.Test.YtfpckcmkikckgaaTo
namespace Go.Proofs.Ytfpckcmkikckgaa
open Go Go.RowKit

/-- How far two places are from each other, by rows and by columns. -/
def farI (wide a b : Int) : Int := max (a / wide - b / wide) (b / wide - a / wide) + max (a % wide - b % wide) (b % wide - a % wide)

theorem mod_le {a wide : Int} (ha : 0 ≤ a) : a % wide ≤ a := by
  have h := Int.emod_add_mul_ediv a wide
  by_cases hw : 0 < wide
  · have h2 : 0 ≤ a / wide := Int.ediv_nonneg ha (by omega)
    have h3 : 0 ≤ wide * (a / wide) := Int.mul_nonneg (by omega) h2
    omega
  · by_cases h0 : wide = 0
    · subst h0; simp
    · have h4 := Int.emod_neg a wide
      have h2 : 0 ≤ a / (-wide) := Int.ediv_nonneg ha (by omega)
      have h3 : 0 ≤ (-wide) * (a / (-wide)) := Int.mul_nonneg (by omega) h2
      have h5 := Int.emod_add_mul_ediv a (-wide)
      rw [h4] at h5
      omega

theorem farI_bounds {wide a b : Int} (hw : 1 ≤ wide) (ha : 0 ≤ a) (hb : 0 ≤ b) : 0 ≤ farI wide a b ∧ farI wide a b ≤ 2 * (a + b) := by
  have h1 := Int.ediv_nonneg ha (show 0 ≤ wide by omega)
  have h2 := Int.ediv_le_self wide ha
  have h3 := Int.ediv_nonneg hb (show 0 ≤ wide by omega)
  have h4 := Int.ediv_le_self wide hb
  have h5 := Int.emod_nonneg a (show wide ≠ 0 by omega)
  have h6 := mod_le (wide := wide) ha
  have h7 := Int.emod_nonneg b (show wide ≠ 0 by omega)
  have h8 := mod_le (wide := wide) hb
  unfold farI
  omega

theorem val_int {a b : Int} (h : a = b) : Value.int .i64 a = .int .i64 b := by rw [h]

set_option maxRecDepth 100000 in
theorem placesFar_any (wide a b : Int) (w : World) (hw : 1 ≤ wide) (ha : 0 ≤ a) (hb : 0 ≤ b) (ha1 : a ≤ 1000) (hb1 : b ≤ 1000) :
    Calls Try.prog 42 #[.int .i64 wide, .int .i64 a, .int .i64 b] w fun e w' => e = .returned (.int .i64 (farI wide a b)) ∧ Qt w w' := by
  obtain ⟨q1, hq1⟩ : ∃ q, a / wide = q := ⟨_, rfl⟩
  obtain ⟨q2, hq2⟩ : ∃ q, b / wide = q := ⟨_, rfl⟩
  obtain ⟨r1, hr1⟩ : ∃ q, a % wide = q := ⟨_, rfl⟩
  obtain ⟨r2, hr2⟩ : ∃ q, b % wide = q := ⟨_, rfl⟩
  have hf : Hid (farI wide a b = max (q1 - q2) (q2 - q1) + max (r1 - r2) (r2 - r1)) := by unfold Hid farI; rw [hq1, hq2, hr1, hr2]
  have h1 : 0 ≤ q1 := by rw [← hq1]; exact Int.ediv_nonneg ha (by omega)
  have h2 : q1 ≤ 1000 := by rw [← hq1]; exact Int.le_trans (Int.ediv_le_self _ ha) ha1
  have h3 : 0 ≤ q2 := by rw [← hq2]; exact Int.ediv_nonneg hb (by omega)
  have h4 : q2 ≤ 1000 := by rw [← hq2]; exact Int.le_trans (Int.ediv_le_self _ hb) hb1
  have h5 : 0 ≤ r1 := by rw [← hr1]; exact Int.emod_nonneg _ (by omega)
  have h6 : r1 ≤ 1000 := by rw [← hr1]; exact Int.le_trans (mod_le ha) ha1
  have h7 : 0 ≤ r2 := by rw [← hr2]; exact Int.emod_nonneg _ (by omega)
  have h8 : r2 ≤ 1000 := by rw [← hr2]; exact Int.le_trans (mod_le hb) hb1
  go_enter Try.func42, Try.ntmps42
  go_wp2
  go_quiet (fail)
  go_wp2
  all_goals go_ret
  all_goals exact ⟨ret_int (by rw [hf.out]; omega), (Qt.refl w).drewN _⟩

/-- The sum over the first k places. -/
def tfTo (wide : Int) (xs : List Int) : Nat → Int
  | 0 => 0
  | k + 1 => tfTo wide xs k + (if 0 < nth xs k then farI wide k (nth xs k - 1) else 0)
theorem tfTo_zero (wide : Int) (xs : List Int) : tfTo wide xs 0 = 0 := rfl
theorem tfTo_pos {wide : Int} {xs : List Int} {k : Nat} (h : 0 < nth xs k) : tfTo wide xs (k + 1) = tfTo wide xs k + farI wide k (nth xs k - 1) := by rw [tfTo, if_pos h]
theorem tfTo_not {wide : Int} {xs : List Int} {k : Nat} (h : ¬ 0 < nth xs k) : tfTo wide xs (k + 1) = tfTo wide xs k := by rw [tfTo, if_neg h, Int.add_zero]

theorem tfTo_bounds {wide : Int} {xs : List Int} (h : BoardOk wide xs) {k : Nat} (hk : k ≤ xs.length) : 0 ≤ tfTo wide xs k ∧ tfTo wide xs k ≤ k * 40 := by
  induction k with
  | zero => simp [tfTo_zero]
  | succ k ih =>
    have ih := ih (by omega)
    have h9 := h.2.1
    by_cases hp : 0 < nth xs k
    · have hb := h.2.2.2.2.1 _ (nth_mem (show k < xs.length by omega))
      have hf := farI_bounds h.2.2.1 (show (0 : Int) ≤ k by omega) (show 0 ≤ nth xs k - 1 by omega)
      rw [tfTo_pos hp]
      omega
    · rw [tfTo_not hp]; omega

def tilesFarI (wide : Int) (xs : List Int) : Int := if BoardOk wide xs then tfTo wide xs xs.length else -1
theorem tilesFarI_in {wide : Int} {xs : List Int} (h : BoardOk wide xs) : tilesFarI wide xs = tfTo wide xs xs.length := if_pos h
theorem tilesFarI_out {wide : Int} {xs : List Int} (h : ¬ BoardOk wide xs) : tilesFarI wide xs = -1 := if_neg h

set_option maxRecDepth 100000 in
set_option maxHeartbeats 1000000 in
theorem implTilesFar_any (wide : Int) (ao : Option Addr) (xs : List Int) (n c : Nat) (w : World) (hn : xs.length = n) (hl : n ≤ 17592186044416) (hx : IntsAt w ao xs) :
    Calls Try.prog 25 #[.agg #[.int .i64 wide, .slice ao n c]] w fun e w' => e = .returned (.int .i64 (tilesFarI wide xs)) ∧ Below w.heap.size w w' := by
  have HN := hid hn
  clear hn
  have B := (Below.refl w.heap.size w).alloc (Nat.le_refl _) (.cells #[.int .i64 wide, .slice ao n c] 25)
  have bk := Blk.new w #[.int .i64 wide, .slice ao n c] 25
  cases h1 : boardB wide xs with
  | false =>
    have hfin := hid (tilesFarI_out (boardB_not.1 h1))
    go_enter Try.func25, Try.ntmps25
    go_wp2_with fail
    generalize (w.alloc (.cells #[.int .i64 wide, .slice ao n c] 25)) = w0 at *
    refine (implBoardValid_any wide ao xs n c w0 HN.out hl (hx.below B (Nat.le_refl _))).mono fun e w1 h => ?_
    rw [h1] at h
    obtain ⟨rfl, b⟩ := h
    go_wp2_with fail
    go_ret
    exact ⟨by rw [hfin.out]; rfl, B.trans (b.mono B.size)⟩
  | true =>
    have hok := hid (boardB_iff.1 h1)
    have hfin : Hid (tilesFarI wide xs = tfTo wide xs n) := by have := tilesFarI_in (boardB_iff.1 h1); rwa [HN.out] at this
    have hn9 : n ≤ 9 := by have := hok.out.2.1; rwa [HN.out] at this
    have hw1 : 1 ≤ wide := hok.out.2.2.1
    go_enter Try.func25, Try.ntmps25
    go_wp2_with fail
    generalize (w.alloc (.cells #[.int .i64 wide, .slice ao n c] 25)) = w0 at *
    refine (implBoardValid_any wide ao xs n c w0 HN.out hl (hx.below B (Nat.le_refl _))).mono fun e w1 h => ?_
    rw [h1] at h
    obtain ⟨rfl, b⟩ := h
    have B := B.trans (b.mono B.size)
    have bk := bk.below b (Nat.le_refl _)
    have hx := hx.below B (Nat.le_refl _)
    have e0 := bk.at 0 rfl
    have e1 := bk.at 1 rfl
    clear b h1
    go_wp2_with fail
    clear e0 e1
    go_loopw [3, 4, 5, 12] (fun pv _ _ i wr => ∃ k : Nat, k ≤ n ∧ i = .int .i64 k ∧ pv = .int .i64 (tfTo wide xs k) ∧ Qt w1 wr) (fun _ _ _ i _ => n - (intOf i).toNat)
    case atStart => exact ⟨0, Nat.zero_le _, rfl, rfl, Qt.refl _⟩
    case round =>
      obtain ⟨k, hk, rfl, rfl, hq⟩ := hrel
      have bk := bk.qt hq
      have hx := hx.qt hq
      have B := B.trans (hq.below _)
      have e0 := bk.at 0 rfl
      have e1 := bk.at 1 rfl
      have htb := tfTo_bounds hok.out (show k ≤ xs.length by rw [HN.out]; exact hk)
      by_cases hlt : k < n
      · have hkl : k < xs.length := by rw [HN.out]; exact hlt
        have hxb := hok.out.2.2.2.2.1 _ (nth_mem hkl)
        rw [HN.out] at hxb
        obtain ⟨b, off, rfl, hc⟩ := hx (by omega)
        have hck := hc k hkl
        clear hc hx bk
        by_cases hp : 0 < nth xs k
        · have hd : decide (0 < nth xs k) = true := decide_eq_true hp
          have hfb := farI_bounds hw1 (show (0 : Int) ≤ k by omega) (show 0 ≤ nth xs k - 1 by omega)
          have hs : Hid (tfTo wide xs (k + 1) = tfTo wide xs k + farI wide k (nth xs k - 1)) := tfTo_pos hp
          generalize tfTo wide xs k = T at *
          go_wp2_with fail
          refine (placesFar_any wide k (nth xs k - 1) wr hw1 (by omega) (by omega) (by omega) (by omega)).mono fun e w2 h => ?_
          obtain ⟨rfl, hq2⟩ := h
          clear e0 e1 hck
          generalize farI wide k (nth xs k - 1) = F at *
          go_wp2
          go_roundw
          case rel =>
            refine ⟨k + 1, by omega, by go_num, by rw [hs.out], ?_⟩
            obtain ⟨q, rfl⟩ := hq2
            exact hq.drewN q
          case measure => simp [intOf]; omega
        · have hd : decide (0 < nth xs k) = false := decide_eq_false hp
          have hs : Hid (tfTo wide xs (k + 1) = tfTo wide xs k) := tfTo_not hp
          go_wp2
          go_roundw
          case rel => exact ⟨k + 1, by omega, by go_num, by rw [hs.out], hq⟩
          case measure => simp [intOf]; omega
      · have hmn : Hid (tilesFarI wide xs = tfTo wide xs k) := by unfold Hid; rw [hfin.out, show n = k from by omega]
        go_wp2
        go_ret
        exact ⟨by rw [hmn.out]; rfl, B⟩

set_option maxRecDepth 100000 in
set_option maxHeartbeats 2000000 in
theorem specTilesFar_any (wide : Int) (ao : Option Addr) (xs : List Int) (n c : Nat) (w : World) (hn : xs.length = n) (hl : n ≤ 17592186044416) (hnc : n ≤ c) (hx : IntsAt w ao xs) :
    Calls Try.prog 26 #[.agg #[.int .i64 wide, .slice ao n c]] w fun e w' => e = .returned (.int .i64 (tilesFarI wide xs)) ∧ Below w.heap.size w w' := by
  have HN := hid hn
  clear hn
  have B := (Below.refl w.heap.size w).alloc (Nat.le_refl _) (.cells #[.int .i64 wide, .slice ao n c] 25)
  have bk := Blk.new w #[.int .i64 wide, .slice ao n c] 25
  cases h1 : boardB wide xs with
  | false =>
    have hfin := hid (tilesFarI_out (boardB_not.1 h1))
    go_enter Try.func26, Try.ntmps26
    go_wp2_with fail
    generalize (w.alloc (.cells #[.int .i64 wide, .slice ao n c] 25)) = w0 at *
    refine (specBoardValid_any wide ao xs n c w0 HN.out hl hnc (hx.below B (Nat.le_refl _))).mono fun e w1 h => ?_
    rw [h1] at h
    obtain ⟨rfl, b⟩ := h
    go_wp2_with fail
    go_ret
    exact ⟨by rw [hfin.out]; rfl, B.trans (b.mono B.size)⟩
  | true =>
    have hok := hid (boardB_iff.1 h1)
    have hfin : Hid (tilesFarI wide xs = tfTo wide xs n) := by have := tilesFarI_in (boardB_iff.1 h1); rwa [HN.out] at this
    have hn9 : n ≤ 9 := by have := hok.out.2.1; rwa [HN.out] at this
    have hw1 : 1 ≤ wide := hok.out.2.2.1
    go_enter Try.func26, Try.ntmps26
    go_wp2_with fail
    generalize (w.alloc (.cells #[.int .i64 wide, .slice ao n c] 25)) = w0 at *
    refine (specBoardValid_any wide ao xs n c w0 HN.out hl hnc (hx.below B (Nat.le_refl _))).mono fun e w1 h => ?_
    rw [h1] at h
    obtain ⟨rfl, b⟩ := h
    have B := B.trans (b.mono B.size)
    have bk := bk.below b (Nat.le_refl _)
    have hx := hx.below B (Nat.le_refl _)
    have e0 := bk.at 0 rfl
    have e1 := bk.at 1 rfl
    clear b h1
    go_wp2_with fail
    clear e0 e1
    go_loopw [3, 4, 5] (fun pv i _ wr => ∃ k : Nat, k ≤ n ∧ i = .int .i64 k ∧ pv = .int .i64 (tfTo wide xs k) ∧ Qt w1 wr) (fun _ i _ _ => n - (intOf i).toNat)
    case atStart => exact ⟨0, Nat.zero_le _, rfl, rfl, Qt.refl _⟩
    case round =>
      obtain ⟨k, hk, rfl, rfl, hq⟩ := hrel
      have bk := bk.qt hq
      have hx := hx.qt hq
      have B := B.trans (hq.below _)
      have e0 := bk.at 0 rfl
      have e1 := bk.at 1 rfl
      have htb := tfTo_bounds hok.out (show k ≤ xs.length by rw [HN.out]; exact hk)
      by_cases hlt : k < n
      · have hkl : k < xs.length := by rw [HN.out]; exact hlt
        have hxb := hok.out.2.2.2.2.1 _ (nth_mem hkl)
        rw [HN.out] at hxb
        obtain ⟨b, off, rfl, hc⟩ := hx (by omega)
        have hck := hc k hkl
        clear hc hx bk
        by_cases hp : 0 < nth xs k
        · have hd : decide (0 ≤ nth xs k - 1) = true := decide_eq_true (by omega)
          have hd' : decide (1 ≤ nth xs k) = true := decide_eq_true (by omega)
          have hs : Hid (tfTo wide xs (k + 1) = tfTo wide xs k + farI wide k (nth xs k - 1)) := tfTo_pos hp
          generalize tfTo wide xs k = T at *
          obtain ⟨A, hA⟩ : ∃ A, nth xs k - 1 = A := ⟨_, rfl⟩
          rw [hA] at hs
          have hA0 : 0 ≤ A := by omega
          have hA9 : A ≤ 8 := by omega
          obtain ⟨q1, hq1⟩ : ∃ q, (k : Int) / wide = q := ⟨_, rfl⟩
          obtain ⟨q2, hq2⟩ : ∃ q, A / wide = q := ⟨_, rfl⟩
          obtain ⟨r1, hr1⟩ : ∃ q, (k : Int) % wide = q := ⟨_, rfl⟩
          obtain ⟨r2, hr2⟩ : ∃ q, A % wide = q := ⟨_, rfl⟩
          have hk0 : (0 : Int) ≤ k := by omega
          have h1 : 0 ≤ q1 := by rw [← hq1]; exact Int.ediv_nonneg hk0 (by omega)
          have h2 : q1 ≤ 1000 := by rw [← hq1]; exact Int.le_trans (Int.ediv_le_self _ hk0) (by omega)
          have h3 : 0 ≤ q2 := by rw [← hq2]; exact Int.ediv_nonneg hA0 (by omega)
          have h4 : q2 ≤ 1000 := by rw [← hq2]; exact Int.le_trans (Int.ediv_le_self _ hA0) (by omega)
          have h5 : 0 ≤ r1 := by rw [← hr1]; exact Int.emod_nonneg _ (by omega)
          have h6 : r1 ≤ 1000 := by rw [← hr1]; exact Int.le_trans (mod_le hk0) (by omega)
          have h7 : 0 ≤ r2 := by rw [← hr2]; exact Int.emod_nonneg _ (by omega)
          have h8 : r2 ≤ 1000 := by rw [← hr2]; exact Int.le_trans (mod_le hA0) (by omega)
          have hf : Hid (tfTo wide xs (k + 1) = T + (max (q1 - q2) (q2 - q1) + max (r1 - r2) (r2 - r1))) := by unfold Hid; rw [hs.out]; unfold farI; rw [hq1, hq2, hr1, hr2]
          clear hs hp
          go_wp2
          go_quiet (fail)
          go_wp2
          go_roundw
          case rel => exact ⟨k + 1, by omega, by go_num, val_int (by rw [hf.out]; omega), hq.drewN _⟩
          case measure => simp [intOf]; omega
        · have hd : decide (0 ≤ nth xs k - 1) = false := decide_eq_false (by omega)
          have hd' : decide (1 ≤ nth xs k) = false := decide_eq_false (by omega)
          have hs : Hid (tfTo wide xs (k + 1) = tfTo wide xs k) := tfTo_not hp
          go_wp2
          go_roundw
          case rel => exact ⟨k + 1, by omega, by go_num, by rw [hs.out], hq⟩
          case measure => simp [intOf]; omega
      · have hmn : Hid (tilesFarI wide xs = tfTo wide xs k) := by unfold Hid; rw [hfin.out, show n = k from by omega]
        go_wp2
        go_ret
        exact ⟨by rw [hmn.out]; rfl, B⟩

theorem zeroI_bounds (xs : List Int) (n : Nat) (hn : xs.length = n) : -1 ≤ zeroI xs ∧ zeroI xs ≤ n - 1 ∧ (zeroI xs = -1 ∨ 0 ≤ zeroI xs) := by
  unfold zeroI
  split
  · rename_i j hj
    have := List.mem_of_find?_eq_some hj
    simp at this
    omega
  · omega

/-- How far the free place is from the last one. -/
def freeFarI (wide : Int) (xs : List Int) : Int := if BoardOk wide xs then farI wide (zeroI xs) (xs.length - 1) else -1
theorem freeFarI_in {wide : Int} {xs : List Int} (h : BoardOk wide xs) : freeFarI wide xs = farI wide (zeroI xs) (xs.length - 1) := if_pos h
theorem freeFarI_out {wide : Int} {xs : List Int} (h : ¬ BoardOk wide xs) : freeFarI wide xs = -1 := if_neg h

theorem zeroI_ok {wide : Int} {xs : List Int} (h : BoardOk wide xs) : 0 ≤ zeroI xs ∧ zeroI xs ≤ xs.length - 1 := by
  have hb := zeroI_bounds xs _ rfl
  rcases hb.2.2 with h1 | h1
  · have hm := dis_mem h.2.2.2.2 rfl (t := 0) (by have := h.1; omega)
    obtain ⟨k, hk, e⟩ := List.mem_iff_getElem.1 hm
    have : zeroI xs ≠ -1 := by
      intro e1
      unfold zeroI at e1
      split at e1
      · omega
      · rename_i hn
        rw [List.find?_range_eq_none] at hn
        have := hn k hk
        rw [nth_eq hk, e] at this
        simp at this
    omega
  · omega

set_option maxRecDepth 100000 in
set_option maxHeartbeats 1000000 in
theorem implFreeFar_any (wide : Int) (ao : Option Addr) (xs : List Int) (n c : Nat) (w : World) (hn : xs.length = n) (hl : n ≤ 17592186044416) (hx : IntsAt w ao xs) :
    Calls Try.prog 50 #[.agg #[.int .i64 wide, .slice ao n c]] w fun e w' => e = .returned (.int .i64 (freeFarI wide xs)) ∧ Below w.heap.size w w' := by
  have HN := hid hn
  clear hn
  have B := (Below.refl w.heap.size w).alloc (Nat.le_refl _) (.cells #[.int .i64 wide, .slice ao n c] 25)
  have bk := Blk.new w #[.int .i64 wide, .slice ao n c] 25
  cases h1 : boardB wide xs with
  | false =>
    have hfin := hid (freeFarI_out (boardB_not.1 h1))
    go_enter Try.func50, Try.ntmps50
    go_wp2_with fail
    generalize (w.alloc (.cells #[.int .i64 wide, .slice ao n c] 25)) = w0 at *
    refine (implBoardValid_any wide ao xs n c w0 HN.out hl (hx.below B (Nat.le_refl _))).mono fun e w1 h => ?_
    rw [h1] at h
    obtain ⟨rfl, b⟩ := h
    go_wp2_with fail
    go_ret
    exact ⟨by rw [hfin.out]; rfl, B.trans (b.mono B.size)⟩
  | true =>
    have hok := hid (boardB_iff.1 h1)
    have hfin : Hid (freeFarI wide xs = farI wide (zeroI xs) (n - 1)) := by have := freeFarI_in (boardB_iff.1 h1); rwa [HN.out] at this
    have hn2 : 2 ≤ n := by have := hok.out.1; rwa [HN.out] at this
    have hn9 : n ≤ 9 := by have := hok.out.2.1; rwa [HN.out] at this
    have hw1 : 1 ≤ wide := hok.out.2.2.1
    have hz := zeroI_ok hok.out
    rw [HN.out] at hz
    go_enter Try.func50, Try.ntmps50
    go_wp2_with fail
    generalize (w.alloc (.cells #[.int .i64 wide, .slice ao n c] 25)) = w0 at *
    refine (implBoardValid_any wide ao xs n c w0 HN.out hl (hx.below B (Nat.le_refl _))).mono fun e w1 h => ?_
    rw [h1] at h
    obtain ⟨rfl, b⟩ := h
    have B := B.trans (b.mono B.size)
    have bk := bk.below b (Nat.le_refl _)
    have hx := hx.below B (Nat.le_refl _)
    have e0 := bk.at 0 rfl
    have e1 := bk.at 1 rfl
    clear b h1
    go_wp2_with fail
    go_quiet (first | (go_at_call 41; exact quiet_same (freeOf_any _ _ _ _ _ HN.out hl hx)) | (go_at_call 42; exact quiet_qt (placesFar_any _ _ _ _ hw1 (by omega) (by omega) (by omega) (by omega))))
    go_wp2
    go_ret
    exact ⟨by rw [hfin.out]; rfl, below_drewN B _⟩

theorem last_mod {n wide : Int} (hw : 1 ≤ wide) (hn : n % wide = 0) : (n - 1) % wide = wide - 1 := by
  have h1 := Int.emod_add_mul_ediv n wide
  rw [hn] at h1
  have h2 : n - 1 = (wide - 1) + wide * (n / wide - 1) := by
    rw [Int.mul_sub]; omega
  rw [h2, Int.add_mul_emod_self_left]
  exact Int.emod_eq_of_lt (by omega) (by omega)

theorem far_last {n wide a : Int} (hw : 1 ≤ wide) (hn : n % wide = 0) (_ha : 0 ≤ a) (hb : a ≤ n - 1) :
    farI wide a (n - 1) = (n - 1) / wide - a / wide + (n - 1) % wide - a % wide := by
  have h1 : a / wide ≤ (n - 1) / wide := Int.ediv_le_ediv (by omega) hb
  have h2 := last_mod hw hn
  have h3 := Int.emod_lt_of_pos a (show 0 < wide by omega)
  unfold farI
  rw [h2]
  omega

theorem freeI_neg {wide : Int} {xs : List Int} (h : ¬ BoardOk wide xs) : freeI wide xs < 0 := by rw [freeI_out h]; omega

set_option maxRecDepth 100000 in
set_option maxHeartbeats 1000000 in
theorem specFreeFar_any (wide : Int) (ao : Option Addr) (xs : List Int) (n c : Nat) (w : World) (hn : xs.length = n) (hl : n ≤ 17592186044416) (hnc : n ≤ c) (hx : IntsAt w ao xs) :
    Calls Try.prog 53 #[.agg #[.int .i64 wide, .slice ao n c]] w fun e w' => e = .returned (.int .i64 (freeFarI wide xs)) ∧ Below w.heap.size w w' := by
  have HN := hid hn
  clear hn
  have B := (Below.refl w.heap.size w).alloc (Nat.le_refl _) (.cells #[.int .i64 wide, .slice ao n c] 25)
  have bk := Blk.new w #[.int .i64 wide, .slice ao n c] 25
  by_cases hok' : BoardOk wide xs
  rotate_left
  · have hfin := hid (freeFarI_out hok')
    have hz := hid (freeI_out hok')
    go_enter Try.func53, Try.ntmps53
    go_wp2_with fail
    generalize (w.alloc (.cells #[.int .i64 wide, .slice ao n c] 25)) = w0 at *
    refine (specFreePlace_any wide ao xs n c w0 HN.out hl hnc (hx.below B (Nat.le_refl _))).mono fun e w1 h => ?_
    rw [hz.out] at h
    obtain ⟨rfl, b⟩ := h
    go_wp2_with fail
    go_ret
    exact ⟨by rw [hfin.out]; rfl, B.trans (b.mono B.size)⟩
  · have hok := hid hok'
    clear hok'
    have hfi := hid (freeI_in hok.out)
    have hfin : Hid (freeFarI wide xs = farI wide (zeroI xs) (n - 1)) := by have := freeFarI_in hok.out; rwa [HN.out] at this
    have hn2 : 2 ≤ n := by have := hok.out.1; rwa [HN.out] at this
    have hn9 : n ≤ 9 := by have := hok.out.2.1; rwa [HN.out] at this
    have hw1 : 1 ≤ wide := hok.out.2.2.1
    have hz := zeroI_ok hok.out
    rw [HN.out] at hz
    obtain ⟨hz0, hz1⟩ := hz
    have hfar := hid (far_last hw1 (by have := hok.out.2.2.2.1; rwa [HN.out] at this) hz0 hz1)
    have hd0 : decide (zeroI xs < 0) = false := decide_eq_false (by omega)
    generalize zeroI xs = z at *
    have hl0 : (0 : Int) ≤ n - 1 := by omega
    obtain ⟨q1, hq1⟩ : ∃ q, ((n : Int) - 1) / wide = q := ⟨_, rfl⟩
    obtain ⟨q2, hq2⟩ : ∃ q, z / wide = q := ⟨_, rfl⟩
    obtain ⟨r1, hr1⟩ : ∃ q, ((n : Int) - 1) % wide = q := ⟨_, rfl⟩
    obtain ⟨r2, hr2⟩ : ∃ q, z % wide = q := ⟨_, rfl⟩
    have h1 : 0 ≤ q1 := by rw [← hq1]; exact Int.ediv_nonneg hl0 (by omega)
    have h2 : q1 ≤ 1000 := by rw [← hq1]; exact Int.le_trans (Int.ediv_le_self _ hl0) (by omega)
    have h3 : 0 ≤ q2 := by rw [← hq2]; exact Int.ediv_nonneg hz0 (by omega)
    have h4 : q2 ≤ 1000 := by rw [← hq2]; exact Int.le_trans (Int.ediv_le_self _ hz0) (by omega)
    have h5 : 0 ≤ r1 := by rw [← hr1]; exact Int.emod_nonneg _ (by omega)
    have h6 : r1 ≤ 1000 := by rw [← hr1]; exact Int.le_trans (mod_le hl0) (by omega)
    have h7 : 0 ≤ r2 := by rw [← hr2]; exact Int.emod_nonneg _ (by omega)
    have h8 : r2 ≤ 1000 := by rw [← hr2]; exact Int.le_trans (mod_le hz0) (by omega)
    have hres : Hid (freeFarI wide xs = q1 - q2 + r1 - r2) := by unfold Hid; rw [hfin.out, hfar.out, hq1, hq2, hr1, hr2]
    go_enter Try.func53, Try.ntmps53
    go_wp2_with fail
    generalize (w.alloc (.cells #[.int .i64 wide, .slice ao n c] 25)) = w0 at *
    refine (specFreePlace_any wide ao xs n c w0 HN.out hl hnc (hx.below B (Nat.le_refl _))).mono fun e w1 h => ?_
    rw [hfi.out] at h
    obtain ⟨rfl, b⟩ := h
    have B := B.trans (b.mono B.size)
    have bk := bk.below b (Nat.le_refl _)
    have e0 := bk.at 0 rfl
    have e1 := bk.at 1 rfl
    clear b
    go_wp2_with fail
    go_quiet (fail)
    go_wp2
    go_ret
    exact ⟨ret_int (by rw [hres.out]), below_drewN B _⟩

end Go.Proofs.Ytfpckcmkikckgaa
