/- The walks of BoardOdd, the program's and the reference's. -/
import Derived.Test.YtfpckcmkikckgaaTf
import Derived.Deep.QuietTactic
import Derived.BigQuiet
namespace Go.Proofs.Ytfpckcmkikckgaa
open Go Go.RowKit

/-- f 0 + .. + f (n - 1). -/
def sumTo (f : Nat → Nat) : Nat → Nat
  | 0 => 0
  | n + 1 => sumTo f n + f n

theorem sumTo_zero (f : Nat → Nat) : sumTo f 0 = 0 := rfl
theorem sumTo_succ (f : Nat → Nat) (n : Nat) : sumTo f (n + 1) = sumTo f n + f n := rfl
theorem sumTo_congr {f g : Nat → Nat} {n : Nat} (h : ∀ j, j < n → f j = g j) : sumTo f n = sumTo g n := by
  induction n with
  | zero => rfl
  | succ n ih => rw [sumTo_succ, sumTo_succ, ih (fun j hj => h j (by omega)), h n (by omega)]
theorem sumTo_add (f g : Nat → Nat) (n : Nat) : sumTo (fun j => f j + g j) n = sumTo f n + sumTo g n := by
  induction n with
  | zero => rfl
  | succ n ih => simp only [sumTo_succ, ih]; omega
theorem sumTo_const (c n : Nat) : sumTo (fun _ => c) n = n * c := by
  induction n with
  | zero => simp [sumTo]
  | succ n ih => rw [sumTo_succ, ih, Nat.succ_mul]
theorem sumTo_le {f : Nat → Nat} {c n : Nat} (h : ∀ j, j < n → f j ≤ c) : sumTo f n ≤ n * c := by
  induction n with
  | zero => simp [sumTo]
  | succ n ih => rw [sumTo_succ, Nat.succ_mul]; have := ih (fun j hj => h j (by omega)); have := h n (by omega); omega
theorem sumTo_shift (f : Nat → Nat) (a b : Nat) : sumTo f (a + b) = sumTo f a + sumTo (fun j => f (a + j)) b := by
  induction b with
  | zero => simp [sumTo]
  | succ b ih => rw [← Nat.add_assoc, sumTo_succ, ih, sumTo_succ, Nat.add_assoc]
theorem sumTo_comm (a : Nat → Nat → Nat) (n m : Nat) : sumTo (fun i => sumTo (a i) m) n = sumTo (fun j => sumTo (fun i => a i j) n) m := by
  induction n with
  | zero => simp only [sumTo_zero]; rw [sumTo_const]; simp
  | succ n ih => simp only [sumTo_succ]; rw [ih, ← sumTo_add]
theorem sumTo_none {f : Nat → Nat} {n : Nat} (h : ∀ j, j < n → f j = 0) : sumTo f n = 0 := by
  rw [sumTo_congr h, sumTo_const]; simp

/-- Is the number at i greater than that at j? -/
def gt1 (xs : List Int) (i j : Nat) : Nat := if nth xs j < nth xs i then 1 else 0
theorem gt1_le (xs : List Int) (i j : Nat) : gt1 xs i j ≤ 1 := by unfold gt1; split <;> omega

/-- Pairs, counted by their first places: those of the first k places. -/
def invR (xs : List Int) (k : Nat) : Nat := sumTo (fun i => sumTo (fun j => gt1 xs i (i + 1 + j)) (xs.length - (i + 1))) k
/-- .. by their second places. -/
def invC (xs : List Int) (k : Nat) : Nat := sumTo (fun i => sumTo (fun j => gt1 xs j i) i) k

theorem inv_eq (xs : List Int) : invR xs xs.length = invC xs xs.length := by
  have h1 : invR xs xs.length = sumTo (fun i => sumTo (fun j => if i < j then gt1 xs i j else 0) xs.length) xs.length := by
    unfold invR
    refine sumTo_congr fun i hi => ?_
    rw [show xs.length = (i + 1) + (xs.length - (i + 1)) from by omega, sumTo_shift, sumTo_none (n := i + 1), Nat.zero_add]
    · have : i + 1 + (xs.length - (i + 1)) - (i + 1) = xs.length - (i + 1) := by omega
      rw [this]
      exact sumTo_congr fun j _ => by rw [if_pos (by omega)]
    · exact fun j hj => if_neg (by omega)
  have h2 : invC xs xs.length = sumTo (fun i => sumTo (fun j => if j < i then gt1 xs j i else 0) xs.length) xs.length := by
    unfold invC
    refine sumTo_congr fun i hi => ?_
    rw [show sumTo (fun j => if j < i then gt1 xs j i else 0) xs.length = sumTo (fun j => if j < i then gt1 xs j i else 0) (i + (xs.length - i)) from by rw [show i + (xs.length - i) = xs.length from by omega], sumTo_shift]
    rw [sumTo_none (n := xs.length - i) (fun j hj => if_neg (by omega)), Nat.add_zero]
    exact sumTo_congr fun j hj => by rw [if_pos hj]
  rw [h1, h2, sumTo_comm]

theorem invR_le (xs : List Int) (k : Nat) (hl : xs.length ≤ 9) : invR xs k ≤ k * 9 :=
  sumTo_le fun i _ => Nat.le_trans (sumTo_le fun j _ => gt1_le _ _ _) (by omega)
theorem invC_le (xs : List Int) (k : Nat) (hk : k ≤ 9) : invC xs k ≤ k * 9 :=
  sumTo_le fun i hi => Nat.le_trans (sumTo_le fun j _ => gt1_le _ _ _) (by omega)
theorem invR_succ (xs : List Int) (k : Nat) : invR xs (k + 1) = invR xs k + sumTo (fun j => gt1 xs k (k + 1 + j)) (xs.length - (k + 1)) := rfl
theorem invC_succ (xs : List Int) (k : Nat) : invC xs (k + 1) = invC xs k + sumTo (fun j => gt1 xs j k) k := rfl

/-- Is the number of pairs odd? -/
def oddN (m : Nat) : Bool := m % 2 == 1
def oddB (wide : Int) (xs : List Int) : Bool := boardB wide xs && oddN (invR xs xs.length)
theorem oddB_in {wide : Int} {xs : List Int} (h : boardB wide xs = true) : oddB wide xs = oddN (invR xs xs.length) := by simp [oddB, h]
theorem oddB_out {wide : Int} {xs : List Int} (h : boardB wide xs = false) : oddB wide xs = false := by simp [oddB, h]
theorem oddN_int (m : Nat) : ((m : Int) % 2 == 1) = oddN m := by unfold oddN; rw [Bool.eq_iff_iff]; simp only [beq_iff_eq]; omega

set_option maxRecDepth 100000 in
set_option maxHeartbeats 1000000 in
theorem implBoardOdd_any (wide : Int) (ao : Option Addr) (xs : List Int) (n c : Nat) (w : World) (hn : xs.length = n) (hl : n ≤ 17592186044416) (hnc : n ≤ c) (hx : IntsAt w ao xs) :
    Calls Try.prog 49 #[.agg #[.int .i64 wide, .slice ao n c]] w fun e w' => e = .returned (.bool (oddB wide xs)) ∧ Below w.heap.size w w' := by
  have HN := hid hn
  clear hn
  have B := (Below.refl w.heap.size w).alloc (Nat.le_refl _) (.cells #[.int .i64 wide, .slice ao n c] 25)
  have bk := Blk.new w #[.int .i64 wide, .slice ao n c] 25
  cases h1 : boardB wide xs with
  | false =>
    have hfin := hid (oddB_out h1)
    go_enter Try.func49, Try.ntmps49
    go_wp2_with fail
    generalize (w.alloc (.cells #[.int .i64 wide, .slice ao n c] 25)) = w0 at *
    refine (implBoardValid_any wide ao xs n c w0 HN.out hl (hx.below B (Nat.le_refl _))).mono fun e w1 h => ?_
    rw [h1] at h
    obtain ⟨rfl, b⟩ := h
    go_wp2_with fail
    go_ret
    exact ⟨by rw [hfin.out]; rfl, B.trans (b.mono B.size)⟩
  | true =>
    have hfin : Hid (oddB wide xs = oddN (invR xs n)) := by have := oddB_in h1; rwa [HN.out] at this
    have hn9 : n ≤ 9 := by have := (boardB_iff.1 h1).2.1; rwa [HN.out] at this
    go_enter Try.func49, Try.ntmps49
    go_wp2_with fail
    generalize (w.alloc (.cells #[.int .i64 wide, .slice ao n c] 25)) = w0 at *
    refine (implBoardValid_any wide ao xs n c w0 HN.out hl (hx.below B (Nat.le_refl _))).mono fun e w1 h => ?_
    rw [h1] at h
    obtain ⟨rfl, b⟩ := h
    have B := B.trans (b.mono B.size)
    have bk := bk.below b (Nat.le_refl _)
    have hx := hx.below B (Nat.le_refl _)
    have e0 := bk.at 0 rfl
    have e1 := bk.at 1 rfl
    clear b h1
    go_wp2_with fail
    go_loop [3, 4, 5, 7, 14, 25] (fun pv _ _ _ i _ => ∃ k m : Nat, k ≤ n ∧ i = .int .i64 k ∧ pv = .int .i64 m ∧ Hid (m = invR xs k)) (fun _ _ _ _ i _ => n - (intOf i).toNat)
    case atStart => exact ⟨0, 0, Nat.zero_le _, rfl, rfl, rfl⟩
    case round =>
      obtain ⟨k, m, hk, rfl, rfl, hm⟩ := hrel
      by_cases hlt : k < n
      · have hkl : k < xs.length := by rw [HN.out]; exact hlt
        obtain ⟨b, off, rfl, hc⟩ := hx (by omega)
        have hck := hc k hkl
        have hml : m ≤ 81 := by rw [hm.out]; have := invR_le xs k (by rw [HN.out]; exact hn9); omega
        clear hx bk e0
        by_cases hcap : k + 1 < c
        rotate_left
        · have hn1 : Hid (n = k + 1) := by unfold Hid; omega
          have hnext : Hid (m = invR xs (k + 1)) := by unfold Hid; rw [invR_succ, ← hm.out, show xs.length - (k + 1) = 0 from by have := HN.out; have := hn1.out; omega]; rfl
          have hcap' : c ≤ k + 1 := by omega
          have hz : Hid (n - (k + 1) = 0) := by unfold Hid; have := hn1.out; omega
          obtain ⟨L, hL⟩ : ∃ L, n - (k + 1) = L := ⟨_, rfl⟩
          have hL0 : L ≤ 0 := by have := hz.out; omega
          clear hc hcap
          go_wp2
          refine wp_loop_rounds 1 ?_
          rw [rounds_succ]
          go_wp2
          go_round
          case rel => exact ⟨k + 1, m, by omega, by go_num, rfl, hnext⟩
          case measure => simp [intOf]; omega
        · obtain ⟨L, hL⟩ : ∃ L, n - (k + 1) = L := ⟨_, rfl⟩
          go_wp2
          go_loop [3, 7, 25] (fun pv _ i => ∃ j q : Nat, j ≤ L ∧ i = .int .i64 j ∧ pv = .int .i64 ((m + q : Nat) : Int) ∧ q ≤ 9 ∧ Hid (q = sumTo (fun j => gt1 xs k (k + 1 + j)) j)) (fun _ _ i => L - (intOf i).toNat)
          case atStart => exact ⟨0, 0, Nat.zero_le _, rfl, rfl, by omega, rfl⟩
          case round =>
            obtain ⟨j, q, hj, rfl, rfl, hq9, hq⟩ := hrel
            by_cases hjl : j < L
            · have hjx : k + 1 + j < xs.length := by rw [HN.out]; omega
              have hdk : w1.cell? ⟨b, off + (k + 1) + j, none⟩ = some (.int .i64 (nth xs (k + 1 + j))) := by
                have := hc (k + 1 + j) hjx
                rwa [← Nat.add_assoc] at this
              have hle : sumTo (fun j => gt1 xs k (k + 1 + j)) (j + 1) ≤ 9 := Nat.le_trans (sumTo_le fun j _ => gt1_le _ _ _) (by omega)
              clear hc
              by_cases hg : nth xs (k + 1 + j) < nth xs k
              · have hd : decide (nth xs (k + 1 + j) < nth xs k) = true := decide_eq_true hg
                have hq' : Hid (q + 1 = sumTo (fun j => gt1 xs k (k + 1 + j)) (j + 1)) := by unfold Hid; rw [sumTo_succ, ← hq.out]; simp [gt1, hg]
                have hq9' : q + 1 ≤ 9 := by rw [hq'.out]; exact hle
                clear hg hle
                go_wp2
                go_round
                case rel => exact ⟨j + 1, q + 1, by omega, by go_num, by go_num, hq9', hq'⟩
                case measure => simp [intOf]; omega
              · have hd : decide (nth xs (k + 1 + j) < nth xs k) = false := decide_eq_false hg
                have hq' : Hid (q = sumTo (fun j => gt1 xs k (k + 1 + j)) (j + 1)) := by unfold Hid; rw [sumTo_succ, ← hq.out]; simp [gt1, hg]
                clear hg hle
                go_wp2
                go_round
                case rel => exact ⟨j + 1, q, by omega, by go_num, rfl, hq9, hq'⟩
                case measure => simp [intOf]; omega
            · have hnext : Hid (m + q = invR xs (k + 1)) := by unfold Hid; rw [invR_succ, ← hm.out, hq.out, show xs.length - (k + 1) = j from by have := HN.out; omega]
              go_wp2
              go_round
              case rel => exact ⟨k + 1, m + q, by omega, by go_num, rfl, hnext⟩
              case measure => simp [intOf]; omega
      · have hmn : Hid (oddB wide xs = oddN m) := by unfold Hid; rw [hfin.out, hm.out, show n = k from by omega]
        have hod := hid (oddN_int m)
        go_wp2
        go_ret
        exact ⟨by rw [hmn.out, ← hod.out]; rfl, B⟩

theorem oddB_spec {wide : Int} {xs : List Int} (h : boardB wide xs = true) : oddB wide xs = oddN (invC xs xs.length) := by rw [oddB_in h, inv_eq]

set_option maxRecDepth 100000 in
set_option maxHeartbeats 1000000 in
theorem specBoardOdd_any (wide : Int) (ao : Option Addr) (xs : List Int) (n c : Nat) (w : World) (hn : xs.length = n) (hl : n ≤ 17592186044416) (hnc : n ≤ c) (hx : IntsAt w ao xs) :
    Calls Try.prog 52 #[.agg #[.int .i64 wide, .slice ao n c]] w fun e w' => e = .returned (.bool (oddB wide xs)) ∧ Below w.heap.size w w' := by
  have HN := hid hn
  clear hn
  have B := (Below.refl w.heap.size w).alloc (Nat.le_refl _) (.cells #[.int .i64 wide, .slice ao n c] 25)
  have bk := Blk.new w #[.int .i64 wide, .slice ao n c] 25
  go_enter Try.func52, Try.ntmps52
  go_wp2
  generalize (w.alloc (.cells #[.int .i64 wide, .slice ao n c] 25)) = w0 at *
  go_loopw [3, 4, 5] (fun pv i _ wr => ∃ k m : Nat, k ≤ n ∧ i = .int .i64 k ∧ pv = .int .i64 m ∧ Hid (m = invC xs k) ∧ m ≤ 81 ∧ Below w.heap.size w wr ∧ Blk wr w.heap.size #[.int .i64 wide, .slice ao n c] 25 ∧ Hid (k = 0 ∨ BoardOk wide xs)) (fun _ i _ _ => n - (intOf i).toNat)
  case atStart => exact ⟨0, 0, Nat.zero_le _, rfl, rfl, rfl, by omega, B, bk, .inl rfl⟩
  case round =>
    obtain ⟨k, m, hk, rfl, rfl, hm, hm81, hB, hbk, hz⟩ := hrel
    clear B bk
    have e0 := hbk.at 0 rfl
    have e1 := hbk.at 1 rfl
    by_cases hlt : k < n
    · have hkl : k < xs.length := by rw [HN.out]; exact hlt
      cases h1 : boardB wide xs with
      | false =>
        have hk0 : Hid (k = 0) := hz.out.elim id fun h => absurd h (boardB_not.1 h1)
        have hfin : Hid (oddB wide xs = oddN m) := by unfold Hid; rw [oddB_out h1, hm.out, hk0.out]; rfl
        have hod := hid (oddN_int m)
        go_wp2_with fail
        refine (specBoardValid_any wide ao xs n c wr HN.out hl hnc (hx.below hB (Nat.le_refl _))).mono fun e w1 h => ?_
        rw [h1] at h
        obtain ⟨rfl, b⟩ := h
        clear e0 e1
        go_wp2_with fail
        go_ret
        exact ⟨by rw [hfin.out, ← hod.out]; rfl, hB.trans (b.mono hB.size)⟩
      | true =>
        have hok := hid (boardB_iff.1 h1)
        have hn9 : n ≤ 9 := by have := (boardB_iff.1 h1).2.1; rwa [HN.out] at this
        go_wp2_with fail
        refine (specBoardValid_any wide ao xs n c wr HN.out hl hnc (hx.below hB (Nat.le_refl _))).mono fun e w1 h => ?_
        rw [h1] at h
        obtain ⟨rfl, b⟩ := h
        have hB := hB.trans (b.mono hB.size)
        have hbk := hbk.below b (Nat.le_refl _)
        have hx1 := hx.below hB (Nat.le_refl _)
        clear b h1 e0 e1
        have hml : m ≤ k * 9 := by rw [hm.out]; exact invC_le xs k (by omega)
        go_wp2_with fail
        go_loopw [3, 5] (fun pv i wi => ∃ j q : Nat, j ≤ k ∧ i = .int .i64 j ∧ pv = .int .i64 ((m + q : Nat) : Int) ∧ q ≤ j ∧ Hid (q = sumTo (fun j => gt1 xs j k) j) ∧ Qt w1 wi) (fun _ i _ => k - (intOf i).toNat)
        case atStart => exact ⟨0, 0, Nat.zero_le _, rfl, rfl, by omega, rfl, Qt.refl _⟩
        case round =>
          obtain ⟨j, q, hj, rfl, rfl, hq9, hq, hqt⟩ := hrel
          have hbi := hbk.qt hqt
          have hxi := hx1.qt hqt
          have e1 := hbi.at 1 rfl
          by_cases hjk : j < k
          · have hjx : j < xs.length := by omega
            obtain ⟨b, off, rfl, hc⟩ := hxi (by omega)
            have hck := hc k hkl
            have hcj := hc j hjx
            have hle : sumTo (fun j => gt1 xs j k) (j + 1) ≤ (j + 1) * 1 := sumTo_le fun j _ => gt1_le _ _ _
            clear hc hx hx1 hxi hbi
            by_cases hg : nth xs k < nth xs j
            · have hd : decide (nth xs k < nth xs j) = true := decide_eq_true hg
              have hq' : Hid (q + 1 = sumTo (fun j => gt1 xs j k) (j + 1)) := by unfold Hid; rw [sumTo_succ, ← hq.out]; simp [gt1, hg]
              clear hg hle
              go_wp2
              go_quiet (fail)
              go_wp2
              go_roundw
              case rel => exact ⟨j + 1, q + 1, by omega, by go_num, by go_num, by omega, hq', hqt.drewN _⟩
              case measure => simp [intOf]; omega
            · have hd : decide (nth xs k < nth xs j) = false := decide_eq_false hg
              have hq' : Hid (q = sumTo (fun j => gt1 xs j k) (j + 1)) := by unfold Hid; rw [sumTo_succ, ← hq.out]; simp [gt1, hg]
              clear hg hle
              go_wp2
              go_quiet (fail)
              go_wp2
              go_roundw
              case rel => exact ⟨j + 1, q, by omega, by go_num, rfl, by omega, hq', hqt.drewN _⟩
              case measure => simp [intOf]; omega
          · have hnext : Hid (m + q = invC xs (k + 1)) := by unfold Hid; rw [invC_succ, ← hm.out, hq.out, show j = k from by omega]
            have hB2 := hB.trans (hqt.below _)
            clear hx1 hxi
            go_wp2
            go_roundw
            case rel => exact ⟨k + 1, m + q, by omega, by go_num, rfl, hnext, by omega, hB2, hbi, .inr hok.out⟩
            case measure => simp [intOf]; omega
    · have hmn : Hid (oddB wide xs = oddN m) := by
        unfold Hid
        rcases hz.out with h | h
        · have : boardB wide xs = false := boardB_not.2 fun h2 => by have := h2.1; rw [HN.out] at this; omega
          rw [oddB_out this, hm.out, h]; rfl
        · rw [oddB_spec (boardB_iff.2 h), HN.out, hm.out, show n = k from by omega]
      have hod := hid (oddN_int m)
      go_wp2
      go_ret
      exact ⟨by rw [hmn.out, ← hod.out]; rfl, hB⟩

end Go.Proofs.Ytfpckcmkikckgaa
