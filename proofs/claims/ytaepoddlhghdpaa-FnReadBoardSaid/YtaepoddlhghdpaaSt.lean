/- Texts: l1Number of one digit; spec.BoardText. -/
import Derived.Test.YtaepoddlhghdpaaBv
import Derived.Laws.IdiomStrings
namespace Go.Proofs.Ytaepoddlhghdpaa
open Go Go.RowKit

/-- One digit as a text. -/
def digB (n : Int) : UInt8 := UInt8.ofNat (48 + n.toNat)
def digT (n : Int) : ByteArray := ⟨#[digB n]⟩

theorem digB_toNat {n : Int} (h0 : 0 ≤ n) (h9 : n ≤ 9) : ((digB n).toNat : Int) = 48 + n := by
  unfold digB
  rw [UInt8.toNat_ofNat']
  omega

set_option maxRecDepth 100000 in
theorem l1Number_one (n : Int) (w : World) (h0 : 0 ≤ n) (h9 : n ≤ 9) :
    Calls Try.prog 23 #[.int .i64 n] w fun e w' => e = .returned (.string (digT n)) ∧ Below w.heap.size w w' := by
  have hd1 : decide (n < 0) = false := decide_eq_false (by omega)
  have hd2 : decide (n < 10) = true := decide_eq_true (by omega)
  have B := (Below.refl w.heap.size w).alloc (Nat.le_refl _) (.cells #[.int .u8 (48 + n)] 5)
  have hrun : Sem.run Try.prog (convert 35 9 (.slice (some ⟨w.heap.size, 0, none⟩) 1 1)) (w.alloc (.cells #[.int .u8 (48 + n)] 5)) = .ok (.string (digT n)) (w.alloc (.cells #[.int .u8 (48 + n)] 5)) := by
    refine run_convert_bytes_back (P := Try.prog) _ 35 9 5 ⟨w.heap.size, 0, none⟩ 1 [digB n] Try.underlying35 Try.underlying5 Try.underlying9 fun j hj => ?_
    obtain rfl : j = 0 := by simpa using hj
    have := cellNew w #[.int .u8 (48 + n)] 5 0
    simp only [Addr.add_lit, Nat.add_zero]
    rw [this]
    simp [digB_toNat h0 h9]
  go_enter Try.func23, Try.ntmps23
  go_wp2
  go_ret
  exact ⟨rfl, B⟩

/-- Is there a slash ahead of place k? -/
def sepB (wide : Int) (k : Nat) : Bool := decide (0 < k) && ((k : Int) % wide == 0)
/-- A board's text up to place k. -/
def txtT (wide : Int) (xs : List Int) : Nat → ByteArray
  | 0 => ⟨#[]⟩
  | k + 1 => (if sepB wide k = true then txtT wide xs k ++ ⟨#[47]⟩ else txtT wide xs k) ++ digT (nth xs k)
theorem txtT_sep {wide : Int} {xs : List Int} {k : Nat} (h : sepB wide k = true) : txtT wide xs (k + 1) = txtT wide xs k ++ ⟨#[47]⟩ ++ digT (nth xs k) := by rw [txtT, if_pos h]
theorem txtT_not {wide : Int} {xs : List Int} {k : Nat} (h : sepB wide k = false) : txtT wide xs (k + 1) = txtT wide xs k ++ digT (nth xs k) := by rw [txtT, if_neg (by rw [h]; simp)]
theorem size_digT (n : Int) : (digT n).size = 1 := rfl
theorem size_txtT (wide : Int) (xs : List Int) : ∀ k, (txtT wide xs k).size ≤ 2 * k
  | 0 => by simp [txtT, ByteArray.size]
  | k + 1 => by
    have h := size_txtT wide xs k
    cases hs : sepB wide k with
    | true => rw [txtT_sep hs, ByteArray.size_append, ByteArray.size_append, size_digT]; have : ByteArray.size ⟨#[47]⟩ = 1 := rfl; omega
    | false => rw [txtT_not hs, ByteArray.size_append, size_digT]; omega

def boardT (wide : Int) (xs : List Int) : ByteArray := if boardB wide xs = true then txtT wide xs xs.length else ⟨#[]⟩
theorem boardT_in {wide : Int} {xs : List Int} (h : boardB wide xs = true) : boardT wide xs = txtT wide xs xs.length := if_pos h
theorem boardT_out {wide : Int} {xs : List Int} (h : boardB wide xs = false) : boardT wide xs = ⟨#[]⟩ := if_neg (by rw [h]; simp)

set_option maxRecDepth 100000 in
set_option maxHeartbeats 2000000 in
theorem specBoardText_any (wide : Int) (ao : Option Addr) (xs : List Int) (n c : Nat) (w : World) (hn : xs.length = n) (hl : n ≤ 17592186044416) (hnc : n ≤ c) (hx : IntsAt w ao xs) :
    Calls Try.prog 8 #[.agg #[.int .i64 wide, .slice ao n c]] w fun e w' => e = .returned (.string (boardT wide xs)) ∧ Below w.heap.size w w' := by
  have HN := hid hn
  clear hn
  have B := (Below.refl w.heap.size w).alloc (Nat.le_refl _) (.cells #[.int .i64 wide, .slice ao n c] 27)
  have bk := Blk.new w #[.int .i64 wide, .slice ao n c] 27
  cases hv : boardB wide xs with
  | false =>
    have hfin := hid (boardT_out hv)
    go_enter Try.func8, Try.ntmps8
    go_wp2_with fail
    generalize (w.alloc (.cells #[.int .i64 wide, .slice ao n c] 27)) = W at *
    have e0 := bk.at 0 rfl
    have e1 := bk.at 1 rfl
    by_cases h0 : n = 0
    · subst h0
      clear bk
      go_loopw [3, 4] (fun v i wr => v = .string ⟨#[]⟩ ∧ i = .int .i64 0 ∧ wr = W) (fun _ _ _ => 0)
      case atStart => exact ⟨rfl, rfl, rfl⟩
      case round =>
        obtain ⟨rfl, rfl, rfl⟩ := hrel
        go_wp2
        go_ret
        exact ⟨by rw [hfin.out]; rfl, B⟩
    · have hd : decide ((0 : Int) < n) = true := decide_eq_true (by omega)
      go_loopw [3, 4] (fun v i wr => v = .string ⟨#[]⟩ ∧ i = .int .i64 0 ∧ wr = W) (fun _ _ _ => 0)
      case atStart => exact ⟨rfl, rfl, rfl⟩
      case round =>
        obtain ⟨rfl, rfl, rfl⟩ := hrel
        go_wp2_with fail
        refine (specBoardValid_any wide ao xs n c _ HN.out hl hnc (hx.below B (Nat.le_refl _))).mono fun e w1 h => ?_
        rw [hv] at h
        obtain ⟨rfl, b⟩ := h
        have B := B.trans (b.mono B.size)
        clear b e0 e1 bk
        go_wp2
        go_ret
        exact ⟨by rw [hfin.out]; rfl, B⟩
  | true =>
    have hfin := hid (boardT_in hv)
    have hok := hid (boardB_iff.1 hv)
    have hHV := hid hv
    have hn9 : n ≤ 9 := by have := hok.out.2.1; rwa [HN.out] at this
    have hw1 : 1 ≤ wide := hok.out.2.2.1
    have hwz : (wide == 0) = false := by simp; omega
    clear hv
    go_enter Try.func8, Try.ntmps8
    go_wp2_with fail
    generalize (w.alloc (.cells #[.int .i64 wide, .slice ao n c] 27)) = W at *
    go_loopw [3, 4] (fun v i wr => ∃ k : Nat, k ≤ n ∧ i = .int .i64 k ∧ v = .string (txtT wide xs k) ∧ Blk wr w.heap.size #[.int .i64 wide, .slice ao n c] 27 ∧ Below w.heap.size w wr) (fun _ i _ => n - (intOf i).toNat)
    case atStart => exact ⟨0, Nat.zero_le _, rfl, rfl, bk, B⟩
    case round =>
      obtain ⟨k, hk, rfl, rfl, hbk, hB⟩ := hrel
      clear bk B
      have e0 := hbk.at 0 rfl
      have e1 := hbk.at 1 rfl
      by_cases hlt : k < n
      · have hd : decide ((k : Int) < n) = true := decide_eq_true (by omega)
        have hkb := hok.out.2.2.2.2.1 _ (nth_mem (j := k) (by rw [HN.out]; exact hlt))
        have hk9 : 0 ≤ nth xs k ∧ nth xs k ≤ 9 := ⟨hkb.1, by have := hkb.2; rw [HN.out] at this; omega⟩
        clear hkb
        go_wp2_with fail
        refine (specBoardValid_any wide ao xs n c wr HN.out hl hnc (hx.below hB (Nat.le_refl _))).mono fun e w1 h => ?_
        rw [hHV.out] at h
        obtain ⟨rfl, b⟩ := h
        have hbk := hbk.below b (Nat.le_refl _)
        have hB := hB.trans (b.mono hB.size)
        clear b e0 e1
        have e0 := hbk.at 0 rfl
        have e1 := hbk.at 1 rfl
        have htm : ((k : Int)).tmod wide = (k : Int) % wide := Int.tmod_eq_emod_of_nonneg (by omega)
        obtain ⟨b, off, rfl, hc⟩ := (hx.below hB (Nat.le_refl _)) (by rw [HN.out]; omega)
        have hck := hc k (by rw [HN.out]; exact hlt)
        clear hc
        have hsz := size_txtT wide xs k
        have hdg := size_digT (nth xs k)
        have h47 : ByteArray.size ⟨#[47]⟩ = 1 := rfl
        have hc1 : ¬ (9223372036854775807 < (txtT wide xs k).size + 1) := by omega
        have hc2 : ¬ (9223372036854775807 < (txtT wide xs k).size + 1 + (digT (nth xs k)).size) := by omega
        have hc3 : ¬ (9223372036854775807 < (txtT wide xs k).size + (digT (nth xs k)).size) := by omega
        have hc4 : ¬ (9223372036854775807 < (txtT wide xs k).size + ByteArray.size ⟨#[47]⟩) := by omega
        have hc5 : ¬ (9223372036854775807 < (txtT wide xs k ++ ⟨#[47]⟩).size + (digT (nth xs k)).size) := by rw [ByteArray.size_append]; omega
        clear hsz hdg h47
        by_cases hk0 : 0 < k
        · have hd0 : decide ((0 : Int) < k) = true := decide_eq_true (by omega)
          have hd00 : decide (0 < k) = true := decide_eq_true hk0
          cases hm : ((k : Int) % wide == 0) with
          | true =>
            have hstep := hid (txtT_sep (xs := xs) (show sepB wide k = true by unfold sepB; rw [hm, hd00]; rfl))
            go_wp2_with fail
            refine (l1Number_one (nth xs k) w1 hk9.1 hk9.2).mono fun e w2 h => ?_
            obtain ⟨rfl, b⟩ := h
            have hbk := hbk.below b (Nat.le_refl _)
            have hB := hB.trans (b.mono hB.size)
            clear b e0 e1 hck
            go_wp2
            go_roundw
            case rel => exact ⟨k + 1, by omega, by go_num, by rw [hstep.out], hbk, hB⟩
            case measure => simp [intOf]; omega
          | false =>
            have hstep := hid (txtT_not (xs := xs) (show sepB wide k = false by unfold sepB; rw [hm, hd00]; rfl))
            go_wp2_with fail
            refine (l1Number_one (nth xs k) w1 hk9.1 hk9.2).mono fun e w2 h => ?_
            obtain ⟨rfl, b⟩ := h
            have hbk := hbk.below b (Nat.le_refl _)
            have hB := hB.trans (b.mono hB.size)
            clear b e0 e1 hck
            go_wp2
            go_roundw
            case rel => exact ⟨k + 1, by omega, by go_num, by rw [hstep.out], hbk, hB⟩
            case measure => simp [intOf]; omega
        · have hd0 : decide ((0 : Int) < k) = false := decide_eq_false (by omega)
          have hd00 : decide (0 < k) = false := decide_eq_false hk0
          have hstep := hid (txtT_not (xs := xs) (show sepB wide k = false by unfold sepB; rw [hd00]; rfl))
          go_wp2_with fail
          refine (l1Number_one (nth xs k) w1 hk9.1 hk9.2).mono fun e w2 h => ?_
          obtain ⟨rfl, b⟩ := h
          have hbk := hbk.below b (Nat.le_refl _)
          have hB := hB.trans (b.mono hB.size)
          clear b e0 e1 hck
          go_wp2
          go_roundw
          case rel => exact ⟨k + 1, by omega, by go_num, by rw [hstep.out], hbk, hB⟩
          case measure => simp [intOf]; omega
      · obtain rfl : k = n := by omega
        have hd : decide ((k : Int) < k) = false := by simp
        have hfin2 := hfin.out
        rw [HN.out] at hfin2
        clear hbk
        go_wp2
        go_ret
        exact ⟨by rw [hfin2]; rfl, hB⟩

end Go.Proofs.Ytaepoddlhghdpaa
