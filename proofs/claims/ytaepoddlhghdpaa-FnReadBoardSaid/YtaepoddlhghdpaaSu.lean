/- impl.BoardText over the library's contracts of strings.Builder. -/
import Derived.Test.YtaepoddlhghdpaaSt
import Derived.Test.YtaepoddlhghdpaaSh
import Derived.Test.YtaepoddlhghdpaaSv
namespace Go.Proofs.Ytaepoddlhghdpaa
open Go Go.RowKit

/-- A text's bytes as a list. -/
def bl (s : ByteArray) : List UInt8 := s.data.toList
theorem bl_back (s : ByteArray) : (⟨(bl s).toArray⟩ : ByteArray) = s := rfl
theorem bl_app (a b : ByteArray) : bl (a ++ b) = bl a ++ bl b := by unfold bl; rw [ByteArray.data_append, Array.toList_append]
theorem bl_length (a : ByteArray) : (bl a).length = a.size := by unfold bl ByteArray.size; exact Array.length_toList
theorem bl_dig (n : Int) : bl (digT n) = [digB n] := rfl
theorem bl_47 : bl ⟨#[47]⟩ = [47] := rfl

theorem bytes_app (a b : List UInt8) : Lib.byteCells (a ++ b) = Lib.byteCells a ++ Lib.byteCells b := by simp [Lib.byteCells]
theorem bytes_dig {n : Int} (h0 : 0 ≤ n) (h9 : n ≤ 9) : Lib.byteCells [digB n] = [.int .u8 (48 + n)] := by simp [Lib.byteCells, digB_toNat h0 h9]

set_option maxRecDepth 100000 in
set_option maxHeartbeats 4000000 in
theorem implBoardText_any (wide : Int) (ao : Option Addr) (xs : List Int) (n c : Nat) (w : World) (hn : xs.length = n) (hl : n ≤ 17592186044416) (hx : IntsAt w ao xs) :
    Calls Try.prog 10 #[.agg #[.int .i64 wide, .slice ao n c]] w fun e w' => e = .returned (.string (boardT wide xs)) ∧ Below w.heap.size w w' := by
  have HN := hid hn
  clear hn
  have B := (Below.refl w.heap.size w).alloc (Nat.le_refl _) (.cells #[.int .i64 wide, .slice ao n c] 27)
  have bk := Blk.new w #[.int .i64 wide, .slice ao n c] 27
  cases hv : boardB wide xs with
  | false =>
    have hfin := hid (boardT_out hv)
    go_enter Try.func10, Try.ntmps10
    go_wp2_with fail
    generalize (w.alloc (.cells #[.int .i64 wide, .slice ao n c] 27)) = W at *
    have e0 := bk.at 0 rfl
    have e1 := bk.at 1 rfl
    go_wp2_with fail
    refine (implBoardValid_any wide ao xs n c _ HN.out hl (hx.below B (Nat.le_refl _))).mono fun e w1 h => ?_
    rw [hv] at h
    obtain ⟨rfl, b⟩ := h
    have B := B.trans (b.mono B.size)
    clear b e0 e1 bk
    go_wp2
    go_ret
    exact ⟨by rw [hfin.out]; rfl, B⟩
  | true =>
    have hfin := hid (boardT_in hv)
    have hok := hid (boardB_iff.1 hv)
    have hHV := hid hv
    have hn9 : n ≤ 9 := by have := hok.out.2.1; rwa [HN.out] at this
    have hw1 : 1 ≤ wide := hok.out.2.2.1
    have hwz : (wide == 0) = false := by simp; omega
    clear hv
    go_enter Try.func10, Try.ntmps10
    go_wp2_with fail
    generalize (w.alloc (.cells #[.int .i64 wide, .slice ao n c] 27)) = W at *
    have e0 := bk.at 0 rfl
    have e1 := bk.at 1 rfl
    go_wp2_with fail
    refine (implBoardValid_any wide ao xs n c _ HN.out hl (hx.below B (Nat.le_refl _))).mono fun e w1 h => ?_
    rw [hHV.out] at h
    obtain ⟨rfl, b⟩ := h
    have hbk := bk.below b (Nat.le_refl _)
    have hB := B.trans (b.mono B.size)
    clear b e0 e1 B bk
    have e0 := hbk.at 0 rfl
    have e1 := hbk.at 1 rfl
    have hI0 := Lib.IsBuilderF.of (Lib.fresh_isBuilder 46 5 w1)
    have hb0 : Below w1.heap.size w1 (w1.alloc (.cells #[.pointer none, .slice none 0 0] 46)) := (Below.refl w1.heap.size w1).alloc (Nat.le_refl _) _
    have hB0 := hB.size
    have hnw : w.heap.size < w1.heap.size := hbk.lt
    clear e0 e1
    have e1 := (hbk.alloc (.cells #[.pointer none, .slice none 0 0] 46)).at 1 rfl
    go_wp2_with fail
    clear e1
    go_loopw [4, 5, 12] (fun _ _ i wr => ∃ k : Nat, k ≤ n ∧ i = .int .i64 k ∧ Lib.IsBuilderF 46 5 w1.heap.size w1.heap.size (Lib.byteCells (bl (txtT wide xs k))) wr ∧ Below w1.heap.size w1 wr) (fun _ _ i _ => n - (intOf i).toNat)
    case atStart => exact ⟨0, Nat.zero_le _, rfl, hI0, hb0⟩
    case round =>
      clear hI0 hb0
      obtain ⟨k, hk, rfl, hI, hb⟩ := hrel
      have hk2 := hb.size
      have hbk2 := hbk.below hb (Nat.le_refl _)
      have hlen : (Lib.byteCells (bl (txtT wide xs k))).length ≤ 2 * k := by have := size_txtT wide xs k; simp [Lib.byteCells, bl_length]; omega
      by_cases hlt : k < n
      · have hkb := hok.out.2.2.2.2.1 _ (nth_mem (j := k) (by rw [HN.out]; exact hlt))
        have hk9 : 0 ≤ nth xs k ∧ nth xs k ≤ 9 := ⟨hkb.1, by have := hkb.2; rw [HN.out] at this; omega⟩
        have htm : ((k : Int)).tmod wide = (k : Int) % wide := Int.tmod_eq_emod_of_nonneg (by omega)
        have hxw := hx.below (hB.trans (hb.mono hB0)) (Nat.le_refl _)
        obtain ⟨b, off, rfl, hc⟩ := hxw (by rw [HN.out]; omega)
        have hck := hc k (by rw [HN.out]; exact hlt)
        have e0 := hbk2.at 0 rfl
        clear hc hkb hxw
        by_cases hk0 : 0 < k
        · have hd0 : decide ((0 : Int) < k) = true := decide_eq_true (by omega)
          have hd00 : decide (0 < k) = true := decide_eq_true hk0
          cases hm : ((k : Int) % wide == 0) with
          | true =>
            have hstep := hid (txtT_sep (xs := xs) (show sepB wide k = true by unfold sepB; rw [hm, hd00]; rfl))
            go_wp2_with fail
            refine (writeByte_any _ _ _ 47 wr hI (by omega) hk2).mono fun e w2 h => ?_
            obtain ⟨rfl, hA2, hb2, _⟩ := h
            have hI2 := hid (Or.inr hA2 : Lib.IsBuilderF 46 5 w1.heap.size w1.heap.size (Lib.byteCells (bl (txtT wide xs k)) ++ [.int .u8 47]) w2)
            have hb2 := hb.trans hb2
            have hl2 : (Lib.byteCells (bl (txtT wide xs k)) ++ [Value.int .u8 47]).length ≤ 2 * k + 1 := by rw [List.length_append]; simp; omega
            have hk3 := hb2.size
            clear hA2 e0 hck
            go_wp2_with fail
            refine (writeByte_any _ _ _ (48 + nth xs k) w2 hI2.out (by omega) hk3).mono fun e w3 h => ?_
            obtain ⟨rfl, hA3, hb3, _⟩ := h
            have hI3 : Lib.IsBuilderF 46 5 w1.heap.size w1.heap.size (Lib.byteCells (bl (txtT wide xs (k + 1)))) w3 := by rw [hstep.out, bl_app, bl_app, bl_dig, bl_47, bytes_app, bytes_app, bytes_dig hk9.1 hk9.2]; exact .inr hA3
            have hb3 := hb2.trans hb3
            clear hA3 hI hb hb2
            go_wp2
            go_roundw
            case rel => exact ⟨k + 1, by omega, by go_num, hI3, hb3⟩
            case measure => simp [intOf]; omega
          | false =>
            have hstep := hid (txtT_not (xs := xs) (show sepB wide k = false by unfold sepB; rw [hm, hd00]; rfl))
            go_wp2_with fail
            refine (writeByte_any _ _ _ (48 + nth xs k) wr hI (by omega) hk2).mono fun e w3 h => ?_
            obtain ⟨rfl, hA3, hb3, _⟩ := h
            have hI3 : Lib.IsBuilderF 46 5 w1.heap.size w1.heap.size (Lib.byteCells (bl (txtT wide xs (k + 1)))) w3 := by rw [hstep.out, bl_app, bl_dig, bytes_app, bytes_dig hk9.1 hk9.2]; exact .inr hA3
            have hb3 := hb.trans hb3
            clear hA3 hI hb e0 hck
            go_wp2
            go_roundw
            case rel => exact ⟨k + 1, by omega, by go_num, hI3, hb3⟩
            case measure => simp [intOf]; omega
        · have hd0 : decide ((0 : Int) < k) = false := decide_eq_false (by omega)
          have hd00 : decide (0 < k) = false := decide_eq_false hk0
          have hstep := hid (txtT_not (xs := xs) (show sepB wide k = false by unfold sepB; rw [hd00]; rfl))
          go_wp2_with fail
          refine (writeByte_any _ _ _ (48 + nth xs k) wr hI (by omega) hk2).mono fun e w3 h => ?_
          obtain ⟨rfl, hA3, hb3, _⟩ := h
          have hI3 : Lib.IsBuilderF 46 5 w1.heap.size w1.heap.size (Lib.byteCells (bl (txtT wide xs (k + 1)))) w3 := by rw [hstep.out, bl_app, bl_dig, bytes_app, bytes_dig hk9.1 hk9.2]; exact .inr hA3
          have hb3 := hb.trans hb3
          clear hA3 hI hb e0 hck
          go_wp2
          go_roundw
          case rel => exact ⟨k + 1, by omega, by go_num, hI3, hb3⟩
          case measure => simp [intOf]; omega
      · obtain rfl : k = n := by omega
        have hd9 : decide ((k : Int) < k) = false := by simp
        have hfin2 := hfin.out
        rw [HN.out] at hfin2
        have HF := hid hfin2
        clear hfin2
        go_wp2_with fail
        refine (Try.Builder_String_any_k _ _ (bl (txtT wide xs k)) wr hI hk2).mono fun e w3 h => ?_
        obtain ⟨rfl, _, hb3, _⟩ := h
        have hB3 := hB.trans ((hb.trans hb3).mono hB0)
        clear hI hb hb3
        go_wp2
        go_ret
        exact ⟨by rw [HF.out]; rfl, hB3⟩

end Go.Proofs.Ytaepoddlhghdpaa
