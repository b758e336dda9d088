/- The walk of impl.ReadBoard. -/
import Derived.Test.YtaepoddlhghdpaaSp
import Derived.Test.YtaepoddlhghdpaaSu
import Derived.Test.YtaepoddlhghdpaaTc
import Derived.Test.YtaepoddlhghdpaaAp
import Derived.Deep.RegionLaw
namespace Go.Proofs.Ytaepoddlhghdpaa
open Go Go.RowKit

theorem rdB_long {s : ByteArray} (h : 18 < s.size) : rdB s = false := rdB_not fun w xs ht => by have := ht.size; omega
theorem rdB_bad {s : ByteArray} {c : UInt8} (hc : c ∈ bts s) (h : c.toNat < 47 ∨ 57 < c.toNat) : rdB s = false := rdB_not fun w xs ht => by have := ht.digs c hc; omega
theorem bts_getD (s : ByteArray) {k : Nat} (h : k < s.size) : (bts s).getD k 0 = s[k] := by
  have h2 : k < (bts s).length := by rw [bts_length]; exact h
  rw [List.getD_eq_getElem?_getD, List.getElem?_eq_getElem h2]; rfl
theorem bts_mem (s : ByteArray) {k : Nat} (h : k < s.size) : s[k] ∈ bts s := by
  have h2 : k < (bts s).length := by rw [bts_length]; exact h
  have : (bts s)[k] ∈ bts s := List.getElem_mem h2
  exact this
theorem bts_take (s : ByteArray) {k : Nat} (h : k < s.size) : (bts s).take (k + 1) = (bts s).take k ++ [s[k]] := by
  have h2 : k < (bts s).length := by rw [bts_length]; exact h
  rw [List.take_succ_eq_append_getElem h2]; rfl
/-- The numbers read off the first k bytes. -/
def tkL (s : ByteArray) (k : Nat) : List Int := (nsl ((bts s).take k)).map dgI
theorem tkL_slash {s : ByteArray} {k : Nat} (h : k < s.size) (hc : s[k] = 47) : tkL s (k + 1) = tkL s k := by
  unfold tkL nsl; rw [bts_take s h, List.filter_append, hc]; simp
theorem tkL_dig {s : ByteArray} {k : Nat} (h : k < s.size) (hc : 48 ≤ s[k].toNat ∧ s[k].toNat ≤ 57) : tkL s (k + 1) = tkL s k ++ [(s[k].toNat : Int) - 48] := by
  unfold tkL nsl
  have hn : (s[k] != 47) = true := by
    rw [bne_iff_ne]; intro e
    have : (47 : UInt8).toNat = 47 := rfl
    rw [e] at hc; omega
  rw [bts_take s h, List.filter_append, List.filter_cons_of_pos (by exact hn), List.map_append]
  simp [dgI, hc]
theorem length_tkL (s : ByteArray) (k : Nat) : (tkL s k).length ≤ k := by
  unfold tkL nsl
  rw [List.length_map]
  have := List.length_filter_le (fun c => c != 47) ((bts s).take k)
  have := List.length_take_le k (bts s)
  omega
theorem tkL_all (s : ByteArray) : tkL s s.size = rdL s := by
  unfold tkL rdL; rw [List.take_of_length_le (by rw [bts_length]; exact Nat.le_refl _)]

theorem rb_zero {s : ByteArray} {w w' : World} (h : rdB s = false) (hb : Below w.heap.size w w') : RetBB w (rbW s) (rbL s) (rdB s) (.returned (.tuple #[.agg #[.int .i64 0, .slice none 0 0], .bool false])) w' := by
  rw [rbW_out h, rbL_out h, h]; exact RetBB.mk (xs := []) rfl (Nat.le_refl _) (Own.nil _ _) hb

theorem rb_some {s : ByteArray} {w w' : World} {W : Int} {ao : Option Addr} {n c : Nat} (h : rdB s = true) (hW : W = rdW s) (hn : (rdL s).length = n) (hnc : n ≤ c) (ho : Own w' w.heap.size (.slice ao n c) (rdL s)) (hb : Below w.heap.size w w') :
    RetBB w (rbW s) (rbL s) (rdB s) (.returned (.tuple #[.agg #[.int .i64 W, .slice ao n c], .bool true])) w' := by
  rw [rbW_in h, rbL_in h, h, ← hW]; exact RetBB.mk hn hnc ho hb

set_option maxRecDepth 100000 in
set_option maxHeartbeats 4000000 in
theorem implReadBoard_any (s : ByteArray) (w : World) (hs : s.size ≤ 9223372036854775807) :
    Calls Try.prog 13 #[.string s] w (RetBB w (rbW s) (rbL s) (rdB s)) := by
  have B := (Below.refl w.heap.size w).alloc (Nat.le_refl _) (.cells #[.int .i64 0, .slice none 0 0] 27)
  have br := Blk.new w #[.int .i64 0, .slice none 0 0] 27
  by_cases hlong : 18 < s.size
  · have hd : decide ((18 : Int) < s.size) = true := decide_eq_true (by omega)
    have hR := hid (rdB_long hlong)
    have g0 := br.cell 0
    have g1 := br.cell 1
    have f0 := br.free 0
    have f1 := br.free 1
    go_enter Try.func13, Try.ntmps13
    go_wp2_with fail
    exact bodyPost_ret (v := .tuple #[.agg #[.int .i64 0, .slice none 0 0], .bool false]) (by simp [results, Try.results13, go_sem, g0, g1]) rfl (rb_zero hR.out B)
  have hd : decide ((18 : Int) < s.size) = false := decide_eq_false (by omega)
  have bb := Blk.new (w.alloc (.cells #[.int .i64 0, .slice none 0 0] 27)) #[.int .i64 0, .slice none 0 0] 27
  rw [World.size_alloc] at bb
  have br0 := br.alloc (.cells #[.int .i64 0, .slice none 0 0] 27)
  have B0 := B.alloc (by simp) (.cells #[.int .i64 0, .slice none 0 0] 27)
  go_enter Try.func13, Try.ntmps13
  go_wp2_with fail
  clear B br
  go_loopw [5, 12] (fun _ i wr => ∃ (k : Nat) (v : Value), k ≤ s.size ∧ i = .int .i64 k ∧ Blk wr w.heap.size #[.int .i64 0, .slice none 0 0] 27 ∧ Blk wr (w.heap.size + 1) #[.int .i64 (iW (bts s) k : Nat), v] 27 ∧ Own wr (w.heap.size + 2) v (tkL s k) ∧ Below w.heap.size w wr) (fun _ i _ => s.size - (intOf i).toNat)
  case atStart => exact ⟨0, .slice none 0 0, Nat.zero_le _, rfl, br0, bb, Own.nil _ _, B0⟩
  case round =>
    clear bb br0 B0
    obtain ⟨k, v, hk, rfl, hbr, hbb, hov, hB⟩ := hrel
    have hlb := hbb.lt
    by_cases hlt : k < s.size
    · have hgd := bts_getD s hlt
      have hwk := iW_le (bts s) k
      by_cases h47 : s[k] = 47
      · have hc : ((s[k].toNat : Int) == 47) = true := by rw [h47]; rfl
        have htk := hid (tkL_slash hlt h47)
        by_cases h0 : iW (bts s) k = 0
        · have hi : iW (bts s) (k + 1) = k := by rw [iW, if_pos ⟨hgd.trans h47, h0⟩]
          rw [h0] at hbb
          have e0 : wr.cell? ⟨w.heap.size + 1, 0, none⟩ = some (.int .i64 0) := hbb.at 0 rfl
          have f0 := hbb.free 0
          have hbb2 := hbb.set 0 (.int .i64 (k : Int))
          have hbr2 := hbr.setOther (g' := w.heap.size + 1) (by omega) 0 (.int .i64 (k : Int))
          have hov2 := hov.setOther (w.heap.size + 1) 0 (.int .i64 (k : Int)) (hov.ne_of_lt (by omega))
          have hB2 := hB.setCell (p := ⟨w.heap.size + 1, 0, none⟩) (by simp) (.int .i64 (k : Int))
          rw [← htk.out] at hov2
          have HI := hid hi
          have hbb3 : Blk (wr.setCell ⟨w.heap.size + 1, 0, none⟩ (.int .i64 (k : Int))) (w.heap.size + 1) #[.int .i64 (iW (bts s) (k + 1) : Nat), v] 27 := by rw [HI.out]; exact hbb2
          clear hi h0 h47 hgd hbb hbr hov hB hbb2
          go_wp2
          go_roundw
          case rel => exact ⟨k + 1, v, by omega, by go_num, hbr2, hbb3, hov2, hB2⟩
          case measure => simp [intOf]; omega
        · have hi : iW (bts s) (k + 1) = iW (bts s) k := by rw [iW, if_neg (fun h => h0 h.2)]
          have e0 : wr.cell? ⟨w.heap.size + 1, 0, none⟩ = some (.int .i64 (iW (bts s) k : Nat)) := hbb.at 0 rfl
          have hne : (((iW (bts s) k : Nat) : Int) == 0) = false := by simp; omega
          rw [← hi] at hbb
          rw [← htk.out] at hov
          clear hi h0 h47 hgd
          go_wp2
          go_roundw
          case rel => exact ⟨k + 1, v, by omega, by go_num, hbr, hbb, hov, hB⟩
          case measure => simp [intOf]; omega
      · have hc : ((s[k].toNat : Int) == 47) = false := by
          rw [beq_eq_false_iff_ne]; intro e
          exact h47 (UInt8.toNat_inj.1 (by have : (47 : UInt8).toNat = 47 := rfl; omega))
        have hi : iW (bts s) (k + 1) = iW (bts s) k := by rw [iW, if_neg (fun h => h47 (by rw [← hgd]; exact h.1))]
        have hmem := bts_mem s hlt
        have hn47 : s[k].toNat ≠ 47 := fun e => h47 (UInt8.toNat_inj.1 e)
        by_cases hdg : 48 ≤ s[k].toNat ∧ s[k].toNat ≤ 57
        · have hd1 : decide ((s[k].toNat : Int) < 48) = false := decide_eq_false (by omega)
          have hd2 : decide (57 < (s[k].toNat : Int)) = false := decide_eq_false (by omega)
          have htk := hid (tkL_dig hlt hdg)
          have hln := length_tkL s k
          have hu8 : IntKind.u8.wrap ((s[k].toNat : Int) - 48) = (s[k].toNat : Int) - 48 := by rw [IntKind.wrap_u8]; omega
          rw [← hi] at hbb
          obtain ⟨L, hL⟩ : ∃ L, (tkL s k).length = L := ⟨_, rfl⟩
          have HL := hid hL
          rw [hL] at hln
          clear hi hmem h47 hgd hL
          obtain ⟨x, hx⟩ : ∃ x : Int, (s[k].toNat : Int) - 48 = x := ⟨_, rfl⟩
          rw [hx] at htk
          have ba : Below wr.heap.size wr (wr.alloc (.cells #[.int .i64 x] 3)).drew := ((Below.refl _ _).alloc (Nat.le_refl _) _).drew
          have hova : Own (wr.alloc (.cells #[.int .i64 x] 3)).drew (w.heap.size + 2) v (tkL s k) := hov.alloc _
          have hol : Own (wr.alloc (.cells #[.int .i64 x] 3)).drew wr.heap.size (.slice (some ⟨wr.heap.size, 0, none⟩) 1 1) [x] := Own.one wr x (Nat.le_refl _)
          have hbba : Blk (wr.alloc (.cells #[.int .i64 x] 3)).drew (w.heap.size + 1) #[.int .i64 (iW (bts s) (k + 1) : Nat), v] 27 := hbb.alloc _
          have hbra : Blk (wr.alloc (.cells #[.int .i64 x] 3)).drew w.heap.size #[.int .i64 0, .slice none 0 0] 27 := hbr.alloc _
          have hBa := hB.trans (ba.mono (by omega))
          have hsa : w.heap.size + 2 ≤ (wr.alloc (.cells #[.int .i64 x] 3)).drew.heap.size := by show _ ≤ (wr.alloc (.cells #[.int .i64 x] 3)).heap.size; simp; omega
          have e1 := hbb.at 1 rfl
          obtain ⟨va, vc, rfl, _, _⟩ := hov.shapeN HL.out
          have hx0 : 0 ≤ x ∧ x ≤ 9 := by omega
          have hw1 : IntKind.u8.wrap x = x := by rw [IntKind.wrap_u8]; omega
          have hw2 : IntKind.i64.wrap x = x := IntWalk.i64_in _ (by omega)
          clear hu8
          go_wp2
          go_region_law (first
            | (refine step_appL rfl (.tmp 36) (.tmp 42) rfl rfl hova rfl hol hsa (by rw [HL.out]; simp; omega) ?_
               intro v5 w5 hov5 hg5 hat5
               obtain ⟨a5, c5, hv5, _, _⟩ := hov5.shapeN (n := L + 1) (by have := HL.out; simp; omega)
               subst hv5
               have hne5 : some (w.heap.size + 1) ≠ (Value.slice va L vc).ownBlock := (hova.ne_blk (by omega))
               have hbb5 := hbba.kept hg5 hne5
               have d5 := hbb5.at 1 rfl
               have f5 := hbb5.free 1))
          all_goals
            have hB5 := hBa.grown hg5 (by omega) (fun q e => by have := (World.ownsRow.lt hova q e).1; omega)
            have hbr5 := hbra.kept hg5 (hova.ne_blk (by omega))
            have hbb6 := hbb5.set 1 (.slice a5 (L + 1) c5)
            have hbr6 := hbr5.setOther (g' := w.heap.size + 1) (by omega) 1 (.slice a5 (L + 1) c5)
            have hov6 := hov5.setOther (w.heap.size + 1) 1 (.slice a5 (L + 1) c5) (hov5.ne_of_lt (by omega))
            have hB6 := hB5.setCell (p := ⟨w.heap.size + 1, 1, none⟩) (by simp) (.slice a5 (L + 1) c5)
            rw [← htk.out] at hov6
            clear hB5 hbr5 hbb5 hov5 hg5 hat5 hova hol hbba hbra hBa ba d5 f5 hov hbb hbr hB e1
            go_wp2
            go_roundw
            case rel => exact ⟨k + 1, _, by omega, by go_num, hbr6, hbb6, hov6, hB6⟩
            case measure => simp [intOf]; omega
        · have hR := hid (rdB_bad hmem (by omega))
          have g0 := hbr.cell 0
          have g1 := hbr.cell 1
          have f0 := hbr.free 0
          have f1 := hbr.free 1
          have B2 := hid ((hB.setCell (p := ⟨w.heap.size, 0, none⟩) (Nat.le_refl _) (.int .i64 0)).setCell (p := ⟨w.heap.size, 1, none⟩) (Nat.le_refl _) (.slice none 0 0))
          clear hi hmem h47 hgd
          by_cases hlo : s[k].toNat < 48
          · have hd1 : decide ((s[k].toNat : Int) < 48) = true := decide_eq_true (by omega)
            clear hdg
            go_wp2_with fail
            exact bodyPost_ret (v := .tuple #[.agg #[.int .i64 0, .slice none 0 0], .bool false]) (by simp [results, Try.results13, go_sem, g0, g1]) rfl (rb_zero hR.out B2.out)
          · have hd1 : decide ((s[k].toNat : Int) < 48) = false := decide_eq_false (by omega)
            have hd2 : decide (57 < (s[k].toNat : Int)) = true := decide_eq_true (by omega)
            clear hdg
            go_wp2_with fail
            exact bodyPost_ret (v := .tuple #[.agg #[.int .i64 0, .slice none 0 0], .bool false]) (by simp [results, Try.results13, go_sem, g0, g1]) rfl (rb_zero hR.out B2.out)
    · obtain rfl : k = s.size := by omega
      have hd9 : decide (s.size < s.size) = false := decide_eq_false (by omega)
      rw [tkL_all] at hov
      have hln := length_rdL s
      obtain ⟨L, hL⟩ : ∃ L, (rdL s).length = L := ⟨_, rfl⟩
      rw [hL] at hln
      have HL := hid hL
      obtain ⟨va, vc, rfl, _, _⟩ := hov.shapeN hL
      have hwk := iW_le (bts s) s.size
      have hmain : ∀ (W : World), Blk W w.heap.size #[.int .i64 0, .slice none 0 0] 27 → Blk W (w.heap.size + 1) #[.int .i64 (fW s), .slice va L vc] 27 → Own W (w.heap.size + 2) (.slice va L vc) (rdL s) → Below w.heap.size w W → True := fun _ _ _ _ _ => trivial
      clear hmain
      by_cases h0 : iW (bts s) s.size = 0
      · have hfw : fW s = L := by unfold fW; rw [if_pos h0, HL.out]
        rw [h0] at hbb
        have e0 : wr.cell? ⟨w.heap.size + 1, 0, none⟩ = some (.int .i64 0) := hbb.at 0 rfl
        have e1 := hbb.at 1 rfl
        have f0 := hbb.free 0
        have hbb2 := hbb.set 0 (.int .i64 (L : Int))
        have hbr2 := hbr.setOther (g' := w.heap.size + 1) (by omega) 0 (.int .i64 (L : Int))
        have hov2 := hov.setOther (w.heap.size + 1) 0 (.int .i64 (L : Int)) (hov.ne_of_lt (by omega))
        have hB2 := hB.setCell (p := ⟨w.heap.size + 1, 0, none⟩) (by simp) (.int .i64 (L : Int))
        have e3 : (wr.setCell ⟨w.heap.size + 1, 0, none⟩ (.int .i64 (L : Int))).cell? ⟨w.heap.size + 1, 0, none⟩ = some (.int .i64 (L : Int)) := hbb2.at 0 rfl
        have e4 : (wr.setCell ⟨w.heap.size + 1, 0, none⟩ (.int .i64 (L : Int))).cell? ⟨w.heap.size + 1, 1, none⟩ = some (.slice va L vc) := hbb2.at 1 rfl
        have hbb3 : Blk (wr.setCell ⟨w.heap.size + 1, 0, none⟩ (.int .i64 (L : Int))) (w.heap.size + 1) #[.int .i64 (fW s), .slice va L vc] 27 := by rw [hfw]; exact hbb2
        have HFW := hid hfw
        clear hL h0 hbb hbr hov hB hbb2 hfw
        go_wp2_with fail
        generalize (wr.setCell ⟨w.heap.size + 1, 0, none⟩ (.int .i64 (L : Int))) = wt at *
        rw [← HFW.out] at e3 ⊢
        have htest := fW_test s
        cases hv : boardB (fW s) (rdL s) with
        | false =>
          rw [hv] at htest
          have hR : Hid (rdB s = false) := by unfold Hid; rw [← htest]; rfl
          have HV := hid hv
          clear hv htest
          refine (implBoardValid_any (fW s) va (rdL s) L vc wt HL.out (by omega) hov2.ints).mono fun e w5 h => ?_
          rw [HV.out] at h
          obtain ⟨rfl, b⟩ := h
          have hbr5 := hbr2.below b (Nat.le_refl _)
          have hB5 := hB2.trans (b.mono hB2.size)
          have g0 := hbr5.cell 0
          have g1 := hbr5.cell 1
          have f0 := hbr5.free 0
          have f1 := hbr5.free 1
          have B2 := hid ((hB5.setCell (p := ⟨w.heap.size, 0, none⟩) (Nat.le_refl _) (.int .i64 0)).setCell (p := ⟨w.heap.size, 1, none⟩) (Nat.le_refl _) (.slice none 0 0))
          clear b hbr5 hB5 hbb3 hbr2 hov2 hB2 e3 e4
          go_wp2_with fail
          exact bodyPost_ret (v := .tuple #[.agg #[.int .i64 0, .slice none 0 0], .bool false]) (by simp [results, Try.results13, go_sem, g0, g1]) rfl (rb_zero hR.out B2.out)
        | true =>
          rw [hv] at htest
          have HV := hid hv
          have hok := hid (boardB_iff.1 hv)
          clear hv
          refine (implBoardValid_any (fW s) va (rdL s) L vc wt HL.out (by omega) hov2.ints).mono fun e w5 h => ?_
          rw [HV.out] at h
          obtain ⟨rfl, b⟩ := h
          have hbr5 := hbr2.below b (Nat.le_refl _)
          have hbb5 := hbb3.below b (Nat.le_refl _)
          have hov5 := hov2.below b (Nat.le_refl _)
          have hB5 := hB2.trans (b.mono hB2.size)
          have e3 := hbb5.at 0 rfl
          have e4 := hbb5.at 1 rfl
          clear b hbb3 hbr2 hov2 hB2
          go_wp2_with fail
          refine (implBoardText_any (fW s) va (rdL s) L vc w5 HL.out (by omega) hov5.ints).mono fun e w6 h => ?_
          obtain ⟨rfl, b⟩ := h
          have hbr6 := hbr5.below b (Nat.le_refl _)
          have hbb6 := hbb5.below b (Nat.le_refl _)
          have hov6 := hov5.below b (Nat.le_refl _)
          have hB6 := hB5.trans (b.mono hB5.size)
          have e3 := hbb6.at 0 rfl
          have e4 := hbb6.at 1 rfl
          have g0 := hbr6.cell 0
          have g1 := hbr6.cell 1
          have f0 := hbr6.free 0
          have f1 := hbr6.free 1
          clear b hbb5 hbr5 hov5 hB5
          by_cases ht : boardT (fW s) (rdL s) = s
          · rw [ht] at htest
            have hR : Hid (rdB s = true) := by unfold Hid; rw [← htest]; simp
            rw [ht]
            have HFR := hid (fW_eq (rdB_to hR.out).head)
            clear htest ht
            go_wp2_with fail
            refine (boardCopy_any (fW s) va (rdL s) L vc w6 HL.out (by omega) hov6.ints).mono fun e w7 h => ?_
            obtain ⟨ac, cc, rfl, hcc, oc, b⟩ := h.to HL.out
            have hbr7 := hbr6.below b (Nat.le_refl _)
            have hlw := hB6.size
            have oc6 := oc.lower (B' := w.heap.size) hlw
            have ock := hid (World.ownsRow.lt oc)
            have hB7 := hB6.trans (b.mono hlw)
            have hbl := hbr6.lt
            have g70 := hbr7.cell 0
            have g71 := hbr7.cell 1
            have f70 := hbr7.free 0
            have f71 := hbr7.free 1
            have hne : (Value.slice ac L cc).ownBlock = none ∨ (Value.slice ac L cc).ownBlock ≠ some w.heap.size := by
              cases hb : (Value.slice ac L cc).ownBlock with
              | none => exact .inl rfl
              | some q => exact .inr fun e => by have := (ock.out q hb).1; have := Option.some.inj e; omega
            have oc7 := (oc6.setOther w.heap.size 0 (.int .i64 (fW s)) hne).setOther w.heap.size 1 (.slice ac L cc) hne
            have hB8 := (hB7.setCell (p := ⟨w.heap.size, 0, none⟩) (Nat.le_refl _) (.int .i64 (fW s))).setCell (p := ⟨w.heap.size, 1, none⟩) (Nat.le_refl _) (.slice ac L cc)
            have HF := hid (rb_some hR.out HFR.out HL.out hcc oc7 hB8)
            clear h b oc oc6 oc7 hB7 hB8 hne hbr6 hbb6 hov6 hB6 e3 e4 g0 g1 f0 f1 hbr7
            go_wp2_with fail
            exact bodyPost_ret (v := .tuple #[.agg #[.int .i64 (fW s), .slice ac L cc], .bool true]) (by simp [results, Try.results13, go_sem, g70, g71]) rfl HF.out
          · have hR : Hid (rdB s = false) := by unfold Hid; rw [← htest]; simp [ht]
            have B2 := hid ((hB6.setCell (p := ⟨w.heap.size, 0, none⟩) (Nat.le_refl _) (.int .i64 0)).setCell (p := ⟨w.heap.size, 1, none⟩) (Nat.le_refl _) (.slice none 0 0))
            have hts : ((boardT (fW s) (rdL s)).toList == s.toList) = false := by
              rw [beq_eq_false_iff_ne]; intro e
              rw [ByteArray.toList_eq, ByteArray.toList_eq] at e
              exact ht (bts_inj e)
            clear htest ht
            go_wp2_with fail
            exact bodyPost_ret (v := .tuple #[.agg #[.int .i64 0, .slice none 0 0], .bool false]) (by simp [results, Try.results13, go_sem, g0, g1]) rfl (rb_zero hR.out B2.out)
      · have hfw : fW s = (iW (bts s) s.size : Nat) := by unfold fW; rw [if_neg h0]
        have hne : (((iW (bts s) s.size : Nat) : Int) == 0) = false := by simp; omega
        have hbb3 : Blk wr (w.heap.size + 1) #[.int .i64 (fW s), .slice va L vc] 27 := by rw [hfw]; exact hbb
        rw [← hfw] at hne
        have hov2 := hov
        have hbr2 := hbr
        have hB2 := hB
        have e3 : wr.cell? ⟨w.heap.size + 1, 0, none⟩ = some (.int .i64 (fW s)) := hbb3.at 0 rfl
        have e4 : wr.cell? ⟨w.heap.size + 1, 1, none⟩ = some (.slice va L vc) := hbb3.at 1 rfl
        obtain ⟨wt, hwt⟩ : ∃ wt, wt = wr := ⟨_, rfl⟩
        clear hL h0 hbb hbr hov hB hfw
        go_wp2_with fail
        subst hwt
        have htest := fW_test s
        cases hv : boardB (fW s) (rdL s) with
        | false =>
          rw [hv] at htest
          have hR : Hid (rdB s = false) := by unfold Hid; rw [← htest]; rfl
          have HV := hid hv
          clear hv htest
          refine (implBoardValid_any (fW s) va (rdL s) L vc wt HL.out (by omega) hov2.ints).mono fun e w5 h => ?_
          rw [HV.out] at h
          obtain ⟨rfl, b⟩ := h
          have hbr5 := hbr2.below b (Nat.le_refl _)
          have hB5 := hB2.trans (b.mono hB2.size)
          have g0 := hbr5.cell 0
          have g1 := hbr5.cell 1
          have f0 := hbr5.free 0
          have f1 := hbr5.free 1
          have B2 := hid ((hB5.setCell (p := ⟨w.heap.size, 0, none⟩) (Nat.le_refl _) (.int .i64 0)).setCell (p := ⟨w.heap.size, 1, none⟩) (Nat.le_refl _) (.slice none 0 0))
          clear b hbr5 hB5 hbb3 hbr2 hov2 hB2 e3 e4
          go_wp2_with fail
          exact bodyPost_ret (v := .tuple #[.agg #[.int .i64 0, .slice none 0 0], .bool false]) (by simp [results, Try.results13, go_sem, g0, g1]) rfl (rb_zero hR.out B2.out)
        | true =>
          rw [hv] at htest
          have HV := hid hv
          have hok := hid (boardB_iff.1 hv)
          clear hv
          refine (implBoardValid_any (fW s) va (rdL s) L vc wt HL.out (by omega) hov2.ints).mono fun e w5 h => ?_
          rw [HV.out] at h
          obtain ⟨rfl, b⟩ := h
          have hbr5 := hbr2.below b (Nat.le_refl _)
          have hbb5 := hbb3.below b (Nat.le_refl _)
          have hov5 := hov2.below b (Nat.le_refl _)
          have hB5 := hB2.trans (b.mono hB2.size)
          have e3 := hbb5.at 0 rfl
          have e4 := hbb5.at 1 rfl
          clear b hbb3 hbr2 hov2 hB2
          go_wp2_with fail
          refine (implBoardText_any (fW s) va (rdL s) L vc w5 HL.out (by omega) hov5.ints).mono fun e w6 h => ?_
          obtain ⟨rfl, b⟩ := h
          have hbr6 := hbr5.below b (Nat.le_refl _)
          have hbb6 := hbb5.below b (Nat.le_refl _)
          have hov6 := hov5.below b (Nat.le_refl _)
          have hB6 := hB5.trans (b.mono hB5.size)
          have e3 := hbb6.at 0 rfl
          have e4 := hbb6.at 1 rfl
          have g0 := hbr6.cell 0
          have g1 := hbr6.cell 1
          have f0 := hbr6.free 0
          have f1 := hbr6.free 1
          clear b hbb5 hbr5 hov5 hB5
          by_cases ht : boardT (fW s) (rdL s) = s
          · rw [ht] at htest
            have hR : Hid (rdB s = true) := by unfold Hid; rw [← htest]; simp
            rw [ht]
            have HFR := hid (fW_eq (rdB_to hR.out).head)
            clear htest ht
            go_wp2_with fail
            refine (boardCopy_any (fW s) va (rdL s) L vc w6 HL.out (by omega) hov6.ints).mono fun e w7 h => ?_
            obtain ⟨ac, cc, rfl, hcc, oc, b⟩ := h.to HL.out
            have hbr7 := hbr6.below b (Nat.le_refl _)
            have hlw := hB6.size
            have oc6 := oc.lower (B' := w.heap.size) hlw
            have ock := hid (World.ownsRow.lt oc)
            have hB7 := hB6.trans (b.mono hlw)
            have hbl := hbr6.lt
            have g70 := hbr7.cell 0
            have g71 := hbr7.cell 1
            have f70 := hbr7.free 0
            have f71 := hbr7.free 1
            have hne : (Value.slice ac L cc).ownBlock = none ∨ (Value.slice ac L cc).ownBlock ≠ some w.heap.size := by
              cases hb : (Value.slice ac L cc).ownBlock with
              | none => exact .inl rfl
              | some q => exact .inr fun e => by have := (ock.out q hb).1; have := Option.some.inj e; omega
            have oc7 := (oc6.setOther w.heap.size 0 (.int .i64 (fW s)) hne).setOther w.heap.size 1 (.slice ac L cc) hne
            have hB8 := (hB7.setCell (p := ⟨w.heap.size, 0, none⟩) (Nat.le_refl _) (.int .i64 (fW s))).setCell (p := ⟨w.heap.size, 1, none⟩) (Nat.le_refl _) (.slice ac L cc)
            have HF := hid (rb_some hR.out HFR.out HL.out hcc oc7 hB8)
            clear h b oc oc6 oc7 hB7 hB8 hne hbr6 hbb6 hov6 hB6 e3 e4 g0 g1 f0 f1 hbr7
            go_wp2_with fail
            exact bodyPost_ret (v := .tuple #[.agg #[.int .i64 (fW s), .slice ac L cc], .bool true]) (by simp [results, Try.results13, go_sem, g70, g71]) rfl HF.out
          · have hR : Hid (rdB s = false) := by unfold Hid; rw [← htest]; simp [ht]
            have B2 := hid ((hB6.setCell (p := ⟨w.heap.size, 0, none⟩) (Nat.le_refl _) (.int .i64 0)).setCell (p := ⟨w.heap.size, 1, none⟩) (Nat.le_refl _) (.slice none 0 0))
            have hts : ((boardT (fW s) (rdL s)).toList == s.toList) = false := by
              rw [beq_eq_false_iff_ne]; intro e
              rw [ByteArray.toList_eq, ByteArray.toList_eq] at e
              exact ht (bts_inj e)
            clear htest ht
            go_wp2_with fail
            exact bodyPost_ret (v := .tuple #[.agg #[.int .i64 0, .slice none 0 0], .bool false]) (by simp [results, Try.results13, go_sem, g0, g1]) rfl (rb_zero hR.out B2.out)

end Go.Proofs.Ytaepoddlhghdpaa
