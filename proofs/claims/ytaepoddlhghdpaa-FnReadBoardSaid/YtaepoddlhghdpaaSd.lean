/- The walk of spec.ReadBoard. -/
import Derived.Test.YtaepoddlhghdpaaSc
import Derived.Test.YtaepoddlhghdpaaSo
namespace Go.Proofs.Ytaepoddlhghdpaa
open Go Go.RowKit

/-- The numbers of the first k pieces. -/
def tR (rows : List ByteArray) (k : Nat) : List Int := (rows.take k).flatMap fun r => (bts r).map dgI
theorem tR_succ {rows : List ByteArray} {k : Nat} (h : k < rows.length) : tR rows (k + 1) = tR rows k ++ (bts rows[k]).map dgI := by
  unfold tR
  rw [List.take_succ_eq_append_getElem h, List.flatMap_append]; simp
theorem tR_all (s : ByteArray) : tR (cutR s) (cutR s).length = rdL s := by
  unfold tR rdL
  rw [List.take_length, ← cutR_flat]
  induction cutR s with
  | nil => rfl
  | cons r l ih => rw [List.flatMap_cons, List.flatMap_cons, List.map_append, ih]
/-- What is read while j bytes of piece k are. -/
def tJ (rows : List ByteArray) (k : Nat) (r : ByteArray) (j : Nat) : List Int := tR rows k ++ ((bts r).take j).map dgI
theorem tJ_zero (rows : List ByteArray) (k : Nat) (r : ByteArray) : tJ rows k r 0 = tR rows k := by simp [tJ]
theorem tJ_succ {rows : List ByteArray} {k : Nat} {r : ByteArray} {j : Nat} (h : j < r.size) : tJ rows k r (j + 1) = tJ rows k r j ++ [dgI r[j]] := by
  unfold tJ; rw [bts_take r h, List.map_append, List.append_assoc]; rfl
theorem tJ_all {rows : List ByteArray} {k : Nat} (h : k < rows.length) : tJ rows k rows[k] (rows[k]).size = tR rows (k + 1) := by
  unfold tJ; rw [tR_succ h, List.take_of_length_le (by rw [bts_length]; exact Nat.le_refl _)]
theorem tJ_len (s : ByteArray) {k j : Nat} (h : k < (cutR s).length) : (tJ (cutR s) k (cutR s)[k] j).length ≤ s.size := by
  have h1 := length_rdL s
  rw [← tR_all] at h1
  have h2 : ∀ a b, a ≤ b → b ≤ (cutR s).length → (tR (cutR s) a).length ≤ (tR (cutR s) b).length := by
    intro a b hab hb
    induction b with
    | zero => have : a = 0 := by omega
              subst this; exact Nat.le_refl _
    | succ b ih =>
      by_cases e : a = b + 1
      · subst e; exact Nat.le_refl _
      · have := ih (by omega) (by omega)
        rw [tR_succ (by omega), List.length_append]; omega
  have h3 : (tJ (cutR s) k (cutR s)[k] j).length ≤ (tR (cutR s) (k + 1)).length := by
    unfold tJ
    rw [tR_succ h, List.length_append, List.length_append, List.length_map, List.length_map]
    have := List.length_take_le j (bts (cutR s)[k])
    have : ((bts (cutR s)[k]).take j).length ≤ (bts (cutR s)[k]).length := by rw [List.length_take]; omega
    omega
  have := h2 (k + 1) (cutR s).length (by omega) (Nat.le_refl _)
  omega

set_option maxRecDepth 100000 in
set_option maxHeartbeats 4000000 in
theorem specReadBoard_any (s : ByteArray) (w : World) (hs : s.size ≤ 10000000) :
    Calls Try.prog 12 #[.string s] w (RetBB w (rbW s) (rbL s) (rdB s)) := by
  have B := (Below.refl w.heap.size w).alloc (Nat.le_refl _) (.cells #[.int .i64 0, .slice none 0 0] 27)
  have br := Blk.new w #[.int .i64 0, .slice none 0 0] 27
  obtain ⟨r0, rest, hr0, hr1⟩ := cutR_head s
  obtain ⟨n, hn⟩ : ∃ n, (cutR s).length = n := ⟨_, rfl⟩
  have hn0 : 0 < n := by rw [← hn, hr0]; simp
  have hn1 : n ≤ 10000001 := by have := cutR_len s; omega
  have HN := hid hn
  have hW : Hid (((r0.size : Nat) : Int) = rdW s) := by unfold Hid rdW; rw [hr1]
  go_enter Try.func12, Try.ntmps12
  go_wp2_with fail
  refine (l1Cut_any s _ hs).mono fun e w1 h => ?_
  obtain ⟨v1, rfl, ot, b⟩ := h
  have B1 := B.trans (b.mono B.size)
  have br1 := br.below b (Nat.le_refl _)
  obtain ⟨g1, c1, rfl, hg1, hg1l, hcell⟩ := ot.shape hn hn0
  have e0 : w1.cell? ⟨g1, 0, none⟩ = some (.string r0) := by
    have := hcell 0 (by omega)
    simp only [hr0, List.getElem_cons_zero] at this
    exact this
  have br2 := br1.alloc (.cells #[.int .i64 (r0.size : Nat), .slice none 0 0] 27)
  have bb2 := Blk.new w1 #[.int .i64 (r0.size : Nat), .slice none 0 0] 27
  have B2 := B1.alloc B1.size (.cells #[.int .i64 (r0.size : Nat), .slice none 0 0] 27)
  have hwl : w.heap.size < w1.heap.size := br1.lt
  have HC := hid hcell
  have hb2 := (Below.refl w1.heap.size w1).alloc (Nat.le_refl _) (.cells #[.int .i64 (r0.size : Nat), .slice none 0 0] 27)
  have hB1 := B1.size
  clear b B br hr0 hr1 hcell hn
  go_wp2_with fail
  clear e0 br2 B2
  go_loopw [6, 7] (fun i _ wr => ∃ (k : Nat) (v : Value), k ≤ n ∧ i = .int .i64 k ∧ Blk wr w1.heap.size #[.int .i64 (r0.size : Nat), v] 27 ∧ Own wr (w1.heap.size + 1) v (tR (cutR s) k) ∧ Below w1.heap.size w1 wr) (fun i _ _ => n - (intOf i).toNat)
  case atStart => exact ⟨0, .slice none 0 0, Nat.zero_le _, rfl, bb2, Own.nil _ _, hb2⟩
  case round =>
    clear bb2 hb2
    obtain ⟨k, v, hk, rfl, hbb, hov, hb⟩ := hrel
    by_cases hlt : k < n
    · have hkl : k < (cutR s).length := by rw [HN.out]; exact hlt
      have hck := HC.out k hkl
      have hrs := cutR_size s _ (List.getElem_mem hkl)
      have htl := fun j => tJ_len s (j := j) hkl
      have hta := tJ_all hkl
      have htz := tJ_zero (cutR s) k (cutR s)[k]
      have hts := fun j (h : j < (cutR s)[k].size) => tJ_succ (rows := cutR s) (k := k) (r := (cutR s)[k]) h
      obtain ⟨r, hr⟩ : ∃ r, (cutR s)[k] = r := ⟨_, rfl⟩
      rw [hr] at hck hrs htl hta htz hts
      have HTL := hid htl
      have HTA := hid hta
      have HTS := hid hts
      rw [← htz] at hov
      clear htl hta htz hts hr
      go_wp2
      obtain ⟨wo, hwo⟩ : ∃ wo : World, wo = wr := ⟨_, rfl⟩
      subst hwo
      go_loopw [7] (fun i wi => ∃ (j : Nat) (v : Value), j ≤ r.size ∧ i = .int .i64 j ∧ Blk wi w1.heap.size #[.int .i64 (r0.size : Nat), v] 27 ∧ Own wi (w1.heap.size + 1) v (tJ (cutR s) k r j) ∧ Below w1.heap.size w1 wi) (fun i _ => r.size - (intOf i).toNat)
      case atStart => exact ⟨0, v, Nat.zero_le _, rfl, hbb, hov, hb⟩
      case round =>
        clear hbb hov hb
        obtain ⟨j, v, hj, rfl, hbb, hov, hb⟩ := hrel
        have hlb := hbb.lt
        have hcr : wr.cell? ⟨g1, k, none⟩ = some (.string r) := (hb.cell (p := ⟨g1, k, none⟩) hg1l).trans hck
        by_cases hjt : j < r.size
        · have hx1 : (r.extract j (j + 1)).size = 1 := by rw [ByteArray.size_extract]; omega
          have hx0 : (r.extract j (j + 1))[0]'(by omega) = r[j] := by rw [ByteArray.getElem_extract]; simp
          obtain ⟨x, hx⟩ : ∃ x, dgI r[j] = x := ⟨_, rfl⟩
          have HX : Hid (dgI ((r.extract j (j + 1))[0]'(by omega)) = x) := by unfold Hid; rw [hx0, hx]
          have hst : Hid (tJ (cutR s) k r (j + 1) = tJ (cutR s) k r j ++ [x]) := by unfold Hid; rw [HTS.out j hjt, hx]
          have hln := HTL.out j
          obtain ⟨L, hL⟩ : ∃ L, (tJ (cutR s) k r j).length = L := ⟨_, rfl⟩
          have HL := hid hL
          rw [hL] at hln
          clear hx hx0 hL
          have ba : Below wr.heap.size wr (wr.alloc (.cells #[.int .i64 x] 3)).drew := ((Below.refl _ _).alloc (Nat.le_refl _) _).drew
          have hova : Own (wr.alloc (.cells #[.int .i64 x] 3)).drew (w1.heap.size + 1) v (tJ (cutR s) k r j) := hov.alloc _
          have hol : Own (wr.alloc (.cells #[.int .i64 x] 3)).drew wr.heap.size (.slice (some ⟨wr.heap.size, 0, none⟩) 1 1) [x] := Own.one wr x (Nat.le_refl _)
          have hbba : Blk (wr.alloc (.cells #[.int .i64 x] 3)).drew w1.heap.size #[.int .i64 (r0.size : Nat), v] 27 := hbb.alloc _
          have hBa := hb.trans (ba.mono (by omega))
          have hsa : w1.heap.size + 1 ≤ (wr.alloc (.cells #[.int .i64 x] 3)).drew.heap.size := by show _ ≤ (wr.alloc (.cells #[.int .i64 x] 3)).heap.size; simp; omega
          have e1 := hbb.at 1 rfl
          obtain ⟨va, vc, rfl, _, _⟩ := hov.shapeN HL.out
          have hj1 : IntKind.i64.wrap ((j : Int) + 1) = (j : Int) + 1 := IntWalk.i64_in _ (by omega)
          have hj2 : 0 ≤ (j : Int) + 1 := by omega
          have hj3 : ((j : Int) + 1).toNat = j + 1 := by omega
          have hsl : ∀ W, (Instr.slice 9 (.string r) (some (.int .i64 (j : Int))) (some (.int .i64 ((j : Int) + 1))) none).run Try.prog W = .ok (.string (r.extract j (j + 1))) W := fun W => by
            rw [run_slice_string (P := Try.prog) W 9 r .i64 .i64 j (j + 1) Try.underlying9 (by omega) (by omega) (by omega)]
            rw [hj3, Int.toNat_natCast]
          go_wp2
          go_region_law (first
            | (refine step_appL rfl (.tmp 31) (.tmp 41) rfl rfl hova rfl hol hsa (by rw [HL.out]; simp; omega) ?_
               intro v5 w5 hov5 hg5 hat5
               obtain ⟨a5, c5, hv5, _, _⟩ := hov5.shapeN (n := L + 1) (by have := HL.out; simp; omega)
               subst hv5
               have hne5 : some (w1.heap.size) ≠ (Value.slice va L vc).ownBlock := (hova.ne_blk (by omega))
               have hbb5 := hbba.kept hg5 hne5
               have d5 := hbb5.at 1 rfl
               have f5 := hbb5.free 1)
            | (go_simp
               go_wp2_with (go_at_call 29; refine (l1Digits_one (r.extract j (j + 1)) _ hx1).mono ?_; rintro e w7 ⟨rfl, rfl⟩; rw [HX.out])))
          all_goals
            have hB5 := hBa.grown hg5 (by omega) (fun q e => by have := (World.ownsRow.lt hova q e).1; omega)
            have hbb6 := hbb5.set 1 (.slice a5 (L + 1) c5)
            have hov6 := hov5.setOther w1.heap.size 1 (.slice a5 (L + 1) c5) (hov5.ne_of_lt (by omega))
            have hB6 := hB5.setCell (p := ⟨w1.heap.size, 1, none⟩) (Nat.le_refl _) (.slice a5 (L + 1) c5)
            rw [← hst.out] at hov6
            clear hB5 hbb5 hov5 hg5 hat5 hova hol hbba hBa ba d5 f5 hov hbb hb e1 hsl hj1 hj2 hj3
            go_wp2
            go_roundw
            case rel => exact ⟨j + 1, _, by omega, by go_num, hbb6, hov6, hB6⟩
            case measure => simp [intOf]; omega
        · obtain rfl : j = r.size := by omega
          have hd9 : decide (r.size < r.size) = false := decide_eq_false (by omega)
          rw [HTA.out] at hov
          go_wp2
          go_roundw
          case rel => exact ⟨k + 1, v, by omega, by go_num, hbb, hov, hb⟩
          case measure => simp [intOf]; omega
    · obtain rfl : k = n := by omega
      have hd9 : decide (k < k) = false := decide_eq_false (by omega)
      rw [← HN.out, tR_all] at hov
      have hln := length_rdL s
      obtain ⟨L, hL⟩ : ∃ L, (rdL s).length = L := ⟨_, rfl⟩
      rw [hL] at hln
      have HL := hid hL
      obtain ⟨va, vc, rfl, _, hvc⟩ := hov.shapeN hL
      rw [hW.out] at hbb
      have hB3 := B1.trans (hb.mono hB1)
      have hbr3 := br1.below hb (Nat.le_refl _)
      have e3 := hbb.at 0 rfl
      have e4 := hbb.at 1 rfl
      have g0 := hbr3.cell 0
      have g1' := hbr3.cell 1
      have f0 := hbr3.free 0
      have f1 := hbr3.free 1
      clear hL
      by_cases h0 : s.size = 0
      · have hR := hid (spec_test0 h0)
        have B2 := hid ((hB3.setCell (p := ⟨w.heap.size, 0, none⟩) (Nat.le_refl _) (.int .i64 0)).setCell (p := ⟨w.heap.size, 1, none⟩) (Nat.le_refl _) (.slice none 0 0))
        have hem : s.toList = [] := by rw [ByteArray.toList_eq]; exact List.eq_nil_of_length_eq_zero (by rw [Array.length_toList]; exact h0)
        clear hbb hov hb
        go_wp2_with fail
        exact bodyPost_ret (v := .tuple #[.agg #[.int .i64 0, .slice none 0 0], .bool false]) (by simp [results, Try.results12, go_sem, g0, g1']) rfl (rb_zero hR.out B2.out)
      · have hem : s.toList.isEmpty = false := by
          rw [ByteArray.toList_eq]
          cases h : s.data.toList with
          | nil => exact absurd (by have : s.data.toList.length = 0 := by rw [h]; rfl
                                    rw [Array.length_toList] at this; exact this) h0
          | cons a l => rfl
        have hxi := hov.ints
        go_wp2_with fail
        refine (specBoardText_any (rdW s) va (rdL s) L vc wr HL.out (by omega) hvc hxi).mono fun e w6 h => ?_
        obtain ⟨rfl, b⟩ := h
        have hbb6 := hbb.below b (Nat.le_refl _)
        have hov6 := hov.below b (Nat.le_refl _)
        have hbr6 := hbr3.below b (Nat.le_refl _)
        have hB6 := hB3.trans (b.mono hB3.size)
        have e3 := hbb6.at 0 rfl
        have e4 := hbb6.at 1 rfl
        have g0 := hbr6.cell 0
        have g1' := hbr6.cell 1
        have f0 := hbr6.free 0
        have f1 := hbr6.free 1
        clear b hxi hbb hov hb hB3 hbr3
        by_cases ht : boardT (rdW s) (rdL s) = s
        · have hR := hid (spec_test ht h0)
          have hts : ((boardT (rdW s) (rdL s)).toList == s.toList) = true := by rw [ht]; simp
          have hlw : w.heap.size ≤ w1.heap.size + 1 := by omega
          have oc6 := hov6.lower (B' := w1.heap.size + 1) (Nat.le_refl _)
          have ock := hid (World.ownsRow.lt oc6)
          have hne : (Value.slice va L vc).ownBlock = none ∨ (Value.slice va L vc).ownBlock ≠ some w.heap.size := by
            cases hb : (Value.slice va L vc).ownBlock with
            | none => exact .inl rfl
            | some q => exact .inr fun e => by have := (ock.out q hb).1; have := Option.some.inj e; omega
          have oc7 := (((oc6.lower (B' := w.heap.size) hlw).setOther w.heap.size 0 (.int .i64 (rdW s)) hne).setOther w.heap.size 1 (.slice va L vc) hne)
          have hB8 := (hB6.setCell (p := ⟨w.heap.size, 0, none⟩) (Nat.le_refl _) (.int .i64 (rdW s))).setCell (p := ⟨w.heap.size, 1, none⟩) (Nat.le_refl _) (.slice va L vc)
          have HF := hid (rb_some hR.out rfl HL.out hvc oc7 hB8)
          clear oc6 oc7 hB8 hB6 hne ht
          go_wp2_with fail
          exact bodyPost_ret (v := .tuple #[.agg #[.int .i64 (rdW s), .slice va L vc], .bool true]) (by simp [results, Try.results12, go_sem, g0, g1']) rfl HF.out
        · have hR : Hid (rdB s = false) := by
            unfold Hid
            cases hr : rdB s with
            | false => rfl
            | true => exact absurd (rdB_to hr).txt ht
          have B2 := hid ((hB6.setCell (p := ⟨w.heap.size, 0, none⟩) (Nat.le_refl _) (.int .i64 0)).setCell (p := ⟨w.heap.size, 1, none⟩) (Nat.le_refl _) (.slice none 0 0))
          have hts : ((boardT (rdW s) (rdL s)).toList == s.toList) = false := by
            rw [beq_eq_false_iff_ne]; intro e
            rw [ByteArray.toList_eq, ByteArray.toList_eq] at e
            exact ht (bts_inj e)
          clear ht
          go_wp2_with fail
          exact bodyPost_ret (v := .tuple #[.agg #[.int .i64 0, .slice none 0 0], .bool false]) (by simp [results, Try.results12, go_sem, g0, g1']) rfl (rb_zero hR.out B2.out)

end Go.Proofs.Ytaepoddlhghdpaa
