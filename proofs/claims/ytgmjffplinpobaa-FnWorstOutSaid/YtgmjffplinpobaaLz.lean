/- The walk of RankOf. -/
import Derived.Test.YtgmjffplinpobaaLy
namespace Go.Proofs.Ytgmjffplinpobaa
open Go Go.RowKit

set_option maxRecDepth 100000 in
set_option maxHeartbeats 2000000 in
theorem implRankOf_any (ao : Option Addr) (xs : List Int) (n c : Nat) (w : World) (hn : xs.length = n) (hok : GrOk xs) (hx : IntsAt w ao (iN (rwl xs n))) :
    Calls Try.prog 24 #[.slice ao n c] w fun e w' => (∃ R : Nat, e = .returned (.int .i64 R) ∧ RkEnd xs R) ∧ Below w.heap.size w w' := by
  have HN := hid hn
  have HOK := hid hok
  have hn1 := hok.pos
  have hn9 := hok.max
  rw [hn] at hn1 hn9
  have h512 := pow9 hn9
  have hrl : Hid (∀ k, k < n → row xs k < 512) := fun k hk => by have := hok.row_lt (k := k) (by omega); rw [hn] at this; omega
  have HRL : Hid ((iN (rwl xs n)).length = n) := by unfold Hid; rw [length_iN, length_rwl]
  obtain ⟨b, off, rfl, hc⟩ := hx (by rw [HRL.out]; omega)
  have HC := hid hc
  clear hn hok hc
  obtain ⟨i0, hi, hz0, hz1, hz2⟩ := info_parts Try.infoInt
  go_enter Try.func24, Try.ntmps24
  go_wp2_with (at_make; refine wpList_make_full _ rfl _ _ 23 rfl w.heap.size 3 i0 (.int .i64 0) 1 Try.underlying23 hi hz0 hz1 _ _ _ _ n rfl rfl ?m3 ?m4 ?m1 ?m2 (Nat.le_refl _) ?_)
  case m1 => rw [hz2]; omega
  case m2 => unfold maxLen; omega
  case m3 => rfl
  case m4 => rfl
  intro w2 hown hgrow
  have ho := Own.made hown
  have B := (Below.refl w.heap.size w).grown hgrow (Nat.le_refl _) (by simp)
  obtain ⟨g, hgeq⟩ : ∃ g, w.heap.size = g := ⟨_, rfl⟩
  rw [hgeq] at ho
  have hgl := ho.base
  clear hown hgrow hi hz0 hz1 hz2 i0
  go_wp2_with fail
  rw [hgeq]
  go_loopw [4, 5, 18] (fun _ _ i wr => ∃ k : Nat, k ≤ n ∧ i = .int .i64 k ∧ Own wr g (.slice (some ⟨g, 0, none⟩) n n) (filled (iN (rwl xs k)) n) ∧ Below g w wr) (fun _ _ i _ => n - (intOf i).toNat)
  case atStart => exact ⟨0, Nat.zero_le _, rfl, by rw [show iN (rwl xs 0) = [] from rfl, filled_nil]; exact ho, by rw [← hgeq]; exact B⟩
  case round =>
    obtain ⟨k, hk, rfl, hok, hB⟩ := hrel
    clear ho B
    have hil : Hid ((iN (rwl xs k)).length = k) := by unfold Hid; rw [length_iN, length_rwl]
    by_cases hlt : k < n
    · obtain ⟨b', off', he, hc⟩ := (hx.below hB (Nat.le_of_eq hgeq)) (by rw [HRL.out]; omega)
      have hck := hc k (by rw [HRL.out]; exact hlt)
      rw [nth_iN (by rw [length_rwl]; exact hlt), ng_rwl xs hlt] at hck
      have hr9 := hrl.out k hlt
      have hlen : Hid ((filled (iN (rwl xs k)) n).length = n) := length_filled (by rw [hil.out]; omega)
      have hcg := hok.cell (j := k) (by rw [hlen.out]; exact hlt)
      have hfk := hok.free hlen.out.symm k
      have hst := hok.stored hlen.out.symm k (row xs k : Nat)
      have hset : Hid ((filled (iN (rwl xs k)) n).set k (row xs k : Nat) = filled (iN (rwl xs (k + 1))) n) := by
        unfold Hid; rw [filled_set hil.out hlt, iN_snoc]; rfl
      rw [hset.out] at hst
      have hbs := hB.setCell (p := ⟨g, k, none⟩) (Nat.le_refl _) (.int .i64 (row xs k : Nat))
      obtain ⟨rfl, rfl⟩ : b' = b ∧ off' = off := by simp at he; exact ⟨he.1.symm, he.2.symm⟩
      clear hok hB hset hc he
      generalize row xs k = x at *
      generalize filled (iN (rwl xs k)) n = X at *
      have hz1 : decide ((x : Int) < 0) = false := decide_eq_false (by omega)
      have hz2 : decide ((512 : Int) ≤ x) = false := decide_eq_false (by omega)
      go_wp2
      go_roundw
      case rel => exact ⟨k + 1, by omega, by go_num, hst, hbs⟩
      case measure => simp [intOf]; omega
    · obtain rfl : k = n := by omega
      rw [filled_full hil.out] at hok
      have hS : RkS xs (rwl xs k) 0 0 := RkS.start HOK.out (by rw [length_rwl, HN.out]) (fun j hj => ng_rwl xs (by rw [HN.out] at hj; exact hj))
      go_wp2_with fail
      go_loopw [6, 7, 8, 9, 34] (fun s _ _ _ i wr => ∃ (l : Nat) (ls : List Nat) (ch : Nat), l ≤ 9 ∧ i = .int .i64 l ∧ s = .int .i64 ch ∧ Own wr g (.slice (some ⟨g, 0, none⟩) k k) (iN ls) ∧ Hid (RkS xs ls ch l) ∧ Below g w wr) (fun _ _ _ _ i _ => 9 - (intOf i).toNat)
      case atStart => exact ⟨0, rwl xs k, 0, by omega, rfl, rfl, hok, hS, hB⟩
      case round =>
        obtain ⟨l, ls, ch, hl9, rfl, rfl, hol, hS2, hB2⟩ := hrel
        clear hok hB
        have hll : ls.length = k := by have := hS2.out.len; rw [HN.out] at this; exact this
        have hls : ∀ j, j < k → ng ls j < 512 := fun j hj => by have := hS2.out.lt j (by rw [HN.out]; exact hj); rw [HN.out] at this; omega
        have hch : ch < 512 := by have := hS2.out.chl; rw [HN.out] at this; omega
        have HLL := hid hll
        have HLS := hid hls
        clear hll hls
        by_cases hlt9 : l < 9
        · go_wp2_with fail
          refine (firstWith_any (some ⟨g, 0, none⟩) ls k k ch l wr HLL.out hn9 (fun j hj => by have := HLS.out j hj; omega) (by omega) (by omega) hol.ints).mono fun e w3 h => ?_
          obtain ⟨hf, rfl⟩ := h
          rcases hf with ⟨rfl, hno⟩ | ⟨p, hp, rfl, hpc, hpb⟩
          · have hnx : Hid (RkS xs ls ch (l + 1)) := hS2.out.skip (fun j hj hc => hno j (by rw [HN.out] at hj; exact hj) hc)
            clear hno
            go_wp2
            go_roundw
            case rel => exact ⟨l + 1, ls, ch, by omega, by go_num, rfl, hol, hnx, hB2⟩
            case measure => simp [intOf]; omega
          · have hnx : Hid (RkS xs (el ls p l k) (ch ||| 2 ^ p) (l + 1)) := by
              have := hS2.out.pick (p := p) (by rw [HN.out]; exact hp) hpc hpb
              rw [HN.out] at this; exact this
            have hbo : bits .or .i64 (ch : Int) (wrap64 (2 ^ p)) = ((ch ||| 2 ^ p : Nat) : Int) := bit_or (by omega) (by omega)
            obtain ⟨C, hC⟩ : ∃ C, ch ||| 2 ^ p = C := ⟨_, rfl⟩
            rw [hC] at hbo hnx
            clear hC hpc hpb
            go_wp2_with fail
            go_loopw [9, 49] (fun _ i wi => ∃ j : Nat, j ≤ k ∧ i = .int .i64 j ∧ Own wi g (.slice (some ⟨g, 0, none⟩) k k) (iN (el ls p l j)) ∧ Below g w wi) (fun _ i _ => k - (intOf i).toNat)
            case atStart => exact ⟨0, Nat.zero_le _, rfl, hol, hB2⟩
            case round =>
              obtain ⟨j, hj, rfl, hoj, hBj⟩ := hrel
              clear hol hB2
              by_cases hjk : j < k
              · have hEl : Hid ((el ls p l j).length = k) := by unfold Hid; rw [el_len]; exact HLL.out
                have hEL2 : Hid ((iN (el ls p l j)).length = k) := by unfold Hid; rw [length_iN]; exact hEl.out
                have hgj : ng (el ls p l j) j = ng ls j := by rw [el_get j j (by rw [HLL.out]; omega), if_neg (by omega)]
                have hgp : ng (el ls p l j) p = ng ls p := by rw [el_get p j (by rw [HLL.out]; omega), if_neg (by simp)]
                have hcj := hoj.cell (j := j) (by rw [hEL2.out]; exact hjk)
                have hcp := hoj.cell (j := p) (by rw [hEL2.out]; exact hp)
                have hfj := hoj.free hEL2.out.symm j
                rw [nth_iN (by rw [hEl.out]; exact hjk)] at hcj
                rw [nth_iN (by rw [hEl.out]; exact hp)] at hcp
                have hm9 := HLS.out j hjk
                have hp9 := HLS.out p hp
                have hes : el ls p l (j + 1) = if j ≠ p ∧ (ng (el ls p l j) j).testBit l = true then (el ls p l j).set j (ng (el ls p l j) j ^^^ ng (el ls p l j) p) else el ls p l j := rfl
                rw [hgj] at hcj hes
                rw [hgp] at hcp hes
                obtain ⟨m, hm⟩ : ∃ m, ng ls j = m := ⟨_, rfl⟩
                obtain ⟨mp, hmp⟩ : ∃ m, ng ls p = m := ⟨_, rfl⟩
                rw [hm] at hcj hes hm9
                rw [hmp] at hcp hes hp9
                have HES := hid hes
                have hb1 := bit_test (m := m) (t := l) (by omega)
                have hx2 : bits .xor .i64 (m : Int) (mp : Int) = ((m ^^^ mp : Nat) : Int) := i64_xor (by omega) (by omega)
                clear hm hmp hgj hgp hes
                by_cases hjp : j = p
                · have hjb : ((j : Int) != p) = false := by rw [hjp]; simp
                  have hst : Hid (el ls p l (j + 1) = el ls p l j) := by unfold Hid; rw [HES.out, if_neg (fun h => h.1 hjp)]
                  clear hjp
                  rw [← hst.out] at hoj
                  go_wp2
                  go_roundw
                  case rel => exact ⟨j + 1, by omega, by go_num, hoj, hBj⟩
                  case measure => simp [intOf]; omega
                · have hjb : ((j : Int) != p) = true := by simp; omega
                  cases hbm : m.testBit l with
                  | false =>
                    rw [hbm] at hb1
                    have hst : Hid (el ls p l (j + 1) = el ls p l j) := by unfold Hid; rw [HES.out, if_neg (fun h => by rw [hbm] at h; exact absurd h.2 (by simp))]
                    rw [← hst.out] at hoj
                    clear hbm
                    go_wp2
                    go_roundw
                    case rel => exact ⟨j + 1, by omega, by go_num, hoj, hBj⟩
                    case measure => simp [intOf]; omega
                  | true =>
                    rw [hbm] at hb1
                    have hst : Hid (el ls p l (j + 1) = (el ls p l j).set j (m ^^^ mp)) := by unfold Hid; rw [HES.out, if_pos ⟨hjp, hbm⟩]
                    have hos := hoj.stored hEL2.out.symm j (m ^^^ mp : Nat)
                    rw [iN_set, ← hst.out] at hos
                    have hbs := (hBj.setCell (p := ⟨g, j, none⟩) (Nat.le_refl _) (.int .i64 (m ^^^ mp : Nat))).drew
                    have hos2 : Own (wr.setCell ⟨g, j, none⟩ (.int .i64 (m ^^^ mp : Nat))).drew g (.slice (some ⟨g, 0, none⟩) k k) (iN (el ls p l (j + 1))) := hos
                    clear hbm hos hoj hBj
                    generalize m ^^^ mp = y at *
                    go_wp2
                    go_region
                    clear hcj hcp hfj
                    go_wp2
                    go_roundw
                    case rel => exact ⟨j + 1, by omega, by go_num, hos2, hbs⟩
                    case measure => simp [intOf]; omega
              · obtain rfl : j = k := by omega
                go_wp2
                go_roundw
                case rel => exact ⟨l + 1, _, C, by omega, by go_num, rfl, hoj, hnx, hBj⟩
                case measure => simp [intOf]; omega
        · obtain rfl : l = 9 := by omega
          have hfin : Hid (RkEnd xs (pc ch)) := hS2.out.finish HOK.out
          go_wp2_with fail
          refine (countBits_any ch wr (by omega)).mono fun e w3 h => ?_
          obtain ⟨rfl, rfl⟩ := h
          go_wp2
          go_ret
          exact ⟨⟨_, rfl, hfin.out⟩, by rw [hgeq]; exact hB2⟩

end Go.Proofs.Ytgmjffplinpobaa
