/- The walk of impl.WorstOut. -/
import Derived.Test.YtgmjffplinpobaaWa
namespace Go.Proofs.Ytgmjffplinpobaa
open Go Go.RowKit

set_option maxRecDepth 100000 in
set_option maxHeartbeats 2000000 in
theorem implWorstOut_any (ao : Option Addr) (xs : List Int) (n c : Nat) (w : World) (hn : xs.length = n) (hl : n ≤ 17592186044416) (hx : IntsAt w ao xs) :
    Calls Try.prog 28 #[.agg #[.slice ao n c]] w fun e w' => e = .returned (.int .i64 (worstW xs)) ∧ Below w.heap.size w w' := by
  have HN := hid hn
  have B := (Below.refl w.heap.size w).alloc (Nat.le_refl _) (.cells #[.slice ao n c] 25)
  have bk := Blk.new w #[.slice ao n c] 25
  have hsz : (w.alloc (.cells #[.slice ao n c] 25)).heap.size = w.heap.size + 1 := by simp
  have e0 := bk.at 0 rfl
  have hfin := hid (mxI_end (xs := xs))
  have hfin0 := hid (worstW_out (xs := xs))
  clear hn
  obtain ⟨i0, hi, hz0, hz1, hz2⟩ := info_parts Try.infoInt
  go_enter Try.func28, Try.ntmps28
  go_wp2_with fail
  generalize (w.alloc (.cells #[.slice ao n c] 25)) = w0 at *
  refine (implGraphValid_any ao xs n c w0 HN.out hl (hx.below B (Nat.le_refl _))).mono fun e w1 h => ?_
  cases hg : grB xs with
  | false =>
    rw [hg] at h
    obtain ⟨rfl, b⟩ := h
    have hf := hid (hfin0.out hg)
    have B := B.trans (b.mono B.size)
    clear e0 b bk hg hi hz0 hz1 hz2 i0
    go_wp2_with fail
    go_ret
    exact ⟨ret_int hf.out.symm, B⟩
  | true =>
    rw [hg] at h
    obtain ⟨rfl, b⟩ := h
    have hok := hid (grB_iff.1 hg)
    have B := B.trans (b.mono B.size)
    have bk := bk.below b (Nat.le_refl _)
    have hlt1 := bk.lt
    have hn9 := hok.out.max
    rw [HN.out] at hn9
    have hp : wrap64 (2 ^ n) = ((2 ^ n : Nat) : Int) := wrap_pow (by omega)
    have h512 := pow9 hn9
    have hpl : Hid (∀ k, press xs k < 2 ^ n) := fun k => by have := hok.out.press_lt k; rw [HN.out] at this; exact this
    have hfm := hfin.out hok.out
    rw [HN.out] at hfm
    obtain ⟨P, hP⟩ : ∃ P, 2 ^ n = P := ⟨_, rfl⟩
    rw [hP] at hp h512 hpl hfm
    have HF := hid hfm
    have HP := hid hp
    clear b hg e0 hP hp hfm hfin0 hfin hsz
    have e0 := bk.at 0 rfl
    go_wp2_with (at_make; refine wpList_make_full _ rfl _ _ 23 rfl (w.heap.size + 1) 3 i0 (.int .i64 0) 1 Try.underlying23 hi hz0 hz1 _ _ _ _ P rfl rfl ?m3 ?m4 ?m1 ?m2 (by omega) ?_)
    case m1 => rw [hz2]; omega
    case m2 => unfold maxLen; omega
    case m3 => exact HP.out
    case m4 => exact HP.out
    intro w2 hown hgrow
    have ho := Own.made hown
    have bk := bk.kept hgrow (fun e => by cases e)
    have B := B.grown hgrow B.size (by simp)
    obtain ⟨g, hgeq⟩ : ∃ g, w1.heap.size = g := ⟨_, rfl⟩
    rw [hgeq] at ho
    have hgl := ho.base
    clear hown hgrow hi hz0 hz1 hz2 i0 e0
    go_wp2_with fail
    rw [hgeq]
    clear hgeq hlt1
    go_loopw [4, 21] (fun _ i wr => ∃ k : Nat, k ≤ P ∧ i = .int .i64 k ∧ Own wr (w.heap.size + 1) (.slice (some ⟨g, 0, none⟩) P P) (filled (List.replicate k (-1)) P) ∧ Blk wr w.heap.size #[.slice ao n c] 25 ∧ Below w.heap.size w wr) (fun _ i _ => P - (intOf i).toNat)
    case atStart => exact ⟨0, Nat.zero_le _, rfl, by rw [show List.replicate 0 (-1 : Int) = [] from rfl, filled_nil]; exact ho, bk, B⟩
    case round =>
      obtain ⟨k, hk, rfl, hok1, hbk, hB⟩ := hrel
      clear ho B bk
      have hil : Hid ((List.replicate k (-1 : Int)).length = k) := by unfold Hid; simp
      by_cases hlt : k < P
      · have hlen : Hid ((filled (List.replicate k (-1)) P).length = P) := length_filled (by rw [hil.out]; omega)
        have hfk := hok1.free hlen.out.symm k
        have hcg := hok1.cell (j := k) (by rw [hlen.out]; exact hlt)
        have hst := hok1.stored hlen.out.symm k (-1)
        have hset : Hid ((filled (List.replicate k (-1)) P).set k (-1) = filled (List.replicate (k + 1) (-1)) P) := by
          unfold Hid; rw [filled_set hil.out hlt, List.replicate_succ']
        rw [hset.out] at hst
        have hbs := hB.setCell (p := ⟨g, k, none⟩) (by show _ ≤ g; omega) (.int .i64 (-1))
        have hbks := hbk.setOther (g' := g) (by omega) k (.int .i64 (-1))
        clear hok1 hB hset hbk
        generalize nth (filled (List.replicate k (-1)) P) k = y at *
        go_wp2
        go_roundw
        case rel => exact ⟨k + 1, by omega, by go_num, hst, hbks, hbs⟩
        case measure => simp [intOf]; omega
      · obtain rfl : k = P := by omega
        rw [filled_full hil.out, ← fewL_zero xs] at hok1
        have e0 := hbk.at 0 rfl
        go_wp2_with fail
        clear e0
        go_loopw [5, 6, 7, 32] (fun _ _ _ i wr => ∃ q : Nat, q ≤ k ∧ i = .int .i64 q ∧ Own wr (w.heap.size + 1) (.slice (some ⟨g, 0, none⟩) k k) (fewL xs k q) ∧ Blk wr w.heap.size #[.slice ao n c] 25 ∧ Below w.heap.size w wr) (fun _ _ _ i _ => k - (intOf i).toNat)
        case atStart => exact ⟨0, Nat.zero_le _, rfl, hok1, hbk, hB⟩
        case round =>
          obtain ⟨q, hq, rfl, hoq, hbq, hBq⟩ := hrel
          clear hok1 hbk hB
          have e0 := hbq.at 0 rfl
          by_cases hltq : q < k
          · have hd : decide ((q : Int) < wrap64 (2 ^ n)) = true := by rw [HP.out]; exact decide_eq_true (by omega)
            go_wp2_with fail
            refine (pressesChange_any ao xs n c q wr HN.out hok.out (by omega) (hx.below hBq (Nat.le_refl _))).mono fun e w3 h => ?_
            obtain ⟨rfl, b⟩ := h
            have hoq := hoq.below b (Nat.le_refl _)
            have hbq := hbq.below b (Nat.le_refl _)
            have hBq := hBq.trans (b.mono hBq.size)
            clear e0 b
            have hLp := hpl.out q
            have hset := hid (fewL_set (xs := xs) (P := k) (k := q) hLp)
            have hsame := hid (fewL_same (xs := xs) (P := k) (k := q))
            have hfl : Hid ((fewL xs k q).length = k) := length_fewL xs k q
            have hc := hoq.cell (j := press xs q) (by rw [hfl.out]; exact hLp)
            have hf := hoq.free hfl.out.symm (press xs q)
            rw [nth_fewL hLp] at hc
            have hst := hoq.stored hfl.out.symm (press xs q) (pc q : Nat)
            have hgk := hoq.base
            have hbs := hBq.setCell (p := ⟨g, press xs q, none⟩) (by show _ ≤ g; omega) (.int .i64 (pc q : Nat))
            have hbks := hbq.setOther (g' := g) (by omega) (press xs q) (.int .i64 (pc q : Nat))
            generalize press xs q = L at *
            go_wp2_with fail
            refine (countBits_any q w3 (by omega)).mono fun e w4 h => ?_
            obtain ⟨rfl, rfl⟩ := h
            obtain ⟨v, hv⟩ : ∃ v, fw xs q L = v := ⟨_, rfl⟩
            rw [hv] at hc hset hsame
            clear hv
            by_cases hv0 : v < 0
            · have hv0b : decide (v < 0) = true := decide_eq_true hv0
              have hs := hset.out (.inl hv0)
              rw [hs] at hst
              clear hs hset hsame hoq hbq hBq
              go_wp2
              go_roundw
              case rel => exact ⟨q + 1, by omega, by go_num, hst, hbks, hbs⟩
              case measure => simp [intOf]; omega
            · have hv0b : decide (v < 0) = false := decide_eq_false hv0
              by_cases hm : (pc q : Int) < v
              · have hmb : decide ((pc q : Int) < v) = true := decide_eq_true hm
                have hs := hset.out (.inr hm)
                rw [hs] at hst
                clear hs hset hsame hoq hbq hBq
                go_wp2
                go_roundw
                case rel => exact ⟨q + 1, by omega, by go_num, hst, hbks, hbs⟩
                case measure => simp [intOf]; omega
              · have hmb : decide ((pc q : Int) < v) = false := decide_eq_false hm
                have hs := hsame.out (fun h => h.elim hv0 hm)
                rw [hs] at hoq
                clear hs hset hsame hst hbs hbks
                go_wp2
                go_roundw
                case rel => exact ⟨q + 1, by omega, by go_num, hoq, hbq, hBq⟩
                case measure => simp [intOf]; omega
          · obtain rfl : q = k := by omega
            have hd : decide ((q : Int) < wrap64 (2 ^ n)) = false := by rw [HP.out]; simp
            clear e0
            go_wp2_with fail
            have hgk := hoq.base
            have hfl : Hid ((fewL xs q q).length = q) := length_fewL xs q q
            go_loopw [8, 10, 60] (fun v _ i wx => ∃ k : Nat, k ≤ q ∧ i = .int .i64 k ∧ v = .int .i64 (mxI xs q k) ∧ wx = wr) (fun _ _ i _ => q - (intOf i).toNat)
            case atStart => exact ⟨0, Nat.zero_le _, rfl, rfl, rfl⟩
            case round =>
              obtain ⟨k, hk, rfl, rfl, rfl⟩ := hrel
              by_cases hltk : k < q
              · have hc := hoq.cell (j := k) (by rw [hfl.out]; exact hltk)
                rw [nth_fewL hltk] at hc
                have hs : Hid (mxI xs q (k + 1) = max (mxI xs q k) (fw xs q k)) := rfl
                have hr1 := mxI_rng xs q k
                have hr2 := fw_rng xs q k
                generalize mxI xs q k = u at *
                generalize fw xs q k = v at *
                by_cases hm : u < v
                · have hmx : max u v = v := by omega
                  rw [hmx] at hs
                  go_wp2
                  go_roundw
                  case rel => exact ⟨k + 1, by omega, by go_num, by rw [hs.out], by trivial⟩
                  case measure => simp [intOf]; omega
                · have hmx : max u v = u := by omega
                  rw [hmx] at hs
                  go_wp2
                  go_roundw
                  case rel => exact ⟨k + 1, by omega, by go_num, by rw [hs.out], by trivial⟩
                  case measure => simp [intOf]; omega
              · obtain rfl : k = q := by omega
                rw [HF.out]
                obtain ⟨v, hv⟩ : ∃ v, worstW xs = v := ⟨_, rfl⟩
                rw [hv]
                have HV := hid hv
                clear hv
                go_wp2
                go_ret
                exact ⟨ret_int HV.out.symm, hBq⟩

end Go.Proofs.Ytgmjffplinpobaa
