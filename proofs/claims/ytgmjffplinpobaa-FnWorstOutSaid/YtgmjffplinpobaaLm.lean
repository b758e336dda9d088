/- May lights be put out: both walks. -/
import Derived.Test.YtgmjffplinpobaaLl
namespace Go.Proofs.Ytgmjffplinpobaa
open Go Go.RowKit

theorem mem_qtL {xs : List Int} {q : Int} : ∀ {k : Nat}, q ∈ qtL xs k ↔ ∃ m : Nat, q = m ∧ m < k ∧ press xs m = 0
  | 0 => ⟨fun h => by simp [qtL] at h, fun ⟨m, _, h, _⟩ => absurd h (by omega)⟩
  | k + 1 => by
    have ih := mem_qtL (xs := xs) (q := q) (k := k)
    by_cases e : press xs k = 0
    · rw [qtL_in e, List.mem_append, ih, List.mem_singleton]
      constructor
      · rintro (⟨m, h1, h2, h3⟩ | h)
        · exact ⟨m, h1, by omega, h3⟩
        · exact ⟨k, h, by omega, e⟩
      · rintro ⟨m, h1, h2, h3⟩
        by_cases hm : m = k
        · subst hm; exact .inr h1
        · exact .inl ⟨m, h1, by omega, h3⟩
    · rw [qtL_not e, ih]
      constructor
      · rintro ⟨m, h1, h2, h3⟩; exact ⟨m, h1, by omega, h3⟩
      · rintro ⟨m, h1, h2, h3⟩
        refine ⟨m, h1, ?_, h3⟩
        by_cases hm : m = k
        · subst hm; exact absurd h3 e
        · omega
theorem mem_quietL {xs : List Int} (h : GrOk xs) {q : Int} : q ∈ quietL xs ↔ ∃ m : Nat, q = m ∧ m < 2 ^ xs.length ∧ press xs m = 0 := by
  rw [quietL_in h]; exact mem_qtL

/-- Do two sets meet evenly? -/
def evn (q L : Nat) : Bool := pc (q &&& L) % 2 == 0
noncomputable def mayO (xs : List Int) (L : Int) : Bool := setB xs L && (quietL xs).all fun q => evn q.toNat L.toNat
theorem mayO_out {xs : List Int} {L : Int} (h : setB xs L = false) : mayO xs L = false := by unfold mayO; rw [h]; rfl
theorem mayO_in {xs : List Int} {L : Int} (h : setB xs L = true) : mayO xs L = true ↔ ∀ j, j < (quietL xs).length → evn (nth (quietL xs) j).toNat L.toNat = true := by
  unfold mayO
  rw [h, Bool.true_and, List.all_eq_true]
  constructor
  · intro h j hj; exact h _ (nth_mem hj)
  · intro h q hq
    obtain ⟨j, hj, rfl⟩ := List.getElem_of_mem hq
    rw [← nth_eq hj]; exact h j hj
theorem evn_tmod {q L : Nat} : ((pc (q &&& L) : Int).tmod 2 == 1) = !(evn q L) := by
  have h : (pc (q &&& L) : Int).tmod 2 = ((pc (q &&& L) % 2 : Nat) : Int) := by rw [Int.tmod_eq_emod_of_nonneg (by omega)]; omega
  rw [h]
  unfold evn
  rcases (show pc (q &&& L) % 2 = 0 ∨ pc (q &&& L) % 2 = 1 by omega) with e | e <;> rw [e] <;> rfl
theorem evn_mod {q L : Nat} : ((pc (q &&& L) : Int) % 2 == 1) = !(evn q L) := by
  rw [← evn_tmod, Int.tmod_eq_emod_of_nonneg (by omega)]

set_option maxRecDepth 100000 in
set_option maxHeartbeats 1000000 in
theorem implOutMay_any (ao : Option Addr) (xs : List Int) (n c : Nat) (L : Int) (w : World) (hn : xs.length = n) (hl : n ≤ 17592186044416) (hx : IntsAt w ao xs) :
    Calls Try.prog 8 #[.agg #[.slice ao n c], .int .i64 L] w fun e w' => e = .returned (.bool (mayO xs L)) ∧ Below w.heap.size w w' := by
  have HN := hid hn
  have B := (Below.refl w.heap.size w).alloc (Nat.le_refl _) (.cells #[.slice ao n c] 25)
  have bk := Blk.new w #[.slice ao n c] 25
  have e0 := bk.at 0 rfl
  have hfin0 := hid (mayO_out (xs := xs) (L := L))
  clear hn
  go_enter Try.func8, Try.ntmps8
  go_wp2_with fail
  generalize (w.alloc (.cells #[.slice ao n c] 25)) = w0 at *
  refine (implSetValid_any ao xs n c L w0 HN.out hl (hx.below B (Nat.le_refl _))).mono fun e w1 h => ?_
  cases hg : setB xs L with
  | false =>
    rw [hg] at h
    obtain ⟨rfl, b⟩ := h
    have hf := hid (hfin0.out hg)
    have B := B.trans (b.mono B.size)
    clear e0 b bk
    go_wp2_with fail
    go_ret
    exact ⟨ret_bool hf.out.symm, B⟩
  | true =>
    rw [hg] at h
    obtain ⟨rfl, b⟩ := h
    have hsb := setB_iff.1 hg
    have hok := hid hsb.1
    have h512 := pow9 hok.out.max
    obtain ⟨l, rfl⟩ := Int.eq_ofNat_of_zero_le hsb.2.1
    have hl9 : l < 512 := by have := hsb.2.2; omega
    have hmay := hid (mayO_in hg)
    have B := B.trans (b.mono B.size)
    have bk := bk.below b (Nat.le_refl _)
    clear b hg e0 hsb
    have e0 := bk.at 0 rfl
    go_wp2_with fail
    refine (implQuietSets_any ao xs n c w1 HN.out hl (hx.below B (Nat.le_refl _))).mono fun e w2 h => ?_
    obtain ⟨Q, hQ⟩ : ∃ Q, (quietL xs).length = Q := ⟨_, rfl⟩
    have hQ5 := quietL_len xs
    rw [hQ] at hQ5
    have HQ := hid hQ
    obtain ⟨aq, cq, rfl, oq, b⟩ := h.to hQ
    have B := B.trans (b.mono B.size)
    have hmem : Hid (∀ j, j < Q → ∃ m : Nat, nth (quietL xs) j = m ∧ m < 512) := fun j hj => by
      obtain ⟨m, h1, h2, _⟩ := (mem_quietL hok.out).1 (nth_mem (xs := quietL xs) (j := j) (by omega))
      exact ⟨m, h1, by omega⟩
    have hxq := oq.ints
    clear h b hQ e0 bk oq
    go_wp2_with fail
    go_loop [6, 14] (fun _ i => ∃ k : Nat, k ≤ Q ∧ i = .int .i64 k ∧ Hid (∀ j, j < k → evn (nth (quietL xs) j).toNat l = true)) (fun _ i => Q - (intOf i).toNat)
    case atStart => exact ⟨0, Nat.zero_le _, rfl, fun j hj => absurd hj (by omega)⟩
    case round =>
      obtain ⟨k, hk, rfl, hev⟩ := hrel
      by_cases hlt : k < Q
      · obtain ⟨b, off, rfl, hc⟩ := hxq (by rw [HQ.out]; omega)
        have hck := hc k (by rw [HQ.out]; exact hlt)
        obtain ⟨m, hm, hm9⟩ := hmem.out k hlt
        rw [hm] at hck
        have hand : bits .and .i64 (m : Int) (l : Int) = ((m &&& l : Nat) : Int) := i64_and (by omega) (by omega)
        have hml : m &&& l ≤ m := Nat.and_le_left
        have hz1 := evn_mod (q := m) (L := l)
        have HM := hid hm
        clear hc hm
        cases hb : evn m l with
        | true =>
          rw [hb] at hz1
          have hn : Hid (∀ j, j < k + 1 → evn (nth (quietL xs) j).toNat l = true) := fun j hj => by
            by_cases e : j = k
            · subst e; rw [HM.out, Int.toNat_natCast]; exact hb
            · exact hev.out j (by omega)
          clear hb
          go_wp2_with fail
          refine (countBits_any (m &&& l) w2 (by omega)).mono fun e w4 h => ?_
          obtain ⟨rfl, rfl⟩ := h
          go_wp2
          go_round
          case rel => exact ⟨k + 1, by omega, by go_num, hn⟩
          case measure => simp [intOf]; omega
        | false =>
          rw [hb] at hz1
          have hf : Hid (mayO xs l = false) := Bool.eq_false_iff.2 fun h => by
            have := (hmay.out.1 h) k (by rw [HQ.out]; exact hlt)
            rw [HM.out, Int.toNat_natCast, Int.toNat_natCast, hb] at this
            cases this
          clear hb
          go_wp2_with fail
          refine (countBits_any (m &&& l) w2 (by omega)).mono fun e w4 h => ?_
          obtain ⟨rfl, rfl⟩ := h
          go_wp2
          go_ret
          exact ⟨ret_bool hf.out.symm, B⟩
      · obtain rfl : k = Q := by omega
        have hf : Hid (mayO xs l = true) := hmay.out.2 fun j hj => by rw [Int.toNat_natCast]; exact hev.out j (by rw [HQ.out] at hj; exact hj)
        go_wp2
        go_ret
        exact ⟨ret_bool hf.out.symm, B⟩

set_option maxRecDepth 100000 in
set_option maxHeartbeats 1000000 in
theorem specOutMay_any (ao : Option Addr) (xs : List Int) (n c : Nat) (L : Int) (w : World) (hn : xs.length = n) (hl : n ≤ 17592186044416) (hx : IntsAt w ao xs) :
    Calls Try.prog 9 #[.agg #[.slice ao n c], .int .i64 L] w fun e w' => e = .returned (.bool (mayO xs L)) ∧ Below w.heap.size w w' := by
  have HN := hid hn
  have B := (Below.refl w.heap.size w).alloc (Nat.le_refl _) (.cells #[.slice ao n c] 25)
  have bk := Blk.new w #[.slice ao n c] 25
  have e0 := bk.at 0 rfl
  have hfin0 := hid (mayO_out (xs := xs) (L := L))
  clear hn
  go_enter Try.func9, Try.ntmps9
  go_wp2_with fail
  generalize (w.alloc (.cells #[.slice ao n c] 25)) = w0 at *
  refine (specQuietSets_any ao xs n c w0 HN.out hl (hx.below B (Nat.le_refl _))).mono fun e w1 h => ?_
  obtain ⟨Q, hQ⟩ : ∃ Q, (quietL xs).length = Q := ⟨_, rfl⟩
  have hQ5 := quietL_len xs
  rw [hQ] at hQ5
  have HQ := hid hQ
  obtain ⟨aq, cq, rfl, oq, b⟩ := h.to hQ
  have B := B.trans (b.mono B.size)
  have bk := bk.below b (Nat.le_refl _)
  have hxq := oq.ints
  clear h b hQ e0 oq
  have e0 := bk.at 0 rfl
  go_wp2_with fail
  clear e0
  cases hg : setB xs L with
  | false =>
    have hf := hid (hfin0.out hg)
    have hg' := hid hg
    clear hg
    go_loopw [6] (fun i wr => i = .int .i64 0 ∧ wr = w1) (fun _ _ => 0)
    case atStart => exact ⟨rfl, rfl⟩
    case round =>
      obtain ⟨rfl, rfl⟩ := hrel
      have e0 := bk.at 0 rfl
      by_cases h0 : 0 < Q
      · have hd0 : decide ((0 : Int) < Q) = true := decide_eq_true (by omega)
        go_wp2_with fail
        refine (specSetValid_any ao xs n c L wr HN.out hl (hx.below B (Nat.le_refl _))).mono fun e w2 h => ?_
        rw [hg'.out] at h
        obtain ⟨rfl, b⟩ := h
        have B := B.trans (b.mono B.size)
        have bk := bk.below b (Nat.le_refl _)
        clear b e0
        have e0 := bk.at 0 rfl
        go_wp2_with fail
        refine (specSetValid_any ao xs n c L w2 HN.out hl (hx.below B (Nat.le_refl _))).mono fun e w3 h => ?_
        rw [hg'.out] at h
        obtain ⟨rfl, b⟩ := h
        go_wp2
        go_ret
        exact ⟨ret_bool hf.out.symm, B.trans (b.mono B.size)⟩
      · have hd0 : decide ((0 : Int) < Q) = false := decide_eq_false (by omega)
        go_wp2_with fail
        refine (specSetValid_any ao xs n c L wr HN.out hl (hx.below B (Nat.le_refl _))).mono fun e w2 h => ?_
        rw [hg'.out] at h
        obtain ⟨rfl, b⟩ := h
        go_wp2
        go_ret
        exact ⟨ret_bool hf.out.symm, B.trans (b.mono B.size)⟩
  | true =>
    have hsb := setB_iff.1 hg
    have hok := hid hsb.1
    have h512 := pow9 hok.out.max
    obtain ⟨l, rfl⟩ := Int.eq_ofNat_of_zero_le hsb.2.1
    have hl9 : l < 512 := by have := hsb.2.2; omega
    have hmay := hid (mayO_in hg)
    have hmem : Hid (∀ j, j < Q → ∃ m : Nat, nth (quietL xs) j = m ∧ m < 512) := fun j hj => by
      obtain ⟨m, h1, h2, _⟩ := (mem_quietL hok.out).1 (nth_mem (xs := quietL xs) (j := j) (by rw [HQ.out]; exact hj))
      exact ⟨m, h1, by omega⟩
    have hg' := hid hg
    clear hg hsb
    go_loopw [6] (fun i wr => ∃ k : Nat, k ≤ Q ∧ i = .int .i64 k ∧ Hid (∀ j, j < k → evn (nth (quietL xs) j).toNat l = true) ∧ Below w1.heap.size w1 wr) (fun i _ => Q - (intOf i).toNat)
    case atStart => exact ⟨0, Nat.zero_le _, rfl, fun j hj => absurd hj (by omega), Below.refl _ _⟩
    case round =>
      obtain ⟨k, hk, rfl, hev, hb⟩ := hrel
      have hxr := hxq.below hb (Nat.le_refl _)
      have bkr := bk.below hb (Nat.le_refl _)
      have BR := B.trans (hb.mono B.size)
      have e0 := bkr.at 0 rfl
      by_cases hlt : k < Q
      · obtain ⟨m, hm, hm9⟩ := hmem.out k hlt
        have hml : m &&& l ≤ m := Nat.and_le_left
        have hz1 := evn_mod (q := m) (L := l)
        have HM := hid hm
        clear hm
        go_wp2_with fail
        refine (specSetValid_any ao xs n c l wr HN.out hl (hx.below BR (Nat.le_refl _))).mono fun e w2 h => ?_
        rw [hg'.out] at h
        obtain ⟨rfl, b⟩ := h
        obtain ⟨bq, off, rfl, hc⟩ := hxr.below b (Nat.le_refl _) (by rw [HQ.out]; omega)
        have hck := hc k (by rw [HQ.out]; exact hlt)
        rw [HM.out] at hck
        have hb2 := hb.trans (b.mono hb.size)
        have BR := BR.trans (b.mono BR.size)
        clear hc b e0 hxr bkr hb
        go_wp2_with fail
        refine (l1Both_any m l w2 (by omega) (by omega)).mono fun e w4 h => ?_
        obtain ⟨rfl, rfl⟩ := h
        cases hbv : evn m l with
        | true =>
          rw [hbv] at hz1
          have hn : Hid (∀ j, j < k + 1 → evn (nth (quietL xs) j).toNat l = true) := fun j hj => by
            by_cases e : j = k
            · subst e; rw [HM.out, Int.toNat_natCast]; exact hbv
            · exact hev.out j (by omega)
          clear hbv
          go_wp2_with fail
          refine (l1Many_any (m &&& l) w2 (by omega)).mono fun e w4 h => ?_
          obtain ⟨rfl, rfl⟩ := h
          go_wp2
          go_roundw
          case rel => exact ⟨k + 1, by omega, by go_num, hn, hb2⟩
          case measure => simp [intOf]; omega
        | false =>
          rw [hbv] at hz1
          have hf : Hid (mayO xs l = false) := Bool.eq_false_iff.2 fun h => by
            have := (hmay.out.1 h) k (by rw [HQ.out]; exact hlt)
            rw [HM.out, Int.toNat_natCast, Int.toNat_natCast, hbv] at this
            cases this
          clear hbv
          go_wp2_with fail
          refine (l1Many_any (m &&& l) w2 (by omega)).mono fun e w4 h => ?_
          obtain ⟨rfl, rfl⟩ := h
          go_wp2
          go_ret
          exact ⟨ret_bool hf.out.symm, BR⟩
      · obtain rfl : k = Q := by omega
        have hd : decide ((k : Int) < k) = false := by simp
        have hf : Hid (mayO xs l = true) := hmay.out.2 fun j hj => by rw [Int.toNat_natCast]; exact hev.out j (by rw [HQ.out] at hj; exact hj)
        go_wp2_with fail
        refine (specSetValid_any ao xs n c l wr HN.out hl (hx.below BR (Nat.le_refl _))).mono fun e w2 h => ?_
        rw [hg'.out] at h
        obtain ⟨rfl, b⟩ := h
        go_wp2
        go_ret
        exact ⟨ret_bool hf.out.symm, BR.trans (b.mono BR.size)⟩

end Go.Proofs.Ytgmjffplinpobaa
