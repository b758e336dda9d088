/- The walk of moveTile: a tile moved in place. -/
import Derived.Test.YtfpckcmkikckgaaTm
import Derived.Deep.RegionHeld3
namespace Go.Proofs.Ytfpckcmkikckgaa
open Go Go.RowKit

/-- May the tile be moved? -/
def canB (wide : Int) (xs : List Int) (t : Int) : Bool := hasL (mayL wide xs) t
/-- The tile and the free place exchanged. -/
def swapL (xs : List Int) (t : Int) : List Int := xs.map (fun x => if x = t then 0 else if x = 0 then t else x)
def movedL (wide : Int) (xs : List Int) (t : Int) : List Int := if canB wide xs t = true then swapL xs t else xs
theorem movedL_yes {wide : Int} {xs : List Int} {t : Int} (h : canB wide xs t = true) : movedL wide xs t = swapL xs t := if_pos h
theorem movedL_no {wide : Int} {xs : List Int} {t : Int} (h : canB wide xs t = false) : movedL wide xs t = xs := by unfold movedL; rw [h]; rfl
theorem length_movedL (wide : Int) (xs : List Int) (t : Int) : (movedL wide xs t).length = xs.length := by
  unfold movedL swapL; split <;> simp

theorem mem_mayIn {wide free : Int} {xs : List Int} {t u : Int} {k : Nat} : u ∈ mayIn wide free xs t k ↔ u = t ∧ ∃ j, j < k ∧ nth xs j = t ∧ farI wide j free = 1 := by
  induction k with
  | zero => simp [mayIn]
  | succ k ih =>
    rw [mayIn, List.mem_append, ih]
    constructor
    · rintro (⟨h1, j, h2, h3⟩ | h)
      · exact ⟨h1, j, by omega, h3⟩
      · split at h
        · rename_i hc
          simp only [List.mem_singleton] at h
          exact ⟨h, k, by omega, hc⟩
        · simp at h
    · rintro ⟨h1, j, h2, h3⟩
      by_cases e : j = k
      · subst e
        rw [if_pos h3]
        exact .inr (by simp [h1])
      · exact .inl ⟨h1, j, by omega, h3⟩

theorem mem_mayTo {wide free : Int} {xs : List Int} {t : Int} {m : Nat} : t ∈ mayTo wide free xs m ↔ (1 ≤ t ∧ t ≤ m) ∧ ∃ j, j < xs.length ∧ nth xs j = t ∧ farI wide j free = 1 := by
  induction m with
  | zero => simp [mayTo]; omega
  | succ m ih =>
    rw [mayTo_succ, List.mem_append, ih, mem_mayIn]
    constructor
    · rintro (⟨h1, h2⟩ | ⟨h1, j, h2, h3, h4⟩)
      · exact ⟨by omega, h2⟩
      · exact ⟨by omega, j, h2, by omega, h4⟩
    · rintro ⟨h1, j, h2, h3, h4⟩
      by_cases e : t = (m : Int) + 1
      · exact .inr ⟨e, j, h2, by omega, h4⟩
      · exact .inl ⟨by omega, j, h2, h3, h4⟩

theorem canB_iff {wide : Int} {xs : List Int} (h : BoardOk wide xs) {t : Int} : canB wide xs t = true ↔ (1 ≤ t ∧ t < xs.length) ∧ ∃ j, j < xs.length ∧ nth xs j = t ∧ farI wide j (zeroI xs) = 1 := by
  have h2 := h.1
  unfold canB hasL
  rw [mayL_in h, List.contains_iff_mem, mem_mayTo]
  constructor
  · rintro ⟨h1, h3⟩; exact ⟨by omega, h3⟩
  · rintro ⟨h1, h3⟩; exact ⟨by omega, h3⟩
theorem canB_not {wide : Int} {xs : List Int} (h : BoardOk wide xs) {t : Int} (hn : ¬ ((1 ≤ t ∧ t < xs.length) ∧ ∃ j, j < xs.length ∧ nth xs j = t ∧ farI wide j (zeroI xs) = 1)) : canB wide xs t = false := by
  cases hc : canB wide xs t with
  | false => rfl
  | true => exact absurd ((canB_iff h).1 hc) hn

theorem zeroI_nth {wide : Int} {xs : List Int} (h : BoardOk wide xs) {z : Nat} (hz : zeroI xs = z) : z < xs.length ∧ nth xs z = 0 := by
  have h1 := zeroI_ok h
  have h2 : z < xs.length := by omega
  refine ⟨h2, ?_⟩
  unfold zeroI at hz
  split at hz
  · rename_i j hj
    have h3 := List.find?_some hj
    obtain rfl : j = z := by omega
    simpa using h3
  · omega

theorem nth_map_swap {xs : List Int} {t : Int} {i : Nat} (hi : i < xs.length) : nth (swapL xs t) i = if nth xs i = t then 0 else if nth xs i = 0 then t else nth xs i := by
  rw [nth_eq (by unfold swapL; simpa using hi), nth_eq hi]
  simp [swapL]

theorem swap_sets {wide : Int} {xs : List Int} (h : BoardOk wide xs) {t : Int} {z k : Nat} (hz : zeroI xs = z) (ht : 1 ≤ t) (hk : k < xs.length) (hkt : nth xs k = t) :
    (xs.set z t).set k 0 = swapL xs t := by
  have h0 := zeroI_nth h hz
  refine ext_nth (by simp [swapL]) fun i hi => ?_
  simp only [List.length_set] at hi
  rw [nth_set (by simpa using hk), nth_set h0.1, nth_map_swap hi]
  by_cases e1 : i = k
  · subst e1; simp [hkt]
  · rw [if_neg e1]
    have h1 : nth xs i ≠ t := fun e => e1 (nth_inj h.2.2.2.2 hi hk (e.trans hkt.symm))
    by_cases e2 : i = z
    · subst e2; simp [h0.2]; omega
    · have h2 : nth xs i ≠ 0 := fun e => e2 (nth_inj h.2.2.2.2 hi h0.1 (e.trans h0.2.symm))
      rw [if_neg e2, if_neg h1, if_neg h2]

/-- What moveTile leaves: the block of the tiles with the board moved in it, all else as it was. -/
def MoveRet (w : World) (b off : Nat) (cur : Array Value) (e : TypeId) (wide : Int) (xs : List Int) (t : Int) (en : Ending) (w' : World) : Prop :=
  en = .returned (.bool (canB wide xs t)) ∧ w.grownBy w' (some b) ∧
    ∃ cur', Blk w' b cur' e ∧ cur'.size = cur.size ∧ (∀ j, j < xs.length → cur'[off + j]? = some (.int .i64 (nth (movedL wide xs t) j))) ∧ ∀ j, (j < off ∨ off + xs.length ≤ j) → cur'[j]? = cur[j]?

theorem MoveRet.same {w w' : World} {b off : Nat} {cur : Array Value} {e : TypeId} {wide : Int} {xs : List Int} {t : Int} (hb : Blk w b cur e) (hc : ∀ j, j < xs.length → cur[off + j]? = some (.int .i64 (nth xs j)))
    (hn : canB wide xs t = false) (hB : Below w.heap.size w w') : MoveRet w b off cur e wide xs t (.returned (.bool false)) w' := by
  refine ⟨by rw [hn], ⟨hB.os, hB.tape, hB.output, hB.size, fun k hk _ => hB.block k hk⟩, cur, hb.below hB (Nat.le_refl _), rfl, ?_, fun _ _ => rfl⟩
  rw [movedL_no hn]
  exact hc

theorem MoveRet.done {w w' : World} {b off z k : Nat} {cur : Array Value} {e : TypeId} {wide : Int} {xs : List Int} {t : Int} (hb : Blk w b cur e) (hc : ∀ j, j < xs.length → cur[off + j]? = some (.int .i64 (nth xs j)))
    (hok : BoardOk wide xs) (hz : zeroI xs = z) (ht : 1 ≤ t) (hk : k < xs.length) (hkt : nth xs k = t) (hn : canB wide xs t = true) (hB : Below w.heap.size w w') :
    MoveRet w b off cur e wide xs t (.returned (.bool true)) ((w'.setCell ⟨b, off + z, none⟩ (.int .i64 t)).setCell ⟨b, off + k, none⟩ (.int .i64 0)) := by
  have hz0 := zeroI_nth hok hz
  have hg : w.grownBy w' (some b) := ⟨hB.os, hB.tape, hB.output, hB.size, fun k hk _ => hB.block k hk⟩
  have hlt : off + z < cur.size := by have := hc z hz0.1; exact (Array.getElem?_eq_some_iff.1 this).1
  have hlk : off + k < cur.size := by have := hc k hk; exact (Array.getElem?_eq_some_iff.1 this).1
  refine ⟨by rw [hn], grownBy_trans (grownBy_trans hg (grownBy_setCell _ _ _ _)) (grownBy_setCell _ _ _ _), _, ((hb.below hB (Nat.le_refl _)).set _ _).set _ _, by simp, ?_, ?_⟩
  · intro j hj
    rw [movedL_yes hn, ← swap_sets hok hz ht hk hkt, nth_set (by simpa using hk), nth_set hz0.1]
    simp only [Array.getElem?_setIfInBounds, Array.size_setIfInBounds, hc j hj]
    by_cases e1 : j = k
    · subst e1; simp [hlk]
    · rw [if_neg (by omega), if_neg e1]
      by_cases e2 : j = z
      · subst e2; simp [hlt]
      · rw [if_neg (by omega), if_neg e2]
  · intro j hj
    simp only [Array.getElem?_setIfInBounds, Array.size_setIfInBounds]
    rw [if_neg (by omega), if_neg (by omega)]

set_option maxRecDepth 100000 in
set_option maxHeartbeats 2000000 in
theorem moveTile_any (wide : Int) (b off n c : Nat) (xs : List Int) (t : Int) (cur : Array Value) (E : TypeId) (w : World) (hn : xs.length = n) (hok' : BoardOk wide xs) (hbl : Blk w b cur E)
    (hcur : ∀ j, j < xs.length → cur[off + j]? = some (.int .i64 (nth xs j))) :
    Calls Try.prog 44 #[.agg #[.int .i64 wide, .slice (some ⟨b, off, none⟩) n c], .int .i64 t] w (MoveRet w b off cur E wide xs t) := by
  have HN := hid hn
  have hok := hid hok'
  have HC := hid hcur
  clear hn hok' hcur
  have hn2 : 2 ≤ n := by have := hok.out.1; rwa [HN.out] at this
  have hn9 : n ≤ 9 := by have := hok.out.2.1; rwa [HN.out] at this
  have hw1 : 1 ≤ wide := hok.out.2.2.1
  have B := (Below.refl w.heap.size w).alloc (Nat.le_refl _) (.cells #[.int .i64 wide, .slice (some ⟨b, off, none⟩) n c] 25)
  have bk := Blk.new w #[.int .i64 wide, .slice (some ⟨b, off, none⟩) n c] 25
  have bl0 := hbl.alloc (.cells #[.int .i64 wide, .slice (some ⟨b, off, none⟩) n c] 25)
  by_cases ht1 : 1 ≤ t
  rotate_left
  · have hc0 := hid (canB_not (t := t) hok.out fun h => by omega)
    have hd : decide (t < 1) = true := decide_eq_true (by omega)
    go_enter Try.func44, Try.ntmps44
    go_wp2
    go_ret
    exact MoveRet.same hbl HC.out hc0.out B
  by_cases htn : t < n
  rotate_left
  · have hc0 := hid (canB_not (t := t) hok.out fun h => by have := h.1.2; rw [HN.out] at this; omega)
    have hd : decide (t < 1) = false := decide_eq_false (by omega)
    have hd2 : decide ((n : Int) ≤ t) = true := decide_eq_true (by omega)
    go_enter Try.func44, Try.ntmps44
    go_wp2
    go_ret
    exact MoveRet.same hbl HC.out hc0.out B
  obtain ⟨z, hz⟩ : ∃ z : Nat, zeroI xs = z := Int.eq_ofNat_of_zero_le (zeroI_ok hok.out).1
  have HZ := hid hz
  have hz0 := zeroI_nth hok.out hz
  have hzn : z < n := by have := hz0.1; rwa [HN.out] at this
  clear hz hz0
  have hd : decide (t < 1) = false := decide_eq_false (by omega)
  have hd2 : decide ((n : Int) ≤ t) = false := decide_eq_false (by omega)
  have hints : ∀ W, Blk W b cur E → IntsAt W (some ⟨b, off, none⟩) xs := fun W hW _ => ⟨b, off, rfl, fun j hj => (hW.cell _).trans (HC.out j hj)⟩
  have Hints := hid hints
  clear hints
  go_enter Try.func44, Try.ntmps44
  go_wp2_with fail
  generalize (w.alloc (.cells #[.int .i64 wide, .slice (some ⟨b, off, none⟩) n c] 25)) = w0 at *
  refine (freeOf_any (some ⟨b, off, none⟩) xs n c w0 HN.out (by omega) (Hints.out _ bl0)).mono fun e w1 h => ?_
  rw [HZ.out] at h
  obtain ⟨rfl, rfl⟩ := h
  have e0 := bk.at 0 rfl
  have e1 := bk.at 1 rfl
  go_wp2_with fail
  clear e0 e1
  go_loopw [6, 7, 23] (fun _ _ i wr => ∃ k : Nat, k ≤ n ∧ i = .int .i64 k ∧ Qt w0 wr ∧ Hid (∀ j, j < k → ¬ (nth xs j = t ∧ farI wide j z = 1))) (fun _ _ i _ => n - (intOf i).toNat)
  case atStart => exact ⟨0, Nat.zero_le _, rfl, Qt.refl _, fun j h => absurd h (by omega)⟩
  case round =>
    obtain ⟨k, hk, rfl, hq, hno⟩ := hrel
    have bk := bk.qt hq
    have bl := bl0.qt hq
    have B := B.trans (hq.below _)
    have e0 := bk.at 0 rfl
    have e1 := bk.at 1 rfl
    by_cases hlt : k < n
    · have hkl : k < xs.length := by rw [HN.out]; exact hlt
      have hck : wr.cell? ⟨b, off + k, none⟩ = some (.int .i64 (nth xs k)) := (bl.cell _).trans (HC.out k hkl)
      by_cases he : nth xs k = t
      · have hb : (nth xs k == t) = true := by simpa using he
        by_cases hf : farI wide k z = 1
        · have hfb : (farI wide k z == 1) = true := by simpa using hf
          have hcan : Hid (canB wide xs t = true) := (canB_iff hok.out).2 ⟨⟨ht1, by rw [HN.out]; exact htn⟩, k, hkl, he, by rw [HZ.out]; exact hf⟩
          have HE := hid he
          have hzk : ¬ z = k := fun e => by have := (zeroI_nth hok.out HZ.out).2; rw [e, HE.out] at this; omega
          have hkz : ¬ k = z := fun e => hzk e.symm
          clear he hf
          go_wp2_with fail
          refine (placesFar_any wide k z wr hw1 (by omega) (by omega) (by omega) (by omega)).mono fun e w3 h => ?_
          obtain ⟨rfl, hq2⟩ := h
          have bk := bk.qt hq2
          have bl := bl.qt hq2
          have B := B.trans (hq2.below _)
          have hfin := hid (MoveRet.done (t := t) hbl HC.out hok.out HZ.out ht1 hkl HE.out hcan.out (below_drewN B 1))
          have c0 := bk.at 0 rfl
          have c1 := bk.at 1 rfl
          have ck : w3.cell? ⟨b, off + k, none⟩ = some (.int .i64 (nth xs k)) := (bl.cell _).trans (HC.out k hkl)
          have cz : w3.cell? ⟨b, off + z, none⟩ = some (.int .i64 (nth xs z)) := (bl.cell _).trans (HC.out z (by rw [HN.out]; exact hzn))
          have hne : b ≠ w.heap.size := by have := hbl.lt; omega
          have fk := bl.free (off + k)
          have fz := bl.free (off + z)
          clear e0 e1 hck hq2
          go_wp2
          go_region_held3 (fun w' => w'.cell? ⟨w.heap.size, 1, none⟩ = some (.slice (some ⟨b, off, none⟩) n c)) (first | exact c1 | go_keep) (fail)
          go_wp2
          go_ret
          exact hfin.out
        · have hfb : (farI wide k z == 1) = false := by simpa using hf
          have hnext : Hid (∀ j, j < k + 1 → ¬ (nth xs j = t ∧ farI wide j z = 1)) := fun j hj => by
            by_cases e : j = k
            · subst e; exact fun h => hf h.2
            · exact hno.out j (by omega)
          clear he hf
          go_wp2_with fail
          refine (placesFar_any wide k z wr hw1 (by omega) (by omega) (by omega) (by omega)).mono fun e w3 h => ?_
          obtain ⟨rfl, hq2⟩ := h
          clear e0 e1 hck
          go_wp2
          go_roundw
          case rel =>
            refine ⟨k + 1, by omega, by go_num, ?_, hnext⟩
            obtain ⟨q, rfl⟩ := hq2
            exact hq.drewN q
          case measure => simp [intOf]; omega
      · have hb : (nth xs k == t) = false := by simpa using he
        have hnext : Hid (∀ j, j < k + 1 → ¬ (nth xs j = t ∧ farI wide j z = 1)) := fun j hj => by
          by_cases e : j = k
          · subst e; exact fun h => he h.1
          · exact hno.out j (by omega)
        clear he
        go_wp2
        go_roundw
        case rel => exact ⟨k + 1, by omega, by go_num, hq, hnext⟩
        case measure => simp [intOf]; omega
    · have hc0 := hid (canB_not (t := t) hok.out fun h => by
        obtain ⟨_, j, h1, h2, h3⟩ := h
        rw [HZ.out] at h3
        exact hno.out j (by rw [HN.out] at h1; omega) ⟨h2, h3⟩)
      go_wp2
      go_ret
      exact MoveRet.same hbl HC.out hc0.out B

end Go.Proofs.Ytfpckcmkikckgaa
