/- Rows of rows: the walks of szIntSS, toIntSS, eqIntSS. -/
import Derived.Test.YtojkiajempdmfaaBd
import Derived.Deep.RegionHeld3
namespace Go.Proofs.Ytojkiajempdmfaa
open Go Go.RowKit

/-- Row j of rows. -/
def nthR (rs : List (List Int)) (j : Nat) : List Int := rs.getD j []
theorem nthR_eq {rs : List (List Int)} {j : Nat} (h : j < rs.length) : nthR rs j = rs[j] := by simp [nthR, h]

/-- A slice of slices reads as rows. -/
def RowsAt (w : World) (ao : Option Addr) (rs : List (List Int)) : Prop :=
  0 < rs.length → ∃ b off, ao = some ⟨b, off, none⟩ ∧ ∀ j, j < rs.length → ∃ a c, w.cell? ⟨b, off + j, none⟩ = some (.slice a (nthR rs j).length c) ∧ (nthR rs j).length ≤ c ∧ c ≤ 9223372036854775807 ∧ IntsAt w a (nthR rs j)

theorem cell_lt {w : World} {b o : Nat} {v : Value} (h : w.cell? ⟨b, o, none⟩ = some v) : b < w.heap.size := by
  by_cases hb : b < w.heap.size
  · exact hb
  · simp [World.cell?, Array.getElem?_eq_none (Nat.not_lt.1 hb)] at h

theorem RowsAt.below {w w' : World} {ao : Option Addr} {rs : List (List Int)} {B : Nat} (h : RowsAt w ao rs) (hb : Below B w w') (hB : w.heap.size ≤ B) : RowsAt w' ao rs := by
  intro h0
  obtain ⟨b, off, e, hr⟩ := h h0
  refine ⟨b, off, e, fun j hj => ?_⟩
  obtain ⟨a, c, hc, h1, h2, h3⟩ := hr j hj
  refine ⟨a, c, ?_, h1, h2, h3.below hb hB⟩
  have hlt := cell_lt hc
  have e2 : w'.heap[b]? = w.heap[b]? := hb.block b (Nat.lt_of_lt_of_le hlt hB)
  simpa only [World.cell?, e2] using hc

theorem RowsAt.qt {w w' : World} {ao : Option Addr} {rs : List (List Int)} (h : RowsAt w ao rs) (hq : Qt w w') : RowsAt w' ao rs := by
  obtain ⟨q, rfl⟩ := hq; exact h

/-- What is left of a budget behind the rows. -/
def szRest (left : Int) : List (List Int) → Int
  | [] => left
  | r :: rs => if szV left r.length < 0 then -1 else szRest (szV left r.length) rs
def szSS (left : Int) (rs : List (List Int)) : Int := if left - rs.length < 0 then -1 else szRest (left - rs.length) rs

theorem szRest_le : ∀ (rs : List (List Int)) (left : Int), 0 ≤ left → ¬ szRest left rs < 0 → ∀ r ∈ rs, (r.length : Int) ≤ left
  | [], _, _, _, r, hr => by cases hr
  | r :: rs, left, h0, h, x, hx => by
    rw [szRest] at h
    by_cases hs : szV left r.length < 0
    · rw [if_pos hs] at h; omega
    · rw [if_neg hs] at h
      have h1 := szV_le hs
      have h2 : szV left r.length ≤ left := by unfold szV; split <;> omega
      rcases List.mem_cons.1 hx with rfl | hx
      · exact h1
      · have := szRest_le rs _ (by omega) h x hx; omega

theorem szSS_le {left : Int} {rs : List (List Int)} (h : ¬ szSS left rs < 0) : (rs.length : Int) ≤ left ∧ ∀ r ∈ rs, (r.length : Int) ≤ left := by
  unfold szSS at h
  by_cases h1 : left - rs.length < 0
  · rw [if_pos h1] at h; omega
  · rw [if_neg h1] at h
    exact ⟨by omega, fun r hr => by have := szRest_le rs _ (by omega) h r hr; omega⟩

theorem drop_nthR {rs : List (List Int)} {k : Nat} (h : k < rs.length) : rs.drop k = nthR rs k :: rs.drop (k + 1) := by
  rw [List.drop_eq_getElem_cons h, nthR_eq h]

set_option maxRecDepth 100000 in
theorem szIntSS_any (ao : Option Addr) (rs : List (List Int)) (n c : Nat) (left : Int) (w : World) (hn : rs.length = n) (hl : n ≤ 9223372036854775807) (h0 : 0 ≤ left) (h1 : left ≤ 17592186044416) (hx : RowsAt w ao rs) :
    Calls Try.prog 7 #[.slice ao n c, .int .i64 left] w fun e w' => e = .returned (.int .i64 (szSS left rs)) ∧ w = w' := by
  have HN := hid hn
  clear hn
  by_cases h : left - n < 0
  · have hv : Hid (szSS left rs = -1) := by unfold szSS Hid; rw [HN.out]; exact if_pos h
    have hd : decide (left - n < 0) = true := decide_eq_true h
    go_enter Try.func7, Try.ntmps7
    go_wp2
    go_ret
    exact ⟨by rw [hv.out]; rfl, rfl⟩
  · have hv : Hid (szSS left rs = szRest (left - n) rs) := by unfold szSS Hid; rw [HN.out]; exact if_neg h
    have hd : decide (left - n < 0) = false := decide_eq_false h
    obtain ⟨q, hq⟩ : ∃ q, left - n = q := ⟨_, rfl⟩
    have hq0 : 0 ≤ q := by omega
    have hq1 : q ≤ 17592186044416 := by omega
    rw [hq] at hv
    go_enter Try.func7, Try.ntmps7
    go_wp2
    clear hd hq
    go_loop [1, 5, 12] (fun lv i _ => ∃ (k : Nat) (l : Int), k ≤ n ∧ i = .int .i64 k ∧ lv = .int .i64 l ∧ 0 ≤ l ∧ l ≤ 17592186044416 ∧ Hid (szSS left rs = szRest l (rs.drop k))) (fun _ i _ => n - (intOf i).toNat)
    case atStart => exact ⟨0, q, Nat.zero_le _, rfl, rfl, hq0, hq1, by rw [List.drop_zero]; exact hv⟩
    case round =>
      obtain ⟨k, l, hk, rfl, rfl, hl0, hl1, hh⟩ := hrel
      clear hv
      by_cases hlt : k < n
      · have hkl : k < rs.length := by rw [HN.out]; exact hlt
        obtain ⟨b, off, rfl, hr⟩ := hx (by omega)
        obtain ⟨a, cc, hck, hl2, hcm, hin⟩ := hr k hkl
        have hsz := hh.out
        rw [drop_nthR hkl, szRest] at hsz
        generalize hlen : (nthR rs k).length = len at *
        have hb2 : szV l len ≤ l := by unfold szV; split <;> omega
        clear hr hin hh
        by_cases hs : szV l len < 0
        · rw [if_pos hs] at hsz
          have HZ := hid hsz
          have hd2 : decide (szV l len < 0) = true := decide_eq_true hs
          clear hsz
          go_wp2_with (go_at_call 23; refine (szIntS_any _ _ _ _ _ (by omega) (by omega) (by omega)).mono ?_; rintro e w' ⟨rfl, rfl⟩)
          go_ret
          exact ⟨by rw [HZ.out]; rfl, rfl⟩
        · rw [if_neg hs] at hsz
          have HZ := hid hsz
          have hd2 : decide (szV l len < 0) = false := decide_eq_false hs
          clear hsz
          go_wp2_with (go_at_call 23; refine (szIntS_any _ _ _ _ _ (by omega) (by omega) (by omega)).mono ?_; rintro e w' ⟨rfl, rfl⟩)
          go_round
          case rel => exact ⟨k + 1, szV l len, by omega, by go_num, rfl, by omega, by omega, HZ⟩
          case measure => simp [intOf]; omega
      · have hfin : Hid (szSS left rs = l) := by have := hh.out; rwa [List.drop_eq_nil_of_le (by rw [HN.out]; omega)] at this
        have hd2 : decide ((k : Int) < n) = false := decide_eq_false (by omega)
        go_wp2
        go_ret
        exact ⟨by rw [hfin.out]; rfl, rfl⟩

theorem Try.infoRow : (Try.prog.info? 28).map (fun i => (i.zero, i.size, i.bytes)) = some (some (.slice none 0 0), 1, 24) := by kernel_rfl

/-- The first k rows of a made slice of slices lie in memory of its own, each for itself. -/
def RowsTo (w : World) (g : Nat) (cur : Array Value) (rs : List (List Int)) (k : Nat) : Prop :=
  (∀ j, j < k → ∃ u, cur[j]? = some u ∧ Own w (g + 1) u (nthR rs j)) ∧
    ∀ i j u u', i < j → j < k → cur[i]? = some u → cur[j]? = some u' → u.ownBlock = none ∨ u.ownBlock ≠ u'.ownBlock

/-- A slice of slices that this call made. -/
def RowsOwn (w : World) (B g : Nat) (rs : List (List Int)) : Prop := ∃ cur, B ≤ g ∧ Blk w g cur 28 ∧ cur.size = rs.length ∧ RowsTo w g cur rs rs.length

theorem RowsOwn.at {w : World} {B g : Nat} {rs : List (List Int)} (h : RowsOwn w B g rs) : RowsAt w (some ⟨g, 0, none⟩) rs := by
  obtain ⟨cur, hB, hb, hs, hr, _⟩ := h
  intro h0
  refine ⟨g, 0, rfl, fun j hj => ?_⟩
  obtain ⟨u, hu, ho⟩ := hr j hj
  obtain ⟨ao, c, rfl, hi, hc⟩ := ho.shape
  have hcm : c ≤ maxLen := by
    rcases ho.2 with ⟨e, _⟩ | ⟨g', cap, cur, e, _, _, _, hm, _⟩
    · simp at e; unfold maxLen; omega
    · simp only [Value.slice.injEq] at e
      obtain ⟨_, _, rfl⟩ := e
      exact hm
  exact ⟨ao, c, by rw [Nat.zero_add]; exact hb.at j hu, hc, by unfold maxLen at hcm; omega, hi⟩

theorem RowsOwn.below {w w' : World} {B g B' : Nat} {rs : List (List Int)} (h : RowsOwn w B g rs) (hb : Below B' w w') (hB : w.heap.size ≤ B') : RowsOwn w' B g rs := by
  obtain ⟨cur, h1, h2, h3, h4, h5⟩ := h
  exact ⟨cur, h1, h2.below hb hB, h3, fun j hj => by obtain ⟨u, hu, ho⟩ := h4 j hj; exact ⟨u, hu, ho.below hb hB⟩, h5⟩

/-- A row more. -/
theorem RowsTo.snoc {w w' : World} {g : Nat} {cur : Array Value} {rs : List (List Int)} {k : Nat} {u : Value} (h : RowsTo w g cur rs k) (hb : Below w.heap.size w w') (ho : Own w' w.heap.size u (nthR rs k)) (hg : g < w.heap.size) (hk : k < cur.size) :
    RowsTo (w'.setCell ⟨g, k, none⟩ u) g (cur.setIfInBounds k u) rs (k + 1) := by
  have hne : ∀ v xs, Own w' (g + 1) v xs → Own (w'.setCell ⟨g, k, none⟩ u) (g + 1) v xs := fun v xs h => h.setOther g k u (h.ne_of_lt (Nat.lt_succ_self g))
  refine ⟨fun j hj => ?_, fun i j v v' hij hj hi hj' => ?_⟩
  · by_cases e : j = k
    · subst e
      exact ⟨u, by simp [hk], hne _ _ (ho.lower hg)⟩
    · obtain ⟨v, hv, hov⟩ := h.1 j (by omega)
      exact ⟨v, by rw [Array.getElem?_setIfInBounds, if_neg (by omega)]; exact hv, hne _ _ (hov.below hb (Nat.le_refl _))⟩
  · rw [Array.getElem?_setIfInBounds, if_neg (by omega)] at hi
    by_cases e : j = k
    · subst e
      rw [Array.getElem?_setIfInBounds, if_pos rfl, if_pos hk] at hj'
      cases hj'
      obtain ⟨v2, hv2, ho2⟩ := h.1 i (by omega)
      rw [hi] at hv2; cases hv2
      exact ho2.apart ho (Nat.le_refl _)
    · rw [Array.getElem?_setIfInBounds, if_neg (by omega)] at hj'
      exact h.2 i j v v' hij (by omega) hi hj'

theorem RowsTo.zero (w : World) (g : Nat) (cur : Array Value) (rs : List (List Int)) : RowsTo w g cur rs 0 := ⟨fun j h => absurd h (by omega), fun i j _ _ _ h => absurd h (by omega)⟩

set_option maxRecDepth 100000 in
set_option maxHeartbeats 1000000 in
theorem toIntSS_any (ao : Option Addr) (rs : List (List Int)) (n c : Nat) (w : World) (hn : rs.length = n) (hl : n ≤ 1048576) (hls : ∀ r ∈ rs, r.length ≤ 1048576) (hx : RowsAt w ao rs) :
    Calls Try.prog 9 #[.slice ao n c] w fun e w' => e = .returned (.slice (some ⟨w.heap.size, 0, none⟩) n n) ∧ RowsOwn w' w.heap.size w.heap.size rs ∧ Below w.heap.size w w' := by
  have HN := hid hn
  have HLS := hid hls
  clear hn hls
  obtain ⟨i0, hi, hz0, hz1, hz2⟩ := info_parts Try.infoRow
  go_enter Try.func9, Try.ntmps9
  go_wp2_with (at_make; refine wpList_make_full _ rfl _ _ 22 rfl w.heap.size 28 i0 (.slice none 0 0) 1 Try.underlying22 hi hz0 hz1 _ _ _ _ n rfl rfl rfl rfl ?m1 ?m2 (Nat.le_refl _) ?_)
  case m1 => rw [hz2]; omega
  case m2 => unfold maxLen; omega
  intro w1 hown hgrow
  have hb : Below w.heap.size w w1 := (Below.refl _ _).grown hgrow (Nat.le_refl _) (by simp)
  obtain ⟨cur0, hc0, hs0⟩ : ∃ cur, Blk w1 w.heap.size cur 28 ∧ cur.size = n := by
    rcases hown.2 with ⟨e, _⟩ | ⟨g', cap, cur, e, _, hg, hnc, hm, hs, ht⟩
    · simp at e
    · simp only [Value.slice.injEq, Option.some.injEq, Addr.mk.injEq, and_true] at e
      obtain ⟨rfl, _, rfl⟩ := e
      exact ⟨cur, hg, by simpa using hs⟩
  clear hown hgrow hi hz0 hz1 hz2 i0
  go_wp2
  go_loopw [4, 8] (fun i _ wr => ∃ (k : Nat) (cur : Array Value), k ≤ n ∧ i = .int .i64 k ∧ Blk wr w.heap.size cur 28 ∧ cur.size = n ∧ Hid (RowsTo wr w.heap.size cur rs k) ∧ Below w.heap.size w wr) (fun i _ _ => n - (intOf i).toNat)
  case atStart => exact ⟨0, cur0, Nat.zero_le _, rfl, hc0, hs0, RowsTo.zero _ _ _ _, hb⟩
  case round =>
    obtain ⟨k, cur, hk, rfl, hcb, hcs, hrt, hbk⟩ := hrel
    clear hc0 hs0 hb
    by_cases hlt : k < n
    · have hkl : k < rs.length := by rw [HN.out]; exact hlt
      obtain ⟨b, off, rfl, hr⟩ := (hx.below hbk (Nat.le_refl _)) (by omega)
      obtain ⟨a, cc, hck, hl2, hcm, hin⟩ := hr k hkl
      have hlr : (nthR rs k).length ≤ 1048576 := HLS.out _ (by rw [nthR_eq hkl]; exact List.getElem_mem _)
      have hgl := hcb.lt
      obtain ⟨len, hlen⟩ : ∃ len, (nthR rs k).length = len := ⟨_, rfl⟩
      rw [hlen] at hck hl2 hlr
      have HLN := hid hlen
      clear hr hx hlen
      go_wp2_with fail
      refine (toIntS_any a (nthR rs k) len cc wr HLN.out (by omega) hin).mono fun e w2 h => ?_
      obtain ⟨rfl, ho, b2⟩ := h
      have hr2 : Hid _ := RowsTo.snoc hrt.out b2 ho hgl (by omega)
      have hcb2 := hcb.below b2 (Nat.le_refl _)
      have g0 := hcb2.cell k
      have f0 := hcb2.free k
      have hk2 : cur[k]? = some cur[k] := by simp
      rw [hk2] at g0
      have hcb3 := hcb2.set k (.slice (some ⟨wr.heap.size, 0, none⟩) len len)
      have hB3 := (hbk.trans (b2.mono hbk.size)).setCell (p := ⟨w.heap.size, k, none⟩) (Nat.le_refl _) (.slice (some ⟨wr.heap.size, 0, none⟩) len len)
      have hcs3 := hid (Array.size_setIfInBounds (xs := cur) (i := k) (a := (.slice (some ⟨wr.heap.size, 0, none⟩) len len)))
      clear ho b2 hcb hcb2 hrt hbk hck hin hk2
      go_wp2
      go_roundw
      case rel => exact ⟨k + 1, _, by omega, by go_num, hcb3, hcs3.out.trans hcs, hr2, hB3⟩
      case measure => simp [intOf]; omega
    · have hkk : k = n := by omega
      have hd : decide ((k : Int) < n) = false := decide_eq_false (by omega)
      have hfin : Hid (RowsOwn wr w.heap.size w.heap.size rs) := ⟨cur, Nat.le_refl _, hcb, by rw [HN.out]; exact hcs, by have h := hrt.out; rw [hkk, ← HN.out] at h; exact h⟩
      clear hrt hcb hcs hkk
      go_wp2
      go_ret
      exact ⟨rfl, hfin.out, hbk⟩

theorem eqIntS_self (ao bo : Option Addr) (xs : List Int) (n c d : Nat) (w : World) (hn : xs.length = n) (hl : n ≤ 9223372036854775807) (hx : IntsAt w ao xs) (hy : IntsAt w bo xs) :
    Calls Try.prog 14 #[.slice ao n c, .slice bo n d] w fun e w' => e = .returned (.bool true) ∧ Qt w w' :=
  (eqIntS_any ao bo xs xs n n c d w hn hn hl hx hy).mono fun e w' h => by rw [eqL_self] at h; exact h

set_option maxRecDepth 100000 in
set_option maxHeartbeats 1000000 in
theorem eqIntSS_same (ao bo : Option Addr) (rs : List (List Int)) (n c d : Nat) (w : World) (hn : rs.length = n) (hl : n ≤ 1048576) (hx : RowsAt w ao rs) (hy : RowsAt w bo rs) :
    Calls Try.prog 11 #[.slice ao n c, .slice bo n d] w fun e w' => e = .returned (.bool true) ∧ Qt w w' := by
  have HN := hid hn
  clear hn
  have hb : ((n : Int) != (n : Int)) = false := by simp
  go_enter Try.func11, Try.ntmps11
  go_wp2
  go_loopw [5, 11] (fun i _ wr => ∃ k : Nat, k ≤ n ∧ i = .int .i64 k ∧ Qt w wr) (fun i _ _ => n - (intOf i).toNat)
  case atStart => exact ⟨0, Nat.zero_le _, rfl, Qt.refl _⟩
  case round =>
    obtain ⟨k, hk, rfl, hq⟩ := hrel
    by_cases hlt : k < n
    · have hkl : k < rs.length := by rw [HN.out]; exact hlt
      obtain ⟨b, off, rfl, hr⟩ := (hx.qt hq) (by omega)
      obtain ⟨a, cc, hck, hl2, hcm, hin⟩ := hr k hkl
      obtain ⟨b', off', rfl, hr'⟩ := (hy.qt hq) (by omega)
      obtain ⟨a', cc', hck', hl2', hcm', hin'⟩ := hr' k hkl
      obtain ⟨len, hlen⟩ : ∃ len, (nthR rs k).length = len := ⟨_, rfl⟩
      rw [hlen] at hck hck' hl2 hl2'
      have HLN := hid hlen
      clear hr hr' hx hy hlen
      have hlm : len ≤ 9223372036854775807 := by omega
      go_wp2
      go_quiet (first | (go_at_call 14; exact quiet_qt (eqIntS_self a a' (nthR rs k) len cc cc' _ HLN.out hlm (hin.drewN _) (hin'.drewN _))))
      go_wp2
      go_roundw
      case rel => exact ⟨k + 1, by omega, by go_num, hq.drewN _⟩
      case measure => simp [intOf]; omega
    · have hd : decide ((k : Int) < n) = false := decide_eq_false (by omega)
      go_wp2
      go_ret
      exact ⟨rfl, hq⟩

end Go.Proofs.Ytojkiajempdmfaa
