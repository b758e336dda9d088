/- The walks of MovesValid, the program's and the reference's. -/
import Derived.Test.YtojkiajempdmfaaPv
import Derived.Test.YtojkiajempdmfaaRw
namespace Go.Proofs.Ytojkiajempdmfaa
open Go Go.RowKit

/-- The generators are permutations of so many places, and not too many. -/
def MovesOk (p : Int) (rs : List (List Int)) : Prop := 1 ≤ p ∧ p ≤ 5 ∧ rs.length ≤ 3 ∧ ∀ r ∈ rs, (r.length : Int) = p ∧ PermOk r
instance (p : Int) (rs : List (List Int)) : Decidable (MovesOk p rs) := by unfold MovesOk PermOk; infer_instance
def movesB (p : Int) (rs : List (List Int)) : Bool := decide (MovesOk p rs)
theorem movesB_true {p : Int} {rs : List (List Int)} (h : MovesOk p rs) : movesB p rs = true := decide_eq_true h
theorem movesB_false {p : Int} {rs : List (List Int)} (h : ¬ MovesOk p rs) : movesB p rs = false := decide_eq_false h

theorem inR_in {lo hi n : Int} (h : lo ≤ n ∧ n ≤ hi) : inR lo hi n = true := by simpa [inR] using h
theorem inR_out {lo hi n : Int} (h : ¬ (lo ≤ n ∧ n ≤ hi)) : inR lo hi n = false := by simp only [inR, ← Bool.decide_and]; exact decide_eq_false h
theorem movesOk_row {p : Int} {rs : List (List Int)} (h : MovesOk p rs) {k : Nat} (hk : k < rs.length) : ((nthR rs k).length : Int) = p ∧ PermOk (nthR rs k) :=
  h.2.2.2 _ (by rw [nthR_eq hk]; exact List.getElem_mem _)
theorem movesOk_of {p : Int} {rs : List (List Int)} (h1 : 1 ≤ p) (h2 : p ≤ 5) (h3 : rs.length ≤ 3) (h : ∀ j, j < rs.length → ((nthR rs j).length : Int) = p ∧ PermOk (nthR rs j)) : MovesOk p rs :=
  ⟨h1, h2, h3, fun r hr => by obtain ⟨j, hj, rfl⟩ := List.getElem_of_mem hr; rw [← nthR_eq hj]; exact h j hj⟩

set_option maxRecDepth 100000 in
set_option maxHeartbeats 1000000 in
theorem implMovesValid_any (p : Int) (ao : Option Addr) (rs : List (List Int)) (n c : Nat) (w : World) (hn : rs.length = n) (hl : n ≤ 1048576) (hls : ∀ r ∈ rs, r.length ≤ 1048576) (hx : RowsAt w ao rs) :
    Calls Try.prog 26 #[.int .i64 p, .slice ao n c] w fun e w' => e = .returned (.bool (movesB p rs)) ∧ w = w' := by
  have HN := hid hn
  have HLS := hid hls
  clear hn hls
  by_cases h1 : p < 1
  · have hfin := hid (movesB_false (p := p) (rs := rs) fun h => by have := h.1; omega)
    have hd : decide (p < 1) = true := decide_eq_true h1
    go_enter Try.func26, Try.ntmps26
    go_wp2
    go_ret
    exact ⟨by rw [hfin.out]; rfl, rfl⟩
  have hd1 : decide (p < 1) = false := decide_eq_false h1
  by_cases h5 : 5 < p
  · have hfin := hid (movesB_false (p := p) (rs := rs) fun h => by have := h.2.1; omega)
    have hd : decide (5 < p) = true := decide_eq_true h5
    go_enter Try.func26, Try.ntmps26
    go_wp2
    go_ret
    exact ⟨by rw [hfin.out]; rfl, rfl⟩
  have hd5 : decide (5 < p) = false := decide_eq_false h5
  by_cases h3 : 3 < n
  · have hfin := hid (movesB_false (p := p) (rs := rs) fun h => by have := h.2.2.1; rw [HN.out] at this; omega)
    have hd : decide ((3 : Int) < n) = true := decide_eq_true (by omega)
    go_enter Try.func26, Try.ntmps26
    go_wp2
    go_ret
    exact ⟨by rw [hfin.out]; rfl, rfl⟩
  have hd3 : decide ((3 : Int) < n) = false := decide_eq_false (by omega)
  go_enter Try.func26, Try.ntmps26
  go_wp2
  go_loop [6, 20] (fun _ i => ∃ k : Nat, k ≤ n ∧ i = .int .i64 k ∧ Hid (∀ j, j < k → ((nthR rs j).length : Int) = p ∧ PermOk (nthR rs j))) (fun _ i => n - (intOf i).toNat)
  case atStart => exact ⟨0, Nat.zero_le _, rfl, fun j h => absurd h (by omega)⟩
  case round =>
    obtain ⟨k, hk, rfl, hh⟩ := hrel
    by_cases hlt : k < n
    · have hkl : k < rs.length := by rw [HN.out]; exact hlt
      obtain ⟨b, off, rfl, hr⟩ := hx (by omega)
      obtain ⟨a, cc, hck, hl2, hcm, hin⟩ := hr k hkl
      have hlr : (nthR rs k).length ≤ 1048576 := HLS.out _ (by rw [nthR_eq hkl]; exact List.getElem_mem _)
      have hrow : Hid (MovesOk p rs → ((nthR rs k).length : Int) = p ∧ PermOk (nthR rs k)) := fun h => movesOk_row h hkl
      have hnext : Hid (((nthR rs k).length : Int) = p → PermOk (nthR rs k) → ∀ j, j < k + 1 → ((nthR rs j).length : Int) = p ∧ PermOk (nthR rs j)) := fun h1 h2 j hj => by
        by_cases e : j = k
        · subst e; exact ⟨h1, h2⟩
        · exact hh.out j (by omega)
      obtain ⟨len, hlen⟩ : ∃ len, (nthR rs k).length = len := ⟨_, rfl⟩
      rw [hlen] at hck hl2 hlr hrow hnext
      have HLN := hid hlen
      clear hr hx hlen
      by_cases hp : (len : Int) = p
      · have hb : ((len : Int) != p) = false := by simp [hp]
        cases hpv : permB (nthR rs k) with
        | true =>
          have hpo : PermOk (nthR rs k) := by simpa [permB] using hpv
          have hnx := hid (hnext.out hp hpo)
          clear hpo hp
          go_wp2_with (go_at_call 36; refine (implPermValid_any _ _ _ _ _ HLN.out (by omega) hin).mono ?_; rintro e w' ⟨rfl, rfl⟩; rw [hpv])
          go_round
          case rel => exact ⟨k + 1, by omega, by go_num, hnx⟩
          case measure => simp [intOf]; omega
        | false =>
          have hpo : ¬ PermOk (nthR rs k) := by simpa [permB] using hpv
          have hfin := hid (movesB_false (p := p) (rs := rs) fun h => hpo (hrow.out h).2)
          clear hpo hp
          go_wp2_with (go_at_call 36; refine (implPermValid_any _ _ _ _ _ HLN.out (by omega) hin).mono ?_; rintro e w' ⟨rfl, rfl⟩; rw [hpv])
          go_ret
          exact ⟨by rw [hfin.out]; rfl, rfl⟩
      · have hb : ((len : Int) != p) = true := by simp [hp]
        have hfin := hid (movesB_false (p := p) (rs := rs) fun h => hp (hrow.out h).1)
        clear hp
        go_wp2
        go_ret
        exact ⟨by rw [hfin.out]; rfl, rfl⟩
    · have hd : decide ((k : Int) < n) = false := decide_eq_false (by omega)
      have hfin := hid (movesB_true (movesOk_of (p := p) (rs := rs) (by omega) (by omega) (by rw [HN.out]; omega) fun j hj => hh.out j (by rw [HN.out] at hj; omega)))
      go_wp2
      go_ret
      exact ⟨by rw [hfin.out]; rfl, rfl⟩

set_option maxRecDepth 100000 in
set_option maxHeartbeats 1000000 in
theorem specMovesValid_any (p : Int) (ao : Option Addr) (rs : List (List Int)) (n c : Nat) (w : World) (hn : rs.length = n) (hl : n ≤ 1048576) (hls : ∀ r ∈ rs, r.length ≤ 1048576) (hx : RowsAt w ao rs) :
    Calls Try.prog 24 #[.int .i64 p, .slice ao n c] w fun e w' => e = .returned (.bool (movesB p rs)) ∧ Below w.heap.size w w' := by
  have HN := hid hn
  have HLS := hid hls
  clear hn hls
  go_enter Try.func24, Try.ntmps24
  go_wp2
  go_loopw [5, 6] (fun i _ wr => ∃ k : Nat, k ≤ n ∧ i = .int .i64 k ∧ Below w.heap.size w wr ∧ Hid (∀ j, j < k → ((nthR rs j).length : Int) = p ∧ PermOk (nthR rs j))) (fun i _ _ => n - (intOf i).toNat)
  case atStart => exact ⟨0, Nat.zero_le _, rfl, Below.refl _ _, fun j h => absurd h (by omega)⟩
  case round =>
    obtain ⟨k, hk, rfl, hB, hh⟩ := hrel
    by_cases hlt : k < n
    · have hkl : k < rs.length := by rw [HN.out]; exact hlt
      have hxr := hx.below hB (Nat.le_refl _)
      obtain ⟨b, off, rfl, hr⟩ := hxr (by omega)
      obtain ⟨a, cc, hck, hl2, hcm, hin⟩ := hr k hkl
      have hlr : (nthR rs k).length ≤ 1048576 := HLS.out _ (by rw [nthR_eq hkl]; exact List.getElem_mem _)
      have hrow : Hid (MovesOk p rs → ((nthR rs k).length : Int) = p ∧ PermOk (nthR rs k)) := fun h => movesOk_row h hkl
      have hnext : Hid (((nthR rs k).length : Int) = p → PermOk (nthR rs k) → ∀ j, j < k + 1 → ((nthR rs j).length : Int) = p ∧ PermOk (nthR rs j)) := fun h1 h2 j hj => by
        by_cases e : j = k
        · subst e; exact ⟨h1, h2⟩
        · exact hh.out j (by omega)
      obtain ⟨len, hlen⟩ : ∃ len, (nthR rs k).length = len := ⟨_, rfl⟩
      rw [hlen] at hck hl2 hlr hrow hnext
      have HLN := hid hlen
      clear hr hlen hxr
      cases hpv : permB (nthR rs k) with
      | false =>
        have hpo : ¬ PermOk (nthR rs k) := by simpa [permB] using hpv
        have hfin := hid (movesB_false (p := p) (rs := rs) fun h => hpo (hrow.out h).2)
        clear hpo
        go_wp2_with fail
        refine (specPermValid_any a (nthR rs k) len cc wr HLN.out (by omega) hl2 hin).mono fun e w2 h => ?_
        rw [hpv] at h
        obtain ⟨rfl, hq⟩ := h
        have hB := hB.trans (hq.below _)
        clear hq
        go_wp2
        go_ret
        exact ⟨by rw [hfin.out]; rfl, hB⟩
      | true =>
        have hpo : PermOk (nthR rs k) := by simpa [permB] using hpv
        have hc2 : ∀ w2, Qt wr w2 → w2.cell? ⟨b, off + k, none⟩ = some (.slice a len cc) := fun w2 h => by rw [h.cell]; exact hck
        have HC2 := hid hc2
        clear hc2
        by_cases hp : (len : Int) = p
        · have hb : ((len : Int) != p) = false := by simp [hp]
          have hnx := hid (hnext.out hp hpo)
          clear hpo hp
          go_wp2_with fail
          refine (specPermValid_any a (nthR rs k) len cc wr HLN.out (by omega) hl2 hin).mono fun e w2 h => ?_
          rw [hpv] at h
          obtain ⟨rfl, hq⟩ := h
          have hB := hB.trans (hq.below _)
          have hck2 := HC2.out w2 hq
          clear hq
          go_wp2
          go_roundw
          case rel => exact ⟨k + 1, by omega, by go_num, hB, hnx⟩
          case measure => simp [intOf]; omega
        · have hb : ((len : Int) != p) = true := by simp [hp]
          have hfin := hid (movesB_false (p := p) (rs := rs) fun h => hp (hrow.out h).1)
          clear hpo hp
          go_wp2_with fail
          refine (specPermValid_any a (nthR rs k) len cc wr HLN.out (by omega) hl2 hin).mono fun e w2 h => ?_
          rw [hpv] at h
          obtain ⟨rfl, hq⟩ := h
          have hB := hB.trans (hq.below _)
          have hck2 := HC2.out w2 hq
          clear hq
          go_wp2
          go_ret
          exact ⟨by rw [hfin.out]; rfl, hB⟩
    · have hd : decide ((k : Int) < n) = false := decide_eq_false (by omega)
      by_cases hp : 1 ≤ p ∧ p ≤ 5
      · have hr := hid (inR_in hp)
        by_cases h3 : n ≤ 3
        · have hd3 : decide ((n : Int) ≤ 3) = true := decide_eq_true (by omega)
          have hfin := hid (movesB_true (movesOk_of (p := p) (rs := rs) hp.1 hp.2 (by rw [HN.out]; omega) fun j hj => hh.out j (by rw [HN.out] at hj; omega)))
          go_wp2_with (go_at_call 28; refine (l1In_any _ _ _ _).mono ?_; rintro e w' ⟨rfl, rfl⟩; rw [hr.out])
          go_ret
          exact ⟨by rw [hfin.out]; rfl, hB⟩
        · have hd3 : decide ((n : Int) ≤ 3) = false := decide_eq_false (by omega)
          have hfin := hid (movesB_false (p := p) (rs := rs) fun h => by have := h.2.2.1; rw [HN.out] at this; omega)
          go_wp2_with (go_at_call 28; refine (l1In_any _ _ _ _).mono ?_; rintro e w' ⟨rfl, rfl⟩; rw [hr.out])
          go_ret
          exact ⟨by rw [hfin.out]; rfl, hB⟩
      · have hr := hid (inR_out hp)
        have hfin := hid (movesB_false (p := p) (rs := rs) fun h => hp ⟨h.1, h.2.1⟩)
        clear hp
        go_wp2_with (go_at_call 28; refine (l1In_any _ _ _ _).mono ?_; rintro e w' ⟨rfl, rfl⟩; rw [hr.out])
        go_ret
        exact ⟨by rw [hfin.out]; rfl, hB⟩

end Go.Proofs.Ytojkiajempdmfaa
