/- Rows of rows that a call made: the walks of markIntSS and heldIntSS. -/
import Derived.Test.YtojkiajempdmfaaGw
namespace Go.Proofs.Ytojkiajempdmfaa
open Go Go.RowKit

/-- Rows of which the first k are written anew. -/
def mkT (rs : List (List Int)) (k0 : Int) : Nat → List (List Int)
  | 0 => rs
  | k + 1 => (mkT rs k0 k).set k (iota (k0 + sumLen (rs.take k)) (nthR rs k).length)
theorem length_mkT (rs : List (List Int)) (k0 : Int) : ∀ k, (mkT rs k0 k).length = rs.length
  | 0 => rfl
  | k + 1 => by rw [mkT, List.length_set, length_mkT]
theorem nthR_set {rs : List (List Int)} {k j : Nat} {ys : List Int} (hk : k < rs.length) : nthR (rs.set k ys) j = if j = k then ys else nthR rs j := by
  unfold nthR
  simp only [List.getD_eq_getElem?_getD, List.getElem?_set]
  by_cases h : k = j
  · subst h; simp [hk]
  · have h' : ¬ j = k := fun e => h e.symm
    simp [h, h']
theorem mkT_old {rs : List (List Int)} {k0 : Int} : ∀ {k j : Nat}, k ≤ j → k ≤ rs.length → nthR (mkT rs k0 k) j = nthR rs j
  | 0, _, _, _ => rfl
  | k + 1, j, h, hl => by rw [mkT, nthR_set (by rw [length_mkT]; omega), if_neg (by omega)]; exact mkT_old (by omega) (by omega)
theorem mkT_new {rs : List (List Int)} {k0 : Int} : ∀ {k j : Nat}, j < k → k ≤ rs.length → nthR (mkT rs k0 k) j = iota (k0 + sumLen (rs.take j)) (nthR rs j).length
  | 0, _, h, _ => by omega
  | k + 1, j, h, hl => by
    rw [mkT, nthR_set (by rw [length_mkT]; omega)]
    by_cases e : j = k
    · subst e; rw [if_pos rfl]
    · rw [if_neg e]; exact mkT_new (by omega) (by omega)

theorem GRow.markRow {w w' : World} {B k : Nat} {S : Nat → Prop} {v u : Value} {rs : List (List Int)} {ys : List Int} (h : GRow w B S v rs) (hk : k < rs.length) (hc : ∀ vals : List Value, w.ownsRow B 28 1 v rs.length vals → vals[k]? = some u) (ho : Own w' B u ys) (hg : w.grownBy w' u.ownBlock) : GRow w' B S v (rs.set k ys) := by
  obtain ⟨vals, h1, h2, h3, h4, h5⟩ := h
  obtain ⟨r1, r2, r3⟩ := GRow.setRow hk h1 h2 h4 h5 (hc vals h1) ho hg
  exact ⟨vals, r1, r2, h3, r3, h5⟩

theorem GRow.rng {w w' : World} {B lo hi : Nat} {S : Nat → Prop} {v : Value} {rs : List (List Int)} (h : GRow w B S v rs) (hr : Rng lo hi w w') (ho : ∀ k, S k → k < lo ∨ hi ≤ k) : GRow w' B S v rs := by
  obtain ⟨vals, h1, h2, h3, h4, h5⟩ := h
  refine ⟨vals, ⟨h1.1, ?_⟩, fun k hk => ⟨(h2 k hk).1, Nat.lt_of_lt_of_le (h2 k hk).2 hr.2.2.2.1⟩, h3, fun j u hu => ⟨(h4 j u hu).1.rng hr (fun k hk => ho k ((h4 j u hu).2.1 k hk)), (h4 j u hu).2⟩, h5⟩
  rcases h1.2 with h2' | ⟨g, cap, cur, rfl, hb, hg, rest⟩
  · exact .inl h2'
  · exact .inr ⟨g, cap, cur, rfl, hb, by rw [hr.2.2.2.2 g (Array.getElem?_eq_some_iff.1 hg).1 (ho g (h3 g rfl))]; exact hg, rest⟩

set_option maxRecDepth 100000 in
set_option maxHeartbeats 1000000 in
theorem markG_any (rs : List (List Int)) (ao : Option Addr) (n c B : Nat) (S : Nat → Prop) (k0 : Int) (w : World) (hn : rs.length = n) (hl : n ≤ 1048576) (hs : sumLen rs ≤ 1048576) (hk0 : 0 ≤ k0) (hk1 : k0 ≤ 1048576000) (hx : GRow w B S (.slice ao n c) rs) :
    Calls Try.prog 15 #[.slice ao n c, .int .i64 k0] w fun e w' => e = .returned (.int .i64 (k0 + sumLen rs)) ∧ GRow w' B S (.slice ao n c) (mkT rs k0 n) ∧ Below B w w' := by
  have HN := hid hn
  have HS := hid hs
  have HBS := hid hx.lt
  clear hn hs
  by_cases hBw : B ≤ w.heap.size
  rotate_left
  · have h0 : n = 0 := by
      obtain ⟨vals, h1, h2, h3, _⟩ := hx
      rcases h1.2 with ⟨_, h0⟩ | ⟨g, cap, cur, e, hb, hg, _⟩
      · have := HN.out; omega
      · have := (Array.getElem?_eq_some_iff.1 hg).1; omega
    subst h0
    have hrs : Hid (rs = []) := List.eq_nil_of_length_eq_zero HN.out
    have hd : decide ((0 : Int) < (0 : Nat)) = false := by decide
    go_enter Try.func15, Try.ntmps15
    go_wp2
    go_loop [1, 5, 6] (fun s1 s5 _ => s1 = .int .i64 k0 ∧ s5 = .int .i64 0) (fun _ _ _ => 0)
    case atStart => exact ⟨rfl, rfl⟩
    case round =>
      obtain ⟨rfl, rfl⟩ := hrel
      go_wp2
      go_ret
      exact ⟨by rw [hrs.out]; simp [sumLen], by rw [hrs.out] at hx ⊢; exact hx, Below.refl _ _⟩
  go_enter Try.func15, Try.ntmps15
  go_wp2
  go_loopw [1, 5, 6] (fun kv i _ wr => ∃ (k s : Nat), k ≤ n ∧ i = .int .i64 k ∧ kv = .int .i64 (k0 + s) ∧ Hid (s = sumLen (rs.take k)) ∧ s ≤ 1048576 ∧ GRow wr B S (.slice ao n c) (mkT rs k0 k) ∧ Below B w wr) (fun _ i _ _ => n - (intOf i).toNat)
  case atStart => exact ⟨0, 0, Nat.zero_le _, rfl, by simp, by simp [Hid, sumLen], by omega, hx, Below.refl _ _⟩
  case round =>
    obtain ⟨k, s, hk, rfl, rfl, hss, hsm, hG, hR⟩ := hrel
    clear hx
    by_cases hlt : k < n
    · have hkl : k < rs.length := by rw [HN.out]; exact hlt
      have hkm : k < (mkT rs k0 k).length := by rw [length_mkT]; exact hkl
      obtain ⟨vals, h1, h2, h3, h4, h5⟩ := id hG
      have hvl : vals.length = (mkT rs k0 k).length := by have := h1.1; omega
      have hv : vals[k]? = some vals[k] := List.getElem?_eq_getElem (by omega)
      obtain ⟨ho, hsu, hsx⟩ := h4 k _ hv
      rw [mkT_old (Nat.le_refl _) (Nat.le_of_lt hkl)] at ho
      obtain ⟨len, hlen⟩ : ∃ len, (nthR rs k).length = len := ⟨_, rfl⟩
      obtain ⟨a, cc, hu, _, _⟩ := ho.shapeN hlen
      rw [hu] at hv ho hsu
      clear hsx
      have hcell : ∃ g, ao = some ⟨g, 0, none⟩ ∧ wr.cell? ⟨g, k, none⟩ = some (.slice a len cc) := by
        rcases h1.2 with ⟨e, h0⟩ | ⟨g, cap, cur, e, _⟩
        · omega
        · simp only [Value.slice.injEq] at e
          obtain ⟨rfl, _, _⟩ := e
          rw [length_mkT, HN.out] at h1
          exact ⟨g, rfl, (World.ownsRow.cellAt h1 k (by omega)).trans hv⟩
      obtain ⟨g, rfl, hck⟩ := hcell
      have hs2 : Hid (s + len = sumLen (rs.take (k + 1))) := by have := sumLen_take hkl; have := hss.out; unfold Hid; omega
      have hsm2 : s + len ≤ 1048576 := by have := sumLen_take_le rs (k + 1); have := hs2.out; have := HS.out; omega
      have hrng := hid hsu
      have HLN := hid hlen
      have hval : Hid (∀ vals' : List Value, wr.ownsRow B 28 1 (.slice (some ⟨g, 0, none⟩) n c) (mkT rs k0 k).length vals' → vals'[k]? = some (.slice a len cc)) := fun vals' h1' => by
        have e1 := World.ownsRow.cellAt (by rw [length_mkT, HN.out] at h1'; exact h1') k (by omega)
        rw [hck] at e1; exact e1.symm
      have hmk : Hid (mkT rs k0 (k + 1) = (mkT rs k0 k).set k (iota (k0 + s) len)) := by unfold Hid; rw [mkT, hss.out, HLN.out]
      clear hlen h1 h2 h3 h4 h5 hvl hv hsu hu
      go_wp2_with fail
      refine (markIntS_any a (nthR rs k) len cc B (k0 + s) wr HLN.out (by omega) (by omega) (by omega) ho).mono fun e w2 h => ?_
      obtain ⟨rfl, ho2, hg⟩ := h
      have hG2 := hG.markRow hkm hval.out ho2 hg
      rw [← hmk.out] at hG2
      have hR2 := hR.grown hg (Nat.le_trans hBw hR.size) (fun q e => (HBS.out q (hrng.out q e)).1)
      clear hg hG hR ho hck ho2
      go_wp2
      go_roundw
      case rel => exact ⟨k + 1, s + len, by omega, by go_num, by simp; omega, hs2, hsm2, hG2, hR2⟩
      case measure => simp [intOf]; omega
    · have hd : decide ((k : Int) < n) = false := decide_eq_false (by omega)
      have hkn : k = n := by omega
      have hfin : Hid (s = sumLen rs) := by have := hss.out; rwa [List.take_of_length_le (by rw [HN.out]; omega)] at this
      rw [hkn] at hG
      clear hkn
      go_wp2
      go_ret
      exact ⟨by rw [hfin.out]; rfl, hG, hR⟩

set_option maxRecDepth 100000 in
set_option maxHeartbeats 1000000 in
theorem heldG_any (rs : List (List Int)) (ao : Option Addr) (n c : Nat) (k0 : Int) (w : World) (hn : rs.length = n) (hl : n ≤ 1048576) (hs : sumLen rs ≤ 1048576) (hk0 : 0 ≤ k0) (hk1 : k0 ≤ 1048576000) (hx : RowsAt w ao (mkT rs k0 n)) :
    Calls Try.prog 22 #[.slice ao n c, .int .i64 k0] w fun e w' => e = .returned (.int .i64 (k0 + sumLen rs)) ∧ w = w' := by
  have HN := hid hn
  have HS := hid hs
  clear hn hs
  go_enter Try.func22, Try.ntmps22
  go_wp2
  go_loop [1, 5, 6] (fun kv i _ => ∃ (k s : Nat), k ≤ n ∧ i = .int .i64 k ∧ kv = .int .i64 (k0 + s) ∧ Hid (s = sumLen (rs.take k)) ∧ s ≤ 1048576) (fun _ i _ => n - (intOf i).toNat)
  case atStart => exact ⟨0, 0, Nat.zero_le _, rfl, by simp, by simp [Hid, sumLen], by omega⟩
  case round =>
    obtain ⟨k, s, hk, rfl, rfl, hss, hsm⟩ := hrel
    by_cases hlt : k < n
    · have hkl : k < rs.length := by rw [HN.out]; exact hlt
      have hkm : k < (mkT rs k0 n).length := by rw [length_mkT]; exact hkl
      obtain ⟨b, off, rfl, hr⟩ := hx (by omega)
      obtain ⟨a, cc, hck, _, _, hin⟩ := hr k hkm
      have hmk := mkT_new (rs := rs) (k0 := k0) (k := n) (j := k) hlt (by rw [HN.out]; exact Nat.le_refl _)
      rw [hmk] at hck hin
      rw [length_iota] at hck
      rw [← hss.out] at hin
      obtain ⟨len, hlen⟩ : ∃ len, (nthR rs k).length = len := ⟨_, rfl⟩
      rw [hlen] at hck hin
      have hs2 : Hid (s + len = sumLen (rs.take (k + 1))) := by have := sumLen_take hkl; have := hss.out; unfold Hid; omega
      have hsm2 : s + len ≤ 1048576 := by have := sumLen_take_le rs (k + 1); have := hs2.out; have := HS.out; omega
      have hd : decide (k0 + (s : Int) + len < 0) = false := decide_eq_false (by omega)
      clear hlen hr hmk
      go_wp2_with (go_at_call 17; refine (heldIntS_any a len cc (k0 + s) w (by omega) (by omega) (by omega) hin).mono ?_; rintro e w2 ⟨rfl, rfl⟩)
      go_round
      case rel => exact ⟨k + 1, s + len, by omega, by go_num, by simp; omega, hs2, hsm2⟩
      case measure => simp [intOf]; omega
    · have hd : decide ((k : Int) < n) = false := decide_eq_false (by omega)
      have hfin : Hid (s = sumLen rs) := by have := hss.out; rwa [List.take_of_length_le (by rw [HN.out]; omega)] at this
      go_wp2
      go_ret
      exact ⟨by rw [hfin.out]; rfl, rfl⟩

end Go.Proofs.Ytojkiajempdmfaa
