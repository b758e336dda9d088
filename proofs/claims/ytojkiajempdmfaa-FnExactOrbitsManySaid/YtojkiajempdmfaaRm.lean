/- Rows of rows: the walk of markIntSS. -/
import Derived.Test.YtojkiajempdmfaaRw
namespace Go.Proofs.Ytojkiajempdmfaa
open Go Go.RowKit

/-- The world is as it was, but for the blocks from lo to hi. -/
def Rng (lo hi : Nat) (w w' : World) : Prop :=
  w'.os = w.os ∧ w'.tape = w.tape ∧ w'.output = w.output ∧ w.heap.size ≤ w'.heap.size ∧ ∀ k, k < w.heap.size → (k < lo ∨ hi ≤ k) → w'.heap[k]? = w.heap[k]?
theorem Rng.refl (lo hi : Nat) (w : World) : Rng lo hi w w := ⟨rfl, rfl, rfl, Nat.le_refl _, fun _ _ _ => rfl⟩
theorem Rng.trans {lo hi : Nat} {a b c : World} (h : Rng lo hi a b) (k : Rng lo hi b c) : Rng lo hi a c :=
  ⟨k.1.trans h.1, k.2.1.trans h.2.1, k.2.2.1.trans h.2.2.1, Nat.le_trans h.2.2.2.1 k.2.2.2.1, fun i hi' hr => (k.2.2.2.2 i (Nat.lt_of_lt_of_le hi' h.2.2.2.1) hr).trans (h.2.2.2.2 i hi' hr)⟩
theorem Rng.below {lo hi B : Nat} {w w' : World} (h : Rng lo hi w w') (hB : B ≤ lo) (hw : B ≤ w.heap.size) : Below B w w' :=
  ⟨h.1, h.2.1, h.2.2.1, h.2.2.2.1, fun k hk => h.2.2.2.2 k (by omega) (.inl (by omega))⟩
theorem Rng.ofGrown {lo hi : Nat} {w w' : World} {row : Option Nat} (hg : w.grownBy w' row) (h : ∀ k, row = some k → lo ≤ k ∧ k < hi) : Rng lo hi w w' :=
  ⟨hg.os, hg.tape, hg.output, hg.size, fun k hk hr => hg.block k hk (fun e => by have := h k e.symm; omega)⟩
theorem Own.rng {w w' : World} {B lo hi : Nat} {v : Value} {xs : List Int} (h : Own w B v xs) (hr : Rng lo hi w w') (ho : ∀ k, v.ownBlock = some k → k < lo ∨ hi ≤ k) : Own w' B v xs := by
  refine ⟨h.1, ?_⟩
  rcases h.2 with h2 | ⟨g, cap, cur, rfl, hb, hg, rest⟩
  · exact .inl h2
  · exact .inr ⟨g, cap, cur, rfl, hb, by rw [hr.2.2.2.2 g (Array.getElem?_eq_some_iff.1 hg).1 (ho g rfl)]; exact hg, rest⟩

/-- The rows lie in blocks below E. -/
def RowsIn (w : World) (B g E : Nat) (rs : List (List Int)) : Prop := ∃ cur, B ≤ g ∧ Blk w g cur 28 ∧ cur.size = rs.length ∧ RowsTo w g cur rs rs.length ∧ ∀ (j : Nat) (u : Value) (k : Nat), cur[j]? = some u → u.ownBlock = some k → k < E
theorem RowsOwn.toIn {w : World} {B g : Nat} {rs : List (List Int)} (h : RowsOwn w B g rs) : RowsIn w B g w.heap.size rs := by
  obtain ⟨cur, h1, h2, h3, h4⟩ := h
  refine ⟨cur, h1, h2, h3, h4, fun j u k hj hk => ?_⟩
  have hjl : j < rs.length := by rw [← h3]; exact (Array.getElem?_eq_some_iff.1 hj).1
  obtain ⟨v, hv, ho⟩ := h4.1 j hjl
  rw [hj] at hv; cases hv
  exact (World.ownsRow.lt ho k hk).2
theorem RowsIn.own {w : World} {B g E : Nat} {rs : List (List Int)} (h : RowsIn w B g E rs) : RowsOwn w B g rs := by
  obtain ⟨cur, h1, h2, h3, h4, _⟩ := h
  exact ⟨cur, h1, h2, h3, h4⟩
theorem RowsIn.at {w : World} {B g E : Nat} {rs : List (List Int)} (h : RowsIn w B g E rs) : RowsAt w (some ⟨g, 0, none⟩) rs := h.own.at
theorem RowsIn.below {w w' : World} {B g E B' : Nat} {rs : List (List Int)} (h : RowsIn w B g E rs) (hb : Below B' w w') (hB : w.heap.size ≤ B') : RowsIn w' B g E rs := by
  obtain ⟨cur, h1, h2, h3, ⟨h4, h5⟩, h6⟩ := h
  exact ⟨cur, h1, h2.below hb hB, h3, ⟨fun j hj => by obtain ⟨u, hu, ho⟩ := h4 j hj; exact ⟨u, hu, ho.below hb hB⟩, h5⟩, h6⟩

theorem RowsIn.qt {w w' : World} {B g E : Nat} {rs : List (List Int)} (h : RowsIn w B g E rs) (hq : Qt w w') : RowsIn w' B g E rs := h.below (hq.below w.heap.size) (Nat.le_refl _)
theorem Own.old {w : World} {B : Nat} {v : Value} {xs : List Int} (h : Own w B v xs) (E : Nat) : ∀ k, v.ownBlock = some k → k < w.heap.size + 1 ∨ E ≤ k := fun k hk => .inl (by have := (World.ownsRow.lt h k hk).2; omega)
theorem Own.fresher {w : World} {B E : Nat} {v : Value} {xs : List Int} (h : Own w B v xs) (g : Nat) (hE : E ≤ B) : ∀ k, v.ownBlock = some k → k < g + 1 ∨ E ≤ k := fun k hk => .inr (by have := (World.ownsRow.lt h k hk).1; omega)

/-- How many numbers rows have. -/
def sumLen : List (List Int) → Nat
  | [] => 0
  | r :: rs => r.length + sumLen rs
theorem sumLen_take {rs : List (List Int)} : ∀ {k : Nat}, k < rs.length → sumLen (rs.take (k + 1)) = sumLen (rs.take k) + (nthR rs k).length := by
  induction rs with
  | nil => intro k h; simp at h
  | cons r rs ih =>
    intro k h
    cases k with
    | zero => simp [sumLen, nthR]
    | succ k =>
      have := ih (k := k) (by simpa using h)
      simp only [List.take_succ_cons, sumLen, this]
      have e : nthR (r :: rs) (k + 1) = nthR rs k := by simp [nthR]
      rw [e]; omega
theorem sumLen_take_le (rs : List (List Int)) (k : Nat) : sumLen (rs.take k) ≤ sumLen rs := by
  induction rs generalizing k with
  | nil => simp [sumLen]
  | cons r rs ih =>
    cases k with
    | zero => simp [sumLen]
    | succ k => simp only [List.take_succ_cons, sumLen]; have := ih k; omega
theorem szRest_sum : ∀ (rs : List (List Int)) (left : Int), 0 ≤ left → ¬ szRest left rs < 0 → (sumLen rs : Int) ≤ left
  | [], left, h, _ => by simpa [sumLen] using h
  | r :: rs, left, h0, h => by
    rw [szRest] at h
    by_cases hs : szV left r.length < 0
    · rw [if_pos hs] at h; omega
    · rw [if_neg hs] at h
      have h1 := szV_le hs
      have h2 : szV left r.length = left - r.length := by unfold szV; rw [if_neg (by omega)]
      have := szRest_sum rs _ (by omega) h
      simp only [sumLen]; omega
theorem szSS_sum {left : Int} {rs : List (List Int)} (h : ¬ szSS left rs < 0) : (rs.length : Int) + sumLen rs ≤ left := by
  unfold szSS at h
  by_cases h1 : left - rs.length < 0
  · rw [if_pos h1] at h; omega
  · rw [if_neg h1] at h
    have := szRest_sum rs _ (by omega) h
    omega

set_option maxRecDepth 100000 in
set_option maxHeartbeats 1000000 in
theorem markIntSS_any (rs : List (List Int)) (n B g E : Nat) (k0 : Int) (w : World) (hn : rs.length = n) (hl : n ≤ 1048576) (hs : sumLen rs ≤ 1048576) (hk0 : 0 ≤ k0) (hk1 : k0 ≤ 1048576000) (hx : RowsIn w B g E rs) :
    Calls Try.prog 15 #[.slice (some ⟨g, 0, none⟩) n n, .int .i64 k0] w fun e w' => e = .returned (.int .i64 (k0 + sumLen rs)) ∧ Rng (g + 1) E w w' := by
  have HN := hid hn
  have HS := hid hs
  clear hn hs
  obtain ⟨cur, hB, hb, hcs, ⟨hr1, hr2⟩, hr3⟩ := hx
  have HR2 := hid hr2
  have HR3 := hid hr3
  have HCS := hid hcs
  have h0 : Hid (∀ j, 0 ≤ j → j < rs.length → ∃ u, cur[j]? = some u ∧ Own w (g + 1) u (nthR rs j)) := fun j _ hj => hr1 j hj
  clear hr1 hr2 hr3 hcs
  go_enter Try.func15, Try.ntmps15
  go_wp2
  go_loopw [1, 5, 6] (fun kv i _ wr => ∃ (k s : Nat), k ≤ n ∧ i = .int .i64 k ∧ kv = .int .i64 (k0 + s) ∧ Hid (s = sumLen (rs.take k)) ∧ s ≤ 1048576 ∧ Blk wr g cur 28 ∧ Hid (∀ j, k ≤ j → j < rs.length → ∃ u, cur[j]? = some u ∧ Own wr (g + 1) u (nthR rs j)) ∧ Rng (g + 1) E w wr) (fun _ i _ _ => n - (intOf i).toNat)
  case atStart => exact ⟨0, 0, Nat.zero_le _, rfl, by simp, by simp [Hid, sumLen], by omega, hb, h0, Rng.refl _ _ _⟩
  case round =>
    obtain ⟨k, s, hk, rfl, rfl, hss, hsm, hbr, hrr, hR⟩ := hrel
    clear hb h0
    by_cases hlt : k < n
    · have hkl : k < rs.length := by rw [HN.out]; exact hlt
      obtain ⟨u, hu, ho⟩ := hrr.out k (Nat.le_refl _) hkl
      obtain ⟨len, hlen⟩ : ∃ len, (nthR rs k).length = len := ⟨_, rfl⟩
      obtain ⟨a, cc, rfl, _, _⟩ := ho.shapeN hlen
      have hck := hbr.at k hu
      have hs2 : Hid (s + len = sumLen (rs.take (k + 1))) := by have := sumLen_take hkl; have := hss.out; unfold Hid; omega
      have hsm2 : s + len ≤ 1048576 := by have := sumLen_take_le rs (k + 1); have := hs2.out; have := HS.out; omega
      have hrng : Hid (∀ b, (Value.slice a len cc).ownBlock = some b → g + 1 ≤ b ∧ b < E) := fun b hb => ⟨(World.ownsRow.lt ho b hb).1, HR3.out k _ b hu hb⟩
      have HLN := hid hlen
      clear hlen
      go_wp2_with fail
      refine (markIntS_any a (nthR rs k) len cc (g + 1) (k0 + s) wr HLN.out (by omega) (by omega) (by omega) ho).mono fun e w2 h => ?_
      obtain ⟨rfl, _, hg⟩ := h
      have hbr2 := hbr.kept hg (fun e => by have := hrng.out g e.symm; omega)
      have hR2 := hR.trans (Rng.ofGrown hg hrng.out)
      have hrr2 : Hid (∀ j, k + 1 ≤ j → j < rs.length → ∃ u, cur[j]? = some u ∧ Own w2 (g + 1) u (nthR rs j)) := fun j hj hjl => by
        obtain ⟨v, hv, hov⟩ := hrr.out j (by omega) hjl
        refine ⟨v, hv, hov.kept hg ?_⟩
        rcases HR2.out k j _ v (by omega) hjl hu hv with e | e
        · cases hvb : v.ownBlock with
          | none => exact .inl rfl
          | some q => exact .inr (by rw [e]; simp)
        · exact .inr fun h => e h.symm
      clear hg hbr hR hrr ho hck
      go_wp2
      go_roundw
      case rel => exact ⟨k + 1, s + len, by omega, by go_num, by simp; omega, hs2, hsm2, hbr2, hrr2, hR2⟩
      case measure => simp [intOf]; omega
    · have hd : decide ((k : Int) < n) = false := decide_eq_false (by omega)
      have hfin : Hid (s = sumLen rs) := by have := hss.out; rwa [List.take_of_length_le (by rw [HN.out]; omega)] at this
      go_wp2
      go_ret
      exact ⟨by rw [hfin.out]; rfl, hR⟩

end Go.Proofs.Ytojkiajempdmfaa
