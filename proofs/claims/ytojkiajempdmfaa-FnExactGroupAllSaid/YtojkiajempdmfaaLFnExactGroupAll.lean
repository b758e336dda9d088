/- The walk of the law FnExactGroupAll. -/
import Derived.Test.YtojkiajempdmfaaGk
import Derived.Test.YtojkiajempdmfaaGs
import Derived.Test.YtojkiajempdmfaaGm
namespace Go.Proofs.Ytojkiajempdmfaa
open Go Go.RowKit

theorem gOk_len120 {p : Int} {rs : List (List Int)} : (allL p rs).length ≤ 3125 ∧ sumLen (allL p rs) ≤ 15625 := by
  by_cases h : MovesOk p rs
  · rw [allL_in h]
    have hk := allG_ok h
    have hs : ∀ l : List (List Int), (∀ x ∈ l, PermOk x ∧ x.length = p.toNat) → sumLen l ≤ 5 * l.length := by
      intro l
      induction l with
      | nil => intro _; simp [sumLen]
      | cons x l ih =>
        intro hl
        have h1 := ih fun y hy => hl y (List.mem_cons_of_mem _ hy)
        have h2 := (hl x (by simp)).1.2.1
        simp only [sumLen, List.length_cons]; omega
    have h1 := gOk_len hk
    have h2 := hs _ hk.2
    exact ⟨h1, by omega⟩
  · rw [allL_out h]; simp [sumLen]

set_option maxRecDepth 100000 in
set_option maxHeartbeats 4000000 in
theorem fnExactGroupAll_walk (w : World) (p0 : Int) (_hp0 : -9223372036854775808 ≤ p0 ∧ p0 ≤ 9223372036854775807) (ao1 : Option Addr) (rs1 : List (List Int)) (n1 c1 : Nat) (hn1 : rs1.length = n1) (hl1 : n1 ≤ 9223372036854775807) (hx1 : RowsAt w ao1 rs1) :
    Calls Try.prog 6 #[.int .i64 p0, .slice ao1 n1 c1] w fun e w' => e = .returned (.bool true) ∧ Below w.heap.size w w' := by
  have HN1 := hid hn1
  clear hn1
  go_enter Try.func6, Try.ntmps6
  go_wp2_with fail
  refine (szIntSS_any ao1 rs1 n1 c1 1048576 w HN1.out hl1 (by omega) (by omega) hx1).mono fun e w1 h => ?_
  obtain ⟨rfl, rfl⟩ := h
  by_cases hsz : szSS 1048576 rs1 < 0
  · have hd : decide (szSS 1048576 rs1 < 0) = true := decide_eq_true hsz
    go_wp2_with fail
    go_ret
    exact ⟨rfl, Below.refl _ _⟩
  have hd : decide (szSS 1048576 rs1 < 0) = false := decide_eq_false hsz
  have hle := szSS_le hsz
  have hsu := szSS_sum hsz
  rw [HN1.out] at hle hsu
  have hcap : n1 ≤ 1048576 := by omega
  have HLS : Hid (∀ r ∈ rs1, r.length ≤ 1048576) := fun r hr => by have := hle.2 r hr; omega
  obtain ⟨S1, hS⟩ : ∃ S, sumLen rs1 = S := ⟨_, rfl⟩
  have HS1 := hid hS
  rw [hS] at hsu
  have HSM : Hid (sumLen rs1 ≤ 1048576) := by unfold Hid; omega
  have hSc : S1 ≤ 1048576 := by omega
  have hG := gOk_len120 (p := p0) (rs := rs1)
  obtain ⟨N, hN⟩ : ∃ N, (allL p0 rs1).length = N := ⟨_, rfl⟩
  obtain ⟨M, hM⟩ : ∃ M, sumLen (allL p0 rs1) = M := ⟨_, rfl⟩
  rw [hN, hM] at hG
  have hN3 := hG.1
  have hM3 := hG.2
  have HL := hid hN
  have HM := hid hM
  have hk0 : decide ((1 : Int) + S1 < 0) = false := decide_eq_false (by omega)
  have hm0 : decide ((1 : Int) + M < 0) = false := decide_eq_false (by omega)
  have hm1 : ((1 : Int) + M != 1 + M) = false := by simp
  clear hsz hle hsu hS hG hN hM
  go_wp2_with fail
  refine (toIntSS_any ao1 rs1 n1 c1 w HN1.out hcap HLS.out hx1).mono fun e w1 h => ?_
  obtain ⟨rfl, t, B⟩ := h
  go_wp2_with fail
  refine (specGroupAll_any p0 _ rs1 n1 n1 w1 HN1.out hcap HLS.out t.at).mono fun e w2 h => ?_
  obtain ⟨ao_o, c_o, So, rfl, _, o0, b⟩ := h.to HL.out
  have HSo := hid o0.lt
  have B := B.trans (b.mono B.size)
  clear t b h
  go_wp2_with fail
  refine (toIntSS_any ao1 rs1 n1 c1 w2 HN1.out hcap HLS.out (hx1.below B (Nat.le_refl _))).mono fun e w3 h => ?_
  obtain ⟨rfl, x1, b⟩ := h
  have x1 := x1.toIn
  have o0 := o0.below b (Nat.le_refl _)
  have rk_o : Hid (∀ k, So k → k < w2.heap.size + 1 ∨ w3.heap.size ≤ k) := fun k hk => .inl (by have := (HSo.out k hk).2; omega)
  have hs2 := B.size
  have B := B.trans (b.mono B.size)
  clear b
  go_wp2_with fail
  refine (implGroupAll_any p0 _ rs1 n1 n1 w3 HN1.out hcap HLS.out x1.at).mono fun e w4 h => ?_
  obtain ⟨ao_g, c_g, Sg, rfl, _, g0, b⟩ := h.to HL.out
  have HSg := hid g0.lt
  have rk_g : Hid (∀ k, Sg k → k < w2.heap.size + 1 ∨ w3.heap.size ≤ k) := fun k hk => .inr (HSg.out k hk).1
  have hs3 := B.size
  have HO3 : Hid (∀ k, So k → k < w3.heap.size) := fun k hk => (o0.lt k hk).2
  have o0 := o0.below b (Nat.le_refl _)
  have x1 := x1.below b (Nat.le_refl _)
  have B := B.trans (b.mono B.size)
  clear b h
  go_wp2_with fail
  refine (eqIntSS_same ao_g ao_o (allL p0 rs1) N c_g c_o w4 HL.out (by omega) g0.at o0.at).mono fun e w5 h => ?_
  obtain ⟨rfl, hq⟩ := h
  have B := B.trans (hq.below _)
  have o0 := o0.qt hq
  have x1 := x1.qt hq
  have g0 := g0.qt hq
  clear hq
  go_wp2_with fail
  refine (toIntSS_any ao1 rs1 n1 c1 w5 HN1.out hcap HLS.out (hx1.below B (Nat.le_refl _))).mono fun e w6 h => ?_
  obtain ⟨rfl, t, b⟩ := h
  have o0 := o0.below b (Nat.le_refl _)
  have x1 := x1.below b (Nat.le_refl _)
  have g0 := g0.below b (Nat.le_refl _)
  have B := B.trans (b.mono B.size)
  clear b
  go_wp2_with fail
  refine (eqIntSS_same _ _ rs1 n1 n1 n1 w6 HN1.out hcap x1.at t.at).mono fun e w7 h => ?_
  obtain ⟨rfl, hq⟩ := h
  have B := B.trans (hq.below _)
  have o0 := o0.qt hq
  have x1 := x1.qt hq
  have g0 := g0.qt hq
  clear hq t
  go_wp2_with fail
  refine (markIntSS_any rs1 n1 w2.heap.size w2.heap.size w3.heap.size 1 w7 HN1.out hcap HSM.out (by omega) (by omega) x1).mono fun e w8 h => ?_
  rw [HS1.out] at h
  obtain ⟨rfl, hR⟩ := h
  have o0 := o0.rng hR rk_o.out
  have g0 := g0.rng hR rk_g.out
  have B := B.trans (hR.below (Nat.le_succ_of_le hs2) B.size)
  clear hR x1
  go_wp2_with fail
  refine (eqIntSS_same ao_g ao_o (allL p0 rs1) N c_g c_o w8 HL.out (by omega) g0.at o0.at).mono fun e w9 h => ?_
  obtain ⟨rfl, hq⟩ := h
  have B := B.trans (hq.below _)
  have o0 := o0.qt hq
  have g0 := g0.qt hq
  clear hq
  go_wp2_with fail
  refine (markG_any (allL p0 rs1) ao_g N c_g w3.heap.size Sg 1 w9 HL.out (by omega) (by rw [HM.out]; omega) (by omega) (by omega) g0).mono fun e w10 h => ?_
  rw [HM.out] at h
  obtain ⟨rfl, g1, hR⟩ := h
  have o0 : GRow w10 w1.heap.size So (.slice ao_o N c_o) (allL p0 rs1) := by
    refine o0.rng (lo := w3.heap.size) (hi := w9.heap.size) ⟨hR.os, hR.tape, hR.output, hR.size, fun k hk hr => ?_⟩ fun k hk => .inl (HO3.out k hk)
    rcases hr with hr | hr
    · exact hR.block k hr
    · omega
  have B := B.trans (hR.mono hs3)
  have HM1 := hid (length_mkT (allL p0 rs1) 1 N)
  clear g0 hR
  go_wp2_with fail
  refine (heldG_any (allL p0 rs1) ao_g N c_g 1 w10 HL.out (by omega) (by rw [HM.out]; omega) (by omega) (by omega) g1.at).mono fun e w11 h => ?_
  rw [HM.out] at h
  obtain ⟨rfl, rfl⟩ := h
  go_wp2_with fail
  refine (toIntSS_any ao1 rs1 n1 c1 w10 HN1.out hcap HLS.out (hx1.below B (Nat.le_refl _))).mono fun e w12 h => ?_
  obtain ⟨rfl, t, b⟩ := h
  have o0 := o0.below b (Nat.le_refl _)
  have g1 := g1.below b (Nat.le_refl _)
  have B := B.trans (b.mono B.size)
  clear b
  go_wp2_with fail
  refine (implGroupAll_any p0 _ rs1 n1 n1 w12 HN1.out hcap HLS.out t.at).mono fun e w13 h => ?_
  obtain ⟨ao_h, c_h, Sh, rfl, _, h0, b⟩ := h.to HL.out
  have o0 := o0.below b (Nat.le_refl _)
  have g1 := g1.below b (Nat.le_refl _)
  have B := B.trans (b.mono B.size)
  clear b h t
  go_wp2_with fail
  refine (eqIntSS_same ao_h ao_o (allL p0 rs1) N c_h c_o w13 HL.out (by omega) h0.at o0.at).mono fun e w14 h => ?_
  obtain ⟨rfl, hq⟩ := h
  have B := B.trans (hq.below _)
  have g1 := g1.qt hq
  clear hq o0 h0
  go_wp2_with fail
  refine (heldG_any (allL p0 rs1) ao_g N c_g 1 w14 HL.out (by omega) (by rw [HM.out]; omega) (by omega) (by omega) g1.at).mono fun e w15 h => ?_
  rw [HM.out] at h
  obtain ⟨rfl, rfl⟩ := h
  go_wp2_with fail
  go_ret
  exact ⟨rfl, B⟩

end Go.Proofs.Ytojkiajempdmfaa
