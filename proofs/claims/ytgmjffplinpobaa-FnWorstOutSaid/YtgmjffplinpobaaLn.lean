/- Plain law: lights can be put out exactly if they meet every quiet set evenly. -/
import Derived.Test.YtgmjffplinpobaaLm
namespace Go.Proofs.Ytgmjffplinpobaa
open Go Go.RowKit

/-- The product of two sets, mod 2: over the bits below k. -/
def dotN (a b : Nat) : Nat → Bool
  | 0 => false
  | k + 1 => (a.testBit k && b.testBit k) ^^ dotN a b k
def dot (a b : Nat) : Bool := dotN a b 10

theorem dotN_comm (a b : Nat) : ∀ k, dotN a b k = dotN b a k
  | 0 => rfl
  | k + 1 => by rw [dotN, dotN, dotN_comm a b k, Bool.and_comm]
theorem dot_comm (a b : Nat) : dot a b = dot b a := dotN_comm a b 10
theorem dotN_xor (a b c : Nat) : ∀ k, dotN a (b ^^^ c) k = (dotN a b k ^^ dotN a c k)
  | 0 => rfl
  | k + 1 => by
    rw [dotN, dotN, dotN, dotN_xor a b c k, Nat.testBit_xor]
    cases a.testBit k <;> cases b.testBit k <;> cases c.testBit k <;> cases dotN a b k <;> cases dotN a c k <;> rfl
theorem dot_xor (a b c : Nat) : dot a (b ^^^ c) = (dot a b ^^ dot a c) := dotN_xor a b c 10
theorem dot_xor' (a b c : Nat) : dot (b ^^^ c) a = (dot b a ^^ dot c a) := by rw [dot_comm, dot_xor, dot_comm, dot_comm a c]
theorem dotN_zero (a : Nat) : ∀ k, dotN a 0 k = false
  | 0 => rfl
  | k + 1 => by rw [dotN, dotN_zero a k, Nat.zero_testBit, Bool.and_false]; rfl
theorem dot_zero (a : Nat) : dot a 0 = false := dotN_zero a 10
theorem dotN_bit (a j : Nat) : ∀ k, dotN (2 ^ j) a k = (decide (j < k) && a.testBit j)
  | 0 => by simp [dotN]
  | k + 1 => by
    rw [dotN, dotN_bit a j k, Nat.testBit_two_pow]
    by_cases e : j = k
    · subst e; simp
    · have : (decide (j < k + 1)) = decide (j < k) := by
        by_cases h : j < k
        · rw [decide_eq_true h, decide_eq_true (by omega)]
        · rw [decide_eq_false h, decide_eq_false (by omega)]
      rw [this]; simp [e]
theorem dot_bit {j : Nat} (a : Nat) (h : j < 10) : dot (2 ^ j) a = a.testBit j := by unfold dot; rw [dotN_bit, decide_eq_true h, Bool.true_and]

/-- The product's parity is that of what is in both. -/
theorem dotN_pcT (a b : Nat) : ∀ k, dotN a b k = (pcT (a &&& b) k % 2 == 1)
  | 0 => rfl
  | k + 1 => by
    rw [dotN, dotN_pcT a b k, pcT, bitN_test, Nat.testBit_and]
    rcases (show pcT (a &&& b) k % 2 = 0 ∨ pcT (a &&& b) k % 2 = 1 by omega) with e | e
    · cases a.testBit k <;> cases b.testBit k <;> simp [Nat.add_mod, e]
    · cases a.testBit k <;> cases b.testBit k <;> simp [Nat.add_mod, e]
theorem evn_dot {q L : Nat} (hq : q < 1024) : evn q L = !(dot q L) := by
  have hlt : q &&& L < 1024 := Nat.lt_of_le_of_lt Nat.and_le_left hq
  unfold evn dot
  rw [dotN_pcT, pcT_ten _ hlt]
  rcases (show pc (q &&& L) % 2 = 0 ∨ pc (q &&& L) % 2 = 1 by omega) with e | e <;> rw [e] <;> rfl

/-- What some sets add up to. -/
def Spn : List Nat → Nat → Prop
  | [], v => v = 0
  | r :: rs, v => Spn rs v ∨ Spn rs (v ^^^ r)
theorem xor_back (v r : Nat) : v ^^^ r ^^^ r = v := by rw [Nat.xor_assoc, Nat.xor_self, Nat.xor_zero]
theorem Spn.perp {q : Nat} : ∀ {rs : List Nat} {v : Nat}, Spn rs v → (∀ r ∈ rs, dot q r = false) → dot q v = false
  | [], v, h, _ => by rw [show v = 0 from h]; exact dot_zero q
  | r :: rs, v, h, hp => by
    have hr := hp r (by simp)
    have hp' : ∀ r ∈ rs, dot q r = false := fun x hx => hp x (List.mem_cons_of_mem _ hx)
    rcases h with h | h
    · exact h.perp hp'
    · have := h.perp hp'
      rw [dot_xor, hr] at this
      simpa using this
/-- A set that is no sum is told apart from them. -/
theorem spn_sep {n : Nat} (hn : n ≤ 9) : ∀ (rs : List Nat) (v : Nat), v < 2 ^ n → (∀ r ∈ rs, r < 2 ^ n) → Spn rs v ∨ ∃ q, q < 2 ^ n ∧ (∀ r ∈ rs, dot q r = false) ∧ dot q v = true
  | [], v, hv, _ => by
    by_cases h : v = 0
    · exact .inl h
    · obtain ⟨j, hj⟩ := Nat.exists_testBit_of_ne_zero h
      have hjn : j < n := Nat.lt_of_not_le fun hle => by
        have := Nat.testBit_lt_two_pow (Nat.lt_of_lt_of_le hv (Nat.pow_le_pow_right (n := 2) (by decide) hle))
        rw [this] at hj; cases hj
      exact .inr ⟨2 ^ j, Nat.pow_lt_pow_right (by decide) hjn, fun r hr => by simp at hr, by rw [dot_bit v (by omega)]; exact hj⟩
  | r :: rs, v, hv, hrs => by
    have hr := hrs r (by simp)
    have hrs' : ∀ r ∈ rs, r < 2 ^ n := fun x hx => hrs x (List.mem_cons_of_mem _ hx)
    rcases spn_sep hn rs v hv hrs' with h | ⟨q, hq, hp, hd⟩
    · exact .inl (.inl h)
    · cases hqr : dot q r with
      | false =>
        refine .inr ⟨q, hq, fun x hx => ?_, hd⟩
        rcases List.mem_cons.1 hx with rfl | hx
        · exact hqr
        · exact hp x hx
      | true =>
        rcases spn_sep hn rs (v ^^^ r) (Nat.xor_lt_two_pow hv hr) hrs' with h | ⟨q', hq', hp', hd'⟩
        · exact .inl (.inr h)
        · rw [dot_xor] at hd'
          cases hqr' : dot q' r with
          | false =>
            rw [hqr'] at hd'
            refine .inr ⟨q', hq', fun x hx => ?_, by simpa using hd'⟩
            rcases List.mem_cons.1 hx with rfl | hx
            · exact hqr'
            · exact hp' x hx
          | true =>
            rw [hqr'] at hd'
            have hv' : dot q' v = false := by cases h : dot q' v <;> rw [h] at hd' <;> simp at hd' ⊢
            refine .inr ⟨q ^^^ q', Nat.xor_lt_two_pow hq hq', fun x hx => ?_, by rw [dot_xor', hd, hv']; rfl⟩
            rcases List.mem_cons.1 hx with rfl | hx
            · rw [dot_xor', hqr, hqr']; rfl
            · rw [dot_xor', hp x hx, hp' x hx]; rfl

/-- The rows of the first k points, the last one first. -/
def rws (xs : List Int) : Nat → List Nat
  | 0 => []
  | k + 1 => row xs k :: rws xs k
theorem mem_rws {xs : List Int} {r : Nat} : ∀ {k : Nat}, r ∈ rws xs k ↔ ∃ j, j < k ∧ r = row xs j
  | 0 => ⟨fun h => by simp [rws] at h, fun ⟨_, h, _⟩ => absurd h (by omega)⟩
  | k + 1 => by
    rw [rws, List.mem_cons, mem_rws]
    constructor
    · rintro (h | ⟨j, h1, h2⟩)
      · exact ⟨k, by omega, h⟩
      · exact ⟨j, by omega, h2⟩
    · rintro ⟨j, h1, h2⟩
      by_cases e : j = k
      · subst e; exact .inl h2
      · exact .inr ⟨j, by omega, h2⟩
theorem prs_low {xs : List Int} {s t : Nat} : ∀ k, (∀ j, j < k → s.testBit j = t.testBit j) → prs xs s k = prs xs t k
  | 0, _ => rfl
  | k + 1, h => by
    have ih := prs_low (xs := xs) k fun j hj => h j (by omega)
    have hk := h k (by omega)
    cases hb : t.testBit k with
    | true => rw [prs_in hb, prs_in (hk.trans hb), ih]
    | false => rw [prs_not hb, prs_not (hk.trans hb), ih]
theorem spn_prs {xs : List Int} : ∀ {k v : Nat}, Spn (rws xs k) v ↔ ∃ s, s < 2 ^ k ∧ prs xs s k = v
  | 0, v => ⟨fun h => ⟨0, by simp, h.symm⟩, fun ⟨_, _, h⟩ => h.symm⟩
  | k + 1, v => by
    have hlo : ∀ s, s < 2 ^ k → s.testBit k = false := fun s hs => Nat.testBit_lt_two_pow hs
    have h2 : 2 ^ (k + 1) = 2 ^ k + 2 ^ k := by rw [Nat.pow_succ]; omega
    have hxb : ∀ s, s < 2 ^ k → (s ^^^ 2 ^ k).testBit k = true := fun s hs => by rw [Nat.testBit_xor, hlo s hs, Nat.testBit_two_pow_self]; rfl
    have hxl : ∀ s j, j < k → (s ^^^ 2 ^ k).testBit j = s.testBit j := fun s j hj => by
      rw [Nat.testBit_xor, Nat.testBit_two_pow, decide_eq_false (by omega)]; simp
    constructor
    · rintro (h | h)
      · obtain ⟨s, hs, e⟩ := spn_prs.1 h
        exact ⟨s, by omega, by rw [prs_not (hlo s hs)]; exact e⟩
      · obtain ⟨s, hs, e⟩ := spn_prs.1 h
        refine ⟨s ^^^ 2 ^ k, Nat.xor_lt_two_pow (by omega) (Nat.pow_lt_pow_right (by decide) (by omega)), ?_⟩
        rw [prs_in (hxb s hs), prs_low (t := s) k (hxl s), e, xor_back]
    · rintro ⟨s, hs, e⟩
      cases hb : s.testBit k with
      | false =>
        have hsk : s < 2 ^ k := Nat.lt_of_not_le fun hle => by
          have := Nat.testBit_of_two_pow_le_and_two_pow_add_one_gt hle hs
          rw [hb] at this; cases this
        rw [prs_not hb] at e
        exact .inl (spn_prs.2 ⟨s, hsk, e⟩)
      | true =>
        rw [prs_in hb] at e
        have hsk : s ^^^ 2 ^ k < 2 ^ k := Nat.lt_of_not_le fun hle => by
          have hx : s ^^^ 2 ^ k < 2 ^ (k + 1) := Nat.xor_lt_two_pow hs (Nat.pow_lt_pow_right (by decide) (by omega))
          have := Nat.testBit_of_two_pow_le_and_two_pow_add_one_gt hle hx
          rw [Nat.testBit_xor, hb, Nat.testBit_two_pow_self] at this; cases this
        exact .inr (spn_prs.2 ⟨s ^^^ 2 ^ k, hsk, by rw [prs_low (t := s) k (hxl s), ← e, xor_back]⟩)

/-- A bit of what presses change is a product. -/
theorem GrOk.row_sym {xs : List Int} (h : GrOk xs) {j k : Nat} (hj : j < xs.length) (hk : k < xs.length) : (row xs j).testBit k = (row xs k).testBit j := by
  unfold row
  rw [Nat.testBit_xor, Nat.testBit_xor, h.sym j k hj hk, Nat.testBit_two_pow, Nat.testBit_two_pow]
  by_cases e : j = k
  · subst e; rfl
  · rw [decide_eq_false e, decide_eq_false (fun h => e h.symm)]
theorem GrOk.prs_bit {xs : List Int} (h : GrOk xs) (q : Nat) {k : Nat} (hk : k < xs.length) : ∀ m, m ≤ xs.length → (prs xs q m).testBit k = dotN q (row xs k) m
  | 0, _ => by rw [prs, Nat.zero_testBit]; rfl
  | m + 1, hm => by
    have ih := h.prs_bit q hk m (by omega)
    have hs := h.row_sym (j := m) (k := k) (by omega) hk
    cases hb : q.testBit m with
    | true => rw [prs_in hb, Nat.testBit_xor, ih, hs, dotN, hb, Bool.true_and, Bool.xor_comm]
    | false => rw [prs_not hb, ih, dotN, hb]; simp
theorem dotN_on {a b n : Nat} (h : b < 2 ^ n) : ∀ d, dotN a b (n + d) = dotN a b n
  | 0 => rfl
  | d + 1 => by
    have : b.testBit (n + d) = false := Nat.testBit_lt_two_pow (Nat.lt_of_lt_of_le h (Nat.pow_le_pow_right (by decide) (by omega)))
    show ((a.testBit (n + d) && b.testBit (n + d)) ^^ dotN a b (n + d)) = _
    rw [this, dotN_on h d]; simp
theorem dot_at {a b n : Nat} (hn : n ≤ 9) (h : b < 2 ^ n) : dot a b = dotN a b n := by
  have := dotN_on (a := a) h (10 - n)
  rw [show n + (10 - n) = 10 by omega] at this
  exact this
theorem GrOk.press_bit {xs : List Int} (h : GrOk xs) (q : Nat) {k : Nat} (hk : k < xs.length) : (press xs q).testBit k = dot q (row xs k) := by
  rw [dot_at h.max (h.row_lt hk)]; exact h.prs_bit q hk _ (Nat.le_refl _)
theorem GrOk.press_lt {xs : List Int} (h : GrOk xs) (q : Nat) : press xs q < 2 ^ xs.length := h.prs_lt q _ (Nat.le_refl _)
/-- A quiet set is one that meets each row evenly. -/
theorem GrOk.quiet_iff {xs : List Int} (h : GrOk xs) (q : Nat) : press xs q = 0 ↔ ∀ r ∈ rws xs xs.length, dot q r = false := by
  constructor
  · intro e r hr
    obtain ⟨j, hj, rfl⟩ := mem_rws.1 hr
    rw [← h.press_bit q hj, e, Nat.zero_testBit]
  · intro hp
    refine Nat.eq_of_testBit_eq fun k => ?_
    rw [Nat.zero_testBit]
    by_cases hk : k < xs.length
    · rw [h.press_bit q hk]; exact hp _ (mem_rws.2 ⟨k, hk, rfl⟩)
    · exact Nat.testBit_lt_two_pow (Nat.lt_of_lt_of_le (h.press_lt q) (Nat.pow_le_pow_right (by decide) (by omega)))
theorem GrOk.rws_lt {xs : List Int} (h : GrOk xs) : ∀ r ∈ rws xs xs.length, r < 2 ^ xs.length := fun r hr => by
  obtain ⟨j, hj, rfl⟩ := mem_rws.1 hr; exact h.row_lt hj
/-- Duality. -/
theorem GrOk.dual {xs : List Int} (h : GrOk xs) {L : Nat} (hL : L < 2 ^ xs.length) : (∃ s, s < 2 ^ xs.length ∧ press xs s = L) ↔ ∀ q, q < 2 ^ xs.length → press xs q = 0 → dot q L = false := by
  constructor
  · rintro ⟨s, hs, e⟩ q _ hq
    exact (spn_prs.2 ⟨s, hs, e⟩ : Spn (rws xs xs.length) L).perp ((h.quiet_iff q).1 hq)
  · intro hp
    rcases spn_sep h.max (rws xs xs.length) L hL h.rws_lt with hs | ⟨q, hq, h1, h2⟩
    · exact spn_prs.1 hs
    · have := hp q hq ((h.quiet_iff q).2 h1)
      rw [h2] at this; cases this

/-- What the search finds. -/
theorem bst_spec (xs : List Int) (L : Int) : ∀ k, (0 ≤ bst xs L k → (press xs (bst xs L k).toNat : Int) = L) ∧ ∀ s, s < k → (press xs s : Int) = L → 0 ≤ bst xs L k ∧ pc (bst xs L k).toNat ≤ pc s
  | 0 => ⟨fun h => absurd h (by show ¬ (0 : Int) ≤ -1; omega), fun s hs => absurd hs (by omega)⟩
  | k + 1 => by
    obtain ⟨h1, h2⟩ := bst_spec xs L k
    by_cases e : (press xs k : Int) = L ∧ (bst xs L k < 0 ∨ pc k < pc (bst xs L k).toNat)
    · rw [bst_in e]
      refine ⟨fun _ => by rw [Int.toNat_natCast]; exact e.1, fun s hs hp => ⟨by omega, ?_⟩⟩
      rw [Int.toNat_natCast]
      by_cases hk : s = k
      · subst hk; exact Nat.le_refl _
      · have := h2 s (by omega) hp
        rcases e.2 with h | h <;> omega
    · rw [bst_not e]
      refine ⟨h1, fun s hs hp => ?_⟩
      by_cases hk : s = k
      · subst hk
        by_cases hb : bst xs L s < 0
        · exact absurd ⟨hp, .inl hb⟩ e
        · exact ⟨by omega, Nat.le_of_not_lt fun hlt => e ⟨hp, .inr hlt⟩⟩
      · exact h2 s (by omega) hp
theorem out_iff {xs : List Int} {L : Nat} (h : setB xs L = true) : 0 ≤ outI xs L ↔ ∃ s, s < 2 ^ xs.length ∧ press xs s = L := by
  rw [outI_in h]
  obtain ⟨h1, h2⟩ := bst_spec xs L (2 ^ xs.length)
  constructor
  · intro h0
    have hr := (bst_rng xs L (2 ^ xs.length)).2
    refine ⟨(bst xs L (2 ^ xs.length)).toNat, ?_, by have := h1 h0; omega⟩
    generalize 2 ^ xs.length = P at *
    omega
  · rintro ⟨s, hs, e⟩
    exact (h2 s hs (by rw [e])).1
/-- The law. -/
theorem may_out (xs : List Int) (L : Int) : mayO xs L = decide (0 ≤ outI xs L) := by
  cases hg : setB xs L with
  | false => rw [mayO_out hg, outI_out hg]; rfl
  | true =>
    have hs := setB_iff.1 hg
    obtain ⟨l, rfl⟩ := Int.eq_ofNat_of_zero_le hs.2.1
    have hl : l < 2 ^ xs.length := by have := hs.2.2; generalize 2 ^ xs.length = P at *; omega
    have h512 := pow9 hs.1.max
    rw [Bool.eq_iff_iff, decide_eq_true_eq, out_iff hg, hs.1.dual hl, mayO_in hg]
    constructor
    · intro h q hq hp
      obtain ⟨j, hj, e⟩ := List.getElem_of_mem ((mem_quietL hs.1).2 ⟨q, rfl, hq, hp⟩)
      have := h j hj
      rw [nth_eq hj, e, Int.toNat_natCast, Int.toNat_natCast, evn_dot (by omega)] at this
      simpa using this
    · intro h j hj
      obtain ⟨m, h1, h2, h3⟩ := (mem_quietL hs.1).1 (nth_mem hj)
      rw [h1, Int.toNat_natCast, Int.toNat_natCast, evn_dot (by omega), h m h2 h3]; rfl

end Go.Proofs.Ytgmjffplinpobaa
