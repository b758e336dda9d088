/- Plain laws of the way: always the least tile that leads nearer. -/
import Derived.Test.YtfpckcmkikckgaaSl
import Derived.Laws.StructEq
namespace Go.Proofs.Ytfpckcmkikckgaa
open Go Go.RowKit

/-- Does the tile lead nearer? -/
def nearS (wide : Int) (S : List (List Int × Int)) (xs : List Int) (t : Int) : Bool := canB wide xs t && (valS S (movedL wide xs t) == farS S xs - 1)
def firstG (wide : Int) (S : List (List Int × Int)) (xs ts : List Int) : Int := match ts.find? (nearS wide S xs) with
  | some t => t
  | none => -1
def nextT (wide : Int) (S : List (List Int × Int)) (xs : List Int) : Int := firstG wide S xs (mayL wide xs)
def wayS (wide : Int) (S : List (List Int × Int)) : Nat → List Int → List Int
  | 0, _ => []
  | d + 1, xs => nextT wide S xs :: wayS wide S d (movedL wide xs (nextT wide S xs))

theorem wayS_succ (wide : Int) (S : List (List Int × Int)) (d : Nat) (xs : List Int) : wayS wide S (d + 1) xs = nextT wide S xs :: wayS wide S d (movedL wide xs (nextT wide S xs)) := rfl
theorem length_wayS (wide : Int) (S : List (List Int × Int)) : ∀ d xs, (wayS wide S d xs).length = d
  | 0, _ => rfl
  | d + 1, xs => by rw [wayS_succ, List.length_cons, length_wayS]

theorem can_may {wide : Int} {xs : List Int} {t : Int} (h : canB wide xs t = true) : t ∈ mayL wide xs := by simpa [canB, hasL] using h

theorem find_least {p : Int → Bool} : ∀ (l : List Int) (t : Int), Asc l → t ∈ l → p t = true → (∀ u, u ∈ l → u < t → p u = false) → l.find? p = some t
  | [], t, _, h, _, _ => by cases h
  | x :: l, t, ha, h, hp, hu => by
    rw [List.find?_cons]
    by_cases e : x = t
    · subst e; rw [hp]
    · have hm : t ∈ l := by
        rcases List.mem_cons.1 h with h | h
        · exact absurd h.symm e
        · exact h
      have ha2 := List.pairwise_cons.1 ha
      rw [hu x (by simp) (ha2.1 t hm)]
      exact find_least l t ha2.2 hm hp fun u hul => hu u (by simp [hul])

theorem next_eq {wide : Int} {S : List (List Int × Int)} {xs : List Int} (h : BoardOk wide xs) {t : Int} (hp : nearS wide S xs t = true) (hu : ∀ u, 1 ≤ u → u < t → nearS wide S xs u = false) : nextT wide S xs = t := by
  have hc : canB wide xs t = true := by unfold nearS at hp; rw [Bool.and_eq_true] at hp; exact hp.1
  unfold nextT firstG
  rw [find_least _ t (mayL_asc h) (can_may hc) hp fun u hm hlt => hu u (by
    have : canB wide xs u = true := by simpa [canB, hasL] using hm
    exact (can_bound h this).1) hlt]

/-- A board that is not in order: some tile leads nearer, and the way takes the least. -/
theorem next_spec {wide : Int} {n j : Nat} {S : List (List Int × Int)} (h : Srch wide n S S.length j) {i : Nat} (hi : i < S.length) (h0 : 0 < dpS S i) :
    nearS wide S (bdS S i) (nextT wide S (bdS S i)) = true ∧ canB wide (bdS S i) (nextT wide S (bdS S i)) = true ∧ ∃ k, k < S.length ∧ bdS S k = movedL wide (bdS S i) (nextT wide S (bdS S i)) ∧ dpS S k = dpS S i - 1 := by
  have hi0 : 0 < i := by
    rcases Nat.eq_zero_or_pos i with rfl | h1
    · have := h.zero.2; omega
    · exact h1
  obtain ⟨t, k, hc, hk, hb, hd⟩ := dep_nearer h hi hi0
  have hval : ∀ u, canB wide (bdS S i) u = true → ∃ k, k < S.length ∧ bdS S k = movedL wide (bdS S i) u ∧ valS S (movedL wide (bdS S i) u) = dpS S k := fun u hu => by
    obtain ⟨k, hk, hb, _⟩ := h.clo i u hi (.inl hi) hu
    refine ⟨k, hk, hb, ?_⟩
    rw [← hb, valS_in (hasS_iff.2 ⟨k, hk, rfl⟩), farS_at h hk]
  have hn : nearS wide S (bdS S i) t = true := by
    unfold nearS
    rw [hc, Bool.true_and, beq_iff_eq, farS_at h hi, ← hb, valS_in (hasS_iff.2 ⟨k, hk, rfl⟩), farS_at h hk, hd]
  have hnear : nearS wide S (bdS S i) (nextT wide S (bdS S i)) = true := by
    unfold nextT firstG
    cases e : (mayL wide (bdS S i)).find? (nearS wide S (bdS S i)) with
    | none =>
      have := List.find?_eq_none.1 e t (can_may hc)
      exact absurd hn this
    | some u => exact List.find?_some e
  have hcan : canB wide (bdS S i) (nextT wide S (bdS S i)) = true := by
    have := hnear
    unfold nearS at this
    rw [Bool.and_eq_true] at this
    exact this.1
  refine ⟨hnear, hcan, ?_⟩
  obtain ⟨k2, hk2, hb2, hv2⟩ := hval _ hcan
  refine ⟨k2, hk2, hb2, ?_⟩
  have := hnear
  unfold nearS at this
  rw [hcan, Bool.true_and, beq_iff_eq, hv2, farS_at h hi] at this
  exact this

/-- The way leads to the board in order. -/
theorem way_runs {wide : Int} {n j : Nat} {S : List (List Int × Int)} (h : Srch wide n S S.length j) : ∀ (d i : Nat), i < S.length → dpS S i = d → runOpt wide (bdS S i) (wayS wide S d (bdS S i)) = some (ordL n)
  | 0, i, hi, hd => by
    have : i = 0 := (dep_zero h hi).1 (by omega)
    subst this
    rw [h.zero.1]; rfl
  | d + 1, i, hi, hd => by
    obtain ⟨_, hc, k, hk, hb, hdk⟩ := next_spec h hi (by omega)
    rw [wayS_succ, runOpt, if_pos hc, ← hb]
    exact way_runs h d k hk (by omega)

/-- BoardWay. -/
def wayL (wide : Int) (xs : List Int) : List Int := if 0 ≤ leastI wide xs then wayS wide (allS wide xs.length) (leastI wide xs).toNat xs else []
def wayB (wide : Int) (xs : List Int) : Bool := decide (0 ≤ leastI wide xs)
theorem wayL_in {wide : Int} {xs : List Int} (h : 0 ≤ leastI wide xs) : wayL wide xs = wayS wide (allS wide xs.length) (leastI wide xs).toNat xs := if_pos h
theorem wayL_out {wide : Int} {xs : List Int} (h : ¬ 0 ≤ leastI wide xs) : wayL wide xs = [] := if_neg h

theorem least_cases (wide : Int) (xs : List Int) : leastI wide xs = -1 ∨ (BoardOk wide xs ∧ xs.length ≤ 6 ∧ ∃ i, i < (allS wide xs.length).length ∧ bdS (allS wide xs.length) i = xs ∧ leastI wide xs = dpS (allS wide xs.length) i ∧ 0 ≤ leastI wide xs ∧ leastI wide xs ≤ 720 ∧ Srch wide xs.length (allS wide xs.length) (allS wide xs.length).length 0) := by
  by_cases h : BoardOk wide xs ∧ xs.length ≤ 6
  · have hs := sides6 h.1 h.2
    have hr := all_srch hs.1 hs.2
    have hl := Nat.le_trans hr.len_le (fct_le h.2)
    cases hh : hasS (allS wide xs.length) xs with
    | false => left; rw [leastI_in h.1 h.2, farS_no hh]
    | true =>
      right
      obtain ⟨i, hi, hb⟩ := hasS_iff.1 hh
      have e : leastI wide xs = dpS (allS wide xs.length) i := by
        rw [leastI_in h.1 h.2]
        have := farS_at hr hi
        rwa [hb] at this
      have d1 := dep_pos hr hi
      have d2 := dep_le hr i hi
      exact ⟨h.1, h.2, i, hi, hb, e, by omega, by omega, hr⟩
  · left; exact leastI_out h

theorem length_wayL (wide : Int) (xs : List Int) : (wayL wide xs).length ≤ 17592186044416 - 1048576 := by
  rcases least_cases wide xs with h | ⟨_, _, i, _, _, _, h0, h1, _⟩
  · rw [wayL_out (by omega)]; simp
  · rw [wayL_in h0, length_wayS]; omega

/-! Comparing boards as values. -/
theorem eqGuardK : Try.prog.eqGuardType Try.prog.depth 53 = false := by kernel_rfl

theorem neqK {n : Nat} {xs ys : List Int} (hx : In6 n xs) (hy : In6 n ys) (w : World) : (binOp .neq 53 (keyV xs) (keyV ys)).run Try.prog w = .ok (.bool (!(eqL xs ys))) w := by
  obtain ⟨r, hr, hiff⟩ := run_equal_deep w (m := 2) (by omega) (k := 53) (by kernel_rfl) (by rw [Try.underlying53]) (keyOf_keyV hx) (keyOf_keyV hy)
  have e : r = eqL xs ys := by
    rw [Bool.eq_iff_iff, hiff]
    unfold eqL
    rw [decide_eq_true_iff]
    exact ⟨fun h => keyD_inj hx hy h, fun h => by rw [h]⟩
  unfold keyV at hr ⊢
  rw [run_neq_struct]
  unfold Op.equal Op.maxDepth at hr
  rw [hr, e]
  rfl

/-- A move in tiles of the call's own. -/
theorem moveTile_own (wide : Int) (g n c B : Nat) (xs : List Int) (t : Int) (w : World) (hn : xs.length = n) (hok : BoardOk wide xs) (ho : Own w B (.slice (some ⟨g, 0, none⟩) n c) xs) :
    Calls Try.prog 44 #[.agg #[.int .i64 wide, .slice (some ⟨g, 0, none⟩) n c], .int .i64 t] w fun e w' => e = .returned (.bool (canB wide xs t)) ∧ Own w' B (.slice (some ⟨g, 0, none⟩) n c) (movedL wide xs t) ∧ w.grownBy w' (some g) := by
  obtain ⟨cur, hcur, hcs, hce⟩ := ho.row
  have hbase := ho.base
  have hcm := ho.capm
  have hnc : n ≤ c := by
    obtain ⟨ao, c', e, _, h⟩ := ho.shapeN hn
    simp only [Value.slice.injEq] at e
    omega
  refine (moveTile_any wide g 0 n c xs t cur 3 w hn hok hcur (fun j hj => by rw [Nat.zero_add]; exact hce j hj)).mono fun e w' h => ?_
  obtain ⟨he, hg, cur', hb', hs', hc', _⟩ := h
  refine ⟨he, Own.ofBlk hb' hbase.1 (by rw [length_movedL]; exact hn) (by rw [hs', hcs]) hnc hcm fun j hj => ?_, hg⟩
  have := hc' j (by rw [length_movedL] at hj; exact hj)
  rwa [Nat.zero_add] at this

end Go.Proofs.Ytfpckcmkikckgaa
