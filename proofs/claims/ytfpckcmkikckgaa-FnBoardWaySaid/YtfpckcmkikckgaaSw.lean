/- The walks of BoardsMany and BoardWorst, the program's and the reference's. -/
import Derived.Test.YtfpckcmkikckgaaSs
namespace Go.Proofs.Ytfpckcmkikckgaa
open Go Go.RowKit

/-- How many numbers of a list are not negative. -/
def nnC (xs : List Int) : Nat := (xs.filter (fun x => decide (0 ≤ x))).length
theorem nnC_snoc (xs : List Int) (x : Int) : nnC (xs ++ [x]) = nnC xs + if 0 ≤ x then 1 else 0 := by
  unfold nnC
  rw [List.filter_append, List.length_append]
  congr 1
  by_cases h : 0 ≤ x <;> simp [h]
theorem nnC_le (xs : List Int) : nnC xs ≤ xs.length := List.length_filter_le _ _
theorem nnC_set : ∀ (xs : List Int) (k : Nat) (d : Int), k < xs.length → nth xs k < 0 → 0 ≤ d → nnC (xs.set k d) = nnC xs + 1
  | [], k, d, h, _, _ => by simp at h
  | x :: xs, 0, d, _, hn, hd => by
    have hx : ¬ 0 ≤ x := by have : nth (x :: xs) 0 = x := rfl; omega
    simp [nnC, hx, hd]
  | x :: xs, k + 1, d, h, hn, hd => by
    have ih := nnC_set xs k d (by simpa using h) hn hd
    have e : ∀ ys : List Int, nnC (x :: ys) = nnC ys + if 0 ≤ x then 1 else 0 := fun ys => by
      unfold nnC; by_cases hx : 0 ≤ x <;> simp [hx]
    rw [List.set_cons_succ, e, e, ih]; omega

/-- Distinct boards of n places, none at a negative distance. -/
def GoodS (n : Nat) (S : List (List Int × Int)) : Prop := AllIn n S ∧ (S.map Prod.fst).Nodup ∧ ∀ p ∈ S, 0 ≤ p.2

theorem GoodS.of {wide : Int} {n a j : Nat} {S : List (List Int × Int)} (h : Srch wide n S a j) : GoodS n S := by
  refine ⟨AllIn.of h, ?_, fun p hp => ?_⟩
  · show List.Pairwise _ _
    rw [List.pairwise_map, List.pairwise_iff_getElem]
    intro i k hi hk hik e
    have := h.one i k hi hk (by simpa [bdS, hi, hk] using e)
    omega
  · obtain ⟨i, hi, rfl⟩ := List.getElem_of_mem hp
    have := dep_pos h hi
    simpa [dpS, hi] using this

theorem GoodS.split {n : Nat} {S : List (List Int × Int)} {p : List Int × Int} (h : GoodS n (S ++ [p])) : GoodS n S ∧ hasS S p.1 = false ∧ Dis n p.1 ∧ p.1.length = n ∧ 0 ≤ p.2 := by
  obtain ⟨h1, h2, h3⟩ := h
  rw [List.map_append, List.nodup_append] at h2
  have hp := h1 p (by simp)
  refine ⟨⟨fun q hq => h1 q (by simp [hq]), h2.1, fun q hq => h3 q (by simp [hq])⟩, ?_, hp.1, hp.2, h3 p (by simp)⟩
  unfold hasS
  rw [decide_eq_false_iff_not]
  exact fun hm => h2.2.2 _ hm _ (by simp) rfl

theorem snoc_ind {α : Type} {P : List α → Prop} (h0 : P []) (h1 : ∀ l x, P l → P (l ++ [x])) (l : List α) : P l := by
  have : ∀ m : List α, P m.reverse := fun m => by
    induction m with
    | nil => exact h0
    | cons x m ih => rw [List.reverse_cons]; exact h1 _ _ ih
  have := this l.reverse
  rwa [List.reverse_reverse] at this

/-- The table has as many numbers that are not negative as boards were found. -/
theorem nnC_stL {n : Nat} (S : List (List Int × Int)) : GoodS n S → nnC (stL n S) = S.length := by
  refine snoc_ind (P := fun S => GoodS n S → nnC (stL n S) = S.length) (fun _ => ?_) (fun S p ih hg => ?_) S
  · rw [stL_nil]
    simp [nnC]
  · obtain ⟨hS, hs, hd, hl, h0⟩ := hg.split
    have hr := rank_lt hl
    obtain ⟨ys, d⟩ := p
    rw [← stL_put hS.1 hd hl d hs, nnC_set _ _ _ (by rw [length_stL]; exact hr) (by rw [nth_stL hr, stV_far hS.1 hd hl, farS_no hs]; decide) h0, ih hS]
    simp

theorem max_if (a b : Int) : max a b = if a < b then b else a := by split <;> omega

/-- The greatest number, 0 at least. -/
def mxL (xs : List Int) : Int := xs.foldl max 0
theorem mxL_snoc (xs : List Int) (x : Int) : mxL (xs ++ [x]) = max (mxL xs) x := by simp [mxL]
theorem mxL_spec (xs : List Int) : 0 ≤ mxL xs ∧ (∀ x ∈ xs, x ≤ mxL xs) ∧ (mxL xs = 0 ∨ mxL xs ∈ xs) := by
  refine snoc_ind (P := fun xs => 0 ≤ mxL xs ∧ (∀ x ∈ xs, x ≤ mxL xs) ∧ (mxL xs = 0 ∨ mxL xs ∈ xs)) ⟨by simp [mxL], by simp, .inl rfl⟩ (fun xs x ih => ?_) xs
  obtain ⟨h1, h2, h3⟩ := ih
  rw [mxL_snoc]
  refine ⟨by omega, fun y hy => ?_, ?_⟩
  · rcases List.mem_append.1 hy with hy | hy
    · have := h2 y hy; omega
    · have : y = x := by simpa using hy
      omega
  · rcases Int.le_total x (mxL xs) with h | h
    · rw [Int.max_eq_left h]
      rcases h3 with h3 | h3
      · exact .inl h3
      · exact .inr (by simp [h3])
    · rw [Int.max_eq_right h]; exact .inr (by simp)
theorem mxL_eq {xs ys : List Int} (h1 : ∀ x ∈ xs, x ∈ ys ∨ x ≤ 0) (h2 : ∀ y ∈ ys, y ∈ xs ∨ y ≤ 0) : mxL xs = mxL ys := by
  obtain ⟨a1, a2, a3⟩ := mxL_spec xs
  obtain ⟨b1, b2, b3⟩ := mxL_spec ys
  have e1 : mxL xs ≤ mxL ys := by
    rcases a3 with a3 | a3
    · omega
    · rcases h1 _ a3 with h | h
      · exact b2 _ h
      · omega
  have e2 : mxL ys ≤ mxL xs := by
    rcases b3 with b3 | b3
    · omega
    · rcases h2 _ b3 with h | h
      · exact a2 _ h
      · omega
  omega

theorem mxL_stL {n : Nat} {S : List (List Int × Int)} (h : GoodS n S) : mxL (stL n S) = mxL (S.map Prod.snd) := by
  refine mxL_eq (fun x hx => ?_) (fun y hy => ?_)
  · obtain ⟨r, _, rfl⟩ := List.mem_map.1 hx
    unfold stV
    cases e : S.find? (fun p => rankL p.1 == r) with
    | none => exact .inr (by decide)
    | some p => exact .inl (List.mem_map.2 ⟨p, List.mem_of_find?_eq_some e, rfl⟩)
  · obtain ⟨p, hp, rfl⟩ := List.mem_map.1 hy
    left
    have hin := h.1 p hp
    have hr := rank_lt hin.2
    refine List.mem_map.2 ⟨rankL p.1, List.mem_range.2 hr, ?_⟩
    rw [stV_far h.1 hin.1 hin.2]
    unfold farS
    cases e : S.find? (fun q => q.1 == p.1) with
    | none =>
      have := List.find?_eq_none.1 e p hp
      simp at this
    | some q =>
      have hq := List.find?_some e
      have hqm := List.mem_of_find?_eq_some e
      have heq : q.1 = p.1 := by simpa using hq
      have hnd := h.2.1
      have : q = p := by
        obtain ⟨i, hi, rfl⟩ := List.getElem_of_mem hqm
        obtain ⟨k, hk, rfl⟩ := List.getElem_of_mem hp
        have hpw : List.Pairwise (fun a b : List Int × Int => a.1 ≠ b.1) S := by
          have : List.Pairwise (· ≠ ·) (S.map Prod.fst) := hnd
          rwa [List.pairwise_map] at this
        rw [List.pairwise_iff_getElem] at hpw
        rcases Nat.lt_trichotomy i k with h | h | h
        · exact absurd heq (hpw i k hi hk h)
        · subst h; rfl
        · exact absurd heq.symm (hpw k i hk hi h)
      rw [this]

/-- BoardsMany, BoardWorst. -/
def manyI (wide tall : Int) : Int := if SidesOk 6 wide tall then ((allS wide (wide * tall).toNat).length : Nat) else -1
def worstI (wide tall : Int) : Int := if SidesOk 6 wide tall then mxL ((allS wide (wide * tall).toNat).map Prod.snd) else -1
theorem manyI_in {wide tall : Int} {n : Nat} (h : SidesOk 6 wide tall) (hn : wide * tall = n) : manyI wide tall = ((allS wide n).length : Nat) := by unfold manyI; rw [if_pos h, hn]; rfl
theorem manyI_out {wide tall : Int} (h : ¬ SidesOk 6 wide tall) : manyI wide tall = -1 := if_neg h
theorem worstI_in {wide tall : Int} {n : Nat} (h : SidesOk 6 wide tall) (hn : wide * tall = n) : worstI wide tall = mxL ((allS wide n).map Prod.snd) := by unfold worstI; rw [if_pos h, hn]; rfl
theorem worstI_out {wide tall : Int} (h : ¬ SidesOk 6 wide tall) : worstI wide tall = -1 := if_neg h

theorem all_srch {wide tall : Int} {n : Nat} (h : SidesOk 6 wide tall) (hn : wide * tall = n) : Srch wide n (allS wide n) (allS wide n).length 0 := by
  have := sides_ord (by omega) h hn
  exact allS_srch this.1 this.2.1

set_option maxRecDepth 100000 in
theorem implBoardsMany_any (wide tall : Int) (w : World) :
    Calls Try.prog 22 #[.int .i64 wide, .int .i64 tall] w fun e w' => e = .returned (.int .i64 (manyI wide tall)) ∧ Below w.heap.size w w' := by
  by_cases hs : SidesOk 6 wide tall
  · obtain ⟨N, hN⟩ : ∃ N : Nat, wide * tall = N := Int.eq_ofNat_of_zero_le (by have := hs.2.2.1; omega)
    have hsb := hid (sidesB_iff.2 hs)
    have hfin := hid (manyI_in hs hN)
    have HS := hid hs
    have HN := hid hN
    clear hs hN
    go_enter Try.func22, Try.ntmps22
    go_wp2_with fail
    refine (sidesOk_any wide tall 6 w (by omega) (by omega)).mono fun e w1 h => ?_
    rw [hsb.out] at h
    obtain ⟨rfl, rfl⟩ := h
    go_wp2_with fail
    refine (boardsFrom_any wide tall N w HS.out HN.out).mono fun e w1 h => ?_
    obtain ⟨g, c, b, rfl, ho, hm, hb, hB⟩ := h
    clear ho hm
    go_wp2
    go_ret
    exact ⟨by rw [hfin.out]; rfl, hB⟩
  · have hsb := hid (sidesB_not.2 hs)
    have hfin := hid (manyI_out hs)
    clear hs
    go_enter Try.func22, Try.ntmps22
    go_wp2_with fail
    refine (sidesOk_any wide tall 6 w (by omega) (by omega)).mono fun e w1 h => ?_
    rw [hsb.out] at h
    obtain ⟨rfl, rfl⟩ := h
    go_wp2
    go_ret
    exact ⟨by rw [hfin.out]; rfl, Below.refl _ _⟩

set_option maxRecDepth 100000 in
set_option maxHeartbeats 1000000 in
theorem specBoardsMany_any (wide tall : Int) (w : World) :
    Calls Try.prog 23 #[.int .i64 wide, .int .i64 tall] w fun e w' => e = .returned (.int .i64 (manyI wide tall)) ∧ Below w.heap.size w w' := by
  by_cases h1 : 1 ≤ wide ∧ wide ≤ 6
  rotate_left
  · have hfin := hid (manyI_out (wide := wide) (tall := tall) fun h => h1 h.1)
    have hi1 := inR_false h1
    clear h1
    go_enter Try.func23, Try.ntmps23
    go_wp2_with (go_at_call 48; refine (l1In_any _ _ _ _).mono ?_; intro e w1 h; rw [hi1] at h; obtain ⟨rfl, rfl⟩ := h)
    go_ret
    exact ⟨by rw [hfin.out]; rfl, Below.refl _ _⟩
  have hi1 := inR_true h1
  by_cases h2 : 1 ≤ tall ∧ tall ≤ 6
  rotate_left
  · have hfin := hid (manyI_out (wide := wide) (tall := tall) fun h => h2 h.2.1)
    have hi2 := inR_false h2
    clear h2
    go_enter Try.func23, Try.ntmps23
    go_wp2_with fail
    refine (l1In_any _ _ _ _).mono fun e w1 h => ?_
    rw [hi1] at h
    obtain ⟨rfl, rfl⟩ := h
    go_wp2_with fail
    refine (l1In_any _ _ _ _).mono fun e w1 h => ?_
    rw [hi2] at h
    obtain ⟨rfl, rfl⟩ := h
    go_wp2
    go_ret
    exact ⟨by rw [hfin.out]; rfl, Below.refl _ _⟩
  have hi2 := inR_true h2
  have hp := mul_bounds h1 h2
  have hpw : IntKind.i64.wrap (wide * tall) = wide * tall := IntWalk.i64_in _ (by omega)
  by_cases h3 : 2 ≤ wide * tall ∧ wide * tall ≤ 6
  rotate_left
  · have hfin := hid (manyI_out (wide := wide) (tall := tall) fun h => h3 h.2.2)
    have hi3 := inR_false h3
    clear h3
    go_enter Try.func23, Try.ntmps23
    go_wp2_with fail
    refine (l1In_any _ _ _ _).mono fun e w1 h => ?_
    rw [hi1] at h
    obtain ⟨rfl, rfl⟩ := h
    go_wp2_with fail
    refine (l1In_any _ _ _ _).mono fun e w1 h => ?_
    rw [hi2] at h
    obtain ⟨rfl, rfl⟩ := h
    go_wp2_with fail
    refine (l1In_any _ _ _ _).mono fun e w1 h => ?_
    rw [hi3] at h
    obtain ⟨rfl, rfl⟩ := h
    go_wp2
    go_ret
    exact ⟨by rw [hfin.out]; rfl, Below.refl _ _⟩
  have hi3 := inR_true h3
  have hs : SidesOk 6 wide tall := ⟨h1, h2, h3⟩
  obtain ⟨N, hN⟩ : ∃ N : Nat, wide * tall = N := Int.eq_ofNat_of_zero_le (by omega)
  have hfin := hid (manyI_in hs hN)
  have hsr := hid (all_srch hs hN)
  have hN6 : N ≤ 6 := by omega
  have HS := hid hs
  have HN := hid hN
  have hcnt := hid (nnC_stL _ (GoodS.of (all_srch hs hN)))
  have hf7 := fct_le hN6
  clear hs hN
  go_enter Try.func23, Try.ntmps23
  go_wp2_with fail
  refine (l1In_any _ _ _ _).mono fun e w1 h => ?_
  rw [hi1] at h
  obtain ⟨rfl, rfl⟩ := h
  go_wp2_with fail
  refine (l1In_any _ _ _ _).mono fun e w1 h => ?_
  rw [hi2] at h
  obtain ⟨rfl, rfl⟩ := h
  go_wp2_with fail
  refine (l1In_any _ _ _ _).mono fun e w1 h => ?_
  rw [hi3] at h
  obtain ⟨rfl, rfl⟩ := h
  go_wp2_with fail
  refine (l3Steps_any wide tall N w HS.out HN.out).mono fun e w1 h => ?_
  obtain ⟨ao, c, rfl, ho, hB⟩ := h.to (length_stL _ _)
  clear h
  have hln := hid (length_stL N (allS wide N))
  generalize stL N (allS wide N) = zs at *
  generalize fct N = M at *
  have hzi := ho.ints
  clear hpw
  go_wp2_with fail
  go_loopw [5, 7] (fun nv kv wi => ∃ k : Nat, kv = .int .i64 k ∧ k ≤ M ∧ nv = .int .i64 (nnC (zs.take k)) ∧ wi = w1) (fun _ kv _ => M - (intOf kv).toNat)
  case atStart => exact ⟨0, rfl, Nat.zero_le _, rfl, rfl⟩
  case round =>
    obtain ⟨k, rfl, hk, rfl, rfl⟩ := hrel
    have hle := nnC_le (zs.take k)
    rw [List.length_take] at hle
    by_cases hlt : k < M
    · have hd : decide ((k : Int) < M) = true := decide_eq_true (by omega)
      have hkl : k < zs.length := by rw [hln.out]; exact hlt
      obtain ⟨b, off, rfl, hc⟩ := hzi (by omega)
      have hck := hc k hkl
      have hsn := hid (nnC_snoc (zs.take k) (nth zs k))
      have htk := hid (take_succ_nth hkl)
      have hln' : nnC (zs.take k) ≤ 720 := by omega
      clear hc hle
      generalize nth zs k = x at *
      by_cases hx : 0 ≤ x
      · have hd2 : decide ((0 : Int) ≤ x) = true := decide_eq_true hx
        have hn2 : Hid (nnC (zs.take (k + 1)) = nnC (zs.take k) + 1) := by unfold Hid; rw [htk.out, hsn.out, if_pos hx]
        generalize nnC (zs.take k) = q at *
        go_wp2
        go_roundw
        case rel => exact ⟨k + 1, by go_num, by omega, by rw [hn2.out]; go_num, trivial⟩
        case measure => simp [intOf]; omega
      · have hd2 : decide ((0 : Int) ≤ x) = false := decide_eq_false hx
        have hn2 : Hid (nnC (zs.take (k + 1)) = nnC (zs.take k)) := by unfold Hid; rw [htk.out, hsn.out, if_neg hx]; rfl
        generalize nnC (zs.take k) = q at *
        go_wp2
        go_roundw
        case rel => exact ⟨k + 1, by go_num, by omega, by rw [hn2.out], trivial⟩
        case measure => simp [intOf]; omega
    · obtain rfl : k = M := by omega
      have hd : decide ((k : Int) < k) = false := by simp
      have hfl : Hid (manyI wide tall = ((nnC (zs.take k) : Nat) : Int)) := by unfold Hid; rw [List.take_of_length_le (by rw [hln.out]; exact Nat.le_refl _), hcnt.out]; exact hfin.out
      go_wp2
      go_ret
      exact ⟨by rw [hfl.out]; rfl, hB⟩

theorem worst_nn {wide tall : Int} {n : Nat} (h : SidesOk 6 wide tall) (hn : wide * tall = n) : 0 ≤ manyI wide tall ∧ manyI wide tall ≤ 720 := by
  rw [manyI_in h hn]
  have h1 := (all_srch h hn).len_le
  have h2 := fct_le (n := n) (by have := h.2.2.2; omega)
  omega

end Go.Proofs.Ytfpckcmkikckgaa
