/- hasInt, ascend; plain laws on the tiles that may be moved. -/
import Derived.Test.YtfpckcmkikckgaaTn
import Derived.BigQuiet
namespace Go.Proofs.Ytfpckcmkikckgaa
open Go Go.RowKit

/-- Strictly ascending. -/
def Asc (xs : List Int) : Prop := xs.Pairwise (· < ·)

theorem asc_nth {xs : List Int} (h : Asc xs) {i j : Nat} (hij : i < j) (hj : j < xs.length) : nth xs i < nth xs j := by
  rw [nth_eq (by omega), nth_eq hj]
  exact List.pairwise_iff_getElem.1 h i j (by omega) hj hij

theorem mem_mayTo_le {wide free : Int} {xs : List Int} {m : Nat} {t : Int} (h : t ∈ mayTo wide free xs m) : t ≤ m := (mem_mayTo.1 h).1.2

/-- A tile is told once. -/
theorem mayIn_once {wide free : Int} {xs : List Int} {n : Nat} (hd : Dis n xs) (t : Int) : ∀ k, k ≤ xs.length → (mayIn wide free xs t k = [] ∨ mayIn wide free xs t k = [t])
  | 0, _ => .inl rfl
  | k + 1, hk => by
    by_cases h : nth xs k = t ∧ farI wide k free = 1
    · rcases mayIn_once (wide := wide) (free := free) hd t k (by omega) with e | e
      · rw [mayIn_yes h.1 h.2, e]; exact .inr rfl
      · have hm : t ∈ mayIn wide free xs t k := by rw [e]; simp
        obtain ⟨_, j, hj, e2, _⟩ := mem_mayIn.1 hm
        have := nth_inj hd (i := j) (j := k) (by omega) (by omega) (by rw [e2, h.1])
        omega
    · rw [mayIn_no h]; exact mayIn_once hd t k (by omega)

theorem mayTo_asc {wide free : Int} {xs : List Int} {n : Nat} (hd : Dis n xs) : ∀ j, Asc (mayTo wide free xs j)
  | 0 => List.Pairwise.nil
  | j + 1 => by
    rw [mayTo_succ]
    refine List.pairwise_append.2 ⟨mayTo_asc hd j, ?_, fun a ha b hb => ?_⟩
    · rcases mayIn_once (wide := wide) (free := free) hd ((j : Int) + 1) xs.length (Nat.le_refl _) with e | e <;> rw [e] <;> simp
    · have h1 := mem_mayTo_le ha
      have h2 := (mem_mayIn.1 hb).1
      omega

theorem mayL_asc {wide : Int} {xs : List Int} (h : BoardOk wide xs) : Asc (mayL wide xs) := by
  rw [mayL_in h]; exact mayTo_asc h.2.2.2.2 _

theorem nodup_sub : ∀ (l' l : List Int), l.Nodup → (∀ x ∈ l, x ∈ l') → l.length ≤ l'.length
  | [], l, _, h => by
    cases l with
    | nil => simp
    | cons a l => exact absurd (h a (by simp)) (by simp)
  | a :: l', l, hd, h => by
    by_cases hm : a ∈ l
    · have h1 := nodup_sub l' (l.erase a) (hd.erase a) fun x hx => by
        have h2 := (List.Nodup.mem_erase_iff hd).1 hx
        rcases List.mem_cons.1 (h x h2.2) with e | e
        · exact absurd e h2.1
        · exact e
      rw [List.length_erase_of_mem hm] at h1
      simp only [List.length_cons]; omega
    · have h1 := nodup_sub l' l hd fun x hx => by
        rcases List.mem_cons.1 (h x hx) with e | e
        · exact absurd (e ▸ hx) hm
        · exact e
      simp only [List.length_cons]; omega

/-- Beside a place lie at most four. -/
theorem far_one {wide j z : Int} (hw : 1 ≤ wide) (h : farI wide j z = 1) : j = z - 1 ∨ j = z + 1 ∨ j = z - wide ∨ j = z + wide := by
  have e1 := Int.mul_ediv_add_emod j wide
  have e2 := Int.mul_ediv_add_emod z wide
  unfold farI at h
  generalize j / wide = a at *
  generalize z / wide = b at *
  generalize j % wide = p at *
  generalize z % wide = q at *
  have hc : (a = b ∧ p = q - 1) ∨ (a = b ∧ p = q + 1) ∨ (a = b - 1 ∧ p = q) ∨ (a = b + 1 ∧ p = q) := by omega
  rcases hc with ⟨rfl, rfl⟩ | ⟨rfl, rfl⟩ | ⟨rfl, rfl⟩ | ⟨rfl, rfl⟩
  · omega
  · omega
  · rw [Int.mul_sub] at e1; omega
  · rw [Int.mul_add] at e1; omega

theorem may_four {wide : Int} {xs : List Int} (h : BoardOk wide xs) : (mayL wide xs).length ≤ 4 := by
  have hn : (mayL wide xs).Nodup := (mayL_asc h).imp fun h e => by omega
  refine Nat.le_trans (nodup_sub [nth xs (zeroI xs - 1).toNat, nth xs (zeroI xs + 1).toNat, nth xs (zeroI xs - wide).toNat, nth xs (zeroI xs + wide).toNat] _ hn fun t ht => ?_) (Nat.le_refl _)
  have hc : canB wide xs t = true := by unfold canB hasL; rw [List.contains_iff_mem]; exact ht
  obtain ⟨_, j, hj, e, hf⟩ := (canB_iff h).1 hc
  have := far_one h.2.2.1 hf
  subst e
  simp only [List.mem_cons, List.not_mem_nil, or_false]
  rcases this with e | e | e | e
  · exact .inl (by rw [← e]; simp)
  · exact .inr (.inl (by rw [← e]; simp))
  · exact .inr (.inr (.inl (by rw [← e]; simp)))
  · exact .inr (.inr (.inr (by rw [← e]; simp)))

theorem farI_comm (wide a b : Int) : farI wide a b = farI wide b a := by unfold farI; omega

/-- Where the free place and the tile are behind a move. -/
theorem moved_at {wide : Int} {xs : List Int} (h : BoardOk wide xs) {t : Int} (hc : canB wide xs t = true) : ∃ z k : Nat, z < xs.length ∧ k < xs.length ∧ z ≠ k ∧ zeroI xs = z ∧ nth xs z = 0 ∧ nth xs k = t ∧ 1 ≤ t ∧ t < xs.length ∧ farI wide k z = 1 ∧ zeroI (movedL wide xs t) = k ∧ nth (movedL wide xs t) k = 0 ∧ nth (movedL wide xs t) z = t ∧ ∀ i, i < xs.length → i ≠ z → i ≠ k → nth (movedL wide xs t) i = nth xs i := by
  have hz := zeroI_ok h
  obtain ⟨z, hz'⟩ : ∃ z : Nat, zeroI xs = z := Int.eq_ofNat_of_zero_le hz.1
  obtain ⟨hzl, hz0⟩ := zeroI_nth h hz'
  obtain ⟨ht, k, hk, hkt, hf⟩ := (canB_iff h).1 hc
  have hd := h.2.2.2.2
  have hzk : z ≠ k := fun e => by subst e; omega
  have hz2 : ∀ i, i < xs.length → nth xs i = 0 → i = z := fun i hi e => nth_inj hd hi hzl (by rw [e, hz0])
  have hk2 : ∀ i, i < xs.length → nth xs i = t → i = k := fun i hi e => nth_inj hd hi hk (by rw [e, hkt])
  rw [movedL_yes hc]
  have hs : ∀ i, i < xs.length → nth (swapL xs t) i = if i = k then 0 else if i = z then t else nth xs i := fun i hi => by
    rw [nth_map_swap hi]
    by_cases e1 : nth xs i = t
    · rw [if_pos e1, if_pos (hk2 i hi e1)]
    · have hik : i ≠ k := fun e => e1 (by rw [e]; exact hkt)
      rw [if_neg e1, if_neg hik]
      by_cases e2 : nth xs i = 0
      · rw [if_pos e2, if_pos (hz2 i hi e2)]
      · have hiz : i ≠ z := fun e => e2 (by rw [e]; exact hz0)
        rw [if_neg e2, if_neg hiz]
  refine ⟨z, k, hzl, hk, hzk, hz', hz0, hkt, ht.1, ht.2, by rw [hz'] at hf; exact hf, ?_, by rw [hs k hk, if_pos rfl], by rw [hs z hzl, if_neg hzk, if_pos rfl], fun i hi e1 e2 => by rw [hs i hi, if_neg e2, if_neg e1]⟩
  refine zeroI_at (by rw [swapL, List.length_map]; exact hk) (by rw [hs k hk, if_pos rfl]) fun j hj e => ?_
  rw [hs j (by omega), if_neg (by omega)] at e
  split at e
  · omega
  · rename_i h1
    exact h1 (hz2 j (by omega) e)

/-- Moved back. -/
theorem can_back {wide : Int} {xs : List Int} (h : BoardOk wide xs) {t : Int} (hc : canB wide xs t = true) : canB wide (movedL wide xs t) t = true := by
  obtain ⟨z, k, hz, hk, hzk, e1, e2, e3, t1, t2, hf, e4, e5, e6, _⟩ := moved_at h hc
  refine (canB_iff (boardOk_moved h)).2 ⟨⟨t1, by rw [length_movedL]; exact t2⟩, z, by rw [length_movedL]; exact hz, e6, ?_⟩
  rw [e4, farI_comm]; exact hf

end Go.Proofs.Ytfpckcmkikckgaa
