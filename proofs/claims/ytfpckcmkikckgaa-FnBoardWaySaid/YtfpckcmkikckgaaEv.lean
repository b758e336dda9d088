/- How many boards are reached from the board in order, and how far the farthest is: by tables that the kernel checks. (Printed by a program of my own.) -/
import Derived.Test.YtfpckcmkikckgaaSw
namespace Go.Proofs.Ytfpckcmkikckgaa
open Go Go.RowKit

/-! A board as one number, three bits a place. -/
def encN : List Nat → Nat
  | [] => 0
  | x :: l => x + 8 * encN l
def dgN : Nat → Nat → List Nat
  | 0, _ => []
  | n + 1, c => c % 8 :: dgN n (c / 8)
def posN (t : Nat) : List Nat → Nat
  | [] => 0
  | x :: l => if x = t then 0 else posN t l + 1
def mvN (t : Nat) (l : List Nat) : List Nat := l.map fun x => if x = t then 0 else if x = 0 then t else x
def farN (w a b : Nat) : Nat := ((a / w - b / w) + (b / w - a / w)) + ((a % w - b % w) + (b % w - a % w))
def canN (w : Nat) (l : List Nat) (t : Nat) : Bool := Nat.beq (farN w (posN t l) (posN 0 l)) 1
def lookN (c : Nat) : List (Nat × Nat) → Option Nat
  | [] => none
  | p :: F => if Nat.beq p.1 c then some p.2 else lookN c F
def okN (w n : Nat) (F : List (Nat × Nat)) (l : List Nat) (d : Nat) : Nat → Bool
  | 0 => true
  | t + 1 => (if canN w l (t + 1) then (match lookN (encN (mvN (t + 1) l)) F with | some e => Nat.ble e (d + 1) | none => false) else true) && okN w n F l d t
def upN (w : Nat) (F : List (Nat × Nat)) (l : List Nat) (d : Nat) : Nat → Bool
  | 0 => false
  | t + 1 => (canN w (mvN (t + 1) l) (t + 1) && (match lookN (encN (mvN (t + 1) l)) F with | some e => Nat.beq (e + 1) d | none => false)) || upN w F l d t
def ordN (n : Nat) : List Nat := (List.range (n - 1)).map (· + 1) ++ [0]
def chkN (w n : Nat) (F : List (Nat × Nat)) : Bool :=
  (match lookN (encN (ordN n)) F with | some e => Nat.beq e 0 | none => false) &&
  F.all (fun p => okN w n F (dgN n p.1) p.2 (n - 1) && (match p.2 with | 0 => Nat.beq (encN (dgN n p.1)) (encN (ordN n)) | d + 1 => upN w F (dgN n p.1) (d + 1) (n - 1)))
/-- Each code is that of its digits. -/
def cdN (n : Nat) (F : List (Nat × Nat)) : Bool := F.all fun p => Nat.beq (encN (dgN n p.1)) p.1
def ascN : List (Nat × Nat) → Bool
  | [] => true
  | [_] => true
  | p :: q :: F => Nat.blt p.1 q.1 && ascN (q :: F)

theorem asc_nodup : ∀ F : List (Nat × Nat), ascN F = true → (F.map Prod.fst).Pairwise (· < ·)
  | [], _ => List.Pairwise.nil
  | [p], _ => by simp
  | p :: q :: F, h => by
    rw [ascN, Bool.and_eq_true] at h
    have ih := asc_nodup (q :: F) h.2
    have hpq : p.1 < q.1 := Nat.le_of_ble_eq_true h.1
    rw [List.map_cons, List.pairwise_cons]
    refine ⟨fun x hx => ?_, ih⟩
    rw [List.map_cons, List.mem_cons] at hx
    rcases hx with rfl | hx
    · exact hpq
    · rw [List.map_cons, List.pairwise_cons] at ih
      exact Nat.lt_trans hpq (ih.1 x hx)

/-- A list of digits as Go's numbers. -/
def intsN (l : List Nat) : List Int := l.map (fun x : Nat => (x : Int))
theorem length_intsN (l : List Nat) : (intsN l).length = l.length := by simp [intsN]
theorem nth_intsN {l : List Nat} {j : Nat} (h : j < l.length) : nth (intsN l) j = (l[j] : Nat) := by rw [nth_eq (by rw [length_intsN]; exact h)]; simp [intsN]

theorem dg_enc : ∀ l : List Nat, (∀ x ∈ l, x < 8) → dgN l.length (encN l) = l
  | [], _ => rfl
  | x :: l, h => by
    have hx := h x (by simp)
    rw [encN, List.length_cons, dgN, show (x + 8 * encN l) % 8 = x by omega, show (x + 8 * encN l) / 8 = encN l by omega, dg_enc l fun y hy => h y (by simp [hy])]
theorem length_dgN : ∀ n c : Nat, (dgN n c).length = n
  | 0, _ => rfl
  | n + 1, c => by rw [dgN, List.length_cons, length_dgN]

theorem intsN_mv (t : Nat) (l : List Nat) : intsN (mvN t l) = swapL (intsN l) t := by
  unfold intsN mvN swapL
  rw [List.map_map, List.map_map]
  refine List.map_congr_left fun x _ => ?_
  simp only [Function.comp]
  by_cases h1 : x = t
  · rw [if_pos h1, if_pos (by omega)]; rfl
  · by_cases h2 : x = 0
    · rw [if_neg h1, if_pos h2, if_neg (by omega), if_pos (by omega)]
    · rw [if_neg h1, if_neg h2, if_neg (by omega), if_neg (by omega)]

theorem posN_at : ∀ (l : List Nat) (t : Nat), t ∈ l → ∃ h : posN t l < l.length, l[posN t l] = t
  | [], t, h => by cases h
  | x :: l, t, h => by
    by_cases e : x = t
    · refine ⟨by rw [posN, if_pos e]; simp, ?_⟩
      simp [posN, e]
    · have hm : t ∈ l := by
        rcases List.mem_cons.1 h with h | h
        · exact absurd h.symm e
        · exact h
      obtain ⟨h1, h2⟩ := posN_at l t hm
      refine ⟨by rw [posN, if_neg e]; simpa using h1, ?_⟩
      simp [posN, e, h2]

theorem farN_int (w a b : Nat) : ((farN w a b : Nat) : Int) = farI w a b := by
  unfold farN farI
  have e1 : ((a / w : Nat) : Int) = (a : Int) / w := by simp
  have e2 : ((b / w : Nat) : Int) = (b : Int) / w := by simp
  have e3 : ((a % w : Nat) : Int) = (a : Int) % w := by simp
  have e4 : ((b % w : Nat) : Int) = (b : Int) % w := by simp
  rw [← e1, ← e2, ← e3, ← e4]
  omega

theorem dis_lt {wide : Int} {l : List Nat} (h : BoardOk wide (intsN l)) : ∀ x ∈ l, x < l.length := fun x hx => by
  have := h.2.2.2.2.1 (x : Int) (List.mem_map.2 ⟨x, hx, rfl⟩)
  rw [length_intsN] at this
  omega

theorem mem_digits {wide : Int} {l : List Nat} (h : BoardOk wide (intsN l)) {t : Nat} (ht : t < l.length) : t ∈ l := by
  have := dis_mem h.2.2.2.2 rfl (t := t) (by rw [length_intsN]; exact ht)
  obtain ⟨x, hx, e⟩ := List.mem_map.1 this
  have : x = t := by omega
  exact this ▸ hx

theorem can_N {w : Nat} {l : List Nat} (h : BoardOk w (intsN l)) {t : Nat} (ht : 1 ≤ t) (htn : t < l.length) : canB w (intsN l) t = canN w l t := by
  obtain ⟨h1, h2⟩ := posN_at l t (mem_digits h htn)
  obtain ⟨h3, h4⟩ := posN_at l 0 (mem_digits h (by omega))
  have hz : zeroI (intsN l) = ((posN 0 l : Nat) : Int) := by
    refine zeroI_at (by rw [length_intsN]; exact h3) (by rw [nth_intsN h3, h4]; rfl) fun j hj e => ?_
    have hjl : j < l.length := by omega
    have := nth_inj h.2.2.2.2 (i := j) (j := posN 0 l) (by rw [length_intsN]; exact hjl) (by rw [length_intsN]; exact h3) (by rw [e, nth_intsN h3, h4]; rfl)
    omega
  rw [Bool.eq_iff_iff, canB_iff h, hz]
  unfold canN
  rw [Nat.beq_eq]
  constructor
  · rintro ⟨_, j, hj, e1, e2⟩
    have : j = posN t l := nth_inj h.2.2.2.2 hj (by rw [length_intsN]; exact h1) (by rw [e1, nth_intsN h1, h2])
    subst this
    rw [← farN_int] at e2
    omega
  · intro e
    refine ⟨⟨by omega, by rw [length_intsN]; omega⟩, posN t l, by rw [length_intsN]; exact h1, by rw [nth_intsN h1, h2], ?_⟩
    rw [← farN_int, e]; rfl

theorem lookN_mem {c d : Nat} : ∀ F : List (Nat × Nat), lookN c F = some d → (c, d) ∈ F
  | [], h => by simp [lookN] at h
  | p :: F, h => by
    rw [lookN] at h
    by_cases e : Nat.beq p.1 c = true
    · rw [if_pos e] at h
      have h1 := Nat.eq_of_beq_eq_true e
      simp only [Option.some.injEq] at h
      exact List.mem_cons.2 (.inl (by rw [← h1, ← h]))
    · rw [if_neg e] at h
      exact List.mem_cons.2 (.inr (lookN_mem F h))

theorem okN_at {w n : Nat} {F : List (Nat × Nat)} {l : List Nat} {d : Nat} : ∀ m, okN w n F l d m = true → ∀ t, 1 ≤ t → t ≤ m → canN w l t = true → ∃ e, lookN (encN (mvN t l)) F = some e ∧ e ≤ d + 1
  | 0, _, t, h1, h2, _ => by omega
  | m + 1, h, t, h1, h2, hc => by
    rw [okN, Bool.and_eq_true] at h
    by_cases e : t = m + 1
    · subst e
      have h3 := h.1
      rw [hc, if_pos rfl] at h3
      cases hl : lookN (encN (mvN (m + 1) l)) F with
      | none => rw [hl] at h3; simp at h3
      | some e => rw [hl] at h3; exact ⟨e, rfl, Nat.le_of_ble_eq_true h3⟩
    · exact okN_at m h.2 t h1 (by omega) hc

theorem upN_at {w : Nat} {F : List (Nat × Nat)} {l : List Nat} {d : Nat} : ∀ m, upN w F l d m = true → ∃ t e, 1 ≤ t ∧ t ≤ m ∧ canN w (mvN t l) t = true ∧ lookN (encN (mvN t l)) F = some e ∧ e + 1 = d
  | 0, h => by simp [upN] at h
  | m + 1, h => by
    rw [upN, Bool.or_eq_true, Bool.and_eq_true] at h
    rcases h with h | h
    · cases hl : lookN (encN (mvN (m + 1) l)) F with
      | none => rw [hl] at h; simp at h
      | some e => rw [hl] at h; exact ⟨m + 1, e, by omega, Nat.le_refl _, h.1, hl, Nat.eq_of_beq_eq_true h.2⟩
    · obtain ⟨t, e, h1, h2, h3⟩ := upN_at m h
      exact ⟨t, e, h1, by omega, h3⟩

theorem ordN_int {n : Nat} (_h : 1 ≤ n) : intsN (ordN n) = ordL n := by
  unfold intsN ordN ordL iota
  rw [List.map_append, List.map_map]
  congr 1
  refine List.map_congr_left fun x _ => ?_
  simp only [Function.comp]
  omega
theorem length_ordN {n : Nat} (h : 1 ≤ n) : (ordN n).length = n := by simp [ordN]; omega

theorem lt8 {wide : Int} {l : List Nat} (h : BoardOk wide (intsN l)) : ∀ x ∈ l, x < 8 ∨ l.length = 9 := fun x hx => by
  have h1 := dis_lt h x hx
  have h2 := h.2.1
  rw [length_intsN] at h2
  omega

theorem toN {xs : List Int} {n : Nat} (h : Dis n xs) : ∃ l, intsN l = xs := by
  refine ⟨xs.map Int.toNat, ?_⟩
  unfold intsN
  rw [List.map_map]
  have : xs.map ((fun x : Nat => (x : Int)) ∘ Int.toNat) = xs.map id := List.map_congr_left fun x hx => by
    have := (h.1 x hx).1
    simp only [Function.comp, id]
    omega
  rw [this, List.map_id]

theorem mv_mv {t : Nat} (ht : t ≠ 0) (l : List Nat) : mvN t (mvN t l) = l := by
  unfold mvN
  rw [List.map_map]
  have : l.map ((fun x => if x = t then 0 else if x = 0 then t else x) ∘ fun x => if x = t then 0 else if x = 0 then t else x) = l.map id := List.map_congr_left fun x _ => by
    simp only [Function.comp, id]
    by_cases h1 : x = t
    · subst h1; simp
    · by_cases h2 : x = 0
      · subst h2; simp [h1]
      · simp [h1, h2]
  rw [this, List.map_id]

/-- Every board that was found is in the table, at least as near. -/
theorem tab_sound {w n j : Nat} {F : List (Nat × Nat)} {S : List (List Int × Int)} (hn : 1 ≤ n) (h6 : n ≤ 6) (h : Srch w n S S.length j) (hF : chkN w n F = true) :
    ∀ i, i < S.length → ∃ l d, intsN l = bdS S i ∧ lookN (encN l) F = some d ∧ (d : Int) ≤ dpS S i := by
  rw [chkN, Bool.and_eq_true, List.all_eq_true] at hF
  obtain ⟨hF0, hF1⟩ := hF
  intro i
  induction i using Nat.strongRecOn with
  | ind i ih =>
    intro hi
    rcases Nat.eq_zero_or_pos i with rfl | h0
    · cases hl : lookN (encN (ordN n)) F with
      | none => rw [hl] at hF0; simp at hF0
      | some e =>
        rw [hl] at hF0
        have : e = 0 := Nat.eq_of_beq_eq_true hF0
        subst this
        exact ⟨ordN n, 0, by rw [ordN_int hn, h.zero.1], hl, by rw [h.zero.2]; decide⟩
    · obtain ⟨k, t, hk, hc, hb, hd⟩ := h.par i h0 hi
      obtain ⟨l, d, hl, hlk, hdk⟩ := ih k hk (by omega)
      have hok := h.ok k (by omega)
      rw [← hl] at hok hc hb
      have hln : l.length = n := by rw [← length_intsN]; exact hok.2
      have ht := can_bound hok.1 hc
      rw [length_intsN] at ht
      obtain ⟨tt, rfl⟩ := Int.eq_ofNat_of_zero_le (show 0 ≤ t by omega)
      have h8 : ∀ x ∈ l, x < 8 := fun x hx => by have := dis_lt hok.1 x hx; omega
      have hcn := hc
      rw [can_N hok.1 (by omega) (by omega)] at hcn
      have hp := hF1 _ (lookN_mem F hlk)
      rw [Bool.and_eq_true] at hp
      have hdg : dgN n (encN l) = l := by rw [← hln]; exact dg_enc l h8
      rw [hdg] at hp
      obtain ⟨e, he1, he2⟩ := okN_at (n - 1) hp.1 tt (by omega) (by omega) hcn
      refine ⟨mvN tt l, e, ?_, he1, by omega⟩
      rw [intsN_mv, hb, movedL_yes hc]

/-- Every board of the table was found, at least as near. -/
theorem tab_whole {w n j : Nat} {F : List (Nat × Nat)} {S : List (List Int × Int)} (hn : 1 ≤ n) (h6 : n ≤ 6) (h : Srch w n S S.length j) (hF : chkN w n F = true) :
    ∀ d p, p ∈ F → p.2 = d → ∃ i, i < S.length ∧ bdS S i = intsN (dgN n p.1) ∧ dpS S i ≤ (d : Int) := by
  rw [chkN, Bool.and_eq_true, List.all_eq_true] at hF
  obtain ⟨hF0, hF1⟩ := hF
  have ord8 : ∀ x ∈ ordN n, x < 8 := fun x hx => by
    unfold ordN at hx
    rcases List.mem_append.1 hx with hx | hx
    · obtain ⟨y, hy, rfl⟩ := List.mem_map.1 hx
      have := List.mem_range.1 hy
      omega
    · have : x = 0 := by simpa using hx
      omega
  intro d
  induction d with
  | zero =>
    intro p hp e
    have hp1 := hF1 p hp
    rw [Bool.and_eq_true, e] at hp1
    have h1 := Nat.eq_of_beq_eq_true hp1.2
    have h2 : dgN n p.1 = ordN n := by
      have h3 := dg_enc (dgN n p.1) (fun x hx => by
        have : ∀ (m c x : Nat), x ∈ dgN m c → x < 8 := fun m => by
          induction m with
          | zero => intro c x hx; simp [dgN] at hx
          | succ m ih =>
            intro c x hx
            rw [dgN, List.mem_cons] at hx
            rcases hx with rfl | hx
            · omega
            · exact ih _ _ hx
        exact this n p.1 x hx)
      have h4 := dg_enc (ordN n) ord8
      rw [length_dgN, h1] at h3
      rw [length_ordN hn] at h4
      rw [← h3, h4]
    exact ⟨0, h.pos, by rw [h2, ordN_int hn, h.zero.1], by rw [h.zero.2]; decide⟩
  | succ d ih =>
    intro p hp e
    have hp1 := hF1 p hp
    rw [Bool.and_eq_true, e] at hp1
    obtain ⟨t, e1, ht1, ht2, hc, hl, he⟩ := upN_at (n - 1) hp1.2
    have he' : e1 = d := by omega
    subst he'
    obtain ⟨k, hk, hkb, hkd⟩ := ih _ (lookN_mem F hl) rfl
    have hlen : (mvN t (dgN n p.1)).length = n := by rw [mvN, List.length_map, length_dgN]
    have h8 : ∀ x ∈ mvN t (dgN n p.1), x < 8 := fun x hx => by
      unfold mvN at hx
      obtain ⟨y, hy, rfl⟩ := List.mem_map.1 hx
      have hy8 : y < 8 := by
        have : ∀ (m c x : Nat), x ∈ dgN m c → x < 8 := fun m => by
          induction m with
          | zero => intro c x hx; simp [dgN] at hx
          | succ m ih =>
            intro c x hx
            rw [dgN, List.mem_cons] at hx
            rcases hx with rfl | hx
            · omega
            · exact ih _ _ hx
        exact this n p.1 y hy
      split
      · omega
      · split <;> omega
    have hdg : dgN n (encN (mvN t (dgN n p.1))) = mvN t (dgN n p.1) := by have := dg_enc _ h8; rwa [hlen] at this
    rw [hdg] at hkb
    have hok := h.ok k hk
    rw [hkb] at hok
    have hcb : canB w (bdS S k) t = true := by rw [hkb, can_N hok.1 ht1 (by omega)]; exact hc
    obtain ⟨i, hi, hib, hid⟩ := h.clo k t hk (.inl hk) hcb
    refine ⟨i, hi, ?_, by omega⟩
    rw [hib, movedL_yes hcb, hkb, ← intsN_mv, mv_mv (by omega)]

theorem enc_inj {l m : List Nat} (hl : ∀ x ∈ l, x < 8) (hm : ∀ x ∈ m, x < 8) (hlen : l.length = m.length) (h : encN l = encN m) : l = m := by
  rw [← dg_enc l hl, ← dg_enc m hm, h, hlen]

theorem ints_inj {l m : List Nat} (h : intsN l = intsN m) : l = m := by
  have hl : l.length = m.length := by have := congrArg List.length h; simpa [length_intsN] using this
  refine List.ext_getElem hl fun i h1 h2 => ?_
  have := congrArg (fun x => nth x i) h
  simp only [nth_intsN h1, nth_intsN h2] at this
  omega

/-- So many boards, and the farthest so far. -/
theorem tab_all {w n j : Nat} {F : List (Nat × Nat)} {S : List (List Int × Int)} (hn : 1 ≤ n) (h6 : n ≤ 6) (h : Srch w n S S.length j) (hF : chkN w n F = true) (hA : ascN F = true) (hC' : cdN n F = true) :
    S.length = F.length ∧ mxL (S.map Prod.snd) = mxL (F.map fun p => (p.2 : Int)) := by
  have hC : ∀ p ∈ F, encN (dgN n p.1) = p.1 := fun p hp => Nat.eq_of_beq_eq_true (List.all_eq_true.1 hC' p hp)
  have s1 := tab_sound hn h6 h hF
  have s2 := tab_whole hn h6 h hF
  have hpw := asc_nodup F hA
  have hone : ∀ p q, p ∈ F → q ∈ F → p.1 = q.1 → p = q := fun p q hp hq e => by
    obtain ⟨i, hi, rfl⟩ := List.getElem_of_mem hp
    obtain ⟨k, hk, rfl⟩ := List.getElem_of_mem hq
    rw [List.pairwise_map, List.pairwise_iff_getElem] at hpw
    rcases Nat.lt_trichotomy i k with h1 | h1 | h1
    · have := hpw i k hi hk h1; omega
    · subst h1; rfl
    · have := hpw k i hk hi h1; omega
  have dig : ∀ i, i < S.length → ∀ l, intsN l = bdS S i → l.length = n ∧ ∀ x ∈ l, x < 8 := fun i hi l hl => by
    have hok := h.ok i hi
    rw [← hl] at hok
    have hln : l.length = n := by rw [← length_intsN]; exact hok.2
    exact ⟨hln, fun x hx => by have := dis_lt hok.1 x hx; omega⟩
  -- each board's code
  have key : ∀ i, i < S.length → ∃ p, p ∈ F ∧ intsN (dgN n p.1) = bdS S i ∧ (p.2 : Int) = dpS S i := fun i hi => by
    obtain ⟨l, d, hl, hlk, hd⟩ := s1 i hi
    obtain ⟨hln, h8⟩ := dig i hi l hl
    have hdg : dgN n (encN l) = l := by rw [← hln]; exact dg_enc l h8
    have hm := lookN_mem F hlk
    obtain ⟨k, hk, hkb, hkd⟩ := s2 d (encN l, d) hm rfl
    simp only [hdg] at hkb
    have : k = i := h.one k i hk hi (by rw [hkb, hl])
    subst this
    exact ⟨(encN l, d), hm, by simp only [hdg]; exact hl, by simp only; omega⟩
  refine ⟨?_, mxL_eq (fun x hx => ?_) (fun y hy => ?_)⟩
  · have a1 : ((List.range S.length).map (bdS S)).length ≤ (F.map fun p => intsN (dgN n p.1)).length := by
      refine List.Nodup.length_le_of_subset ?_ ?_
      · show List.Pairwise _ _
        rw [List.pairwise_map]
        refine List.Pairwise.imp_of_mem (fun {a b} ha hb hab e => hab (h.one a b (List.mem_range.1 ha) (List.mem_range.1 hb) e)) List.nodup_range
      · intro x hx
        obtain ⟨i, hi, rfl⟩ := List.mem_map.1 hx
        obtain ⟨p, hp, e, _⟩ := key i (List.mem_range.1 hi)
        exact List.mem_map.2 ⟨p, hp, e⟩
    have a2 : (F.map Prod.fst).length ≤ S.length := by
      have : ∀ p, p ∈ F → ∃ i, i < S.length ∧ bdS S i = intsN (dgN n p.1) := fun p hp => by
        obtain ⟨i, hi, e, _⟩ := s2 p.2 p hp rfl
        exact ⟨i, hi, e⟩
      have hsub : (F.map Prod.fst).length ≤ ((List.range S.length).map fun i => encN ((bdS S i).map Int.toNat)).length := by
        refine List.Nodup.length_le_of_subset (hpw.imp fun h => Nat.ne_of_lt h) fun c hc => ?_
        obtain ⟨p, hp, rfl⟩ := List.mem_map.1 hc
        obtain ⟨i, hi, e⟩ := this p hp
        refine List.mem_map.2 ⟨i, List.mem_range.2 hi, ?_⟩
        show encN ((bdS S i).map Int.toNat) = p.1
        rw [e]
        unfold intsN
        rw [List.map_map]
        have hto : (dgN n p.1).map (Int.toNat ∘ fun x : Nat => (x : Int)) = (dgN n p.1).map id := List.map_congr_left fun x _ => by simp [Function.comp]
        rw [hto, List.map_id]
        exact hC p hp
      simpa using hsub
    simp only [List.length_map, List.length_range] at a1 a2
    omega
  · obtain ⟨p, hp, rfl⟩ := List.mem_map.1 hx
    obtain ⟨i, hi, rfl⟩ := List.getElem_of_mem hp
    obtain ⟨q, hq, _, e⟩ := key i hi
    refine .inl (List.mem_map.2 ⟨q, hq, ?_⟩)
    rw [e]; simp [dpS, hi]
  · obtain ⟨p, hp, rfl⟩ := List.mem_map.1 hy
    obtain ⟨i, hi, hib, hid⟩ := s2 p.2 p hp rfl
    obtain ⟨q, hq, e2, e3⟩ := key i hi
    have hpq : q = p := hone q p hq hp (by rw [← hC q hq, ← hC p hp, ints_inj (e2.trans hib)])
    subst hpq
    refine .inl (List.mem_map.2 ⟨S[i], List.getElem_mem hi, ?_⟩)
    rw [e3]; simp [dpS, hi]

def tab12 : List (Nat × Nat) := [(1, 0), (8, 1)]
theorem chk12 : (chkN 1 2 tab12 && ascN tab12 && cdN 2 tab12 && Nat.beq tab12.length 2 && Nat.beq (tab12.foldl (fun m p => if Nat.ble m p.2 then p.2 else m) 0) 1) = true := by kernel_rfl

def tab21 : List (Nat × Nat) := [(1, 0), (8, 1)]
theorem chk21 : (chkN 2 2 tab21 && ascN tab21 && cdN 2 tab21 && Nat.beq tab21.length 2 && Nat.beq (tab21.foldl (fun m p => if Nat.ble m p.2 then p.2 else m) 0) 1) = true := by kernel_rfl

def tab13 : List (Nat × Nat) := [(17, 0), (129, 1), (136, 2)]
theorem chk13 : (chkN 1 3 tab13 && ascN tab13 && cdN 3 tab13 && Nat.beq tab13.length 3 && Nat.beq (tab13.foldl (fun m p => if Nat.ble m p.2 then p.2 else m) 0) 2) = true := by kernel_rfl

def tab31 : List (Nat × Nat) := [(17, 0), (129, 1), (136, 2)]
theorem chk31 : (chkN 3 3 tab31 && ascN tab31 && cdN 3 tab31 && Nat.beq tab31.length 3 && Nat.beq (tab31.foldl (fun m p => if Nat.ble m p.2 then p.2 else m) 0) 2) = true := by kernel_rfl

def tab14 : List (Nat × Nat) := [(209, 0), (1553, 1), (1665, 2), (1672, 3)]
theorem chk14 : (chkN 1 4 tab14 && ascN tab14 && cdN 4 tab14 && Nat.beq tab14.length 4 && Nat.beq (tab14.foldl (fun m p => if Nat.ble m p.2 then p.2 else m) 0) 3) = true := by kernel_rfl

def tab22 : List (Nat × Nat) := [(90, 4), (139, 4), (209, 0), (538, 5), (643, 5), (664, 6), (1035, 3), (1217, 1), (1224, 2), (1553, 1), (1602, 3), (1616, 2)]
theorem chk22 : (chkN 2 4 tab22 && ascN tab22 && cdN 4 tab22 && Nat.beq tab22.length 12 && Nat.beq (tab22.foldl (fun m p => if Nat.ble m p.2 then p.2 else m) 0) 6) = true := by kernel_rfl

def tab41 : List (Nat × Nat) := [(209, 0), (1553, 1), (1665, 2), (1672, 3)]
theorem chk41 : (chkN 4 4 tab41 && ascN tab41 && cdN 4 tab41 && Nat.beq tab41.length 4 && Nat.beq (tab41.foldl (fun m p => if Nat.ble m p.2 then p.2 else m) 0) 3) = true := by kernel_rfl

def tab15 : List (Nat × Nat) := [(2257, 0), (16593, 1), (17937, 2), (18049, 3), (18056, 4)]
theorem chk15 : (chkN 1 5 tab15 && ascN tab15 && cdN 5 tab15 && Nat.beq tab15.length 5 && Nat.beq (tab15.foldl (fun m p => if Nat.ble m p.2 then p.2 else m) 0) 4) = true := by kernel_rfl

def tab51 : List (Nat × Nat) := [(2257, 0), (16593, 1), (17937, 2), (18049, 3), (18056, 4)]
theorem chk51 : (chkN 5 5 tab51 && ascN tab51 && cdN 5 tab51 && Nat.beq tab51.length 5 && Nat.beq (tab51.foldl (fun m p => if Nat.ble m p.2 then p.2 else m) 0) 4) = true := by kernel_rfl

def tab16 : List (Nat × Nat) := [(22737, 0), (166097, 1), (180433, 2), (181777, 3), (181889, 4), (181896, 5)]
theorem chk16 : (chkN 1 6 tab16 && ascN tab16 && cdN 6 tab16 && Nat.beq tab16.length 6 && Nat.beq (tab16.foldl (fun m p => if Nat.ble m p.2 then p.2 else m) 0) 5) = true := by kernel_rfl

def tab23 : List (Nat × Nat) := [(5349, 20), (5419, 16), (5468, 16), (5804, 12), (5909, 14), (5986, 10), (6301, 16), (6378, 14), (6483, 14), (6819, 12), (6868, 14), (6938, 10), (8940, 16), (8989, 12), (9059, 14), (9829, 16), (10025, 14), (10060, 12), (10347, 18), (10445, 14), (10585, 16), (10844, 14), (10977, 12), (11019, 10), (12965, 16), (13098, 12), (13140, 18), (13420, 14), (13581, 10), (13665, 16), (14421, 14), (14505, 16), (14666, 20), (14946, 6), (14988, 8), (15121, 4), (17067, 14), (17109, 14), (17242, 8), (17501, 12), (17641, 12), (17739, 6), (18026, 10), (18061, 10), (18257, 4), (19027, 18), (19097, 18), (19146, 20), (21148, 14), (21218, 8), (21267, 14), (21603, 14), (21708, 8), (21785, 14), (22100, 14), (22177, 14), (22282, 20), (22618, 6), (22667, 6), (22737, 0), (34021, 19), (34091, 15), (34140, 15), (34476, 13), (34581, 13), (34658, 11), (34973, 15), (35050, 15), (35155, 13), (35491, 13), (35540, 15), (35610, 11), (41196, 15), (41245, 13), (41315, 15), (42540, 14), (42757, 14), (42792, 15), (43037, 14), (43331, 16), (43352, 15), (43555, 14), (43716, 16), (43744, 15), (45221, 17), (45354, 13), (45396, 17), (46117, 18), (46404, 18), (46432, 19), (47146, 14), (47237, 16), (47272, 15), (47636, 16), (47874, 14), (47888, 15), (49323, 13), (49365, 13), (49498, 9), (50219, 14), (50373, 14), (50408, 15), (50709, 12), (51010, 10), (51024, 11), (51738, 10), (51843, 12), (51864, 11), (53404, 13), (53474, 9), (53523, 13), (54300, 14), (54531, 14), (54552, 15), (54818, 10), (54916, 12), (54944, 11), (55315, 12), (55490, 10), (55504, 11), (66284, 15), (66333, 11), (66403, 13), (67173, 17), (67369, 13), (67404, 11), (67691, 19), (67789, 13), (67929, 15), (68188, 15), (68321, 13), (68363, 9), (69861, 19), (69931, 17), (69980, 17), (71205, 18), (71492, 18), (71520, 19), (71723, 18), (71877, 20), (71912, 19), (72220, 16), (72451, 18), (72472, 17), (77932, 15), (78093, 11), (78177, 15), (78380, 14), (78597, 12), (78632, 13), (79885, 12), (80193, 14), (80200, 13), (80417, 14), (80452, 16), (80480, 15), (82013, 11), (82153, 11), (82251, 7), (82461, 10), (82755, 8), (82776, 9), (83497, 12), (83525, 12), (83560, 13), (84491, 8), (84673, 10), (84680, 9), (86115, 13), (86220, 9), (86297, 13), (86563, 12), (86724, 10), (86752, 11), (87564, 10), (87809, 12), (87816, 11), (88089, 14), (88131, 14), (88152, 15), (98981, 15), (99114, 11), (99156, 17), (99436, 13), (99597, 9), (99681, 17), (100437, 13), (100521, 15), (100682, 19), (100962, 7), (101004, 9), (101137, 5), (102572, 11), (102677, 13), (102754, 9), (103468, 12), (103685, 14), (103720, 13), (104469, 12), (104770, 10), (104784, 11), (104994, 8), (105092, 10), (105120, 9), (106597, 15), (106793, 13), (106828, 11), (107045, 14), (107332, 12), (107360, 13), (108585, 14), (108613, 16), (108648, 15), (109068, 10), (109313, 12), (109320, 11), (114794, 9), (114829, 9), (115025, 5), (115242, 10), (115333, 10), (115368, 11), (115725, 8), (116033, 6), (116040, 7), (117265, 6), (117314, 8), (117328, 7), (118868, 15), (118945, 15), (119050, 19), (119316, 16), (119554, 18), (119568, 17), (119841, 16), (119876, 16), (119904, 17), (120842, 18), (120961, 16), (120968, 17), (131755, 15), (131797, 15), (131930, 7), (132189, 13), (132329, 13), (132427, 5), (132714, 11), (132749, 11), (132945, 3), (133715, 17), (133785, 17), (133834, 19), (135325, 15), (135402, 13), (135507, 15), (136221, 14), (136515, 16), (136536, 15), (136746, 12), (136837, 14), (136872, 13), (137747, 16), (137922, 14), (137936, 15), (139371, 17), (139469, 13), (139609, 15), (139819, 16), (139973, 14), (140008, 15), (140813, 12), (141121, 14), (141128, 13), (141849, 16), (141891, 18), (141912, 17), (143445, 15), (143529, 15), (143690, 19), (143893, 16), (144194, 18), (144208, 17), (144425, 14), (144453, 16), (144488, 15), (145930, 18), (146049, 16), (146056, 17), (151642, 5), (151691, 5), (151761, 1), (152090, 6), (152195, 6), (152216, 7), (152587, 4), (152769, 2), (152776, 3), (153105, 2), (153154, 4), (153168, 3), (164508, 13), (164578, 7), (164627, 15), (164963, 13), (165068, 7), (165145, 15), (165460, 13), (165537, 13), (165642, 21), (165978, 7), (166027, 7), (166097, 1), (168099, 11), (168148, 13), (168218, 9), (168995, 12), (169156, 14), (169184, 13), (169492, 12), (169730, 10), (169744, 11), (170010, 8), (170115, 10), (170136, 9), (172124, 13), (172257, 11), (172299, 9), (172572, 12), (172803, 10), (172824, 11), (173601, 12), (173636, 14), (173664, 13), (174091, 8), (174273, 10), (174280, 9), (176226, 5), (176268, 7), (176401, 3), (176674, 6), (176772, 8), (176800, 7), (177164, 6), (177409, 4), (177416, 5), (178193, 2), (178242, 4), (178256, 3), (180307, 17), (180377, 17), (180426, 19), (180755, 16), (180930, 18), (180944, 17), (181273, 16), (181315, 18), (181336, 17), (181770, 20), (181889, 18), (181896, 19)]
theorem chk23 : (chkN 2 6 tab23 && ascN tab23 && cdN 6 tab23 && Nat.beq tab23.length 360 && Nat.beq (tab23.foldl (fun m p => if Nat.ble m p.2 then p.2 else m) 0) 21) = true := by kernel_rfl

def tab32 : List (Nat × Nat) := [(5349, 14), (5419, 12), (5468, 8), (5804, 12), (5909, 16), (5986, 14), (6301, 18), (6378, 14), (6483, 14), (6819, 16), (6868, 8), (6938, 14), (8940, 20), (8989, 12), (9059, 10), (9829, 12), (10025, 14), (10060, 10), (10347, 14), (10445, 14), (10585, 4), (10844, 10), (10977, 14), (11019, 16), (12965, 8), (13098, 10), (13140, 20), (13420, 10), (13581, 14), (13665, 18), (14421, 14), (14505, 4), (14666, 18), (14946, 12), (14988, 6), (15121, 12), (17067, 10), (17109, 8), (17242, 6), (17501, 16), (17641, 14), (17739, 12), (18026, 16), (18061, 14), (18257, 12), (19027, 20), (19097, 16), (19146, 14), (21148, 20), (21218, 6), (21267, 14), (21603, 16), (21708, 6), (21785, 16), (22100, 14), (22177, 16), (22282, 18), (22618, 14), (22667, 14), (22737, 0), (34021, 13), (34091, 13), (34140, 9), (34476, 13), (34581, 15), (34658, 13), (34973, 17), (35050, 13), (35155, 13), (35491, 17), (35540, 9), (35610, 15), (41189, 12), (41259, 14), (41308, 10), (42533, 13), (42757, 14), (42792, 15), (43051, 13), (43331, 12), (43352, 11), (43548, 11), (43716, 10), (43744, 11), (45228, 14), (45333, 16), (45410, 12), (46124, 11), (46404, 10), (46432, 11), (47125, 15), (47237, 16), (47272, 15), (47650, 13), (47874, 14), (47888, 15), (49309, 18), (49386, 14), (49491, 14), (50205, 15), (50373, 14), (50408, 15), (50730, 15), (51010, 14), (51024, 15), (51731, 19), (51843, 18), (51864, 19), (53411, 16), (53460, 10), (53530, 16), (54307, 15), (54531, 14), (54552, 15), (54804, 15), (54916, 14), (54944, 15), (55322, 13), (55490, 12), (55504, 11), (66284, 19), (66333, 11), (66403, 9), (67173, 11), (67369, 13), (67404, 9), (67691, 13), (67789, 15), (67929, 5), (68188, 9), (68321, 15), (68363, 15), (69868, 18), (69917, 12), (69987, 10), (71212, 11), (71492, 10), (71520, 11), (71709, 17), (71877, 16), (71912, 17), (72227, 15), (72451, 14), (72472, 13), (77925, 10), (78121, 12), (78156, 8), (78373, 9), (78597, 10), (78632, 11), (79913, 5), (80193, 6), (80200, 7), (80396, 7), (80452, 8), (80480, 9), (82027, 14), (82125, 16), (82265, 6), (82475, 9), (82755, 8), (82776, 7), (83469, 13), (83525, 12), (83560, 13), (84505, 17), (84673, 16), (84680, 17), (86108, 10), (86241, 16), (86283, 16), (86556, 19), (86724, 18), (86752, 17), (87585, 15), (87809, 14), (87816, 15), (88075, 13), (88131, 12), (88152, 11), (98981, 7), (99114, 9), (99156, 19), (99436, 9), (99597, 13), (99681, 17), (100437, 13), (100521, 3), (100682, 17), (100962, 11), (101004, 5), (101137, 11), (102565, 8), (102698, 10), (102740, 18), (103461, 13), (103685, 12), (103720, 11), (104490, 15), (104770, 16), (104784, 17), (104980, 7), (105092, 6), (105120, 7), (106604, 10), (106765, 14), (106849, 18), (107052, 21), (107332, 20), (107360, 19), (108557, 13), (108613, 12), (108648, 11), (109089, 13), (109313, 12), (109320, 13), (114773, 14), (114857, 4), (115018, 18), (115221, 7), (115333, 6), (115368, 5), (115753, 15), (116033, 16), (116040, 17), (117258, 13), (117314, 12), (117328, 13), (118882, 10), (118924, 4), (119057, 10), (119330, 7), (119554, 8), (119568, 9), (119820, 7), (119876, 8), (119904, 9), (120849, 1), (120961, 2), (120968, 3), (131755, 11), (131797, 9), (131930, 7), (132189, 17), (132329, 13), (132427, 11), (132714, 17), (132749, 15), (132945, 11), (133715, 19), (133785, 15), (133834, 13), (135339, 12), (135381, 10), (135514, 8), (136235, 11), (136515, 10), (136536, 9), (136725, 15), (136837, 14), (136872, 13), (137754, 13), (137922, 12), (137936, 11), (139357, 18), (139497, 12), (139595, 12), (139805, 11), (139973, 10), (140008, 11), (140841, 13), (141121, 12), (141128, 13), (141835, 17), (141891, 18), (141912, 19), (143466, 18), (143501, 16), (143697, 10), (143914, 9), (144194, 8), (144208, 9), (144397, 15), (144453, 16), (144488, 17), (145937, 13), (146049, 14), (146056, 15), (151635, 20), (151705, 14), (151754, 14), (152083, 13), (152195, 12), (152216, 13), (152601, 15), (152769, 14), (152776, 15), (153098, 19), (153154, 18), (153168, 19), (164508, 19), (164578, 5), (164627, 13), (164963, 15), (165068, 5), (165145, 15), (165460, 13), (165537, 15), (165642, 17), (165978, 15), (166027, 15), (166097, 1), (168092, 18), (168162, 6), (168211, 14), (168988, 7), (169156, 6), (169184, 7), (169506, 15), (169730, 16), (169744, 15), (170003, 15), (170115, 16), (170136, 17), (172131, 14), (172236, 4), (172313, 14), (172579, 11), (172803, 12), (172824, 13), (173580, 11), (173636, 12), (173664, 13), (174105, 3), (174273, 2), (174280, 3), (176212, 14), (176289, 16), (176394, 18), (176660, 19), (176772, 18), (176800, 17), (177185, 17), (177409, 16), (177416, 17), (178186, 17), (178242, 16), (178256, 15), (180314, 16), (180363, 16), (180433, 2), (180762, 5), (180930, 4), (180944, 3), (181259, 13), (181315, 14), (181336, 15), (181777, 13), (181889, 14), (181896, 15)]
theorem chk32 : (chkN 3 6 tab32 && ascN tab32 && cdN 6 tab32 && Nat.beq tab32.length 360 && Nat.beq (tab32.foldl (fun m p => if Nat.ble m p.2 then p.2 else m) 0) 21) = true := by kernel_rfl

def tab61 : List (Nat × Nat) := [(22737, 0), (166097, 1), (180433, 2), (181777, 3), (181889, 4), (181896, 5)]
theorem chk61 : (chkN 6 6 tab61 && ascN tab61 && cdN 6 tab61 && Nat.beq tab61.length 6 && Nat.beq (tab61.foldl (fun m p => if Nat.ble m p.2 then p.2 else m) 0) 5) = true := by kernel_rfl

theorem mx_tab (F : List (Nat × Nat)) : mxL (F.map fun p => (p.2 : Int)) = ((F.foldl (fun m p => if Nat.ble m p.2 then p.2 else m) 0 : Nat) : Int) := by
  have key : ∀ (F : List (Nat × Nat)) (m : Nat), (F.map fun p => (p.2 : Int)).foldl max (m : Int) = ((F.foldl (fun m p => if Nat.ble m p.2 then p.2 else m) m : Nat) : Int) := fun F => by
    induction F with
    | nil => intro m; rfl
    | cons p F ih =>
      intro m
      simp only [List.map_cons, List.foldl_cons]
      rw [← ih]
      congr 1
      by_cases h : Nat.ble m p.2 = true
      · rw [if_pos h]; have := Nat.le_of_ble_eq_true h; omega
      · rw [if_neg h]
        have : ¬ m ≤ p.2 := fun h2 => h (Nat.ble_eq_true_of_le h2)
        omega
  exact key F 0

theorem tab_use {w n m M : Nat} {tall : Int} {F : List (Nat × Nat)} (hs : SidesOk 6 w tall) (hn : (w : Int) * tall = n) (h : (chkN w n F && ascN F && cdN n F && Nat.beq F.length m && Nat.beq (F.foldl (fun m p => if Nat.ble m p.2 then p.2 else m) 0) M) = true) :
    manyI w tall = m ∧ worstI w tall = M := by
  simp only [Bool.and_eq_true] at h
  obtain ⟨⟨⟨⟨h1, h2⟩, h3⟩, h4⟩, h5⟩ := h
  have h6 := hs.2.2
  obtain ⟨a1, a2⟩ := tab_all (by omega) (by omega) (all_srch hs hn) h1 h2 h3
  rw [manyI_in hs hn, worstI_in hs hn, a1, a2, mx_tab, Nat.eq_of_beq_eq_true h4, Nat.eq_of_beq_eq_true h5]
  exact ⟨rfl, rfl⟩

/-- The sides that a board of two to six places can have. -/
theorem sides_cases {wide tall : Int} (h : SidesOk 6 wide tall) : (wide = 1 ∧ tall = 2) ∨ (wide = 2 ∧ tall = 1) ∨ (wide = 1 ∧ tall = 3) ∨ (wide = 3 ∧ tall = 1) ∨ (wide = 1 ∧ tall = 4) ∨ (wide = 2 ∧ tall = 2) ∨ (wide = 4 ∧ tall = 1) ∨ (wide = 1 ∧ tall = 5) ∨ (wide = 5 ∧ tall = 1) ∨ (wide = 1 ∧ tall = 6) ∨ (wide = 2 ∧ tall = 3) ∨ (wide = 3 ∧ tall = 2) ∨ (wide = 6 ∧ tall = 1) := by
  obtain ⟨⟨h1, h2⟩, ⟨h3, h4⟩, h5, h6⟩ := h
  have hw : wide = 1 ∨ wide = 2 ∨ wide = 3 ∨ wide = 4 ∨ wide = 5 ∨ wide = 6 := by omega
  rcases hw with rfl | rfl | rfl | rfl | rfl | rfl <;> omega

/-- So many boards, so far: for each pair of sides. -/
theorem many_worst {wide tall : Int} (h : SidesOk 6 wide tall) : (wide = 1 ∧ tall = 2 ∧ manyI wide tall = 2 ∧ worstI wide tall = 1) ∨ (wide = 2 ∧ tall = 1 ∧ manyI wide tall = 2 ∧ worstI wide tall = 1) ∨ (wide = 1 ∧ tall = 3 ∧ manyI wide tall = 3 ∧ worstI wide tall = 2) ∨ (wide = 3 ∧ tall = 1 ∧ manyI wide tall = 3 ∧ worstI wide tall = 2) ∨ (wide = 1 ∧ tall = 4 ∧ manyI wide tall = 4 ∧ worstI wide tall = 3) ∨ (wide = 2 ∧ tall = 2 ∧ manyI wide tall = 12 ∧ worstI wide tall = 6) ∨ (wide = 4 ∧ tall = 1 ∧ manyI wide tall = 4 ∧ worstI wide tall = 3) ∨ (wide = 1 ∧ tall = 5 ∧ manyI wide tall = 5 ∧ worstI wide tall = 4) ∨ (wide = 5 ∧ tall = 1 ∧ manyI wide tall = 5 ∧ worstI wide tall = 4) ∨ (wide = 1 ∧ tall = 6 ∧ manyI wide tall = 6 ∧ worstI wide tall = 5) ∨ (wide = 2 ∧ tall = 3 ∧ manyI wide tall = 360 ∧ worstI wide tall = 21) ∨ (wide = 3 ∧ tall = 2 ∧ manyI wide tall = 360 ∧ worstI wide tall = 21) ∨ (wide = 6 ∧ tall = 1 ∧ manyI wide tall = 6 ∧ worstI wide tall = 5) := by
  have hc := sides_cases h
  rcases hc with ⟨rfl, rfl⟩ | ⟨rfl, rfl⟩ | ⟨rfl, rfl⟩ | ⟨rfl, rfl⟩ | ⟨rfl, rfl⟩ | ⟨rfl, rfl⟩ | ⟨rfl, rfl⟩ | ⟨rfl, rfl⟩ | ⟨rfl, rfl⟩ | ⟨rfl, rfl⟩ | ⟨rfl, rfl⟩ | ⟨rfl, rfl⟩ | ⟨rfl, rfl⟩
  · have := tab_use (w := 1) (n := 2) h (by decide) chk12
    exact .inl ⟨rfl, rfl, this.1, this.2⟩
  · have := tab_use (w := 2) (n := 2) h (by decide) chk21
    exact .inr (.inl ⟨rfl, rfl, this.1, this.2⟩)
  · have := tab_use (w := 1) (n := 3) h (by decide) chk13
    exact .inr (.inr (.inl ⟨rfl, rfl, this.1, this.2⟩))
  · have := tab_use (w := 3) (n := 3) h (by decide) chk31
    exact .inr (.inr (.inr (.inl ⟨rfl, rfl, this.1, this.2⟩)))
  · have := tab_use (w := 1) (n := 4) h (by decide) chk14
    exact .inr (.inr (.inr (.inr (.inl ⟨rfl, rfl, this.1, this.2⟩))))
  · have := tab_use (w := 2) (n := 4) h (by decide) chk22
    exact .inr (.inr (.inr (.inr (.inr (.inl ⟨rfl, rfl, this.1, this.2⟩)))))
  · have := tab_use (w := 4) (n := 4) h (by decide) chk41
    exact .inr (.inr (.inr (.inr (.inr (.inr (.inl ⟨rfl, rfl, this.1, this.2⟩))))))
  · have := tab_use (w := 1) (n := 5) h (by decide) chk15
    exact .inr (.inr (.inr (.inr (.inr (.inr (.inr (.inl ⟨rfl, rfl, this.1, this.2⟩)))))))
  · have := tab_use (w := 5) (n := 5) h (by decide) chk51
    exact .inr (.inr (.inr (.inr (.inr (.inr (.inr (.inr (.inl ⟨rfl, rfl, this.1, this.2⟩))))))))
  · have := tab_use (w := 1) (n := 6) h (by decide) chk16
    exact .inr (.inr (.inr (.inr (.inr (.inr (.inr (.inr (.inr (.inl ⟨rfl, rfl, this.1, this.2⟩)))))))))
  · have := tab_use (w := 2) (n := 6) h (by decide) chk23
    exact .inr (.inr (.inr (.inr (.inr (.inr (.inr (.inr (.inr (.inr (.inl ⟨rfl, rfl, this.1, this.2⟩))))))))))
  · have := tab_use (w := 3) (n := 6) h (by decide) chk32
    exact .inr (.inr (.inr (.inr (.inr (.inr (.inr (.inr (.inr (.inr (.inr (.inl ⟨rfl, rfl, this.1, this.2⟩)))))))))))
  · have := tab_use (w := 6) (n := 6) h (by decide) chk61
    exact .inr (.inr (.inr (.inr (.inr (.inr (.inr (.inr (.inr (.inr (.inr (.inr (⟨rfl, rfl, this.1, this.2⟩))))))))))))

end Go.Proofs.Ytfpckcmkikckgaa
