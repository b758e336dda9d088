/- Plain law: what a text is read as. -/
import Derived.Test.YtaepoddlhghdpaaSt
namespace Go.Proofs.Ytaepoddlhghdpaa
open Go Go.RowKit

/-- A byte as a digit. -/
def dgI (c : UInt8) : Int := if 48 ≤ c.toNat ∧ c.toNat ≤ 57 then (c.toNat : Int) - 48 else -1
def nsl (l : List UInt8) : List UInt8 := l.filter fun c => c != 47
def fstW (l : List UInt8) : Nat := (l.takeWhile fun c => c != 47).length
def bts (s : ByteArray) : List UInt8 := s.data.toList
theorem bts_length (s : ByteArray) : (bts s).length = s.size := Array.length_toList
theorem bts_app (a b : ByteArray) : bts (a ++ b) = bts a ++ bts b := by unfold bts; rw [ByteArray.data_append, Array.toList_append]
theorem bts_inj {a b : ByteArray} (h : bts a = bts b) : a = b := by
  cases a; cases b; unfold bts at h; simp at h; rw [h]

theorem digB_ne {n : Int} (h0 : 0 ≤ n) (h9 : n ≤ 9) : (digB n != 47) = true := by
  have h := digB_toNat h0 h9
  rw [bne_iff_ne]
  intro e
  rw [e] at h
  have : (47 : UInt8).toNat = 47 := rfl
  omega
theorem dgI_digB {n : Int} (h0 : 0 ≤ n) (h9 : n ≤ 9) : dgI (digB n) = n := by
  have h := digB_toNat h0 h9
  unfold dgI
  rw [if_pos (by omega)]; omega

/-- The digits of a board's text. -/
theorem nsl_txt {wide : Int} {xs : List Int} (h : ∀ x ∈ xs, 0 ≤ x ∧ x ≤ 9) : ∀ k, k ≤ xs.length → nsl (bts (txtT wide xs k)) = (xs.take k).map digB
  | 0, _ => rfl
  | k + 1, hk => by
    have ih := nsl_txt (wide := wide) h k (by omega)
    have hx := h _ (nth_mem (xs := xs) (j := k) (by omega))
    have hd : nsl (bts (digT (nth xs k))) = [digB (nth xs k)] := by
      show nsl [digB (nth xs k)] = _
      unfold nsl
      rw [List.filter_cons_of_pos (by exact digB_ne hx.1 hx.2)]; rfl
    have h47 : nsl (bts ⟨#[47]⟩) = [] := rfl
    have hap : ∀ a b, nsl (a ++ b) = nsl a ++ nsl b := fun a b => List.filter_append ..
    rw [take_succ_nth (by omega), List.map_append]
    cases hs : sepB wide k with
    | true => rw [txtT_sep hs, bts_app, bts_app, hap, hap, ih, h47, hd]; simp
    | false => rw [txtT_not hs, bts_app, hap, ih, hd]; simp

theorem sepB_low {wide : Int} {k : Nat} (h : (k : Int) < wide) : sepB wide k = false := by
  unfold sepB
  by_cases h0 : 0 < k
  · rw [decide_eq_true h0, Int.emod_eq_of_lt (by omega) h]; simp; omega
  · rw [decide_eq_false h0]; rfl
theorem sepB_at {w : Nat} (h : 0 < w) : sepB (w : Int) w = true := by
  unfold sepB; rw [decide_eq_true h, Int.emod_self]; rfl

/-- Up to its width a text is digits; behind it a slash stands next. -/
theorem txt_low {w : Nat} {xs : List Int} : ∀ k, k ≤ w → k ≤ xs.length → bts (txtT w xs k) = (xs.take k).map digB
  | 0, _, _ => rfl
  | k + 1, hk, hl => by
    rw [txtT_not (sepB_low (by omega)), bts_app, txt_low k (by omega) (by omega), take_succ_nth (by omega), List.map_append]; rfl
theorem txt_high {w : Nat} {xs : List Int} (hw : 0 < w) : ∀ d, w + 1 + d ≤ xs.length → ∃ rest, bts (txtT w xs (w + 1 + d)) = (xs.take w).map digB ++ 47 :: rest
  | 0, hl => by
    refine ⟨bts (digT (nth xs w)), ?_⟩
    rw [show w + 1 + 0 = w + 1 from rfl, txtT_sep (sepB_at hw), bts_app, bts_app, txt_low w (Nat.le_refl _) (by omega), List.append_assoc]; rfl
  | d + 1, hl => by
    obtain ⟨rest, ih⟩ := txt_high (xs := xs) hw d (by omega)
    rw [show w + 1 + (d + 1) = (w + 1 + d) + 1 from rfl]
    cases hs : sepB w (w + 1 + d) with
    | true => exact ⟨rest ++ 47 :: bts (digT (nth xs (w + 1 + d))), by rw [txtT_sep hs, bts_app, bts_app, ih]; simp [bts]⟩
    | false => exact ⟨rest ++ bts (digT (nth xs (w + 1 + d))), by rw [txtT_not hs, bts_app, ih]; simp⟩

theorem digs_ne {xs : List Int} (h : ∀ x ∈ xs, 0 ≤ x ∧ x ≤ 9) : ∀ c ∈ xs.map digB, (c != 47) = true := fun c hc => by
  obtain ⟨x, hx, rfl⟩ := List.mem_map.1 hc
  exact digB_ne (h x hx).1 (h x hx).2
theorem fstW_all {l : List UInt8} (h : ∀ c ∈ l, (c != 47) = true) : fstW l = l.length := by
  unfold fstW
  have : l.takeWhile (fun c => c != 47) = l := by
    induction l with
    | nil => rfl
    | cons c l ih =>
      have hc := h c (by simp)
      rw [List.takeWhile_cons, if_pos hc, ih fun d hd => h d (List.mem_cons_of_mem _ hd)]
  rw [this]
theorem fstW_cut {l rest : List UInt8} (h : ∀ c ∈ l, (c != 47) = true) : fstW (l ++ 47 :: rest) = l.length := by
  unfold fstW
  induction l with
  | nil => rfl
  | cons c l ih =>
    have hc := h c (by simp)
    rw [List.cons_append, List.takeWhile_cons, if_pos hc, List.length_cons, List.length_cons, ih fun d hd => h d (List.mem_cons_of_mem _ hd)]

structure TxtOf (w : Int) (xs : List Int) (s : ByteArray) : Prop where
  ok : BoardOk w xs
  txt : boardT w xs = s

theorem TxtOf.small {w : Int} {xs : List Int} {s : ByteArray} (h : TxtOf w xs s) : ∀ x ∈ xs, 0 ≤ x ∧ x ≤ 9 := fun x hx => by
  have h1 := h.ok.2.2.2.2.1 x hx
  have h2 := h.ok.2.1
  omega
theorem TxtOf.bytes {w : Int} {xs : List Int} {s : ByteArray} (h : TxtOf w xs s) : s = txtT w xs xs.length := by
  rw [← h.txt, boardT_in (boardB_iff.2 h.ok)]
theorem TxtOf.tiles {w : Int} {xs : List Int} {s : ByteArray} (h : TxtOf w xs s) : (nsl (bts s)).map dgI = xs := by
  rw [h.bytes, nsl_txt h.small _ (Nat.le_refl _), List.take_length, List.map_map]
  have : ∀ l : List Int, (∀ x ∈ l, 0 ≤ x ∧ x ≤ 9) → l.map (dgI ∘ digB) = l := by
    intro l
    induction l with
    | nil => intro _; rfl
    | cons x l ih =>
      intro hl
      rw [List.map_cons, ih fun y hy => hl y (List.mem_cons_of_mem _ hy)]
      rw [Function.comp, dgI_digB (hl x (by simp)).1 (hl x (by simp)).2]
  exact this xs h.small
theorem TxtOf.wide {w : Int} {xs : List Int} {s : ByteArray} (h : TxtOf w xs s) : (fstW (bts s) : Int) = w := by
  have h1 := h.ok.2.2.1
  have hdv : (xs.length : Int) % w = 0 := h.ok.2.2.2.1
  obtain ⟨q, hq⟩ : ∃ q : Nat, w = q := Int.eq_ofNat_of_zero_le (by omega)
  subst hq
  have hle : q ≤ xs.length := by
    have h2 := h.ok.1
    refine Nat.le_of_not_lt fun hlt => ?_
    rw [Int.emod_eq_of_lt (by omega) (by omega)] at hdv
    omega
  rw [h.bytes]
  by_cases e : q = xs.length
  · subst e
    rw [txt_low _ (Nat.le_refl _) (Nat.le_refl _), fstW_all (fun c hc => digs_ne h.small c (by rw [List.take_length] at hc; exact hc))]
    simp
  · obtain ⟨rest, hr⟩ := txt_high (w := q) (xs := xs) (by omega) (xs.length - (q + 1)) (by omega)
    rw [show q + 1 + (xs.length - (q + 1)) = xs.length by omega] at hr
    rw [hr, fstW_cut (fun c hc => digs_ne h.small c (by
      obtain ⟨x, hx, rfl⟩ := List.mem_map.1 hc
      exact List.mem_map_of_mem (List.mem_of_mem_take hx)))]
    simp; omega
theorem TxtOf.size {w : Int} {xs : List Int} {s : ByteArray} (h : TxtOf w xs s) : s.size ≤ 18 := by
  have h1 := size_txtT w xs xs.length
  have h2 := h.ok.2.1
  rw [h.bytes]; omega
/-- Each byte of a text is a digit or a slash, and the first one is a digit. -/
theorem txt_bytes {wide : Int} {xs : List Int} (h : ∀ x ∈ xs, 0 ≤ x ∧ x ≤ 9) : ∀ k, k ≤ xs.length → ∀ c ∈ bts (txtT wide xs k), 47 ≤ c.toNat ∧ c.toNat ≤ 57
  | 0, _, c, hc => by simp [txtT, bts] at hc
  | k + 1, hk, c, hc => by
    have hx := h _ (nth_mem (xs := xs) (j := k) (by omega))
    have ih := txt_bytes (wide := wide) h k (by omega)
    have hd : ∀ d ∈ bts (digT (nth xs k)), 47 ≤ d.toNat ∧ d.toNat ≤ 57 := fun d hd => by
      have : d = digB (nth xs k) := by simpa [bts, digT] using hd
      have h2 := digB_toNat hx.1 hx.2
      rw [this]; omega
    have h47 : ∀ d ∈ bts ⟨#[47]⟩, 47 ≤ d.toNat ∧ d.toNat ≤ 57 := fun d hd => by
      have : d = 47 := by simpa [bts] using hd
      rw [this]; decide
    cases hs : sepB wide k with
    | true =>
      rw [txtT_sep hs, bts_app, bts_app] at hc
      rcases List.mem_append.1 hc with hc | hc
      · rcases List.mem_append.1 hc with hc | hc
        · exact ih c hc
        · exact h47 c hc
      · exact hd c hc
    | false =>
      rw [txtT_not hs, bts_app] at hc
      rcases List.mem_append.1 hc with hc | hc
      · exact ih c hc
      · exact hd c hc
theorem TxtOf.digs {w : Int} {xs : List Int} {s : ByteArray} (h : TxtOf w xs s) : ∀ c ∈ bts s, 47 ≤ c.toNat ∧ c.toNat ≤ 57 := by
  rw [h.bytes]; exact txt_bytes h.small _ (Nat.le_refl _)
theorem TxtOf.head {w : Int} {xs : List Int} {s : ByteArray} (h : TxtOf w xs s) : 0 < fstW (bts s) := by
  have := h.wide
  have := h.ok.2.2.1
  omega

/-- What a text is read as. -/
def rdW (s : ByteArray) : Int := fstW (bts s)
def rdL (s : ByteArray) : List Int := (nsl (bts s)).map dgI
def rdB (s : ByteArray) : Bool := boardB (rdW s) (rdL s) && decide (boardT (rdW s) (rdL s) = s)
theorem rdB_of {w : Int} {xs : List Int} {s : ByteArray} (h : TxtOf w xs s) : rdB s = true := by
  unfold rdB rdW rdL
  rw [h.wide, h.tiles, boardB_iff.2 h.ok, h.txt]; simp
theorem rdB_to {s : ByteArray} (h : rdB s = true) : TxtOf (rdW s) (rdL s) s := by
  unfold rdB at h
  rw [Bool.and_eq_true, decide_eq_true_eq] at h
  exact ⟨boardB_iff.1 h.1, h.2⟩
theorem rdB_not {s : ByteArray} (h : ∀ w xs, ¬ TxtOf w xs s) : rdB s = false := by
  cases hb : rdB s with
  | false => rfl
  | true => exact absurd (rdB_to hb) (h _ _)

/-- The read board's parts; the zero value where there is none. -/
def rbW (s : ByteArray) : Int := if rdB s = true then rdW s else 0
def rbL (s : ByteArray) : List Int := if rdB s = true then rdL s else []
theorem rbW_in {s : ByteArray} (h : rdB s = true) : rbW s = rdW s := if_pos h
theorem rbL_in {s : ByteArray} (h : rdB s = true) : rbL s = rdL s := if_pos h
theorem rbW_out {s : ByteArray} (h : rdB s = false) : rbW s = 0 := if_neg (by rw [h]; simp)
theorem rbL_out {s : ByteArray} (h : rdB s = false) : rbL s = [] := if_neg (by rw [h]; simp)
theorem length_rdL (s : ByteArray) : (rdL s).length ≤ s.size := by
  unfold rdL nsl
  rw [List.length_map, ← bts_length]
  exact List.length_filter_le _ _
theorem length_rbL (s : ByteArray) : (rbL s).length ≤ s.size := by
  cases h : rdB s with
  | true => rw [rbL_in h]; exact length_rdL s
  | false => rw [rbL_out h]; exact Nat.zero_le _
/-- A text with a slash behind it is no board's text. -/
theorem slash_out {s : ByteArray} (_h : rdB s = true) : rdB (s ++ ⟨#[47]⟩) = false := rdB_not fun w xs ht => by
  have hb := ht.bytes
  have hpos : 0 < xs.length := by have := ht.ok.1; omega
  obtain ⟨k, hk⟩ : ∃ k, xs.length = k + 1 := ⟨xs.length - 1, by omega⟩
  have hx := ht.small _ (nth_mem (xs := xs) (j := k) (by omega))
  rw [hk] at hb
  have hne := digB_ne hx.1 hx.2
  have hl : ∀ p : ByteArray, s ++ ⟨#[47]⟩ = p ++ digT (nth xs k) → False := fun p e => by
    have e2 : bts s ++ [47] = bts p ++ [digB (nth xs k)] := by
      have := congrArg bts e
      rw [bts_app, bts_app] at this
      exact this
    have e3 := (List.append_inj' e2 rfl).2
    have e4 : (47 : UInt8) = digB (nth xs k) := by simpa using e3
    rw [← e4] at hne
    exact absurd hne (by decide)
  cases hs : sepB w k with
  | true => rw [txtT_sep hs] at hb; exact hl _ hb
  | false => rw [txtT_not hs] at hb; exact hl _ hb

/-- The width that the program reads off the first k bytes. -/
def iW (l : List UInt8) : Nat → Nat
  | 0 => 0
  | k + 1 => if l.getD k 0 = 47 ∧ iW l k = 0 then k else iW l k
theorem iW_le (l : List UInt8) : ∀ k, iW l k ≤ k
  | 0 => Nat.le_refl _
  | k + 1 => by have := iW_le l k; rw [iW]; split <;> omega
theorem iW_none {l : List UInt8} : ∀ k, (∀ j, j < k → l.getD j 0 ≠ 47) → iW l k = 0
  | 0, _ => rfl
  | k + 1, h => by rw [iW, if_neg (fun e => h k (by omega) e.1)]; exact iW_none k fun j hj => h j (by omega)
theorem iW_cut {l : List UInt8} {w : Nat} (hw : 0 < w) (h : ∀ j, j < w → l.getD j 0 ≠ 47) (h47 : l.getD w 0 = 47) : ∀ d, iW l (w + 1 + d) = w
  | 0 => by rw [show w + 1 + 0 = w + 1 from rfl, iW, if_pos ⟨h47, iW_none w h⟩]
  | d + 1 => by rw [show w + 1 + (d + 1) = (w + 1 + d) + 1 from rfl, iW, iW_cut hw h h47 d, if_neg (by omega)]
/-- The width that the program reads. -/
def fW (s : ByteArray) : Int := if iW (bts s) s.size = 0 then (rdL s).length else iW (bts s) s.size

theorem fstW_spec : ∀ l : List UInt8, fstW l ≤ l.length ∧ (∀ j, j < fstW l → l.getD j 0 ≠ 47) ∧ (fstW l < l.length → l.getD (fstW l) 0 = 47) ∧ (fstW l = l.length → nsl l = l)
  | [] => ⟨Nat.le_refl _, fun j hj => absurd hj (by simp [fstW]), fun h => absurd h (by simp [fstW]), fun _ => rfl⟩
  | c :: l => by
    obtain ⟨h1, h2, h3, h4⟩ := fstW_spec l
    by_cases hc : (c != 47) = true
    · have e : fstW (c :: l) = fstW l + 1 := by unfold fstW; rw [List.takeWhile_cons, if_pos hc]; rfl
      rw [e]
      refine ⟨by simp; omega, fun j hj => ?_, fun h => ?_, fun h => ?_⟩
      · match j, hj with
        | 0, _ => simpa using bne_iff_ne.1 hc
        | j + 1, hj => simpa using h2 j (by omega)
      · have := h3 (by simp at h; omega)
        simpa using this
      · have := h4 (by simp at h; omega)
        unfold nsl at *
        rw [List.filter_cons_of_pos (by exact hc), this]
    · have e : fstW (c :: l) = 0 := by unfold fstW; rw [List.takeWhile_cons, if_neg hc]; rfl
      rw [e]
      refine ⟨Nat.zero_le _, fun j hj => absurd hj (by omega), fun _ => ?_, fun h => absurd h (by simp)⟩
      have : c = 47 := by simpa using hc
      simpa using this

theorem fW_eq {s : ByteArray} (h : 0 < fstW (bts s)) : fW s = rdW s := by
  obtain ⟨h1, h2, h3, h4⟩ := fstW_spec (bts s)
  rw [bts_length] at h1 h3 h4
  unfold fW rdW
  by_cases e : fstW (bts s) = s.size
  · rw [iW_none _ (fun j hj => h2 j (by omega)), if_pos rfl]
    unfold rdL
    rw [List.length_map, h4 e, bts_length, e]
  · have hi := iW_cut h h2 (h3 (by omega)) (s.size - (fstW (bts s) + 1))
    rw [show fstW (bts s) + 1 + (s.size - (fstW (bts s) + 1)) = s.size by omega] at hi
    rw [hi, if_neg (by omega)]

/-- The program's test. -/
theorem fW_test (s : ByteArray) : (boardB (fW s) (rdL s) && decide (boardT (fW s) (rdL s) = s)) = rdB s := by
  cases hb : (boardB (fW s) (rdL s) && decide (boardT (fW s) (rdL s) = s)) with
  | true =>
    rw [Bool.and_eq_true, decide_eq_true_eq] at hb
    exact (rdB_of ⟨boardB_iff.1 hb.1, hb.2⟩).symm
  | false =>
    cases hr : rdB s with
    | false => rfl
    | true =>
      have ht := rdB_to hr
      rw [fW_eq ht.head, boardB_iff.2 ht.ok, ht.txt] at hb
      simp at hb

/-- The reference's test. -/
theorem spec_test {s : ByteArray} (h : boardT (rdW s) (rdL s) = s) (h0 : s.size ≠ 0) : rdB s = true := by
  cases hb : boardB (rdW s) (rdL s) with
  | true => exact rdB_of ⟨boardB_iff.1 hb, h⟩
  | false =>
    rw [boardT_out hb] at h
    exact absurd (by rw [← h]; rfl) h0
theorem spec_test0 {s : ByteArray} (h0 : s.size = 0) : rdB s = false := rdB_not fun w xs h => by
  have h1 := h.head
  have h2 := (fstW_spec (bts s)).1
  rw [bts_length] at h2
  omega

end Go.Proofs.Ytaepoddlhghdpaa
