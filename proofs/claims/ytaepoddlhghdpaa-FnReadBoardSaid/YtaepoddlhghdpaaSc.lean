/- A text cut at its slashes; one digit read: the plain law and the walks of l1Cut and l1Digits. -/
import Derived.Test.YtaepoddlhghdpaaSp
import Derived.Test.YtaepoddlhghdpaaInts
import Derived.Maps.AppendAt
namespace Go.Proofs.Ytaepoddlhghdpaa
open Go Go.RowKit

/-- What stands between the slashes of the first k bytes; and from where on the next piece stands. -/
def cutF (s : ByteArray) : Nat → Nat
  | 0 => 0
  | k + 1 => if (bts s).getD k 0 = 47 then k + 1 else cutF s k
def cutO (s : ByteArray) : Nat → List ByteArray
  | 0 => []
  | k + 1 => if (bts s).getD k 0 = 47 then cutO s k ++ [s.extract (cutF s k) k] else cutO s k
def cutR (s : ByteArray) : List ByteArray := cutO s s.size ++ [s.extract (cutF s s.size) s.size]

theorem cutF_le (s : ByteArray) : ∀ k, cutF s k ≤ k
  | 0 => Nat.le_refl _
  | k + 1 => by have := cutF_le s k; rw [cutF]; split <;> omega
theorem cutO_len (s : ByteArray) : ∀ k, (cutO s k).length ≤ k
  | 0 => Nat.le_refl _
  | k + 1 => by have := cutO_len s k; rw [cutO]; split <;> simp <;> omega
theorem bts_extract (s : ByteArray) (a b : Nat) : bts (s.extract a b) = ((bts s).take b).drop a := by
  unfold bts
  rw [ByteArray.data_extract, Array.toList_extract, List.extract_eq_take_drop, List.drop_take]
theorem cut_inv (s : ByteArray) : ∀ k, k ≤ s.size → (cutO s k).flatMap bts ++ ((bts s).take k).drop (cutF s k) = nsl ((bts s).take k) ∧ ∀ c ∈ ((bts s).take k).drop (cutF s k), (c != 47) = true
  | 0, _ => ⟨rfl, fun c hc => by simp at hc⟩
  | k + 1, hk => by
    obtain ⟨h1, h2⟩ := cut_inv s k (by omega)
    have hkl : k < (bts s).length := by rw [bts_length]; omega
    have ht : (bts s).take (k + 1) = (bts s).take k ++ [(bts s)[k]] := List.take_succ_eq_append_getElem hkl
    have hg : (bts s).getD k 0 = (bts s)[k] := by rw [List.getD_eq_getElem?_getD, List.getElem?_eq_getElem hkl]; rfl
    have hfl := cutF_le s k
    have hlen : ((bts s).take k).length = k := by rw [List.length_take]; omega
    have hnap : ∀ a b, nsl (a ++ b) = nsl a ++ nsl b := fun a b => List.filter_append ..
    by_cases h : (bts s).getD k 0 = 47
    · rw [cutO, if_pos h, cutF, if_pos h, List.flatMap_append, List.drop_of_length_le (by rw [List.length_take]; omega), List.append_nil]
      refine ⟨?_, fun c hc => by simp at hc⟩
      rw [ht, hnap, ← h1, ← hg, h]
      have : nsl [(47 : UInt8)] = [] := rfl
      rw [this, List.append_nil]
      simp only [List.flatMap_cons, List.flatMap_nil, List.append_nil]
      rw [bts_extract s]
    · rw [cutO, if_neg h, cutF, if_neg h, ht, List.drop_append_of_le_length (by omega), ← List.append_assoc, h1, hnap]
      have hne : ((bts s)[k] != 47) = true := by rw [bne_iff_ne, ← hg]; exact h
      refine ⟨?_, fun c hc => ?_⟩
      · congr 1
        unfold nsl
        rw [List.filter_cons_of_pos (by exact hne)]; rfl
      · rcases List.mem_append.1 hc with hc | hc
        · exact h2 c hc
        · rw [List.mem_singleton.1 hc]; exact hne
theorem cutR_flat (s : ByteArray) : (cutR s).flatMap bts = nsl (bts s) := by
  obtain ⟨h1, _⟩ := cut_inv s s.size (Nat.le_refl _)
  have hl : (bts s).length ≤ s.size := by rw [bts_length]; exact Nat.le_refl _
  unfold cutR
  rw [List.flatMap_append]
  simp only [List.flatMap_cons, List.flatMap_nil, List.append_nil]
  rw [bts_extract s, h1, List.take_of_length_le hl]
theorem fstW_at {l : List UInt8} {k : Nat} (hk : k ≤ l.length) (h : ∀ j, j < k → l.getD j 0 ≠ 47) (h2 : k < l.length → l.getD k 0 = 47) : fstW l = k := by
  obtain ⟨h3, h4, h5, _⟩ := fstW_spec l
  rcases Nat.lt_trichotomy (fstW l) k with e | e | e
  · exact absurd (h5 (by omega)) (h _ e)
  · exact e
  · exact absurd (h2 (by omega)) (h4 k e)
theorem cut_head (s : ByteArray) : ∀ k, k ≤ s.size → (cutO s k = [] ∧ cutF s k = 0 ∧ ∀ j, j < k → (bts s).getD j 0 ≠ 47) ∨ ∃ r rest, cutO s k = r :: rest ∧ r.size = fstW (bts s)
  | 0, _ => .inl ⟨rfl, rfl, fun j hj => absurd hj (by omega)⟩
  | k + 1, hk => by
    rcases cut_head s k (by omega) with ⟨h1, h2, h3⟩ | ⟨r, rest, h1, h2⟩
    · by_cases h : (bts s).getD k 0 = 47
      · refine .inr ⟨s.extract 0 k, [], by rw [cutO, if_pos h, h1, h2]; rfl, ?_⟩
        rw [fstW_at (by rw [bts_length]; omega) h3 (fun _ => h), ByteArray.size_extract]; omega
      · refine .inl ⟨by rw [cutO, if_neg h, h1], by rw [cutF, if_neg h, h2], fun j hj => ?_⟩
        by_cases e : j = k
        · subst e; exact h
        · exact h3 j (by omega)
    · refine .inr ?_
      rw [cutO]
      split
      · exact ⟨r, rest ++ [_], by rw [h1]; rfl, h2⟩
      · exact ⟨r, rest, h1, h2⟩
theorem cutR_head (s : ByteArray) : ∃ r rest, cutR s = r :: rest ∧ r.size = fstW (bts s) := by
  unfold cutR
  rcases cut_head s s.size (Nat.le_refl _) with ⟨h1, h2, h3⟩ | ⟨r, rest, h1, h2⟩
  · refine ⟨_, [], by rw [h1]; rfl, ?_⟩
    rw [h2, fstW_at (k := s.size) (by rw [bts_length]; exact Nat.le_refl _) h3 (fun h => by rw [bts_length] at h; omega), ByteArray.size_extract]; omega
  · exact ⟨r, rest ++ [_], by rw [h1]; rfl, h2⟩
theorem cutR_len (s : ByteArray) : (cutR s).length ≤ s.size + 1 := by unfold cutR; have := cutO_len s s.size; simp; omega
theorem cutO_size (s : ByteArray) : ∀ k, ∀ r ∈ cutO s k, r.size ≤ s.size
  | 0, r, h => by simp [cutO] at h
  | k + 1, r, h => by
    rw [cutO] at h
    split at h
    · rcases List.mem_append.1 h with h | h
      · exact cutO_size s k r h
      · rw [List.mem_singleton.1 h, ByteArray.size_extract]; omega
    · exact cutO_size s k r h
theorem cutR_size (s : ByteArray) : ∀ r ∈ cutR s, r.size ≤ s.size := fun r h => by
  rcases List.mem_append.1 h with h | h
  · exact cutO_size s _ r h
  · rw [List.mem_singleton.1 h, ByteArray.size_extract]; omega

set_option maxRecDepth 100000 in
theorem l1Digits_one (s : ByteArray) (w : World) (h1 : s.size = 1) :
    Calls Try.prog 29 #[.string s] w fun e w' => e = .returned (.int .i64 (dgI (s[0]'(by omega)))) ∧ w = w' := by
  have HR : Hid (inR 1 4 1 = true) := by unfold Hid; decide
  have h0 : 0 < s.size := by omega
  obtain ⟨c, hc⟩ : ∃ c : UInt8, s[0] = c := ⟨_, rfl⟩
  have hcl := c.toNat_lt
  rw [hc]
  by_cases hd : 48 ≤ c.toNat ∧ c.toNat ≤ 57
  · have hv : Hid (dgI c = (c.toNat : Int) - 48) := by unfold Hid dgI; rw [if_pos hd]
    have hd1 : decide ((c.toNat : Int) < 48) = false := decide_eq_false (by omega)
    have hd2 : decide (57 < (c.toNat : Int)) = false := decide_eq_false (by omega)
    have hx0 : 0 ≤ (c.toNat : Int) - 48 ∧ (c.toNat : Int) - 48 ≤ 9 := by omega
    go_enter Try.func29, Try.ntmps29
    go_wp2_with (go_at_call 39; refine (l1In_any _ _ _ _).mono ?_; rintro e w' ⟨rfl, rfl⟩; rw [HR.out])
    go_loop [3, 4] (fun v i => (i = .int .i64 0 ∧ v = .int .i64 0) ∨ (i = .int .i64 1 ∧ v = .int .i64 ((c.toNat : Int) - 48))) (fun _ i => 1 - (intOf i).toNat)
    case atStart => exact .inl ⟨rfl, rfl⟩
    case round =>
      rcases hrel with ⟨rfl, rfl⟩ | ⟨rfl, rfl⟩
      · go_wp2
        go_round
        case rel => exact .inr ⟨rfl, by first | rfl | go_num⟩
        case measure => simp [intOf]
      · go_wp2
        go_ret
        exact ⟨by rw [hv.out]; rfl, rfl⟩
  · have hv : Hid (dgI c = -1) := by unfold Hid dgI; rw [if_neg hd]
    by_cases hlo : c.toNat < 48
    · have hd1 : decide ((c.toNat : Int) < 48) = true := decide_eq_true (by omega)
      clear hd
      go_enter Try.func29, Try.ntmps29
      go_wp2_with (go_at_call 39; refine (l1In_any _ _ _ _).mono ?_; rintro e w' ⟨rfl, rfl⟩; rw [HR.out])
      go_loop [3, 4] (fun v i => i = .int .i64 0 ∧ v = .int .i64 0) (fun _ _ => 0)
      case atStart => exact ⟨rfl, rfl⟩
      case round =>
        obtain ⟨rfl, rfl⟩ := hrel
        go_wp2
        go_ret
        exact ⟨by rw [hv.out]; rfl, rfl⟩
    · have hd1 : decide ((c.toNat : Int) < 48) = false := decide_eq_false (by omega)
      have hd2 : decide (57 < (c.toNat : Int)) = true := decide_eq_true (by omega)
      clear hd hlo
      go_enter Try.func29, Try.ntmps29
      go_wp2_with (go_at_call 39; refine (l1In_any _ _ _ _).mono ?_; rintro e w' ⟨rfl, rfl⟩; rw [HR.out])
      go_loop [3, 4] (fun v i => i = .int .i64 0 ∧ v = .int .i64 0) (fun _ _ => 0)
      case atStart => exact ⟨rfl, rfl⟩
      case round =>
        obtain ⟨rfl, rfl⟩ := hrel
        go_wp2
        go_ret
        exact ⟨by rw [hv.out]; rfl, rfl⟩

theorem Try.infoStr : (Try.prog.info? 9).map (fun i => (i.zero, i.size, i.bytes)) = some (some (.string ⟨#[]⟩), 1, 16) := by kernel_rfl

/-- A list of texts that a call made. -/
def OwnT (w : World) (B : Nat) (v : Value) (rows : List ByteArray) : Prop := w.ownsRow B 9 1 v rows.length (rows.map Value.string)
theorem OwnT.app {w' : World} {B : Nat} {v : Value} {rows : List ByteArray} {r : ByteArray} (h : w'.ownsRow B 9 1 v (rows.length + 1) (rows.map Value.string ++ [.string r])) : OwnT w' B v (rows ++ [r]) := by
  unfold OwnT; rw [List.length_append, List.map_append]; exact h
theorem OwnT.shape {w : World} {B : Nat} {v : Value} {rows : List ByteArray} {n : Nat} (h : OwnT w B v rows) (hn : rows.length = n) (h0 : 0 < n) : ∃ g c, v = .slice (some ⟨g, 0, none⟩) n c ∧ B ≤ g ∧ g < w.heap.size ∧ ∀ j (hj : j < rows.length), w.cell? ⟨g, j, none⟩ = some (.string rows[j]) := by
  subst hn
  rcases h.2 with ⟨_, h1⟩ | ⟨g, cap, cur, rfl, hb, hg, _⟩
  · omega
  · refine ⟨g, cap, rfl, hb, (Array.getElem?_eq_some_iff.1 hg).1, fun j hj => ?_⟩
    rw [World.ownsRow.cellAt h j (by omega)]
    simp [hj]

set_option maxRecDepth 100000 in
set_option maxHeartbeats 1000000 in
theorem l1Cut_any (s : ByteArray) (w : World) (hs : s.size ≤ 10000000) :
    Calls Try.prog 28 #[.string s, .int .u8 47] w fun e w' => ∃ v, e = .returned v ∧ OwnT w' w.heap.size v (cutR s) ∧ Below w.heap.size w w' := by
  obtain ⟨i0, hi, hz0, hz1, hz2⟩ := info_parts Try.infoStr
  have o0 : OwnT (w.alloc (.cells #[] 9)) w.heap.size (.slice (some ⟨w.heap.size, 0, none⟩) 0 0) [] := World.ownsRow_lit w #[] 0 (Nat.le_refl _) (Nat.zero_le _) rfl
  have B0 := (Below.refl w.heap.size w).alloc (Nat.le_refl _) (.cells #[] 9)
  go_enter Try.func28, Try.ntmps28
  go_wp2
  go_loopw [5, 6, 7] (fun v f i wr => ∃ k : Nat, k ≤ s.size ∧ i = .int .i64 k ∧ f = .int .i64 (cutF s k : Nat) ∧ OwnT wr w.heap.size v (cutO s k) ∧ Below w.heap.size w wr) (fun _ _ i _ => s.size - (intOf i).toNat)
  case atStart => exact ⟨0, Nat.zero_le _, rfl, rfl, o0, B0⟩
  case round =>
    clear o0 B0
    obtain ⟨k, hk, rfl, rfl, ho, hB⟩ := hrel
    have hfl := cutF_le s k
    have hol := cutO_len s k
    have hsz := hB.size
    by_cases hlt : k < s.size
    · have hg : (bts s).getD k 0 = s[k] := by
        have hkl : k < (bts s).length := by rw [bts_length]; exact hlt
        rw [List.getD_eq_getElem?_getD, List.getElem?_eq_getElem hkl]; rfl
      by_cases h47 : s[k] = 47
      · have hc : ((s[k].toNat : Int) == 47) = true := by rw [h47]; rfl
        have hO : Hid (cutO s (k + 1) = cutO s k ++ [s.extract (cutF s k) k]) := by unfold Hid; rw [cutO, if_pos (hg.trans h47)]
        have hF : Hid (cutF s (k + 1) = k + 1) := by unfold Hid; rw [cutF, if_pos (hg.trans h47)]
        clear hg h47
        go_wp2_with (at_builtin; refine wpList_append_own _ rfl _ _ 52 rfl w.heap.size 9 i0 (.string ⟨#[]⟩) 1 16 Try.underlying52 hi hz0 hz1 hz2 rfl (by decide) _ _ _ rfl (World.ownsRow.alloc ho _) ⟨wr.heap.size, 0, none⟩ 1 1 [.string (s.extract (cutF s k) k)] rfl rfl ?c1 ?c2 ?c3 ?c4 ?c5 ?_)
        case c1 => exact cell1 _ _ _
        case c2 => intro u hu; simp at hu; subst hu; rfl
        case c3 => unfold maxLen; omega
        case c4 => omega
        case c5 => simp; omega
        intro v' w2 hown' hgrow _
        have ho2 := OwnT.app hown'
        rw [← hO.out] at ho2
        have hB2 := (hB.alloc hB.size (.cells #[.string (s.extract (cutF s k) k)] 9)).grown hgrow (by simp; omega) (fun q e => (World.ownsRow.lt ho q e).1)
        clear hown' hgrow ho hB
        go_wp2
        go_roundw
        case rel => exact ⟨k + 1, by omega, by go_num, by rw [hF.out]; go_num, ho2, hB2⟩
        case measure => simp [intOf]; omega
      · have hc : ((s[k].toNat : Int) == 47) = false := by
          rw [beq_eq_false_iff_ne]; intro e
          exact h47 (UInt8.toNat_inj.1 (by have : (47 : UInt8).toNat = 47 := rfl; omega))
        have hO : Hid (cutO s (k + 1) = cutO s k) := by unfold Hid; rw [cutO, if_neg (by rw [hg]; exact h47)]
        have hF : Hid (cutF s (k + 1) = cutF s k) := by unfold Hid; rw [cutF, if_neg (by rw [hg]; exact h47)]
        rw [← hO.out] at ho
        clear hg h47
        go_wp2
        go_roundw
        case rel => exact ⟨k + 1, by omega, by go_num, by rw [hF.out], ho, hB⟩
        case measure => simp [intOf]; omega
    · obtain rfl : k = s.size := by omega
      have hd9 : decide (s.size < s.size) = false := decide_eq_false (by omega)
      go_wp2_with (at_builtin; refine wpList_append_own _ rfl _ _ 52 rfl w.heap.size 9 i0 (.string ⟨#[]⟩) 1 16 Try.underlying52 hi hz0 hz1 hz2 rfl (by decide) _ _ _ rfl (World.ownsRow.alloc ho _) ⟨wr.heap.size, 0, none⟩ 1 1 [.string (s.extract (cutF s s.size) s.size)] rfl rfl ?c1 ?c2 ?c3 ?c4 ?c5 ?_)
      case c1 => exact cell1 _ _ _
      case c2 => intro u hu; simp at hu; subst hu; rfl
      case c3 => unfold maxLen; omega
      case c4 => omega
      case c5 => simp; omega
      intro v' w2 hown' hgrow _
      have ho2 : OwnT w2 w.heap.size v' (cutR s) := OwnT.app hown'
      have hB2 := (hB.alloc hB.size (.cells #[.string (s.extract (cutF s s.size) s.size)] 9)).grown hgrow (by simp; omega) (fun q e => (World.ownsRow.lt ho q e).1)
      clear hown' hgrow ho hB
      go_wp2
      go_ret
      exact ⟨_, rfl, ho2, hB2⟩

end Go.Proofs.Ytaepoddlhghdpaa
