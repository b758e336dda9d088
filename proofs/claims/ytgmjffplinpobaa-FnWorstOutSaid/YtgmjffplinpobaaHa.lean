/- ascend; the list of quiet sets ascends; DrawQuietSets. -/
import Derived.Test.YtgmjffplinpobaaLs
import Derived.Test.YtgmjffplinpobaaLk
namespace Go.Proofs.Ytgmjffplinpobaa
open Go Go.RowKit

/-- Strictly ascending. -/
def Asc (xs : List Int) : Prop := xs.Pairwise (· < ·)

theorem asc_nth {xs : List Int} (h : Asc xs) {i j : Nat} (hij : i < j) (hj : j < xs.length) : nth xs i < nth xs j := by
  rw [nth_eq (by omega), nth_eq hj]
  exact List.pairwise_iff_getElem.1 h i j (by omega) hj hij

set_option maxRecDepth 100000 in
theorem ascend_any (ao : Option Addr) (xs : List Int) (l c : Nat) (w : World) (hn : xs.length = l) (hl : l ≤ 1000) (hx : IntsAt w ao xs) (ha : Asc xs) :
    Calls Try.prog 26 #[.slice ao l c] w fun e w' => e = .returned (.bool true) ∧ Qt w w' := by
  have HN := hid hn
  have HA := hid ha
  clear hn ha
  go_enter Try.func26, Try.ntmps26
  go_wp2
  go_loopw [3] (fun i wr => ∃ k q : Nat, 1 ≤ k ∧ k ≤ l + 1 ∧ i = .int .i64 k ∧ wr = w.drewN q) (fun i _ => l + 1 - (intOf i).toNat)
  case atStart => exact ⟨1, 0, by omega, by omega, rfl, rfl⟩
  case round =>
    obtain ⟨k, q, hk0, hk, rfl, rfl⟩ := hrel
    by_cases hlt : k < l
    · obtain ⟨b, off, rfl, hc⟩ := hx (by rw [HN.out]; omega)
      have hck := hc k (by rw [HN.out]; exact hlt)
      have hcj := hc (k - 1) (by rw [HN.out]; omega)
      have hlt2 : nth xs (k - 1) < nth xs k := asc_nth HA.out (by omega) (by rw [HN.out]; exact hlt)
      have hm1 : ((k : Int) - 1).toNat = k - 1 := by omega
      have hd : decide (nth xs k ≤ nth xs (k - 1)) = false := decide_eq_false (by omega)
      clear hc hx
      generalize nth xs k = x at *
      generalize nth xs (k - 1) = y at *
      go_wp2
      go_quiet (fail)
      go_wp2
      go_roundw
      case rel => exact ⟨k + 1, _, by omega, by omega, by go_num, rfl⟩
      case measure => simp [intOf]; omega
    · have hd : decide ((k : Int) < l) = false := decide_eq_false (by omega)
      go_wp2
      go_ret
      exact ⟨rfl, _, rfl⟩

theorem qtL_below {xs : List Int} : ∀ {k : Nat} {q : Int}, q ∈ qtL xs k → q < k
  | 0, q, h => by simp [qtL] at h
  | k + 1, q, h => by
    by_cases e : press xs k = 0
    · rw [qtL_in e, List.mem_append] at h
      rcases h with h | h
      · have := qtL_below h; omega
      · have : q = k := by simpa using h
        omega
    · rw [qtL_not e] at h
      have := qtL_below h; omega
theorem qtL_asc (xs : List Int) : ∀ k, Asc (qtL xs k)
  | 0 => List.Pairwise.nil
  | k + 1 => by
    have ih := qtL_asc xs k
    by_cases e : press xs k = 0
    · rw [qtL_in e]
      unfold Asc at *
      rw [List.pairwise_append]
      refine ⟨ih, List.pairwise_singleton _ _, fun a ha b hb => ?_⟩
      have : b = k := by simpa using hb
      subst this; exact qtL_below ha
    · rw [qtL_not e]; exact ih
theorem quietL_asc {xs : List Int} (h : GrOk xs) : Asc (quietL xs) := by rw [quietL_in h]; exact qtL_asc xs _

/-- A graph that a law has drawn. -/
def DrawnG (w : World) (e : Ending) (w' : World) : Prop :=
  ∃ ao m c ys, e = .returned (.agg #[.slice ao m c]) ∧ ys.length = m ∧ m ≤ c ∧ m ≤ 10 ∧ Own w' w.heap.size (.slice ao m c) ys ∧ Below w.heap.size w w'
theorem DrawnG.mk {w w1 w2 : World} {r N m c : Nat} {ao : Option Addr} {ys : List Int} (hl : ys.length = m) (hmc : m ≤ c) (hm : m ≤ 10) (hsz : w.heap.size + 1 ≤ w1.heap.size) (ho : Own w2 w1.heap.size (.slice ao m c) ys) (hB : Below w.heap.size w w1) (hg : w1.grownBy w2 (some r)) (_hr : Rdr w2 (w.heap.size + 1) r N) (hrr : w.heap.size + 1 ≤ r) :
    DrawnG w (.returned (.agg #[.slice ao m c])) (w2.setCell ⟨w.heap.size, 0, none⟩ (.slice ao m c)) := by
  have h1 : Below w.heap.size w w2 := below_grown hB hg (by omega)
  exact ⟨ao, m, c, ys, rfl, hl, hmc, hm, (ho.setOther w.heap.size 0 _ (ho.ne_of_lt (by omega))).lower (by omega), h1.setCell (p := ⟨w.heap.size, 0, none⟩) (Nat.le_refl _) _⟩

theorem drawQuietSets_any (ao : Option Addr) (bs : List Int) (l c : Nat) (w : World) (hn : bs.length = l) (hlc : l ≤ c) (hcm : c ≤ 9223372036854775807) (hx : BytesAt w ao bs) (h8 : B8 bs) :
    Calls Try.prog 19 #[.slice ao l c] w (DrawnG w) := by
  have bk := Blk.new w #[.slice none 0 0] 25
  have hx1 := hx.alloc (.cells #[.slice none 0 0] 25)
  have bel := (Below.refl w.heap.size w).alloc (Nat.le_refl _) (.cells #[.slice none 0 0] 25)
  have hsz : (w.alloc (.cells #[.slice none 0 0] 25)).heap.size = w.heap.size + 1 := by simp
  clear hx
  go_enter Try.func19, Try.ntmps19
  go_wp2_with fail
  generalize (w.alloc (.cells #[.slice none 0 0] 25)) = W at *
  refine (l20Open_any ao bs l c W hn hlc hcm hx1 h8).mono fun e w1 h => ?_
  obtain ⟨r, rfl, hr, B⟩ := h
  clear hx1 h8 hn
  rw [hsz] at hr B
  have bk1 := bk.below B (by omega)
  have bel1 := bel.trans (B.mono (by omega))
  have hsz1 := B.size
  rw [hsz] at hsz1
  go_wp2_with fail
  refine (l20Graph_any r (w.heap.size + 1) 0 9 w1 hr (by omega) (by omega)).mono fun e w2 h => ?_
  obtain ⟨ao', m, cc, ys, rfl, hl, hmc, hm, ho, hg, hr2⟩ := h
  have hrl := hr2.lt
  have bk2 := bk1.kept hg (fun e => by have := Option.some.inj e; omega)
  have hfin := DrawnG.mk hl hmc hm hsz1 ho bel1 hg hr2 hrl.1
  have f0 := bk2.free 0
  have g0 := bk2.at 0 rfl
  clear hr hr2 ho hg bk bk1 bk2 bel bel1 B
  go_wp2
  exact bodyPost_ret (v := .agg #[.slice ao' m cc]) (by simp [results, Try.results19, go_sem, g0]) rfl hfin

end Go.Proofs.Ytgmjffplinpobaa
