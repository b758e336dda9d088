/- The graphs that laws draw: the reference's GridOf. -/
import Derived.Test.YtgmjffplinpobaaLi
import Derived.Deep.DeepCutAuto
import Derived.Deep.RegionHeld3
import Derived.BigQuiet
namespace Go.Proofs.Ytgmjffplinpobaa
open Go Go.RowKit

/-- A graph that a call made. -/
def RetGraph (w : World) (e : Ending) (w' : World) : Prop :=
  ∃ ao m c ys, e = .returned (.agg #[.slice ao m c]) ∧ ys.length = m ∧ m ≤ c ∧ (1 ≤ m ∧ m ≤ 10) ∧ Own w' w.heap.size (.slice ao m c) ys ∧ Below w.heap.size w w'

/-- A graph in the making: its variable gb, its row g. -/
def GS (w : World) (m gb g c : Nat) (wr : World) (ys : List Int) : Prop :=
  Hid (ys.length = m) ∧ Blk wr gb #[.slice (some ⟨g, 0, none⟩) m c] 25 ∧ Own wr (w.heap.size + 1) (.slice (some ⟨g, 0, none⟩) m c) ys ∧ Blk wr w.heap.size #[.slice none 0 0] 25 ∧ Below w.heap.size w wr
theorem GS.set {w wr : World} {m gb g c : Nat} {ys : List Int} (h : GS w m gb g c wr ys) (hne : gb ≠ g) (j : Nat) (x : Int) : GS w m gb g c (wr.setCell ⟨g, j, none⟩ (.int .i64 x)).drew (ys.set j x) := by
  obtain ⟨h1, h2, h3, h4, h5⟩ := h
  have hb := h3.base
  exact ⟨by have := h1.out; unfold Hid; rw [List.length_set]; exact this, h2.setOther hne j _, h3.stored h1.out.symm j x, h4.setOther (by omega) j _, (h5.setCell (p := ⟨g, j, none⟩) (by show _ ≤ g; omega) _).drew⟩

set_option maxRecDepth 100000 in
set_option maxHeartbeats 2000000 in
theorem specGridOf_any (a b : Nat) (w : World) (ha : 1 ≤ a ∧ a ≤ 3) (hb : 1 ≤ b ∧ b ≤ 3) :
    Calls Try.prog 52 #[.int .i64 a, .int .i64 b] w (RetGraph w) := by
  obtain ⟨ha1, ha3⟩ := ha
  obtain ⟨hb1, hb3⟩ := hb
  have hm9 : a * b ≤ 3 * 3 := Nat.mul_le_mul ha3 hb3
  have hm1 : 1 * 1 ≤ a * b := Nat.mul_le_mul ha1 hb1
  obtain ⟨m, hm⟩ : ∃ m, a * b = m := ⟨_, rfl⟩
  rw [hm] at hm9 hm1
  have hmul : (a : Int) * b = (m : Int) := by rw [← hm]; simp
  have hmw : IntKind.i64.wrap ((a : Int) * b) = (m : Int) := by rw [hmul]; exact IntWalk.i64_in _ (by omega)
  have hi1 : inR 1 9 (a : Int) = true := by unfold inR; rw [decide_eq_true (by omega), decide_eq_true (by omega)]; rfl
  have hi2 : inR 1 9 (b : Int) = true := by unfold inR; rw [decide_eq_true (by omega), decide_eq_true (by omega)]; rfl
  clear hm hmul
  obtain ⟨i0, hi, hz0, hz1, hz2⟩ := info_parts Try.infoInt
  have b1 := Blk.new w #[.slice none 0 0] 25
  have B := (Below.refl w.heap.size w).alloc (Nat.le_refl _) (.cells #[.slice none 0 0] 25)
  have hsz : (w.alloc (.cells #[.slice none 0 0] 25)).heap.size = w.heap.size + 1 := by simp
  go_enter Try.func52, Try.ntmps52
  go_wp2_with fail
  generalize (w.alloc (.cells #[.slice none 0 0] 25)) = W at *
  refine (l1In_any _ _ _ _).mono fun e w1 h => ?_
  obtain ⟨rfl, rfl⟩ := h
  rw [hi1]
  go_wp2_with fail
  refine (l1In_any _ _ _ _).mono fun e w1 h => ?_
  obtain ⟨rfl, rfl⟩ := h
  rw [hi2]
  go_wp2_with (at_make; refine wpList_make_full _ rfl _ _ 23 rfl (w.heap.size + 1) 3 i0 (.int .i64 0) 1 Try.underlying23 hi hz0 hz1 _ _ _ _ m rfl rfl ?m3 ?m4 ?m1 ?m2 (Nat.le_of_eq hsz.symm) ?_)
  case m1 => rw [hz2]; omega
  case m2 => unfold maxLen; omega
  case m3 => rfl
  case m4 => rfl
  intro w1 hown hgrow
  have ho := Own.made hown
  have hB1 := B.grown hgrow B.size (by simp)
  have b1' := b1.kept hgrow (by simp)
  have hlt := b1.lt
  have hgl := ho.base.2
  have hbb := Blk.new w1 #[.slice (some ⟨w.heap.size + 1, 0, none⟩) m m] 25
  have ho := ho.alloc (.cells #[.slice (some ⟨w.heap.size + 1, 0, none⟩) m m] 25)
  have b1' := b1'.alloc (.cells #[.slice (some ⟨w.heap.size + 1, 0, none⟩) m m] 25)
  have hB1 := hB1.alloc hB1.size (.cells #[.slice (some ⟨w.heap.size + 1, 0, none⟩) m m] 25)
  have hS : GS w m w1.heap.size (w.heap.size + 1) m (w1.alloc (.cells #[.slice (some ⟨w.heap.size + 1, 0, none⟩) m m] 25)) (List.replicate m 0) := ⟨by unfold Hid; simp, hbb, ho, b1', hB1⟩
  have hne : w1.heap.size ≠ w.heap.size + 1 := by omega
  clear hown hgrow hi hz0 hz1 hz2 i0 B b1 hbb ho b1' hB1
  go_wp2_with fail
  generalize (w1.alloc (.cells #[.slice (some ⟨w.heap.size + 1, 0, none⟩) m m] 25)) = w2 at *
  generalize w1.heap.size = gb at *
  go_loopw [6] (fun i wr => ∃ k : Nat, k ≤ m ∧ i = .int .i64 k ∧ ∃ ys, GS w m gb (w.heap.size + 1) m wr ys) (fun i _ => m - (intOf i).toNat)
  case atStart => exact ⟨0, Nat.zero_le _, rfl, _, hS⟩
  case round =>
    obtain ⟨k, hk, rfl, ys, hG⟩ := hrel
    clear hS
    by_cases hlt : k < m
    · obtain ⟨r, hr⟩ : ∃ r, k % a = r := ⟨_, rfl⟩
      have hrk : r ≤ k := by rw [← hr]; exact Nat.mod_le _ _
      have htm : (k : Int).tmod a = (r : Int) := by rw [Int.tmod_eq_emod_of_nonneg (by omega), ← hr]; simp
      have htm2 : (k : Int) % a = (r : Int) := by rw [← hr]; simp
      have hk63 : k ≤ 61 := by omega
      have haz : ((a : Int) == 0) = false := by simp; omega
      have haz2 : ¬ ((a : Int) = 0) := by omega
      clear hr
      obtain ⟨p, hpk⟩ : ∃ p : Int, wrap64 (2 ^ k) = p := ⟨_, rfl⟩
      have hpk2 : IntKind.i64.wrap ((2 : Int) ^ k) = p := by rw [← hpk, wrap_pow hk63, wrap_powk hk63]
  -- TAIL
      by_cases h1 : 0 < r
      · have hd1 : decide ((0 : Int) < r) = true := decide_eq_true (by omega)
        obtain ⟨q, hq⟩ : ∃ q, k = q + 1 := ⟨k - 1, by omega⟩
        have hqk : q < k := by omega
        have hk1 : (k : Int) - 1 = (q : Int) := by omega
        have hqn : (q : Int) < m := by omega
        obtain ⟨p2, hp2⟩ : ∃ p : Int, wrap64 (2 ^ q) = p := ⟨_, rfl⟩
        have hp22 : IntKind.i64.wrap ((2 : Int) ^ q) = p2 := by rw [← hp2, wrap_pow (by omega), wrap_powk (by omega)]
        clear hq
        have e9 := hG.2.1.at 0 rfl
        have c9 := hG.2.2.1.cell (j := k) (by rw [hG.1.out]; omega)
        have f9 := hG.2.2.1.free hG.1.out.symm k
        obtain ⟨z, hz⟩ : ∃ z, IntKind.i64.wrap (nth ys k + p2) = z := ⟨_, rfl⟩
        have hG2 := hG.set hne k z
        clear hG
        go_wp2
        go_region
        clear e9 c9 f9 hz
        generalize (World.setCell wr ⟨w.heap.size + 1, k, none⟩ (.int .i64 z)).drew = wr1 at *
        generalize ys.set k z = ys at *
        have hG := hG2
        clear hG2
        have e9 := hG.2.1.at 0 rfl
        have c9 := hG.2.2.1.cell (j := q) (by rw [hG.1.out]; omega)
        have f9 := hG.2.2.1.free hG.1.out.symm q
        obtain ⟨z, hz⟩ : ∃ z, IntKind.i64.wrap (nth ys q + p) = z := ⟨_, rfl⟩
        have hG2 := hG.set hne q z
        clear hG
        go_wp2
        go_region
        clear e9 c9 f9 hz
        generalize (World.setCell wr1 ⟨w.heap.size + 1, q, none⟩ (.int .i64 z)).drew = wr2 at *
        generalize ys.set q z = ys at *
        have hG := hG2
        clear hG2
        by_cases h2 : a ≤ k
        · have hd2 : decide ((a : Int) ≤ k) = true := decide_eq_true (by omega)
          obtain ⟨d, hd⟩ : ∃ d, k = a + d := ⟨k - a, by omega⟩
          have hdk : d < k := by omega
          have hka : (k : Int) - a = (d : Int) := by omega
          have hdn : (d : Int) < m := by omega
          obtain ⟨p3, hp3⟩ : ∃ p : Int, wrap64 (2 ^ d) = p := ⟨_, rfl⟩
          have hp32 : IntKind.i64.wrap ((2 : Int) ^ d) = p3 := by rw [← hp3, wrap_pow (by omega), wrap_powk (by omega)]
          clear hd
          have e9 := hG.2.1.at 0 rfl
          have c9 := hG.2.2.1.cell (j := k) (by rw [hG.1.out]; omega)
          have f9 := hG.2.2.1.free hG.1.out.symm k
          obtain ⟨z, hz⟩ : ∃ z, IntKind.i64.wrap (nth ys k + p3) = z := ⟨_, rfl⟩
          have hG2 := hG.set hne k z
          clear hG
          go_wp2
          go_region
          clear e9 c9 f9 hz
          generalize (World.setCell wr2 ⟨w.heap.size + 1, k, none⟩ (.int .i64 z)).drew = wr3 at *
          generalize ys.set k z = ys at *
          have hG := hG2
          clear hG2
          have e9 := hG.2.1.at 0 rfl
          have c9 := hG.2.2.1.cell (j := d) (by rw [hG.1.out]; omega)
          have f9 := hG.2.2.1.free hG.1.out.symm d
          obtain ⟨z, hz⟩ : ∃ z, IntKind.i64.wrap (nth ys d + p) = z := ⟨_, rfl⟩
          have hG2 := hG.set hne d z
          clear hG
          go_wp2
          go_region
          clear e9 c9 f9 hz
          generalize (World.setCell wr3 ⟨w.heap.size + 1, d, none⟩ (.int .i64 z)).drew = wr4 at *
          generalize ys.set d z = ys at *
          have hG := hG2
          clear hG2
          go_wp2
          go_roundw
          case rel => exact ⟨k + 1, by omega, by go_num, _, hG⟩
          case measure => simp [intOf]; omega
        · have hd2 : decide ((a : Int) ≤ k) = false := decide_eq_false (by omega)
          go_wp2
          go_roundw
          case rel => exact ⟨k + 1, by omega, by go_num, _, hG⟩
          case measure => simp [intOf]; omega
      · have hd1 : decide ((0 : Int) < r) = false := decide_eq_false (by omega)
        by_cases h2 : a ≤ k
        · have hd2 : decide ((a : Int) ≤ k) = true := decide_eq_true (by omega)
          obtain ⟨d, hd⟩ : ∃ d, k = a + d := ⟨k - a, by omega⟩
          have hdk : d < k := by omega
          have hka : (k : Int) - a = (d : Int) := by omega
          have hdn : (d : Int) < m := by omega
          obtain ⟨p3, hp3⟩ : ∃ p : Int, wrap64 (2 ^ d) = p := ⟨_, rfl⟩
          have hp32 : IntKind.i64.wrap ((2 : Int) ^ d) = p3 := by rw [← hp3, wrap_pow (by omega), wrap_powk (by omega)]
          clear hd
          have e9 := hG.2.1.at 0 rfl
          have c9 := hG.2.2.1.cell (j := k) (by rw [hG.1.out]; omega)
          have f9 := hG.2.2.1.free hG.1.out.symm k
          obtain ⟨z, hz⟩ : ∃ z, IntKind.i64.wrap (nth ys k + p3) = z := ⟨_, rfl⟩
          have hG2 := hG.set hne k z
          clear hG
          go_wp2
          go_region
          clear e9 c9 f9 hz
          generalize (World.setCell wr ⟨w.heap.size + 1, k, none⟩ (.int .i64 z)).drew = wr5 at *
          generalize ys.set k z = ys at *
          have hG := hG2
          clear hG2
          have e9 := hG.2.1.at 0 rfl
          have c9 := hG.2.2.1.cell (j := d) (by rw [hG.1.out]; omega)
          have f9 := hG.2.2.1.free hG.1.out.symm d
          obtain ⟨z, hz⟩ : ∃ z, IntKind.i64.wrap (nth ys d + p) = z := ⟨_, rfl⟩
          have hG2 := hG.set hne d z
          clear hG
          go_wp2
          go_region
          clear e9 c9 f9 hz
          generalize (World.setCell wr5 ⟨w.heap.size + 1, d, none⟩ (.int .i64 z)).drew = wr6 at *
          generalize ys.set d z = ys at *
          have hG := hG2
          clear hG2
          go_wp2
          go_roundw
          case rel => exact ⟨k + 1, by omega, by go_num, _, hG⟩
          case measure => simp [intOf]; omega
        · have hd2 : decide ((a : Int) ≤ k) = false := decide_eq_false (by omega)
          go_wp2
          go_roundw
          case rel => exact ⟨k + 1, by omega, by go_num, _, hG⟩
          case measure => simp [intOf]; omega
    · obtain rfl : k = m := by omega
      obtain ⟨HL, hb, ho, hr, hB⟩ := hG
      have e9 := hb.at 0 rfl
      have f9 := hr.free 0
      have hgl2 := ho.base
      have g9 := (hr.set 0 (.slice (some ⟨w.heap.size + 1, 0, none⟩) k k)).at 0 rfl
      have o2 := (ho.setOther w.heap.size 0 (.slice (some ⟨w.heap.size + 1, 0, none⟩) k k) (ho.ne_of_lt (by omega))).lower (B' := w.heap.size) (by omega)
      have B2 := hB.setCell (p := ⟨w.heap.size, 0, none⟩) (Nat.le_refl _) (.slice (some ⟨w.heap.size + 1, 0, none⟩) k k)
      have hgb : gb ≠ w.heap.size := by omega
      have e0 := hr.at 0 rfl
      clear hb ho hr hB
      go_wp2
      exact bodyPost_ret (v := .agg #[.slice (some ⟨w.heap.size + 1, 0, none⟩) k k]) (by simp [results, Try.results52, go_sem, e0]) rfl ⟨_, k, k, ys, rfl, HL.out, Nat.le_refl _, by omega, o2, B2⟩

end Go.Proofs.Ytgmjffplinpobaa
