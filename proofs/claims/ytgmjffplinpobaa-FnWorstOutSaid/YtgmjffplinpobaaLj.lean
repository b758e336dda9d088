/- Presses of sets: both walks. -/
import Derived.Test.YtgmjffplinpobaaLi
namespace Go.Proofs.Ytgmjffplinpobaa
open Go Go.RowKit

/-- The lights that a set's presses change. -/
def press (xs : List Int) (set : Nat) : Nat := prs xs set xs.length

set_option maxRecDepth 100000 in
theorem pressesChange_any (ao : Option Addr) (xs : List Int) (n c set : Nat) (w : World) (hn : xs.length = n) (hok : GrOk xs) (hs : set < 2 ^ 62) (hx : IntsAt w ao xs) :
    Calls Try.prog 37 #[.agg #[.slice ao n c], .int .i64 set] w fun e w' => e = .returned (.int .i64 (press xs set : Nat)) ∧ Below w.heap.size w w' := by
  have bel := (Below.refl w.heap.size w).alloc (Nat.le_refl _) (.cells #[.slice ao n c] 25)
  have bk := Blk.new w #[.slice ao n c] 25
  have hx := hx.below bel (Nat.le_refl _)
  have HF : Hid (press xs set = prs xs set n) := by unfold Hid press; rw [hn]
  have hn9 := hok.max
  rw [hn] at hn9
  have HN := hid hn
  have HOK := hid hok
  have e0 := bk.at 0 rfl
  clear hn hok
  go_enter Try.func37, Try.ntmps37
  go_wp2_with fail
  generalize (w.alloc (.cells #[.slice ao n c] 25)) = W at *
  clear e0
  go_loopw [5, 6, 10] (fun v _ i wr => ∃ k : Nat, k ≤ n ∧ i = .int .i64 k ∧ v = .int .i64 (prs xs set k : Nat) ∧ Below W.heap.size W wr) (fun _ _ i _ => n - (intOf i).toNat)
  case atStart => exact ⟨0, Nat.zero_le _, rfl, rfl, Below.refl _ _⟩
  case round =>
    obtain ⟨k, hk, rfl, rfl, hb⟩ := hrel
    have bel2 := bel.trans (hb.mono bel.size)
    have e0 := (bk.below hb (Nat.le_refl _)).at 0 rfl
    by_cases hlt : k < n
    · have hbt := bit_test (m := set) (t := k) hs
      cases htb : set.testBit k with
      | true =>
        rw [htb] at hbt
        have h1 := HOK.out.prs_lt set k (by rw [HN.out]; omega)
        have h2 := HOK.out.row_lt (k := k) (by rw [HN.out]; omega)
        have h512 := pow9 (n := xs.length) (by rw [HN.out]; exact hn9)
        have hxr : bits .xor .i64 (prs xs set k : Int) ((row xs k : Nat) : Int) = ((prs xs set (k + 1) : Nat) : Int) := by rw [prs_in htb]; exact i64_xor (by omega) (by omega)
        clear h1 h2 h512 htb
        go_wp2_with fail
        refine (pressChange_any ao xs n c k wr HN.out HOK.out hlt (hx.below hb (Nat.le_refl _))).mono fun e w1 h => ?_
        obtain ⟨rfl, b⟩ := h
        go_wp2
        go_roundw
        case rel => exact ⟨k + 1, by omega, by go_num, rfl, hb.trans (b.mono hb.size)⟩
        case measure => simp [intOf]; omega
      | false =>
        rw [htb] at hbt
        have hst := hid (prs_not (xs := xs) htb)
        clear htb
        go_wp2
        go_roundw
        case rel => exact ⟨k + 1, by omega, by go_num, by rw [hst.out], hb⟩
        case measure => simp [intOf]; omega
    · obtain rfl : k = n := by omega
      go_wp2
      go_ret
      exact ⟨by rw [HF.out]; rfl, bel2⟩

set_option maxRecDepth 100000 in
theorem l2Press_any (ao : Option Addr) (xs : List Int) (n c set : Nat) (w : World) (hn : xs.length = n) (hok : GrOk xs) (hs : set < 2 ^ 62) (hx : IntsAt w ao xs) :
    Calls Try.prog 40 #[.agg #[.slice ao n c], .int .i64 set] w fun e w' => e = .returned (.int .i64 (press xs set : Nat)) ∧ Below w.heap.size w w' := by
  have bel := (Below.refl w.heap.size w).alloc (Nat.le_refl _) (.cells #[.slice ao n c] 25)
  have bk := Blk.new w #[.slice ao n c] 25
  have hx := hx.below bel (Nat.le_refl _)
  have HF : Hid (press xs set = prs xs set n) := by unfold Hid press; rw [hn]
  have hn9 := hok.max
  obtain ⟨b, off, rfl, hc⟩ := hx (by have := hok.pos; omega)
  rw [hn] at hn9
  have HN := hid hn
  have HC := hid hc
  have HOK := hid hok
  have e0 := bk.at 0 rfl
  clear hn hok hc hx
  go_enter Try.func40, Try.ntmps40
  go_wp2_with fail
  generalize (w.alloc (.cells #[.slice (some ⟨b, off, none⟩) n c] 25)) = W at *
  have HE := hid e0
  clear e0 bk
  go_loopw [5, 6] (fun v i wr => ∃ k : Nat, k ≤ n ∧ i = .int .i64 k ∧ v = .int .i64 (prs xs set k : Nat) ∧ Qt W wr) (fun _ i _ => n - (intOf i).toNat)
  case atStart => exact ⟨0, Nat.zero_le _, rfl, rfl, Qt.refl _⟩
  case round =>
    obtain ⟨k, hk, rfl, rfl, hq⟩ := hrel
    have bel2 := bel.trans (hq.below _)
    have e0 := (hq.cell _).trans HE.out
    by_cases hlt : k < n
    · have hbt := bitN_test set k
      have h61 : k ≤ 61 := by omega
      cases htb : set.testBit k with
      | true =>
        rw [htb] at hbt
        have hbt : bitN set k = 1 := hbt
        have hck := (hq.cell _).trans (HC.out k (by rw [HN.out]; exact hlt))
        have hlk := HOK.out.lt (k := k) (by rw [HN.out]; omega)
        rw [hlk.1] at hck
        have h1 := HOK.out.prs_lt set k (by rw [HN.out]; omega)
        have h2 := HOK.out.row_lt (k := k) (by rw [HN.out]; omega)
        have h3 := HOK.out.row_add (k := k) (by rw [HN.out]; omega)
        have h512 := pow9 (n := xs.length) (by rw [HN.out]; exact hn9)
        have hfn := hid (prs_in (xs := xs) htb)
        have hp : wrap64 (2 ^ k) = ((2 ^ k : Nat) : Int) := wrap_pow (by omega)
        have hp2 : IntKind.i64.wrap ((2 : Int) ^ k) = ((2 ^ k : Nat) : Int) := wrap_powk (by omega)
        obtain ⟨Q, hQ⟩ : ∃ Q, prs xs set k = Q := ⟨_, rfl⟩
        obtain ⟨R, hR⟩ : ∃ R, row xs k = R := ⟨_, rfl⟩
        rw [hQ] at h1 hfn
        rw [hR] at h2 h3 hfn
        rw [hQ]
        generalize gN xs k = m at *
        have hQ9 : Q < 1024 := by omega
        have hR9 : R < 1024 := by omega
        generalize 2 ^ k = p at *
        have hsum : IntKind.i64.wrap ((m : Int) + (p : Int)) = (R : Int) := (IntWalk.i64_in _ (by omega)).trans (by omega)
        clear h1 h2 h512 htb hQ hR hlk h3
        go_wp2_with fail
        refine (l1Bit_any set k wr hs h61).mono fun e w1 h => ?_
        obtain ⟨rfl, rfl⟩ := h
        rw [hbt]
        go_wp2_with fail
        go_quiet (first | (go_at_call 51; exact quiet_same (l1Other_any Q R _ hQ9 hR9)))
        go_wp2
        go_roundw
        case rel => exact ⟨k + 1, by omega, by go_num, by rw [hfn.out], hq.drewN _⟩
        case measure => simp [intOf]; omega
      | false =>
        rw [htb] at hbt
        have hbt : bitN set k = 0 := hbt
        have hst := hid (prs_not (xs := xs) htb)
        clear htb
        go_wp2_with fail
        refine (l1Bit_any set k wr hs h61).mono fun e w1 h => ?_
        obtain ⟨rfl, rfl⟩ := h
        rw [hbt]
        go_wp2
        go_roundw
        case rel => exact ⟨k + 1, by omega, by go_num, by rw [hst.out], hq⟩
        case measure => simp [intOf]; omega
    · obtain rfl : k = n := by omega
      go_wp2
      go_ret
      exact ⟨by rw [HF.out]; rfl, bel2⟩

end Go.Proofs.Ytgmjffplinpobaa
