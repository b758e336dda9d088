/- The draw of a text: DrawReadBoard. -/
import Derived.Test.YtaepoddlhghdpaaSt
import Derived.Test.YtaepoddlhghdpaaDd
import Derived.Laws.IdiomStrings
import Derived.Deep.DeepCutAuto
import Derived.Deep.RegionHeld3
namespace Go.Proofs.Ytaepoddlhghdpaa
open Go Go.RowKit

def pcS : Nat → ByteArray
  | 0 => ⟨#[]⟩
  | 1 => ⟨#[48]⟩
  | 2 => ⟨#[49]⟩
  | 3 => ⟨#[47]⟩
  | 4 => ⟨#[57]⟩
  | _ => ⟨#[]⟩
theorem pcS_size : ∀ j, (pcS j).size ≤ 1
  | 0 => by decide
  | 1 => by decide
  | 2 => by decide
  | 3 => by decide
  | 4 => by decide
  | _ + 5 => by show ByteArray.size ⟨#[]⟩ ≤ 1; decide
theorem pcS_at {j : Nat} (h : j < 5) : (#[Value.string ⟨#[]⟩, .string ⟨#[48]⟩, .string ⟨#[49]⟩, .string ⟨#[47]⟩, .string ⟨#[57]⟩] : Array Value)[j]? = some (.string (pcS j)) := by
  match j, h with
  | 0, _ => rfl
  | 1, _ => rfl
  | 2, _ => rfl
  | 3, _ => rfl
  | 4, _ => rfl

theorem boardT_size {wide : Int} {xs : List Int} : (boardT wide xs).size ≤ 18 := by
  cases h : boardB wide xs with
  | false => rw [boardT_out h]; show ByteArray.size ⟨#[]⟩ ≤ 18; decide
  | true =>
    have h9 := (boardB_iff.1 h).2.1
    have := size_txtT wide xs xs.length
    rw [boardT_in h]; omega

/-- A text that a law has drawn. -/
def DrawS (w : World) (e : Ending) (w' : World) : Prop := ∃ s, e = .returned (.string s) ∧ s.size ≤ 100 ∧ Below w.heap.size w w'

set_option maxRecDepth 100000 in
set_option maxHeartbeats 1000000 in
theorem drawReadBoard_any (ao : Option Addr) (bs : List Int) (l c : Nat) (w : World) (hn : bs.length = l) (hlc : l ≤ c) (hcm : c ≤ 9223372036854775807) (hx : BytesAt w ao bs) (h8 : B8 bs) :
    Calls Try.prog 20 #[.slice ao l c] w (DrawS w) := by
  go_enter Try.func20, Try.ntmps20
  go_wp2_with fail
  refine (l20Open_any ao bs l c w hn hlc hcm hx h8).mono fun e w1 h => ?_
  obtain ⟨r, rfl, hr, B⟩ := h
  clear hx h8 hn
  have hrl := hr.lt
  go_wp2_with fail
  refine (l20Board_any r w.heap.size 0 0 w1 hr (by omega) (by omega)).mono fun e w2 h => ?_
  obtain ⟨wide, ao', m, cc, ys, rfl, hl, hmc, hm, hw, ho, hg, hr2⟩ := h
  have B := below_grown B hg hrl.1
  have HL := hid hl
  clear hr hg hl
  go_wp2_with fail
  refine (specBoardText_any wide ao' ys m cc w2 HL.out (by omega) hmc ho.ints).mono fun e w3 h => ?_
  obtain ⟨rfl, b⟩ := h
  have hr3 := hr2.below b (Nat.le_refl _)
  have B := B.trans (b.mono B.size)
  have hT18 := boardT_size (wide := wide) (xs := ys)
  obtain ⟨T, hT⟩ : ∃ T, boardT wide ys = T := ⟨_, rfl⟩
  rw [hT] at hT18 ⊢
  have hrl3 := hr3.lt
  clear b hT ho hr2 hrl
  go_wp2_with fail
  refine (pick_rdr r 3 w.heap.size _ w3 hr3 (by omega)).mono fun e w4 hp => ?_
  obtain ⟨q, rfl, _, _, _, _, hg4, hr4⟩ := hp
  have B := below_grown B hg4 hrl3.1
  clear hr3 hg4
  have hrl4 := hr4.lt
  cases hq : (q == 0) with
  | false =>
    go_wp2
    go_ret
    exact ⟨T, rfl, by omega, B⟩
  | true =>
    by_cases h0 : 0 < T.size
    · have hd0 : decide (0 < T.size) = true := decide_eq_true h0
      have hd1 : decide ((0 : Int) < T.size) = true := decide_eq_true (by omega)
      go_wp2_with fail
      refine (pick_rdr r T.size w.heap.size _ w4 hr4 (by omega)).mono fun e w5 hp => ?_
      obtain ⟨q2, rfl, q0, q1, _, _, hg5, hr5⟩ := hp
      have q3 := q1 (by omega)
      obtain ⟨k, rfl⟩ : ∃ k : Nat, q2 = k := Int.eq_ofNat_of_zero_le q0
      have B := below_grown B hg5 hrl4.1
      clear hr4 hg5 q1 hd0 hd1
      have hrl5 := hr5.lt
      go_upto_region 5 with fail
      go_cut [2] (fun v wx => ∃ s, v = .string s ∧ s.size ≤ 100 ∧ Below w.heap.size w wx)
      case first =>
        have hk1 : IntKind.i64.wrap ((k : Int) + 1) = (k : Int) + 1 := IntWalk.i64_in _ (by omega)
        have hkn : ((k : Int) + 1).toNat = k + 1 := by omega
        have hs1 : ∀ W, (Instr.slice 9 (.string T) none (some (.int .i64 (k : Int))) none).run Try.prog W = .ok (.string (T.extract 0 k)) W := fun W => by
          rw [run_slice_string_to_if (P := Try.prog) W 9 T .i64 k Try.underlying9, if_pos (by omega), Int.toNat_natCast]
        have hs2 : ∀ W, (Instr.slice 9 (.string T) (some (.int .i64 ((k : Int) + 1))) none none).run Try.prog W = .ok (.string (T.extract (k + 1) T.size)) W := fun W => by
          rw [run_slice_string_from_if (P := Try.prog) W 9 T .i64 ((k : Int) + 1) Try.underlying9, if_pos (by omega), hkn]
        have hz1 : (T.extract 0 k).size ≤ 18 := by rw [ByteArray.size_extract]; omega
        have hz2 : (T.extract (k + 1) T.size).size ≤ 18 := by rw [ByteArray.size_extract]; omega
        generalize T.extract 0 k = H at *
        generalize T.extract (k + 1) T.size = E at *
        have hc1 : ∀ j, ¬ (9223372036854775807 < H.size + (pcS j).size) := fun j => by have := pcS_size j; omega
        have hc2 : ∀ j, ¬ (9223372036854775807 < H.size + (pcS j).size + E.size) := fun j => by have := pcS_size j; omega
        have hc3 : ∀ j, ¬ (9223372036854775807 < (H ++ pcS j).size + E.size) := fun j => by have := pcS_size j; rw [ByteArray.size_append]; omega
        have hfz : ∀ j, (H ++ pcS j ++ E).size ≤ 100 := fun j => by have := pcS_size j; rw [ByteArray.size_append, ByteArray.size_append]; omega
        have HFZ := hid hfz
        have hr5a : Rdr (w5.alloc (.cells #[.string ⟨#[]⟩, .string ⟨#[48]⟩, .string ⟨#[49]⟩, .string ⟨#[47]⟩, .string ⟨#[57]⟩] 9)).drew w.heap.size r (0 + 200 + 1 + 1) := hr5.below ((Below.refl w5.heap.size w5).alloc (Nat.le_refl _) _).drew (Nat.le_refl _)
        have hne5 : some w5.heap.size ≠ some r := fun e => by have := Option.some.inj e; omega
        have hcl5 : ∀ w6 j, j < 5 → World.grownBy (w5.alloc (.cells #[.string ⟨#[]⟩, .string ⟨#[48]⟩, .string ⟨#[49]⟩, .string ⟨#[47]⟩, .string ⟨#[57]⟩] 9)).drew w6 (some r) → w6.cell? ⟨w5.heap.size, j, none⟩ = some (.string (pcS j)) := fun w6 j hj h =>
          h.cell ((cellNew w5 #[.string ⟨#[]⟩, .string ⟨#[48]⟩, .string ⟨#[49]⟩, .string ⟨#[47]⟩, .string ⟨#[57]⟩] 9 j).trans (pcS_at hj)) hne5
        clear hfz
        go_region_law (first
          | (go_simp
             go_wp2_with (go_at_call 38; first
                | (refine (pick_rdr r 5 w.heap.size _ w5.drew hr5 (by omega)).mono fun e w6 hp => ?_; obtain ⟨q6, rfl, z0, z1, _, _, hg6, hr6⟩ := hp; have z3 := z1 (by omega); obtain ⟨j, rfl⟩ : ∃ j : Nat, q6 = j := Int.eq_ofNat_of_zero_le z0; have hj5 : j < 5 := (by omega); have hcn := (cellNew w6 #[.string ⟨#[]⟩, .string ⟨#[48]⟩, .string ⟨#[49]⟩, .string ⟨#[47]⟩, .string ⟨#[57]⟩] 9 j).trans (pcS_at hj5); have hH := sg_alloc (sg_pick (sg_drew _ _) hg6) (.cells #[.string ⟨#[]⟩, .string ⟨#[48]⟩, .string ⟨#[49]⟩, .string ⟨#[47]⟩, .string ⟨#[57]⟩] 9))
                | (refine (pick_rdr r 5 w.heap.size _ _ hr5a (by omega)).mono fun e w6 hp => ?_; obtain ⟨q6, rfl, z0, z1, _, _, hg6, hr6⟩ := hp; have z3 := z1 (by omega); obtain ⟨j, rfl⟩ : ∃ j : Nat, q6 = j := Int.eq_ofNat_of_zero_le z0; have hj5 : j < 5 := (by omega); have hcn : w6.cell? ⟨w5.heap.size, j, none⟩ = some (.string (pcS j)) := hcl5 w6 j hj5 hg6; have hH := sg_pick (sg_ad _ _ _) hg6))))
        all_goals
          have B := below_grown B hH.2 hrl5.1
          clear hH hr6 hg6 hcn hr5 hr5a
          go_wp2_with fail
          go_meet
          exact ⟨_, rfl, HFZ.out _, B⟩
      case rest =>
        obtain ⟨s, rfl, hs, b⟩ := hcut
        go_wp2
        go_ret
        exact ⟨s, rfl, hs, b⟩
    · have hd0 : decide (0 < T.size) = false := decide_eq_false h0
      have hd1 : decide ((0 : Int) < T.size) = false := decide_eq_false (by omega)
      go_wp2
      go_ret
      exact ⟨T, rfl, by omega, B⟩

end Go.Proofs.Ytaepoddlhghdpaa
