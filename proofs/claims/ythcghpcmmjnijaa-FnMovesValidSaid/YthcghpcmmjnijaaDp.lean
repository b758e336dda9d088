/- DrawPermValid, DrawPermThen, DrawPermBack. -/
import Derived.Test.YthcghpcmmjnijaaDr
namespace Go.Proofs.Ythcghpcmmjnijaa
open Go Go.RowKit

theorem l20Perm_int (r B N p : Nat) (q n : Int) (w : World) (hq : q = p) (h : Rdr w B r N) (hN : N ≤ 1000000) (hp : p ≤ 100) (hn : n ≤ 1000) :
    Calls Try.prog 38 #[.pointer (some ⟨r, 0, none⟩), .int .i64 q, .int .i64 n] w (Drawn w B r (N + p + 2) p n) := by
  subst hq; exact l20Perm_any r B N p n w h hN hp hn

/-- A list that a law has drawn. -/
def DrawL (w : World) (e : Ending) (w' : World) : Prop :=
  ∃ ao m c ys, e = .returned (.slice ao m c) ∧ ys.length = m ∧ m ≤ c ∧ m ≤ 1000 ∧ Own w' w.heap.size (.slice ao m c) ys ∧ Below w.heap.size w w'

theorem drawPermValid_any (ao : Option Addr) (bs : List Int) (l c : Nat) (w : World) (hn : bs.length = l) (hlc : l ≤ c) (hcm : c ≤ 9223372036854775807) (hx : BytesAt w ao bs) (h8 : B8 bs) :
    Calls Try.prog 21 #[.slice ao l c] w (DrawL w) := by
  go_enter Try.func21, Try.ntmps21
  go_wp2_with fail
  refine (l20Open_any ao bs l c w hn hlc hcm hx h8).mono fun e w1 h => ?_
  obtain ⟨r, rfl, hr, B⟩ := h
  clear hx h8 hn
  go_wp2_with fail
  refine (pick_rdr r 6 w.heap.size 0 w1 hr (by omega)).mono fun e w2 h => ?_
  obtain ⟨v, rfl, v0, v1, _, v2, hg, hr2⟩ := h
  have v3 := v1 (by omega)
  have B2 := below_grown B hg hr2.lt.1
  clear v1 hr hg B
  obtain ⟨a, rfl⟩ : ∃ a : Nat, v = a := Int.eq_ofNat_of_zero_le v0
  go_wp2_with fail
  refine (l20Perm_int r w.heap.size _ (1 + a) _ 3 w2 (by omega) hr2 (by omega) (by omega) (by omega)).mono fun e w3 h => ?_
  obtain ⟨ao', m, cc, ys, rfl, hl, hmc, ⟨hm, _⟩, ho, hg, hr3⟩ := h
  have B3 := below_grown B2 hg hr3.lt.1
  have ho2 := ho.lower B2.size
  clear hr2 hr3 ho hg B2
  go_wp2
  go_ret
  exact ⟨ao', m, cc, ys, rfl, hl, hmc, by omega, ho2, B3⟩

theorem drawPermBack_any (ao : Option Addr) (bs : List Int) (l c : Nat) (w : World) (hn : bs.length = l) (hlc : l ≤ c) (hcm : c ≤ 9223372036854775807) (hx : BytesAt w ao bs) (h8 : B8 bs) :
    Calls Try.prog 26 #[.slice ao l c] w (DrawL w) := by
  go_enter Try.func26, Try.ntmps26
  go_wp2_with fail
  refine (l20Open_any ao bs l c w hn hlc hcm hx h8).mono fun e w1 h => ?_
  obtain ⟨r, rfl, hr, B⟩ := h
  clear hx h8 hn
  go_wp2_with fail
  refine (pick_rdr r 5 w.heap.size 0 w1 hr (by omega)).mono fun e w2 h => ?_
  obtain ⟨v, rfl, v0, v1, _, v2, hg, hr2⟩ := h
  have v3 := v1 (by omega)
  have B2 := below_grown B hg hr2.lt.1
  clear v1 hr hg B
  obtain ⟨a, rfl⟩ : ∃ a : Nat, v = a := Int.eq_ofNat_of_zero_le v0
  go_wp2_with fail
  refine (l20Perm_int r w.heap.size _ (1 + a) _ 6 w2 (by omega) hr2 (by omega) (by omega) (by omega)).mono fun e w3 h => ?_
  obtain ⟨ao', m, cc, ys, rfl, hl, hmc, ⟨hm, _⟩, ho, hg, hr3⟩ := h
  have B3 := below_grown B2 hg hr3.lt.1
  have ho2 := ho.lower B2.size
  clear hr2 hr3 ho hg B2
  go_wp2
  go_ret
  exact ⟨ao', m, cc, ys, rfl, hl, hmc, by omega, ho2, B3⟩

/-- Two lists that a law has drawn. -/
def DrawL2 (w : World) (e : Ending) (w' : World) : Prop :=
  ∃ ao m c ys bo k d zs, e = .returned (.tuple #[.slice ao m c, .slice bo k d]) ∧ ys.length = m ∧ m ≤ c ∧ m ≤ 1000 ∧ zs.length = k ∧ k ≤ d ∧ k ≤ 1000 ∧ Own w' w.heap.size (.slice ao m c) ys ∧ Own w' w.heap.size (.slice bo k d) zs ∧ Below w.heap.size w w'

theorem drawPermThen_any (ao : Option Addr) (bs : List Int) (l c : Nat) (w : World) (hn : bs.length = l) (hlc : l ≤ c) (hcm : c ≤ 9223372036854775807) (hx : BytesAt w ao bs) (h8 : B8 bs) :
    Calls Try.prog 23 #[.slice ao l c] w (DrawL2 w) := by
  go_enter Try.func23, Try.ntmps23
  go_wp2_with fail
  refine (l20Open_any ao bs l c w hn hlc hcm hx h8).mono fun e w1 h => ?_
  obtain ⟨r, rfl, hr, B⟩ := h
  clear hx h8 hn
  go_wp2_with fail
  refine (pick_rdr r 5 w.heap.size 0 w1 hr (by omega)).mono fun e w2 h => ?_
  obtain ⟨v, rfl, v0, v1, _, v2, hg, hr2⟩ := h
  have v3 := v1 (by omega)
  have B2 := below_grown B hg hr2.lt.1
  clear v1 hr hg B
  obtain ⟨a, rfl⟩ : ∃ a : Nat, v = a := Int.eq_ofNat_of_zero_le v0
  go_wp2_with fail
  refine (l20Perm_int r w.heap.size _ (1 + a) _ 12 w2 (by omega) hr2 (by omega) (by omega) (by omega)).mono fun e w3 h => ?_
  obtain ⟨ao1, m, c1, ys, rfl, hl, hmc, ⟨hm, _⟩, ho, hg, hr3⟩ := h
  have B3 := below_grown B2 hg hr3.lt.1
  have ho2 := ho.lower B2.size
  have hrl := hr2.lt
  have hob := ho.base'
  clear hr2 hg B2
  go_wp2_with fail
  refine (l20Perm_int r w.heap.size _ (1 + a) _ 12 w3 (by omega) hr3 (by omega) (by omega) (by omega)).mono fun e w4 h => ?_
  obtain ⟨ao2, k, c2, zs, rfl, hl2, hkc, ⟨hk, _⟩, ho3, hg, hr4⟩ := h
  have B4 := below_grown B3 hg hr4.lt.1
  have ho4 := ho3.lower B3.size
  have ho5 := ho2.kept hg (by
    rcases hob with e | e
    · exact .inl e
    · exact .inr (fun e2 => by have := e _ e2; omega))
  clear hr3 hr4 ho ho2 ho3 hg B3 hob
  go_wp2
  exact bodyPost_ret (v := .tuple #[.slice ao1 m c1, .slice ao2 k c2]) (by simp [results, Try.results23, go_sem]) rfl ⟨ao1, m, c1, ys, ao2, k, c2, zs, rfl, hl, hmc, by omega, hl2, hkc, by omega, ho5, ho4, B4⟩

end Go.Proofs.Ythcghpcmmjnijaa
