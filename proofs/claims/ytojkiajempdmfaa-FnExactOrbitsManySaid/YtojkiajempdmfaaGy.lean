/- The walk of orbitSeq's iterator. -/
import Derived.Test.YtojkiajempdmfaaGx
import Derived.Test.YtojkiajempdmfaaGo
import Derived.Test.YtojkiajempdmfaaPj
import Derived.Test.YtojkiajempdmfaaPn
import Derived.Test.YtojkiajempdmfaaMv
import Derived.Deep.DeepCutAuto
import Derived.Stop.RegionWithIn
import Derived.TacticsInMore
import Derived.BigFrameIn
import Derived.Outline
namespace Go.Proofs.Ytojkiajempdmfaa
open Go Go.RowKit

theorem Own.kpx {bs : Nat} {w w' : World} {B : Nat} {v : Value} {xs : List Int} (h : Own w B v xs) (hk : KpX bs w w') (hB : bs < B) : Own w' B v xs := by
  refine ⟨h.1, ?_⟩
  rcases h.2 with h2 | ⟨g, cap, cur, rfl, hb, hg, rest⟩
  · exact .inl h2
  · exact .inr ⟨g, cap, cur, rfl, hb, hk.2 g _ (by omega) hg rfl, rest⟩
theorem GRow.kpx {bs : Nat} {w w' : World} {B : Nat} {S : Nat → Prop} {v : Value} {rs : List (List Int)} (h : GRow w B S v rs) (hk : KpX bs w w') (hB : bs < B) : GRow w' B S v rs := by
  obtain ⟨vals, h1, h2, h3, h4, h5⟩ := h
  refine ⟨vals, ⟨h1.1, ?_⟩, fun k hs => ⟨(h2 k hs).1, Nat.lt_of_lt_of_le (h2 k hs).2 hk.1.size⟩, h3, fun j u hu => ⟨(h4 j u hu).1.kpx hk hB, (h4 j u hu).2⟩, h5⟩
  rcases h1.2 with h2' | ⟨g, cap, cur, rfl, hb, hg, rest⟩
  · exact .inl h2'
  · exact .inr ⟨g, cap, cur, rfl, hb, hk.2 g _ (by omega) hg rfl, rest⟩
theorem Blk.kpx {bs : Nat} {w w' : World} {g : Nat} {cs : Array Value} {t : TypeId} (h : Blk w g cs t) (hk : KpX bs w w') (hg : g ≠ bs) : Blk w' g cs t := hk.2 g _ hg h rfl

/-- What the iterator has captured. -/
def Cap (B bs b1 b2 b3 : Nat) (y p : Int) (ao : Option Addr) (n c : Nat) (rs : List (List Int)) (w : World) : Prop :=
  Blk w b1 #[.int .i64 y] 3 ∧ Blk w b2 #[.int .i64 p] 3 ∧ Blk w b3 #[.slice ao n c] 22 ∧ (bs < b1 ∧ bs < b2 ∧ bs < b3) ∧ (b1 < B ∧ b2 < B ∧ b3 < B) ∧ B ≤ w.heap.size ∧ ∃ w0, RowsAt w0 ao rs ∧ w0.heap.size ≤ bs ∧ Below bs w0 w
theorem Cap.below {B bs b1 b2 b3 : Nat} {y p : Int} {ao : Option Addr} {n c : Nat} {rs : List (List Int)} {w w' : World} (h : Cap B bs b1 b2 b3 y p ao n c rs w) (hb : Below B w w') : Cap B bs b1 b2 b3 y p ao n c rs w' := by
  obtain ⟨h1, h2, h3, h4, h5, h6, w0, h7, h8, h9⟩ := h
  have hk : ∀ g cs t, g < B → Blk w g cs t → Blk w' g cs t := fun g cs t hg hh => by unfold Blk at *; rw [hb.block g hg]; exact hh
  exact ⟨hk _ _ _ h5.1 h1, hk _ _ _ h5.2.1 h2, hk _ _ _ h5.2.2 h3, h4, h5, Nat.le_trans h6 hb.size, w0, h7, h8, h9.trans (hb.mono (by omega))⟩
theorem Cap.kpx {B bs b1 b2 b3 : Nat} {y p : Int} {ao : Option Addr} {n c : Nat} {rs : List (List Int)} {w w' : World} (h : Cap B bs b1 b2 b3 y p ao n c rs w) (hk : KpX bs w w') : Cap B bs b1 b2 b3 y p ao n c rs w' := by
  obtain ⟨h1, h2, h3, h4, h5, h6, w0, h7, h8, h9⟩ := h
  exact ⟨h1.kpx hk (by omega), h2.kpx hk (by omega), h3.kpx hk (by omega), h4, h5, Nat.le_trans h6 hk.1.size, w0, h7, h8, h9.trans hk.1⟩
theorem Cap.rows {B bs b1 b2 b3 : Nat} {y p : Int} {ao : Option Addr} {n c : Nat} {rs : List (List Int)} {w : World} (h : Cap B bs b1 b2 b3 y p ao n c rs w) : RowsAt w ao rs := by
  obtain ⟨h1, h2, h3, h4, h5, h6, w0, h7, h8, h9⟩ := h
  exact h7.below h9 h8

theorem Cap.row {B bs b1 b2 b3 : Nat} {y p : Int} {ao : Option Addr} {n c j : Nat} {rs : List (List Int)} {w : World} (h : Cap B bs b1 b2 b3 y p ao n c rs w) (hj : j < rs.length) :
    ∃ b off a cc, ao = some ⟨b, off, none⟩ ∧ w.cell? ⟨b, off + j, none⟩ = some (.slice a (nthR rs j).length cc) ∧ (nthR rs j).length ≤ cc ∧ cc ≤ 9223372036854775807 ∧ ∀ w', Below bs w w' → IntsAt w' a (nthR rs j) := by
  obtain ⟨h1, h2, h3, h4, h5, h6, w0, h7, h8, h9⟩ := h
  obtain ⟨b, off, e, hr⟩ := h7 (by omega)
  obtain ⟨a, cc, hc, hl, hm, hi⟩ := hr j hj
  refine ⟨b, off, a, cc, e, ?_, hl, hm, fun w' hb => hi.below (h9.trans hb) h8⟩
  rw [h9.cell (p := ⟨b, off + j, none⟩) (Nat.lt_of_lt_of_le (World.block_lt_of_cell? _ _ hc) h8)]
  exact hc

/-- The places found, and how each is reached. -/
def OrbT (B : Nat) (wr : World) (q N : Nat) (a1 : Option Addr) (c1 : Nat) (a2 : Option Addr) (c2 : Nat) (out : List Int) : Prop :=
  ∃ S bys, Own wr B (.slice a1 N c1) out ∧ GRow wr B S (.slice a2 N c2) bys ∧ (∀ k, (Value.slice a1 N c1).ownBlock = some k → ¬ S k) ∧ out.length = N ∧ bys.length = N ∧ (∀ x ∈ bys, PermOk x ∧ x.length = q) ∧ Dis q out
theorem OrbT.below {B : Nat} {wr w' : World} {q N c1 c2 : Nat} {a1 a2 : Option Addr} {out : List Int} (h : OrbT B wr q N a1 c1 a2 c2 out) (hb : Below wr.heap.size wr w') : OrbT B w' q N a1 c1 a2 c2 out := by
  obtain ⟨S, bys, h1, h2, h3⟩ := h
  exact ⟨S, bys, h1.below hb (Nat.le_refl _), h2.below hb (Nat.le_refl _), h3⟩
theorem OrbT.kpx {B bs : Nat} {wr w' : World} {q N c1 c2 : Nat} {a1 a2 : Option Addr} {out : List Int} (h : OrbT B wr q N a1 c1 a2 c2 out) (hk : KpX bs wr w') (hB : bs < B) : OrbT B w' q N a1 c1 a2 c2 out := by
  obtain ⟨S, bys, h1, h2, h3⟩ := h
  exact ⟨S, bys, h1.kpx hk hB, h2.kpx hk hB, h3⟩
theorem OrbT.le {B : Nat} {wr : World} {q N c1 c2 : Nat} {a1 a2 : Option Addr} {out : List Int} (h : OrbT B wr q N a1 c1 a2 c2 out) : N ≤ q ∧ out.length = N ∧ Dis q out := by
  obtain ⟨S, bys, h1, h2, h3, h4, h5, h6, h7⟩ := h
  exact ⟨by have := dis_len h7; omega, h4, h7⟩
theorem OrbT.place {B : Nat} {wr : World} {q N c1 c2 k : Nat} {a1 a2 : Option Addr} {out : List Int} (h : OrbT B wr q N a1 c1 a2 c2 out) (hk : k < N) :
    ∃ g, a1 = some ⟨g, 0, none⟩ ∧ wr.cell? ⟨g, k, none⟩ = some (.int .i64 (nth out k)) ∧ 0 ≤ nth out k ∧ nth out k < q := by
  obtain ⟨S, bys, h1, h2, h3, h4, h5, h6, h7⟩ := h
  obtain ⟨g, rfl⟩ := h1.addr (by omega)
  have hm := h7.1 _ (nth_mem (xs := out) (j := k) (by omega))
  exact ⟨g, rfl, h1.cell (by omega), hm.1, hm.2⟩
theorem OrbT.bring {B : Nat} {wr : World} {q N c1 c2 k : Nat} {a1 a2 : Option Addr} {out : List Int} (h : OrbT B wr q N a1 c1 a2 c2 out) (hk : k < N) :
    ∃ g a c x, a2 = some ⟨g, 0, none⟩ ∧ wr.cell? ⟨g, k, none⟩ = some (.slice a q c) ∧ IntsAt wr a x ∧ PermOk x ∧ x.length = q ∧ q ≤ c := by
  obtain ⟨S, bys, h1, h2, h3, h4, h5, h6, h7⟩ := h
  obtain ⟨g, u, rfl, hc, ho, _⟩ := h2.row (k := k) (by omega)
  have hp := h6 _ (nthR_mem (rs := bys) (k := k) (by omega))
  obtain ⟨a, c, rfl, hi, hqc⟩ := ho.shapeN hp.2
  exact ⟨g, a, c, _, rfl, hc, hi, hp.1, hp.2, hqc⟩

theorem Stays.below {β : Type} {B : Nat} {J : β → World → Prop} (h : Stays B J) {s : β} {A C : World} (hs : J s A) (hb : Below A.heap.size A C) : J s C :=
  h s A C none hs ⟨hb.os, hb.tape, hb.output, hb.size, fun k hk _ => hb.block k hk⟩ (fun r e => by cases e)
theorem Stays.alloc {β : Type} {B : Nat} {J : β → World → Prop} (h : Stays B J) {s : β} {A : World} (hs : J s A) (o : Obj) : J s (A.alloc o) := h.below hs ((Below.refl _ _).alloc (Nat.le_refl _) o)
/-- 's>>t&1 == 0'. -/
theorem bit_test0 {m t : Nat} (hm : m < 2 ^ 62) : (bits .and .i64 ((m : Int) / 2 ^ t) 1 == 0) = !m.testBit t := by
  have h1 : ((m : Int) / 2 ^ t) = ((m / 2 ^ t : Nat) : Int) := by simp
  have h2 : m / 2 ^ t < 2 ^ 62 := Nat.lt_of_le_of_lt (Nat.div_le_self _ _) hm
  have h3 : bits .and .i64 (((m / 2 ^ t : Nat) : Int)) 1 = ((m / 2 ^ t &&& 1 : Nat) : Int) := i64_and h2 (by decide : (1 : Nat) < 2 ^ 62)
  rw [h1, h3, Nat.testBit_eq_decide_div_mod_eq, Nat.and_one_is_mod, Bool.eq_iff_iff]
  simp only [beq_iff_eq, Bool.not_eq_true', decide_eq_false_iff_not]
  omega

/-- What the iterator hands over: a place below 5, and a value. -/
abbrev PlaceV := { x : Nat × Value // x.1 < 5 }
abbrev encP (x : PlaceV) : Array Value := #[.int .i64 (x.1.1 : Int), x.1.2]
def placesP (xs : List PlaceV) : List Int := xs.map fun x => (x.1.1 : Int)
theorem placesP_snoc (xs : List PlaceV) (x : PlaceV) : placesP (xs ++ [x]) = placesP xs ++ [(x.1.1 : Int)] := by simp [placesP]

set_option maxRecDepth 100000 in
set_option maxHeartbeats 4000000 in
theorem orbitSeq_feeds (p : Int) (ao : Option Addr) (rs : List (List Int)) (n c y B bs b1 b2 b3 : Nat) (w : World) (hn : rs.length = n) (hl : n ≤ 1048576) (hok : OrbOk p rs y) (hcap : Cap B bs b1 b2 b3 y p ao n c rs w) (hB : B = w.heap.size) :
    Feeds Try.prog (37) #[.pointer (some ⟨b1, 0, none⟩), .pointer (some ⟨b2, 0, none⟩), .pointer (some ⟨b3, 0, none⟩)] encP bs (fun xs => placesP xs = orbL rs y) w := by
  intro l J W hW hJ hY h0
  have HN := hid hn
  have HMO := hid hok.1
  have HY := hid hY
  have HJ := hid hJ
  have HW := hid h0
  have hp1 := hok.1.1
  have hp5 := hok.1.2.1
  have hyp := hok.2.2
  have hn3 : n ≤ 3 := by have := hok.1.2.2.1; omega
  subst hB
  have hcW := hcap.below hW
  have hbsW : bs < W.heap.size := by obtain ⟨_, _, _, h4, h5, h6, _⟩ := hcW; omega
  have hBW : w.heap.size ≤ W.heap.size := hW.size
  obtain ⟨q, hq⟩ : ∃ q : Nat, p = q := Int.eq_ofNat_of_zero_le (by omega)
  have hlq : Hid ((noneL p).length = q) := by have := length_none (p := p) ⟨hp1, hp5⟩; unfold Hid; omega
  have hpn := hid (permOk_none (p := p) ⟨hp1, hp5⟩)
  have HQ := hid hq
  have hq5 : q ≤ 5 := by omega
  have hyq : y < q := by omega
  clear hok hcap hW hn hJ h0 hY hq
  have e1 := hcW.1.at 0 rfl
  have e2 := (hcW.2.1.alloc (.cells #[.int .i64 y] 3)).at 0 rfl
  have b0 : Below W.heap.size W (W.alloc (.cells #[.int .i64 y] 3)) := (Below.refl _ _).alloc (Nat.le_refl _) _
  have of := Own.lit1 W y (Nat.le_refl _)
  show Calls Try.prog (37) #[.func (.yield l) #[] #[], .pointer (some ⟨b1, 0, none⟩), .pointer (some ⟨b2, 0, none⟩), .pointer (some ⟨b3, 0, none⟩)] W _
  go_enter Try.func37, Try.ntmps37
  go_wp2_with fail
  refine (implPermNone_any p _).mono fun e w1 h => ?_
  obtain ⟨ao1, c1, rfl, o1, b1'⟩ := h.to hlq.out
  clear h e1 e2
  have b2' := b0.trans (b1'.mono b0.size)
  have c2 := hcW.below (b2'.mono hBW)
  have of2 := of.below b1' (Nat.le_refl _)
  have g2 := GRow.one (o1.lower (B' := W.heap.size) b0.size) (B := W.heap.size) b2'.size
  have hlt1 := World.ownsRow.lt o1
  have HLT := hid hlt1
  have hfs := World.ownsRow.lt of2 W.heap.size rfl
  have b3' := b2'.alloc b2'.size (.cells #[.slice ao1 q c1] 28)
  have c3 := hcW.below (b3'.mono hBW)
  have of3 := of2.alloc (.cells #[.slice ao1 q c1] 28)
  have hd3 : ∀ k, (Value.slice (some ⟨W.heap.size, 0, none⟩) 1 1).ownBlock = some k → ¬ (k = w1.heap.size ∨ (Value.slice ao1 q c1).ownBlock = some k) := fun k hk hs => by
    obtain rfl : W.heap.size = k := Option.some.inj hk
    rcases hs with hs | hs
    · omega
    · have := (HLT.out _ hs).1; rw [World.size_alloc] at this; omega
  have hd3 := hid hd3
  have e1 := c3.1.at 0 rfl
  have J1 := HJ.out [] W (w1.alloc (.cells #[.slice ao1 q c1] 28)) none HW.out ⟨b3'.os, b3'.tape, b3'.output, b3'.size, fun k hk _ => b3'.block k hk⟩ (fun r e => by cases e)
  have hst : OrbT W.heap.size (w1.alloc (.cells #[.slice ao1 q c1] 28)) q 1 (some ⟨W.heap.size, 0, none⟩) 1 (some ⟨w1.heap.size, 0, none⟩) 1 [(y : Int)] :=
    ⟨_, _, of3, g2, hd3.out, rfl, rfl, fun x hx => by rw [List.mem_singleton.1 hx]; exact ⟨hpn.out, hlq.out⟩, ⟨fun x hx => by rw [List.mem_singleton.1 hx]; omega, by simp⟩⟩
  have hwp : wrap64 (2 ^ y) = ((mask [(y : Int)] : Nat) : Int) := by rw [wrap_pow (by omega)]; simp [mask]
  have hrun : Hid (orbF rs 6 0 [(y : Int)] = orbL rs y) := rfl
  clear b0 of b1' b2' of2 g2 o1 hlt1 hfs of3 HLT
  go_wp2_with fail
  generalize (w1.alloc (.cells #[.slice ao1 q c1] 28)) = W3 at *
  generalize w1.heap.size = B2 at *
  clear e1 c2
  have HWP := hid hwp
  clear hwp
  go_loopw [5, 6, 7, 8, 10, 11, 38] (fun s5 s6 s7 s8 _ _ _ wr => ∃ (k N : Nat) (a1 : Option Addr) (c1 : Nat) (a2 : Option Addr) (c2 : Nat) (out : List Int) (pre : List PlaceV), s5 = .slice a1 N c1 ∧ s6 = .slice a2 N c2 ∧ s7 = .int .i64 (mask out : Nat) ∧ s8 = .int .i64 k ∧ k ≤ N ∧ N ≤ 5 ∧ OrbT W.heap.size wr q N a1 c1 a2 c2 out ∧ Hid (orbF rs (6 - k) k out = orbL rs y) ∧ Hid (placesP pre = out.take k) ∧ J pre wr ∧ Cap w.heap.size bs b1 b2 b3 y p ao n c rs wr) (fun _ _ _ s8 _ _ _ _ => 6 - (intOf s8).toNat)
  case atStart => exact ⟨0, 1, _, _, _, _, _, [], rfl, rfl, by rw [HWP.out], rfl, by omega, by omega, hst, hrun, rfl, J1, c3⟩
  case round =>
    clear hst hrun HWP J1 c3 hd3 hcW HW b3'
    obtain ⟨k, N, a1, c1, a2, c2, out, pre, rfl, rfl, rfl, rfl, hk, hN, hst, hrun, hpre, hJ, hC⟩ := hrel
    by_cases hlt : k < N
    · obtain ⟨g1, rfl, hc1, hx0, hxq⟩ := hst.place hlt
      obtain ⟨x, hx⟩ : ∃ x : Nat, nth out k = x := Int.eq_ofNat_of_zero_le hx0
      rw [hx] at hc1 hxq
      have HX := hid hx
      obtain ⟨g2, r2, rc2, xs2, rfl, hc2, _⟩ := hst.bring hlt
      have hx5 : x < 5 := by omega
      have JD := HJ.out pre wr wr.drew none hJ ⟨rfl, rfl, rfl, Nat.le_refl _, fun _ _ _ => rfl⟩ (fun r e => by cases e)
      have hyy := HY.out pre ⟨(x, .slice r2 q rc2), hx5⟩ wr.drew JD
      dsimp only [encP] at hyy
      obtain ⟨fn, tm, asn, bdy, hy, hR⟩ := hyy
      clear hx hx0 JD
      go_upto_region 6 with fail
      go_cut [35] (fun s35 wx => s35 = .bool false ∧ J (pre ++ [⟨(x, .slice r2 q rc2), hx5⟩]) wx ∧ KpX bs wr.drew wx)
      case first =>
        refine (wpIn_wide (n := 3)).1 ?_
        gi_region_with (refine hR.mono ?_; rintro e W3 ⟨rfl, hJ3, hK3⟩)
        all_goals gi_wp2
        all_goals go_meet
        all_goals exact ⟨rfl, hJ3, hK3⟩
      case rest =>
        obtain ⟨hs35, hJ2, hK2⟩ := hcut
        subst hs35
        have hst2 := (hst.below (Below.refl wr.heap.size wr).drew).kpx hK2 hbsW
        have hC2 := (hC.below ((Below.refl wr.heap.size wr).drew.mono hC.2.2.2.2.2.1)).kpx hK2
        have hpre2 : Hid (placesP (pre ++ [⟨(x, .slice r2 q rc2), hx5⟩]) = out.take (k + 1)) := by
          have hkl : k < out.length := by have := hst.le.2.1; omega
          unfold Hid
          rw [placesP_snoc, hpre.out, take_succ_nth hkl, HX.out]
        have hrun2 : Hid (orbF rs (6 - (k + 1)) (k + 1) (rowO x (rs.drop 0) out) = orbL rs y) := by
          have h1 := hrun.out
          rw [orbF_in (by omega) (by have := hst.le.2.1; omega), HX.out] at h1
          exact h1
        have e3 := hC2.2.2.1.at 0 rfl
        clear hst hC hJ hpre hrun hK2 hc1 hc2 hy hR
        generalize pre ++ [⟨(x, .slice r2 q rc2), hx5⟩] = pre2 at *
        go_wp2
        clear e3
        go_loopw [5, 6, 7, 10, 11, 38] (fun s5 s6 s7 _ _ s38 wi => ∃ (j N' : Nat) (a1' : Option Addr) (c1' : Nat) (a2' : Option Addr) (c2' : Nat) (out' : List Int), s5 = .slice a1' N' c1' ∧ s6 = .slice a2' N' c2' ∧ s7 = .int .i64 (mask out' : Nat) ∧ s38 = .int .i64 j ∧ j ≤ n ∧ k < N' ∧ N' ≤ 5 ∧ OrbT W.heap.size wi q N' a1' c1' a2' c2' out' ∧ Hid (nth out' k = x) ∧ Hid (orbF rs (6 - (k + 1)) (k + 1) (rowO x (rs.drop j) out') = orbL rs y) ∧ Hid (placesP pre2 = out'.take (k + 1)) ∧ J pre2 wi ∧ Cap w.heap.size bs b1 b2 b3 y p ao n c rs wi) (fun _ _ _ _ _ s38 _ => n - (intOf s38).toNat)
        case atStart => exact ⟨0, N, _, _, _, _, out, rfl, rfl, rfl, rfl, Nat.zero_le _, hlt, hN, hst2, HX, hrun2, hpre2, hJ2, hC2⟩
        case round =>
          clear hst2 hrun2 HX hpre2 hJ2 hC2 hlt hk hN
          obtain ⟨j, N, a1, c1, a2, c2, out, rfl, rfl, rfl, rfl, hj, hlt, hN, hst, hxo, hrun, hpre, hJ, hC⟩ := hrel
          by_cases hjn : j < n
          · have hjl : j < rs.length := by rw [HN.out]; exact hjn
            have hle := hst.le
            have hol := hid hle.2.1
            have hdis := hid hle.2.2
            clear hle
            obtain ⟨g1, rfl, hc1, _, _⟩ := hst.place hlt
            rw [hxo.out] at hc1
            obtain ⟨mb, mo, ma, mc, rfl, hcj, hl2, hcm, hin0⟩ := hC.row hjl
            have hin := hin0 wr (Below.refl _ _)
            have HIN := hid hin0
            clear hin0
            have hrow := movesOk_row HMO.out hjl
            have hrl : (nthR rs j).length = q := by have := HQ.out; omega
            have HRL := hid hrl
            have HRP := hid hrow.2
            rw [hrl] at hcj hl2
            obtain ⟨mb2, mo2, rfl, hct⟩ := hin (by omega)
            have hct := hct x (by omega)
            have htr : 0 ≤ nth (nthR rs j) x ∧ nth (nthR rs j) x < q := by have := hrow.2.2.2.1 _ (nth_mem (xs := nthR rs j) (j := x) (by omega)); rwa [hrl] at this
            obtain ⟨t, ht⟩ : ∃ t : Nat, nth (nthR rs j) x = t := Int.eq_ofNat_of_zero_le htr.1
            rw [ht] at hct htr
            have HT := hid ht
            have htq : t < q := by omega
            have hm5 : mask out < 2 ^ 5 := Nat.lt_of_lt_of_le (mask_lt out hdis.out.1) (Nat.pow_le_pow_right (by decide) hq5)
            have hm62 : mask out < 2 ^ 62 := Nat.lt_of_lt_of_le hm5 (by decide)
            have htest : Hid ((mask out).testBit t = decide ((t : Int) ∈ out)) := mask_test out hdis.out.1 t
            have hb0 := bit_test0 (m := mask out) (t := t) hm62
            rw [htest.out] at hb0
            have hmi : ((mask out : Nat) : Int) < 32 := by omega
            clear hrow ht hrl
            by_cases hmem : (t : Int) ∈ out
            · rw [decide_eq_true hmem] at hb0
              have hrun2 : Hid (orbF rs (6 - (k + 1)) (k + 1) (rowO x (rs.drop (j + 1)) out) = orbL rs y) := by
                have h1 := hrun.out
                rw [drop_nthR hjl, rowO, HT.out, addO_old hmem] at h1
                exact h1
              clear hmem
              go_wp2
              go_roundw
              case rel => exact ⟨j + 1, N, _, c1, a2, c2, out, rfl, rfl, rfl, by go_num, by omega, hlt, hN, hst, hxo, hrun2, hpre, hJ, hC⟩
              case measure => simp [intOf]; omega
            · rw [decide_eq_false hmem] at hb0
              have hrun2 : Hid (orbF rs (6 - (k + 1)) (k + 1) (rowO x (rs.drop (j + 1)) (out ++ [(t : Int)])) = orbL rs y) := by
                have h1 := hrun.out
                rw [drop_nthR hjl, rowO, HT.out, addO_new hmem] at h1
                exact h1
              have hdis2 := hid (dis_add hdis.out htr hmem)
              have hor := bit_or (m := mask out) (t := t) hm62 (by omega)
              have hsn : mask (out ++ [(t : Int)]) = mask out ||| 2 ^ t := by rw [mask_snoc]; rfl
              rw [← hsn] at hor
              have hxo2 : Hid (nth (out ++ [(t : Int)]) k = x) := (nth_app1 (by rw [hol.out]; exact hlt)).trans hxo.out
              have hpre2 : Hid (placesP pre2 = (out ++ [(t : Int)]).take (k + 1)) := by
                unfold Hid
                rw [hpre.out, List.take_append_of_le_length (by rw [hol.out]; omega)]
              have hLN : Hid ((out ++ [(t : Int)]).length = N + 1) := by have := hol.out; simp [Hid]; omega
              have hN1 : N + 1 ≤ 5 := by have := dis_len hdis2.out; rw [hLN.out] at this; omega
              obtain ⟨SS, bys, of, og, hdj, _, hbl, hbp, _⟩ := id hst
              have HDJ := hid hdj
              have HBL := hid hbl
              have HBP := hid hbp
              have hogl := hid og.lt
              have hogh := hid og.head
              have hofl := hid (World.ownsRow.lt of)
              have hWr : W.heap.size ≤ wr.heap.size := by have := (hofl.out g1 rfl); omega
              have hCB := hC.2.2.2.2.2.1
              have of1 := of.alloc (.cells #[.int .i64 t] 3)
              have ol1 := Own.lit1 wr (t : Int) (Nat.le_refl _)
              have hsz1 : W.heap.size ≤ (wr.alloc (.cells #[.int .i64 t] 3)).heap.size := by simp; omega
              clear hmem htest hdj hbl hbp hsn
              go_wp2_with (at_builtin; refine wpList_appendL rfl _ _ rfl rfl of1 rfl ol1 hsz1 ?hl1 ?_)
              case hl1 => rw [hol.out]; simp; omega
              intro v5 w5 of5 hg5 hat5
              obtain ⟨a5, c5, hv5, _, _⟩ := of5.shapeN hLN.out
              subst hv5
              have hAT5 := hid hat5
              have b5 : Below w.heap.size wr w5 := ((Below.refl wr.heap.size wr).alloc (Nat.le_refl _) (.cells #[.int .i64 t] 3)).mono hCB |>.grown hg5 (by simp; omega) (fun r e => by have := (hofl.out r e).1; omega)
              have J5 := HJ.out pre2 (wr.alloc (.cells #[.int .i64 t] 3)) w5 _ (HJ.out.alloc hJ _) hg5 (fun r e => (hofl.out r e).1)
              have C5 := hC.below b5
              have og5 := (og.alloc (.cells #[.int .i64 t] 3)).kept hg5 (fun k e hs => HDJ.out k e hs)
              have h15 : wr.heap.size + 1 ≤ w5.heap.size := by have := hg5.size; rwa [World.size_alloc] at this
              obtain ⟨g2, u2, e2, hc2, o2, _⟩ := og5.row (k := k) (by rw [HBL.out]; exact hlt)
              subst e2
              have hp2 := HBP.out _ (nthR_mem (rs := bys) (k := k) (by rw [HBL.out]; exact hlt))
              obtain ⟨r2, rc2, rfl, hi2, _⟩ := o2.shapeN hp2.2
              have hin5 := HIN.out w5 (b5.mono (by have := hC.2.2.2.1; have := hC.2.2.2.2.1; omega))
              have hx2 : Hid (nthR bys k = nthR bys k) := rfl
              obtain ⟨x2, hx2⟩ : ∃ x2, nthR bys k = x2 := ⟨_, rfl⟩
              rw [hx2] at hp2 hi2
              have HP2 := hid hp2.1
              have HL2 := hid hp2.2
              have hrng : Hid (∀ z ∈ x2, 0 ≤ z ∧ z < q) := fun z hz => by have := HP2.out.2.2.1 z hz; rw [HL2.out] at this; exact this
              have hal : Hid ((joinL x2 (nthR rs j)).length = q) := (length_joinL _ _).trans HL2.out
              have hpj := hid (permOk_join HP2.out HRP.out (by rw [HL2.out, HRL.out]))
              have hofl5 := hid (World.ownsRow.lt of5)
              have hd1 : decide (k < N) = true := decide_eq_true hlt
              clear hx2 hp2 o2 of og of1 ol1 hg5 hat5 hst hC hJ hc1 hct hcj hin
              go_wp2_with fail
              refine (permJoin_any r2 (some ⟨mb2, mo2, none⟩) x2 (nthR rs j) q q rc2 mc w5 HL2.out HRL.out (by omega) hi2 hin5 hrng.out).mono fun e w6 h => ?_
              obtain ⟨aj, cj, rfl, oj, b6⟩ := h.to hal.out
              clear h hi2 hin5 hc2
              have hojl := hid (World.ownsRow.lt oj)
              have of6 := of5.below b6 (Nat.le_refl _)
              have og6 := og5.below b6 (Nat.le_refl _)
              have J6 := HJ.out.below J5 b6
              have C6 := C5.below (b6.mono (by have := b5.size; omega))
              have h56 := b6.size
              have oj6 := oj.lower (B' := W.heap.size) (by omega)
              clear of5 og5 J5 C5 b6 oj b5
              go_wp2_with (at_builtin; refine wpList_appendG rfl _ _ rfl rfl (og6.alloc (.cells #[.slice aj q cj] 28)) (oj6.alloc (.cells #[.slice aj q cj] 28)) (fun k hk hs => by have := (hogl.out k hs).2; have := (hojl.out k hk).1; omega) (by simp; omega) ⟨w6.heap.size, 0, none⟩ 1 rfl (by rw [cellNew]; rfl) (by rw [HBL.out]; omega) ?_)
              intro v7 w7 og7 hg7
              have HBN : Hid ((bys ++ [joinL x2 (nthR rs j)]).length = N + 1) := by have := HBL.out; simp [Hid]; omega
              obtain ⟨a7, c7, rfl, _, _⟩ := og7.shapeN HBN.out
              have hg2S := hogh.out g2 rfl
              have hg2l := hogl.out g2 hg2S
              have hv5k : Hid (∀ k, (Value.slice a5 (N + 1) c5).ownBlock = some k → (k = g1 ∨ k = wr.heap.size + 1) ∧ k < w5.heap.size) := fun k hk => by
                refine ⟨?_, (hofl5.out k hk).2⟩
                rcases hAT5.out with e | e
                · rw [e] at hk; exact .inl (Option.some.inj hk).symm
                · rw [e] at hk; (try rw [World.size_alloc] at hk); exact .inr (Option.some.inj hk).symm
              have hg1S : ¬ SS g1 := HDJ.out g1 rfl
              have HG1 := hid hg1S
              have hg1l := (hofl.out g1 rfl).2
              have of7 := (of6.alloc (.cells #[.slice aj q cj] 28)).kept hg7 (by
                cases hb : (Value.slice a5 (N + 1) c5).ownBlock with
                | none => exact .inl rfl
                | some k =>
                  refine .inr fun e => ?_
                  have hk : k = g2 := Option.some.inj e
                  rcases (hv5k.out k hb).1 with e1 | e1
                  · exact HG1.out (by rw [← e1, hk]; exact hg2S)
                  · omega)
              have J7 := HJ.out pre2 _ w7 _ (HJ.out.alloc J6 (.cells #[.slice aj q cj] 28)) hg7 (fun r e => by have : g2 = r := Option.some.inj e; omega)
              have C7 := (C6.below ((Below.refl w6.heap.size w6).alloc (Nat.le_refl _) (.cells #[.slice aj q cj] 28) |>.mono C6.2.2.2.2.2.1)).below ((Below.refl w.heap.size (w6.alloc (.cells #[.slice aj q cj] 28))).grown hg7 (by have := C6.2.2.2.2.2.1; simp; omega) (fun r e => by have : g2 = r := Option.some.inj e; omega))
              have hst7 : OrbT W.heap.size w7 q (N + 1) a5 c5 a7 c7 (out ++ [(t : Int)]) := by
                refine ⟨_, _, of7, og7, fun k hk hs => ?_, hLN.out, HBN.out, fun z hz => ?_, hdis2.out⟩
                · have h1 := hv5k.out k hk
                  rcases hs with hs | hs | ⟨_, hs⟩
                  · rcases h1.1 with e | e
                    · rw [e] at hs; exact HG1.out hs
                    · have := (hogl.out k hs).2; omega
                  · have := (hojl.out k hs).1; omega
                  · (try rw [World.size_alloc] at hs); omega
                · rcases List.mem_append.1 hz with hz | hz
                  · exact HBP.out z hz
                  · rw [List.mem_singleton.1 hz]; exact ⟨hpj.out, hal.out⟩
              clear of6 og6 J6 C6 oj6 og7 hg7 of7 hg1S hg2S
              go_wp2
              go_roundw
              case rel => exact ⟨j + 1, N + 1, a5, c5, a7, c7, _, rfl, rfl, by first | rfl | rw [hor], by go_num, by omega, by omega, hN1, hst7, hxo2, hrun2, hpre2, J7, C7⟩
              case measure => simp [intOf]; omega
          · have hd : decide ((j : Int) < n) = false := decide_eq_false (by omega)
            have hrun2 : Hid (orbF rs (6 - (k + 1)) (k + 1) out = orbL rs y) := by
              have h1 := hrun.out
              rwa [List.drop_eq_nil_of_le (by rw [HN.out]; omega), rowO] at h1
            go_wp2
            go_roundw
            case rel => exact ⟨k + 1, N, a1, c1, a2, c2, out, pre2, rfl, rfl, rfl, by go_num, by omega, hN, hst, hrun2, hpre, hJ, hC⟩
            case measure => simp [intOf]; omega
    · have hd : decide (k < N) = false := decide_eq_false hlt
      have hfin : placesP pre = orbL rs y := by
        have h1 := hrun.out
        have h2 := hst.le.2.1
        rw [orbF_out (by omega)] at h1
        rw [hpre.out, List.take_of_length_le (by omega), h1]
      have hfin := hid hfin
      go_wp2
      go_end0
      exact ⟨⟨_, rfl⟩, pre, hfin.out, hJ⟩

end Go.Proofs.Ytojkiajempdmfaa
