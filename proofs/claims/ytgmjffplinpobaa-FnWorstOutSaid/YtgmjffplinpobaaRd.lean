/- The reader that draws: l20Open, pick. -/
import Derived.Test.YtgmjffplinpobaaBits
import Derived.Laws.BitsAllLaws
import Derived.BigQuiet
namespace Go.Proofs.Ytgmjffplinpobaa
open Go Go.RowKit

/-- A slice reads as the bytes bs. -/
def BytesAt (w : World) (ao : Option Addr) (bs : List Int) : Prop :=
  0 < bs.length → ∃ b off, ao = some ⟨b, off, none⟩ ∧ ∀ j, j < bs.length → w.cell? ⟨b, off + j, none⟩ = some (.int .u8 (nth bs j))
def B8 (bs : List Int) : Prop := ∀ x ∈ bs, 0 ≤ x ∧ x ≤ 255
theorem B8.nth {bs : List Int} (h : B8 bs) {j : Nat} (hj : j < bs.length) : 0 ≤ nth bs j ∧ nth bs j ≤ 255 := h _ (nth_mem hj)
theorem BytesAt.keep {w w' : World} {ao : Option Addr} {bs : List Int} (h : BytesAt w ao bs) (hk : ∀ b o v, w.cell? ⟨b, o, none⟩ = some (.int .u8 v) → w'.cell? ⟨b, o, none⟩ = some (.int .u8 v)) : BytesAt w' ao bs := by
  intro h0
  obtain ⟨b, off, e, hc⟩ := h h0
  exact ⟨b, off, e, fun j hj => hk _ _ _ (hc j hj)⟩
theorem BytesAt.below {w w' : World} {ao : Option Addr} {bs : List Int} {B : Nat} (h : BytesAt w ao bs) (hb : Below B w w') (hB : w.heap.size ≤ B) : BytesAt w' ao bs := by
  refine h.keep fun b o v hc => ?_
  have hlt : b < w.heap.size := by
    by_cases hb : b < w.heap.size
    · exact hb
    · simp [World.cell?, Array.getElem?_eq_none (Nat.not_lt.1 hb)] at hc
  have e2 : w'.heap[b]? = w.heap[b]? := hb.block b (Nat.lt_of_lt_of_le hlt hB)
  simpa only [World.cell?, e2] using hc
theorem BytesAt.take {w : World} {ao : Option Addr} {bs : List Int} (h : BytesAt w ao bs) (k : Nat) : BytesAt w ao (bs.take k) := by
  intro h0
  obtain ⟨b, off, e, hc⟩ := h (by simp at h0; omega)
  refine ⟨b, off, e, fun j hj => ?_⟩
  have hj' : j < k ∧ j < bs.length := by rw [List.length_take] at hj; omega
  rw [nth_take hj'.1]; exact hc j hj'.2

theorem i64_xor {a b : Nat} (ha : a < 2 ^ 62) (hb : b < 2 ^ 62) : bits .xor .i64 (a : Int) (b : Int) = ((a ^^^ b : Nat) : Int) := by
  have hx : a ^^^ b < 2 ^ 62 := Nat.xor_lt_two_pow ha hb
  have h1 : (BitVec.ofInt 64 (a : Int)).toNat = a := by
    rw [BitVec.ofInt_natCast, BitVec.toNat_ofNat]; exact Nat.mod_eq_of_lt (by omega)
  have h2 : (BitVec.ofInt 64 (b : Int)).toNat = b := by
    rw [BitVec.ofInt_natCast, BitVec.toNat_ofNat]; exact Nat.mod_eq_of_lt (by omega)
  show IntKind.i64.wrap ((BitVec.ofInt 64 (a : Int) ^^^ BitVec.ofInt 64 (b : Int)).toNat : Int) = _
  rw [BitVec.toNat_xor, h1, h2]
  exact IntWalk.i64_in _ (by omega)

/-- The bytes lie elsewhere than the reader. -/
theorem BytesAt.set {w : World} {ao a1 : Option Addr} {bs : List Int} {r n c : Nat} {p : Int} {T : TypeId} (h : BytesAt w ao bs) (hr : Blk w r #[.slice a1 n c, .int .i64 p] T) (u : Value) : BytesAt (w.setCell ⟨r, 1, none⟩ u) ao bs := by
  refine h.keep fun b o v hc => ?_
  have hne : b ≠ r := by
    rintro rfl
    rw [hr.cell] at hc
    match o, hc with
    | 0, hc => simp at hc
    | 1, hc => simp at hc
    | o + 2, hc => simp at hc
  simp only [World.cell?] at hc ⊢
  rw [Below.heap_setCell _ _ _ _ hne]
  exact hc

/-- What a draw leaves: the reader one place on. -/
def Picked (w : World) (r : Nat) (ao : Option Addr) (l c : Nat) (p n : Int) (e : Ending) (w' : World) : Prop :=
  ∃ v : Int, e = .returned (.int .i64 v) ∧ 0 ≤ v ∧ (1 ≤ n → v < n) ∧ (n < 1 → v = 0) ∧ v ≤ 9223372036854775807 ∧ w.grownBy w' (some r) ∧ Blk w' r #[.slice ao l c, .int .i64 (p + 1)] 51

theorem Picked.mk {w : World} {r : Nat} {ao : Option Addr} {l c : Nat} {p n v : Int} (hr : Blk w r #[.slice ao l c, .int .i64 p] 51) (q : Nat) (h0 : 0 ≤ v) (h1 : 1 ≤ n → v < n) (h2 : n < 1 → v = 0) (h3 : v ≤ 9223372036854775807) :
    Picked w r ao l c p n (.returned (.int .i64 v)) ((w.setCell ⟨r, 1, none⟩ (.int .i64 (p + 1))).drewN q) :=
  have g := grownBy_setCell w r 1 (.int .i64 (p + 1))
  ⟨v, rfl, h0, h1, h2, h3, ⟨g.os, g.tape, g.output, g.size, g.block⟩, hr.set 1 (.int .i64 (p + 1))⟩

set_option maxRecDepth 100000 in
set_option maxHeartbeats 2000000 in
theorem pick_any (r : Nat) (ao : Option Addr) (bs : List Int) (l c : Nat) (p n : Int) (w : World) (hn : bs.length = l) (hl : l ≤ 1048576) (hr : Blk w r #[.slice ao l c, .int .i64 p] 51) (hp : 0 ≤ p) (hp1 : p ≤ 1099511627776)
    (hx : BytesAt w ao bs) (h8 : B8 bs) :
    Calls Try.prog 49 #[.pointer (some ⟨r, 0, none⟩), .int .i64 n] w (Picked w r ao l c p n) := by
  have HN := hid hn
  have HR := hid hr
  have H8 := hid h8
  clear hn h8
  have c1 := hr.at 1 rfl
  have f1 := hr.free 1
  have k1 := (hr.set 1 (.int .i64 (p + 1))).at 1 rfl
  have k0 := (hr.set 1 (.int .i64 (p + 1))).at 0 rfl
  have hx2 := hx.set hr (.int .i64 (p + 1))
  clear hr hx
  by_cases hn1 : n < 1
  · have hd : decide (n < 1) = true := decide_eq_true hn1
    go_enter Try.func49, Try.ntmps49
    go_wp2
    go_ret
    exact Picked.mk (n := n) (v := 0) HR.out 0 (Int.le_refl _) (by omega) (fun _ => rfl) (by omega)
  have hd : decide (n < 1) = false := decide_eq_false hn1
  by_cases hl0 : l = 0
  · subst hl0
    go_enter Try.func49, Try.ntmps49
    go_wp2
    go_ret
    exact Picked.mk (n := n) (v := 0) HR.out 0 (Int.le_refl _) (by omega) (fun _ => rfl) (by omega)
  have hbz : ((l : Int) == 0) = false := by simp; omega
  by_cases hpl : p < l
  · obtain ⟨k, hk⟩ : ∃ k : Nat, p = k := Int.eq_ofNat_of_zero_le hp
    subst hk
    obtain ⟨b, off, rfl, hc⟩ := hx2 (by rw [HN.out]; omega)
    have hkl : k < bs.length := by rw [HN.out]; omega
    have hck := hc k hkl
    have hb := H8.out.nth hkl
    obtain ⟨v, hv⟩ : ∃ v, nth bs k = v := ⟨_, rfl⟩
    rw [hv] at hck hb
    have hvm : Hid (0 ≤ v % n ∧ v % n < n ∧ v % n ≤ v) := ⟨Int.emod_nonneg _ (by omega), Int.emod_lt_of_pos _ (by omega), by
      have h1 := Int.mul_ediv_add_emod v n
      have h2 : 0 ≤ n * (v / n) := Int.mul_nonneg (by omega) (Int.ediv_nonneg hb.1 (by omega))
      omega⟩
    clear hc hx2
    go_enter Try.func49, Try.ntmps49
    go_wp2
    go_ret
    exact Picked.mk (n := n) (v := v % n) HR.out 0 hvm.out.1 (fun _ => hvm.out.2.1) (by omega) (by have := hvm.out.2.2; omega)
  obtain ⟨k, hk⟩ : ∃ k : Nat, p = k := Int.eq_ofNat_of_zero_le hp
  subst hk
  obtain ⟨b, off, rfl, hc⟩ := hx2 (by rw [HN.out]; omega)
  have hi1 : k % l < l := Nat.mod_lt _ (by omega)
  have hi2 : (k * 7 + 3) % l < l := Nat.mod_lt _ (by omega)
  have hc1 := hc (k % l) (by rw [HN.out]; exact hi1)
  have hc2 := hc ((k * 7 + 3) % l) (by rw [HN.out]; exact hi2)
  have hb1 := H8.out.nth (j := k % l) (by rw [HN.out]; exact hi1)
  have hb2 := H8.out.nth (j := (k * 7 + 3) % l) (by rw [HN.out]; exact hi2)
  generalize nth bs (k % l) = v1 at *
  generalize nth bs ((k * 7 + 3) % l) = v2 at *
  have ht1 : ((k : Int)).tmod l = ((k % l : Nat) : Int) := by rw [Int.tmod_eq_emod_of_nonneg (by omega)]; rfl
  have ht2 : ((k : Int) * 7 + 3).tmod l = (((k * 7 + 3) % l : Nat) : Int) := by rw [Int.tmod_eq_emod_of_nonneg (by omega)]; rfl
  have hq0 : ((k : Int)).tdiv l = ((k / l : Nat) : Int) := by rw [Int.tdiv_eq_ediv_of_nonneg (by omega)]; rfl
  have hq1 : k / l ≤ k := Nat.div_le_self _ _
  generalize k % l = i1 at *
  generalize (k * 7 + 3) % l = i2 at *
  generalize k / l = q at *
  have hd2 : decide ((k : Int) < l) = false := decide_eq_false (by omega)
  clear hc hx2
  go_enter Try.func49, Try.ntmps49
  go_wp2
  generalize hW : (w.setCell ⟨r, 1, none⟩ (.int .i64 ((k : Int) + 1))) = W at *
  have w7 : IntKind.i64.wrap ((k : Int) * 7) = k * 7 := IntWalk.i64_in _ (by omega)
  have w73 : IntKind.i64.wrap ((k : Int) * 7 + 3) = k * 7 + 3 := IntWalk.i64_in _ (by omega)
  go_quiet (fail)
  obtain ⟨x, hx⟩ : ∃ x : Nat, v1 * 131 + v2 * 1117 + (k : Int) * 29 + (q : Int) * 53 = x := Int.eq_ofNat_of_zero_le (by omega)
  have hxl : x < 2 ^ 62 := by omega
  rw [hx]
  have hxy : bits .xor .i64 (x : Int) ((x : Int) / 64) = ((x ^^^ x / 64 : Nat) : Int) := i64_xor (b := x / 64) hxl (by omega)
  have hyl : x ^^^ x / 64 < 2 ^ 62 := Nat.xor_lt_two_pow hxl (by omega)
  generalize x ^^^ x / 64 = y at *
  have hvm : Hid (0 ≤ (y : Int) % n ∧ (y : Int) % n < n ∧ (y : Int) % n ≤ y) := ⟨Int.emod_nonneg _ (by omega), Int.emod_lt_of_pos _ (by omega), by
    have h1 := Int.mul_ediv_add_emod (y : Int) n
    have h2 : 0 ≤ n * ((y : Int) / n) := Int.mul_nonneg (by omega) (Int.ediv_nonneg (by omega) (by omega))
    omega⟩
  clear hx
  go_wp2
  go_ret
  rw [← hW]
  exact Picked.mk (n := n) (v := (y : Int) % n) HR.out _ hvm.out.1 (fun _ => hvm.out.2.1) (by omega) (by have := hvm.out.2.2; omega)

/-- A reader at r, made when the heap had B blocks; N draws at most so far. -/
def Rdr (w : World) (B r : Nat) (N : Nat) : Prop :=
  ∃ (ao : Option Addr) (bs : List Int) (l c : Nat) (p : Int), bs.length = l ∧ l ≤ 2000 ∧ BytesAt w ao bs ∧ (∀ x, 0 < l → ao = some x → x.block < B) ∧ B8 bs ∧ Blk w r #[.slice ao l c, .int .i64 p] 51 ∧ 0 ≤ p ∧ p ≤ N ∧ B ≤ r

theorem Rdr.below {w w' : World} {B r N B' : Nat} (h : Rdr w B r N) (hb : Below B' w w') (hB : w.heap.size ≤ B') : Rdr w' B r N := by
  obtain ⟨ao, bs, l, c, p, h1, h2, h3, h4, h5, h6, h7⟩ := h
  exact ⟨ao, bs, l, c, p, h1, h2, h3.below hb hB, h4, h5, h6.below hb hB, h7⟩

theorem Rdr.lt {w : World} {B r N : Nat} (h : Rdr w B r N) : B ≤ r ∧ r < w.heap.size := by
  obtain ⟨ao, bs, l, c, p, h1, h2, h3, h4, h5, h6, h7, h8, h9⟩ := h
  exact ⟨h9, h6.lt⟩

theorem Rdr.kept {w w' : World} {B r N : Nat} {row : Option Nat} (h : Rdr w B r N) (hg : w.grownBy w' row) (hr : ∀ g, row = some g → B ≤ g ∧ g ≠ r) : Rdr w' B r N := by
  obtain ⟨ao, bs, l, c, p, h1, h2, h3, h4, h5, h6, h7⟩ := h
  refine ⟨ao, bs, l, c, p, h1, h2, ?_, h4, h5, h6.kept hg (fun e => (hr r e.symm).2 rfl), h7⟩
  intro h0
  obtain ⟨b, off, e, hc⟩ := h3 h0
  refine ⟨b, off, e, fun j hj => hg.cell (hc j hj) fun e2 => ?_⟩
  have := h4 _ (by omega) e
  have := (hr b e2.symm).1
  simp at *
  omega

theorem Rdr.drewN {w : World} {B r N : Nat} (h : Rdr w B r N) (q : Nat) : Rdr (w.drewN q) B r N := h

theorem Rdr.more {w : World} {B r N M : Nat} (h : Rdr w B r N) (hM : N ≤ M) : Rdr w B r M := by
  obtain ⟨ao, bs, l, c, p, h1, h2, h3, h4, h5, h6, h7, h8, h9⟩ := h
  exact ⟨ao, bs, l, c, p, h1, h2, h3, h4, h5, h6, h7, by omega, h9⟩

/-- What a draw hands back: a number below n. -/
def Draw (w : World) (B r N : Nat) (n : Int) (e : Ending) (w' : World) : Prop :=
  ∃ v : Int, e = .returned (.int .i64 v) ∧ 0 ≤ v ∧ (1 ≤ n → v < n) ∧ (n < 1 → v = 0) ∧ v ≤ 9223372036854775807 ∧ w.grownBy w' (some r) ∧ Rdr w' B r (N + 1)

theorem pick_rdr (r : Nat) (n : Int) (B N : Nat) (w : World) (h : Rdr w B r N) (hN : N ≤ 1099511627776) :
    Calls Try.prog 49 #[.pointer (some ⟨r, 0, none⟩), .int .i64 n] w (Draw w B r N n) := by
  obtain ⟨ao, bs, l, c, p, h1, h2, h3, h4, h5, h6, h7, h8, h9⟩ := h
  refine (pick_any r ao bs l c p n w h1 (by omega) h6 h7 (by omega) h3 h5).mono fun e w' hp => ?_
  obtain ⟨v, he, v0, v1, v2, v3, hg, hb⟩ := hp
  refine ⟨v, he, v0, v1, v2, v3, hg, ao, bs, l, c, p + 1, h1, h2, ?_, h4, h5, hb, by omega, by omega, h9⟩
  intro h0
  obtain ⟨b, off, e, hc⟩ := h3 h0
  refine ⟨b, off, e, fun j hj => hg.cell (hc j hj) fun e2 => ?_⟩
  have := h4 _ (by omega) e
  have e3 := Option.some.inj e2
  simp at *
  omega

/-- What a call that draws leaves: the reader's block alone may have changed. -/
theorem below_grown {W w w' : World} {r : Nat} (h : Below W.heap.size W w) (hg : w.grownBy w' (some r)) (hr : W.heap.size ≤ r) : Below W.heap.size W w' :=
  h.grown hg h.size (fun k hk => by have := Option.some.inj hk; omega)

/-- A reader that has been made. -/
def Opened (w : World) (e : Ending) (w' : World) : Prop :=
  ∃ r : Nat, e = .returned (.pointer (some ⟨r, 0, none⟩)) ∧ Rdr w' w.heap.size r 0 ∧ Below w.heap.size w w'

theorem B8.take {bs : List Int} (h : B8 bs) (k : Nat) : B8 (bs.take k) := fun x hx => h x (List.mem_of_mem_take hx)
theorem BytesAt.alloc {w : World} {ao : Option Addr} {bs : List Int} (h : BytesAt w ao bs) (o : Obj) : BytesAt (w.alloc o) ao bs :=
  h.below ((Below.refl w.heap.size w).alloc (Nat.le_refl _) o) (Nat.le_refl _)

theorem BytesAt.lt {w : World} {ao : Option Addr} {bs : List Int} (h : BytesAt w ao bs) (h0 : 0 < bs.length) : ∀ x, ao = some x → x.block < w.heap.size := by
  obtain ⟨b, off, rfl, hc⟩ := h h0
  intro x hx
  obtain rfl := Option.some.inj hx
  exact World.block_lt_of_cell? _ _ (hc 0 h0)

theorem Opened.mk {w w' : World} {ao : Option Addr} {bs : List Int} {l c : Nat} (hw : w' = w.alloc (.cells #[.slice ao l c, .int .i64 0] 51)) (hn : bs.length = l) (hl : l ≤ 2000) (hx : BytesAt w ao bs) (h8 : B8 bs) :
    Opened w (.returned (.pointer (some ⟨w.heap.size, 0, none⟩))) w' := by
  subst hw
  exact ⟨w.heap.size, rfl, ⟨ao, bs, l, c, 0, hn, hl, hx.alloc _, fun x h0 e => hx.lt (by omega) x e, h8, Blk.new w _ _, by omega, by omega, Nat.le_refl _⟩, (Below.refl _ _).alloc (Nat.le_refl _) _⟩

set_option maxRecDepth 100000 in
theorem l20Open_any (ao : Option Addr) (bs : List Int) (l c : Nat) (w : World) (hn : bs.length = l) (hlc : l ≤ c) (hcm : c ≤ 9223372036854775807) (hx : BytesAt w ao bs) (h8 : B8 bs) :
    Calls Try.prog 32 #[.slice ao l c] w (Opened w) := by
  have HN := hid hn
  have H8 := hid h8
  clear hn h8
  by_cases hl : 2000 < l
  · obtain ⟨b, off, rfl, _⟩ := hx (by rw [HN.out]; omega)
    have hd : decide ((2000 : Int) < l) = true := decide_eq_true (by omega)
    go_enter Try.func32, Try.ntmps32
    go_wp2
    go_ret
    exact Opened.mk rfl (by rw [List.length_take, HN.out]; omega) (Nat.le_refl _) (hx.take 2000) (H8.out.take 2000)
  · have hd : decide ((2000 : Int) < l) = false := decide_eq_false (by omega)
    go_enter Try.func32, Try.ntmps32
    go_wp2
    go_ret
    exact Opened.mk rfl HN.out (by omega) hx H8.out

end Go.Proofs.Ytgmjffplinpobaa
