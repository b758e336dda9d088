/- alive: LinesMany(GridOf(2, 2)) == 4. -/
import Derived.Test.YtgmjffplinpobaaBits
import Derived.BigQuiet
import Derived.Deep.QuietTactic
import Derived.Deep.RegionHeld3
namespace Go.Proofs.Ytgmjffplinpobaa
open Go Go.RowKit

set_option maxRecDepth 100000 in
theorem joinPoints_any (xs : List Int) (n c B a b g : Nat) (x y : Nat) (w : World) (hn : xs.length = n) (hl : n ≤ 9) (ha : a < n) (hb : b < n) (hab : a ≠ b) (hx : Own w B (.slice (some ⟨g, 0, none⟩) n c) xs)
    (h1 : nth xs a = (x : Int)) (h2 : nth xs b = (y : Int)) (hxl : x < 1024) (hyl : y < 1024) :
    Calls Try.prog 50 #[.slice (some ⟨g, 0, none⟩) n c, .int .i64 a, .int .i64 b] w fun e w' => e = .returned (.tuple #[]) ∧ Own w' B (.slice (some ⟨g, 0, none⟩) n c) ((xs.set a ((x ||| 2 ^ b : Nat) : Int)).set b ((y ||| 2 ^ a : Nat) : Int)) ∧ w.grownBy w' (some g) := by
  have HN := hid hn
  have ca := hx.cell (j := a) (by omega)
  have cb := hx.cell (j := b) (by omega)
  have fa := hx.free hn.symm a
  have fb := hx.free hn.symm b
  rw [h1] at ca
  rw [h2] at cb
  have ho1 := hx.stored hn.symm a ((x ||| 2 ^ b : Nat) : Int)
  have ho2 := ho1.stored (by rw [List.length_set]; exact hn.symm) b ((y ||| 2 ^ a : Nat) : Int)
  have hg := grownBy_trans (grownBy_setCell w g a (.int .i64 ((x ||| 2 ^ b : Nat) : Int))) (grownBy_setCell _ g b (.int .i64 ((y ||| 2 ^ a : Nat) : Int)))
  have o1 : bits .or .i64 (x : Int) (wrap64 (2 ^ b)) = ((x ||| 2 ^ b : Nat) : Int) := bit_or (by omega) (by omega)
  have o2 : bits .or .i64 (y : Int) (wrap64 (2 ^ a)) = ((y ||| 2 ^ a : Nat) : Int) := bit_or (by omega) (by omega)
  generalize ((x ||| 2 ^ b : Nat) : Int) = X at *
  generalize ((y ||| 2 ^ a : Nat) : Int) = Y at *
  clear hn h1 h2 hx ho1
  go_enter Try.func50, Try.ntmps50
  go_wp2
  go_region
  have hab' : ¬ (b = a) := fun e => hab e.symm
  go_wp2
  go_region
  go_wp2
  exact bodyPost_end (v := .tuple #[]) (by simp [results, Try.results50]) rfl ⟨rfl, ho2, ⟨hg.os, hg.tape, hg.output, hg.size, hg.block⟩⟩

/-- A row that this call made, by its list, and the world otherwise as before. -/
def St (_w : World) (B g c : Nat) (R wr : World) (xs : List Int) : Prop := Own wr B (.slice (some ⟨g, 0, none⟩) 4 c) xs ∧ R.grownBy wr (some g)

theorem St.join {w wr : World} {B g c : Nat} {R : World} {xs : List Int} (a b x y : Nat) (ys : List Int) (i j : Int) (h : St w B g c R wr xs) (hi : i = a) (hj : j = b) (hn : xs.length = 4) (ha : a < 4) (hb : b < 4) (hab : a ≠ b) (h1 : nth xs a = (x : Int)) (h2 : nth xs b = (y : Int)) (hxl : x < 1024) (hyl : y < 1024)
    (hy : (xs.set a ((x ||| 2 ^ b : Nat) : Int)).set b ((y ||| 2 ^ a : Nat) : Int) = ys) :
    Calls Try.prog 50 #[.slice (some ⟨g, 0, none⟩) 4 c, .int .i64 i, .int .i64 j] wr fun e w' => e = .returned (.tuple #[]) ∧ St w B g c R w' ys := by
  subst hi hj hy
  exact (joinPoints_any xs 4 c B a b g x y wr hn (by omega) ha hb hab h.1 h1 h2 hxl hyl).mono fun _ _ ⟨h1, h2, h3⟩ => ⟨h1, h2, grownBy_trans h.2 h3⟩

set_option maxRecDepth 100000 in
set_option maxHeartbeats 2000000 in
theorem gridOf22 (w : World) :
    Calls Try.prog 39 #[.int .i64 2, .int .i64 2] w fun e w' => ∃ g c, e = .returned (.agg #[.slice (some ⟨g, 0, none⟩) 4 c]) ∧ 4 ≤ c ∧ Own w' w.heap.size (.slice (some ⟨g, 0, none⟩) 4 c) [6, 9, 9, 6] ∧ Below w.heap.size w w' := by
  have B := (Below.refl w.heap.size w).alloc (Nat.le_refl _) (.cells #[.slice none 0 0] 25)
  have bk := Blk.new w #[.slice none 0 0] 25
  obtain ⟨i0, hi, hz0, hz1, hz2⟩ := info_parts Try.infoInt
  go_enter Try.func39, Try.ntmps39
  go_wp2_with (at_make; refine wpList_make_full _ rfl _ _ 23 rfl (w.heap.size + 1) 3 i0 (.int .i64 0) 1 Try.underlying23 hi hz0 hz1 _ _ _ _ 4 rfl rfl rfl rfl ?m1 ?m2 ?m3 ?_)
  case m1 => rw [hz2]; omega
  case m2 => unfold maxLen; omega
  case m3 => simp
  generalize hW : (w.alloc (.cells #[.slice none 0 0] 25)) = W at *
  have hWs : W.heap.size = w.heap.size + 1 := by rw [← hW]; simp
  intro w1 hown hgrow
  have ho : Own w1 (w.heap.size + 1) (.slice (some ⟨w.heap.size + 1, 0, none⟩) 4 4) [0, 0, 0, 0] := Own.made hown
  have B1 : Below w.heap.size w w1 := B.grown hgrow B.size (by simp)
  have b1 := bk.kept hgrow (by simp)
  have S0 : St w (w.heap.size + 1) (w.heap.size + 1) 4 w1 w1 [0, 0, 0, 0] := ⟨ho, grownBy_refl _ _⟩
  have hgl := ho.base.2
  clear hown hgrow hi hz0 hz1 hz2 i0 B bk ho hW hWs
  generalize hg : w.heap.size + 1 = g at *
  go_wp2
  go_loopw [6, 7, 8, 35, 36] (fun _ _ _ i _ wr => (i = .int .i64 0 ∧ St w g g 4 w1 wr [0, 0, 0, 0]) ∨ (i = .int .i64 1 ∧ St w g g 4 w1 wr [6, 9, 1, 2]) ∨ (i = .int .i64 2 ∧ St w g g 4 w1 wr [6, 9, 9, 6])) (fun _ _ _ i _ _ => 2 - (intOf i).toNat)
  case atStart => exact .inl ⟨rfl, S0⟩
  case round =>
    clear S0
    rcases hrel with ⟨rfl, hS⟩ | ⟨rfl, hS⟩ | ⟨rfl, hS⟩
    · go_wp2
      go_loopw [7, 8, 39, 40] (fun _ _ i _ wr => (i = .int .i64 0 ∧ St w g g 4 w1 wr [0, 0, 0, 0]) ∨ (i = .int .i64 1 ∧ St w g g 4 w1 wr [6, 1, 1, 0]) ∨ (i = .int .i64 2 ∧ St w g g 4 w1 wr [6, 9, 1, 2])) (fun _ _ i _ _ => 2 - (intOf i).toNat)
      case atStart => exact .inl ⟨rfl, hS⟩
      case round =>
        clear hS
        rcases hrel with ⟨rfl, hS⟩ | ⟨rfl, hS⟩ | ⟨rfl, hS⟩
        · go_wp2_with fail
          refine (St.join 0 1 0 0 [2, 1, 0, 0] 0 1 hS rfl rfl rfl (by omega) (by omega) (by omega) rfl rfl (by omega) (by omega) (by decide)).mono fun e w2 h => ?_
          obtain ⟨rfl, hS2⟩ := h
          clear hS
          go_wp2_with fail
          refine (St.join 0 2 2 0 [6, 1, 1, 0] 0 2 hS2 rfl rfl rfl (by omega) (by omega) (by omega) rfl rfl (by omega) (by omega) (by decide)).mono fun e w3 h => ?_
          obtain ⟨rfl, hS3⟩ := h
          clear hS2
          go_wp2
          go_roundw
          case rel => exact .inr (.inl ⟨rfl, hS3⟩)
          case measure => simp [intOf]
        · go_wp2_with fail
          refine (St.join 1 3 1 0 [6, 9, 1, 2] 1 3 hS rfl rfl rfl (by omega) (by omega) (by omega) rfl rfl (by omega) (by omega) (by decide)).mono fun e w2 h => ?_
          obtain ⟨rfl, hS2⟩ := h
          clear hS
          go_wp2
          go_roundw
          case rel => exact .inr (.inr ⟨rfl, hS2⟩)
          case measure => simp [intOf]
        · go_wp2
          go_roundw
          case rel => exact .inr (.inl ⟨rfl, hS⟩)
          case measure => simp [intOf]
    · go_wp2
      go_loopw [7, 8, 39, 40] (fun _ _ i _ wr => (i = .int .i64 0 ∧ St w g g 4 w1 wr [6, 9, 1, 2]) ∨ (i = .int .i64 1 ∧ St w g g 4 w1 wr [6, 9, 9, 6]) ∨ (i = .int .i64 2 ∧ St w g g 4 w1 wr [6, 9, 9, 6])) (fun _ _ i _ _ => 2 - (intOf i).toNat)
      case atStart => exact .inl ⟨rfl, hS⟩
      case round =>
        clear hS
        rcases hrel with ⟨rfl, hS⟩ | ⟨rfl, hS⟩ | ⟨rfl, hS⟩
        · go_wp2_with fail
          refine (St.join 2 3 1 2 [6, 9, 9, 6] 2 3 hS rfl rfl rfl (by omega) (by omega) (by omega) rfl rfl (by omega) (by omega) (by decide)).mono fun e w2 h => ?_
          obtain ⟨rfl, hS2⟩ := h
          clear hS
          go_wp2
          go_roundw
          case rel => exact .inr (.inl ⟨rfl, hS2⟩)
          case measure => simp [intOf]
        · go_wp2
          go_roundw
          case rel => exact .inr (.inr ⟨rfl, hS⟩)
          case measure => simp [intOf]
        · go_wp2
          go_roundw
          case rel => exact .inr (.inr ⟨rfl, hS⟩)
          case measure => simp [intOf]
    · have hg1 := hS.1.base
      have hb2 := b1.kept hS.2 (fun e => by have := Option.some.inj e; omega)
      have g0 := hb2.cell 0
      have f0 := hb2.free 0
      have hB2 : Below w.heap.size w wr := B1.trans ⟨hS.2.os, hS.2.tape, hS.2.output, hS.2.size, fun k hk => hS.2.block k (by omega) (fun e => by have := Option.some.inj e; omega)⟩
      have B3 := hB2.setCell (p := ⟨w.heap.size, 0, none⟩) (Nat.le_refl _) (.slice (some ⟨g, 0, none⟩) 4 4)
      have o3 := (hS.1.setOther w.heap.size 0 (.slice (some ⟨g, 0, none⟩) 4 4) (hS.1.ne_of_lt (by omega))).lower (B' := w.heap.size) (by omega)
      clear hS b1 B1 hb2 hB2
      go_wp2
      exact bodyPost_ret (v := .agg #[.slice (some ⟨g, 0, none⟩) 4 4]) (by simp [results, Try.results39, go_sem, g0]) rfl ⟨g, 4, rfl, Nat.le_refl _, o3, B3⟩

/-- 6 and 9 have two bits. -/
theorem countBits_69 (v : Int) (hv : v = 6 ∨ v = 9) (w : World) :
    Calls Try.prog 34 #[.int .i64 v] w fun e w' => e = .returned (.int .i64 2) ∧ w = w' := by
  rcases hv with rfl | rfl
  · go_enter Try.func34, Try.ntmps34
    go_wp2
    go_loop [0, 3] (fun s n => (s = .int .i64 6 ∧ n = .int .i64 0) ∨ (s = .int .i64 4 ∧ n = .int .i64 1) ∨ (s = .int .i64 0 ∧ n = .int .i64 2)) (fun _ n => 2 - (intOf n).toNat)
    case atStart => exact .inl ⟨rfl, rfl⟩
    case round =>
      rcases hrel with ⟨rfl, rfl⟩ | ⟨rfl, rfl⟩ | ⟨rfl, rfl⟩
      · go_wp2
        go_round
        case rel => exact .inr (.inl ⟨rfl, rfl⟩)
        case measure => simp [intOf]
      · go_wp2
        go_round
        case rel => exact .inr (.inr ⟨rfl, rfl⟩)
        case measure => simp [intOf]
      · go_wp2
        go_ret
        exact ⟨rfl, rfl⟩
  · go_enter Try.func34, Try.ntmps34
    go_wp2
    go_loop [0, 3] (fun s n => (s = .int .i64 9 ∧ n = .int .i64 0) ∨ (s = .int .i64 8 ∧ n = .int .i64 1) ∨ (s = .int .i64 0 ∧ n = .int .i64 2)) (fun _ n => 2 - (intOf n).toNat)
    case atStart => exact .inl ⟨rfl, rfl⟩
    case round =>
      rcases hrel with ⟨rfl, rfl⟩ | ⟨rfl, rfl⟩ | ⟨rfl, rfl⟩
      · go_wp2
        go_round
        case rel => exact .inr (.inl ⟨rfl, rfl⟩)
        case measure => simp [intOf]
      · go_wp2
        go_round
        case rel => exact .inr (.inr ⟨rfl, rfl⟩)
        case measure => simp [intOf]
      · go_wp2
        go_ret
        exact ⟨rfl, rfl⟩

set_option maxRecDepth 100000 in
set_option maxHeartbeats 4000000 in
theorem graphValid22 (g c B : Nat) (w : World) (hx : Own w B (.slice (some ⟨g, 0, none⟩) 4 c) [6, 9, 9, 6]) :
    Calls Try.prog 30 #[.agg #[.slice (some ⟨g, 0, none⟩) 4 c]] w fun e w' => e = .returned (.bool true) ∧ Below w.heap.size w w' := by
  have bel := (Below.refl w.heap.size w).alloc (Nat.le_refl _) (.cells #[.slice (some ⟨g, 0, none⟩) 4 c] 25)
  have k0 := cellNew w #[.slice (some ⟨g, 0, none⟩) 4 c] 25 0
  have hx1 := hx.alloc (.cells #[.slice (some ⟨g, 0, none⟩) 4 c] 25)
  have c0 : (w.alloc (.cells #[.slice (some ⟨g, 0, none⟩) 4 c] 25)).cell? ⟨g, 0, none⟩ = some (.int .i64 6) := hx1.cell (j := 0) (by decide)
  have c1 : (w.alloc (.cells #[.slice (some ⟨g, 0, none⟩) 4 c] 25)).cell? ⟨g, 1, none⟩ = some (.int .i64 9) := hx1.cell (j := 1) (by decide)
  have c2 : (w.alloc (.cells #[.slice (some ⟨g, 0, none⟩) 4 c] 25)).cell? ⟨g, 2, none⟩ = some (.int .i64 9) := hx1.cell (j := 2) (by decide)
  have c3 : (w.alloc (.cells #[.slice (some ⟨g, 0, none⟩) 4 c] 25)).cell? ⟨g, 3, none⟩ = some (.int .i64 6) := hx1.cell (j := 3) (by decide)
  clear hx hx1
  go_enter Try.func30, Try.ntmps30
  go_wp2
  generalize hW : (w.alloc (.cells #[.slice (some ⟨g, 0, none⟩) 4 c] 25)) = W at *
  clear hW
  go_loop [4, 5, 21] (fun _ _ i => i = .int .i64 0 ∨ i = .int .i64 1 ∨ i = .int .i64 2 ∨ i = .int .i64 3 ∨ i = .int .i64 4) (fun _ _ i => 4 - (intOf i).toNat)
  case atStart => exact .inl rfl
  case round =>
    rcases hrel with rfl | rfl | rfl | rfl | rfl
    · go_wp2
      go_round
      case rel => exact .inr (.inl rfl)
      case measure => simp [intOf]
    · go_wp2
      go_round
      case rel => exact .inr (.inr (.inl rfl))
      case measure => simp [intOf]
    · go_wp2
      go_round
      case rel => exact .inr (.inr (.inr (.inl rfl)))
      case measure => simp [intOf]
    · go_wp2
      go_round
      case rel => exact .inr (.inr (.inr (.inr rfl)))
      case measure => simp [intOf]
    · go_wp2
      go_loopw [6, 7, 8, 45] (fun _ _ _ i wr => (i = .int .i64 0 ∨ i = .int .i64 1 ∨ i = .int .i64 2 ∨ i = .int .i64 3 ∨ i = .int .i64 4) ∧ ∃ q, wr = W.drewN q) (fun _ _ _ i _ => 4 - (intOf i).toNat)
      case atStart => exact ⟨.inl rfl, 0, rfl⟩
      case round =>
        obtain ⟨hi, q, rfl⟩ := hrel
        rcases hi with rfl | rfl | rfl | rfl | rfl
        · go_wp2
          go_loopw [8, 51] (fun _ i wr => (i = .int .i64 0 ∨ i = .int .i64 1 ∨ i = .int .i64 2 ∨ i = .int .i64 3 ∨ i = .int .i64 4) ∧ ∃ q, wr = W.drewN q) (fun _ i _ => 4 - (intOf i).toNat)
          case atStart => exact ⟨.inl rfl, q, rfl⟩
          case round =>
            clear q
            obtain ⟨hi, q, rfl⟩ := hrel
            rcases hi with rfl | rfl | rfl | rfl | rfl
            · go_wp2
              go_quiet (fail)
              go_wp2
              go_roundw
              case rel => exact ⟨.inr (.inl rfl), _, rfl⟩
              case measure => simp [intOf]
            · go_wp2
              go_quiet (fail)
              go_wp2
              go_roundw
              case rel => exact ⟨.inr (.inr (.inl rfl)), _, rfl⟩
              case measure => simp [intOf]
            · go_wp2
              go_quiet (fail)
              go_wp2
              go_roundw
              case rel => exact ⟨.inr (.inr (.inr (.inl rfl))), _, rfl⟩
              case measure => simp [intOf]
            · go_wp2
              go_quiet (fail)
              go_wp2
              go_roundw
              case rel => exact ⟨.inr (.inr (.inr (.inr rfl))), _, rfl⟩
              case measure => simp [intOf]
            · go_wp2
              go_roundw
              case rel => exact ⟨.inr (.inl rfl), q, rfl⟩
              case measure => simp [intOf]
        · go_wp2
          go_loopw [8, 51] (fun _ i wr => (i = .int .i64 0 ∨ i = .int .i64 1 ∨ i = .int .i64 2 ∨ i = .int .i64 3 ∨ i = .int .i64 4) ∧ ∃ q, wr = W.drewN q) (fun _ i _ => 4 - (intOf i).toNat)
          case atStart => exact ⟨.inl rfl, q, rfl⟩
          case round =>
            clear q
            obtain ⟨hi, q, rfl⟩ := hrel
            rcases hi with rfl | rfl | rfl | rfl | rfl
            · go_wp2
              go_quiet (fail)
              go_wp2
              go_roundw
              case rel => exact ⟨.inr (.inl rfl), _, rfl⟩
              case measure => simp [intOf]
            · go_wp2
              go_quiet (fail)
              go_wp2
              go_roundw
              case rel => exact ⟨.inr (.inr (.inl rfl)), _, rfl⟩
              case measure => simp [intOf]
            · go_wp2
              go_quiet (fail)
              go_wp2
              go_roundw
              case rel => exact ⟨.inr (.inr (.inr (.inl rfl))), _, rfl⟩
              case measure => simp [intOf]
            · go_wp2
              go_quiet (fail)
              go_wp2
              go_roundw
              case rel => exact ⟨.inr (.inr (.inr (.inr rfl))), _, rfl⟩
              case measure => simp [intOf]
            · go_wp2
              go_roundw
              case rel => exact ⟨.inr (.inr (.inl rfl)), q, rfl⟩
              case measure => simp [intOf]
        · go_wp2
          go_loopw [8, 51] (fun _ i wr => (i = .int .i64 0 ∨ i = .int .i64 1 ∨ i = .int .i64 2 ∨ i = .int .i64 3 ∨ i = .int .i64 4) ∧ ∃ q, wr = W.drewN q) (fun _ i _ => 4 - (intOf i).toNat)
          case atStart => exact ⟨.inl rfl, q, rfl⟩
          case round =>
            clear q
            obtain ⟨hi, q, rfl⟩ := hrel
            rcases hi with rfl | rfl | rfl | rfl | rfl
            · go_wp2
              go_quiet (fail)
              go_wp2
              go_roundw
              case rel => exact ⟨.inr (.inl rfl), _, rfl⟩
              case measure => simp [intOf]
            · go_wp2
              go_quiet (fail)
              go_wp2
              go_roundw
              case rel => exact ⟨.inr (.inr (.inl rfl)), _, rfl⟩
              case measure => simp [intOf]
            · go_wp2
              go_quiet (fail)
              go_wp2
              go_roundw
              case rel => exact ⟨.inr (.inr (.inr (.inl rfl))), _, rfl⟩
              case measure => simp [intOf]
            · go_wp2
              go_quiet (fail)
              go_wp2
              go_roundw
              case rel => exact ⟨.inr (.inr (.inr (.inr rfl))), _, rfl⟩
              case measure => simp [intOf]
            · go_wp2
              go_roundw
              case rel => exact ⟨.inr (.inr (.inr (.inl rfl))), q, rfl⟩
              case measure => simp [intOf]
        · go_wp2
          go_loopw [8, 51] (fun _ i wr => (i = .int .i64 0 ∨ i = .int .i64 1 ∨ i = .int .i64 2 ∨ i = .int .i64 3 ∨ i = .int .i64 4) ∧ ∃ q, wr = W.drewN q) (fun _ i _ => 4 - (intOf i).toNat)
          case atStart => exact ⟨.inl rfl, q, rfl⟩
          case round =>
            clear q
            obtain ⟨hi, q, rfl⟩ := hrel
            rcases hi with rfl | rfl | rfl | rfl | rfl
            · go_wp2
              go_quiet (fail)
              go_wp2
              go_roundw
              case rel => exact ⟨.inr (.inl rfl), _, rfl⟩
              case measure => simp [intOf]
            · go_wp2
              go_quiet (fail)
              go_wp2
              go_roundw
              case rel => exact ⟨.inr (.inr (.inl rfl)), _, rfl⟩
              case measure => simp [intOf]
            · go_wp2
              go_quiet (fail)
              go_wp2
              go_roundw
              case rel => exact ⟨.inr (.inr (.inr (.inl rfl))), _, rfl⟩
              case measure => simp [intOf]
            · go_wp2
              go_quiet (fail)
              go_wp2
              go_roundw
              case rel => exact ⟨.inr (.inr (.inr (.inr rfl))), _, rfl⟩
              case measure => simp [intOf]
            · go_wp2
              go_roundw
              case rel => exact ⟨.inr (.inr (.inr (.inr rfl))), q, rfl⟩
              case measure => simp [intOf]
        · go_wp2
          go_ret
          exact ⟨rfl, below_drewN bel q⟩

set_option maxRecDepth 100000 in
set_option maxHeartbeats 4000000 in
theorem linesMany22 (g c B : Nat) (w : World) (hx : Own w B (.slice (some ⟨g, 0, none⟩) 4 c) [6, 9, 9, 6]) :
    Calls Try.prog 38 #[.agg #[.slice (some ⟨g, 0, none⟩) 4 c]] w fun e w' => e = .returned (.int .i64 4) ∧ Below w.heap.size w w' := by
  have bel := (Below.refl w.heap.size w).alloc (Nat.le_refl _) (.cells #[.slice (some ⟨g, 0, none⟩) 4 c] 25)
  have bk := Blk.new w #[.slice (some ⟨g, 0, none⟩) 4 c] 25
  have k0 := cellNew w #[.slice (some ⟨g, 0, none⟩) 4 c] 25 0
  have hx1 := hx.alloc (.cells #[.slice (some ⟨g, 0, none⟩) 4 c] 25)
  clear hx
  go_enter Try.func38, Try.ntmps38
  go_wp2_with fail
  generalize hW : (w.alloc (.cells #[.slice (some ⟨g, 0, none⟩) 4 c] 25)) = W at *
  clear hW
  refine (graphValid22 g c B W hx1).mono fun e w1 h => ?_
  obtain ⟨rfl, b1⟩ := h
  have hx2 := hx1.below b1 (Nat.le_refl _)
  have bk1 := bk.below b1 (Nat.le_refl _)
  have bel1 := bel.trans (b1.mono bel.size)
  have k1 := bk1.at 0 rfl
  have c0 : w1.cell? ⟨g, 0, none⟩ = some (.int .i64 6) := hx2.cell (j := 0) (by decide)
  have c1 : w1.cell? ⟨g, 1, none⟩ = some (.int .i64 9) := hx2.cell (j := 1) (by decide)
  have c2 : w1.cell? ⟨g, 2, none⟩ = some (.int .i64 9) := hx2.cell (j := 2) (by decide)
  have c3 : w1.cell? ⟨g, 3, none⟩ = some (.int .i64 6) := hx2.cell (j := 3) (by decide)
  clear bel hx1 hx2 bk bk1 b1 k0
  go_wp2
  go_loop [3, 5, 12] (fun n _ i => (n = .int .i64 0 ∧ i = .int .i64 0) ∨ (n = .int .i64 2 ∧ i = .int .i64 1) ∨ (n = .int .i64 4 ∧ i = .int .i64 2) ∨ (n = .int .i64 6 ∧ i = .int .i64 3) ∨ (n = .int .i64 8 ∧ i = .int .i64 4)) (fun _ _ i => 4 - (intOf i).toNat)
  case atStart => exact .inl ⟨rfl, rfl⟩
  case round =>
    rcases hrel with ⟨rfl, rfl⟩ | ⟨rfl, rfl⟩ | ⟨rfl, rfl⟩ | ⟨rfl, rfl⟩ | ⟨rfl, rfl⟩
    · go_wp2_with fail
      refine (countBits_69 6 (by decide) _).mono fun e w2 h => ?_
      obtain ⟨rfl, rfl⟩ := h
      go_wp2
      go_round
      case rel => exact .inr (.inl ⟨rfl, rfl⟩)
      case measure => simp [intOf]
    · go_wp2_with fail
      refine (countBits_69 9 (by decide) _).mono fun e w2 h => ?_
      obtain ⟨rfl, rfl⟩ := h
      go_wp2
      go_round
      case rel => exact .inr (.inr (.inl ⟨rfl, rfl⟩))
      case measure => simp [intOf]
    · go_wp2_with fail
      refine (countBits_69 9 (by decide) _).mono fun e w2 h => ?_
      obtain ⟨rfl, rfl⟩ := h
      go_wp2
      go_round
      case rel => exact .inr (.inr (.inr (.inl ⟨rfl, rfl⟩)))
      case measure => simp [intOf]
    · go_wp2_with fail
      refine (countBits_69 6 (by decide) _).mono fun e w2 h => ?_
      obtain ⟨rfl, rfl⟩ := h
      go_wp2
      go_round
      case rel => exact .inr (.inr (.inr (.inr ⟨rfl, rfl⟩)))
      case measure => simp [intOf]
    · go_wp2
      go_ret
      exact ⟨rfl, bel1⟩


/-- The program is there. -/
theorem alive_any (w : World) : Calls Try.prog 11 #[] w fun e w' => e = .returned (.bool true) ∧ Below w.heap.size w w' := by
  go_enter Try.func11, Try.ntmps11
  go_wp2_with fail
  refine (gridOf22 w).mono fun e w1 h => ?_
  obtain ⟨g, c, rfl, _, ho, b1⟩ := h
  go_wp2_with fail
  refine (linesMany22 g c _ w1 ho).mono fun e w2 h => ?_
  obtain ⟨rfl, b2⟩ := h
  have B := b1.trans (b2.mono b1.size)
  clear ho b1 b2
  go_wp2
  go_ret
  exact ⟨rfl, B⟩

end Go.Proofs.Ytgmjffplinpobaa
