/- The walk of boardsFrom. -/
import Derived.Test.YtfpckcmkikckgaaSm
import Derived.StillTailTactics
import Derived.IntWalk
namespace Go.Proofs.Ytfpckcmkikckgaa
open Go Go.RowKit Go.Maps

theorem ord_dis {n : Nat} (h : 1 ≤ n) : Dis n (ordL n) := by
  have hl : (ordL n).length = n := length_ordL h
  refine ⟨fun x hx => ?_, ?_⟩
  · obtain ⟨k, hk, rfl⟩ := List.getElem_of_mem hx
    rw [hl] at hk
    rw [← nth_eq (by omega), ordL_nth hk]
    split <;> omega
  · show List.Pairwise _ _
    rw [List.pairwise_iff_getElem]
    intro i k hi hk hik
    rw [← nth_eq hi, ← nth_eq hk, ordL_nth (by omega), ordL_nth (by omega)]
    split <;> split <;> omega

theorem sides_ord {wide tall m : Int} {n : Nat} (hm : m ≤ 9) (hs : SidesOk m wide tall) (hN : wide * tall = n) : BoardOk wide (ordL n) ∧ (ordL n).length = n ∧ 2 ≤ n ∧ (n : Int) ≤ m := by
  have h2 : 2 ≤ n := by have := hs.2.2.1; omega
  have h9 : (n : Int) ≤ m := by have := hs.2.2.2; omega
  have hl : (ordL n).length = n := length_ordL (by omega)
  refine ⟨⟨by omega, by omega, hs.1.1, ?_, by rw [hl]; exact ord_dis (by omega)⟩, hl, h2, h9⟩
  rw [hl, ← hN]
  exact Int.mul_emod_right _ _

theorem arrayLenK : Try.prog.arrayLen 53 = 6 := by kernel_rfl
theorem elemK : Try.prog.elem 53 = 3 := by kernel_rfl
theorem sizeOfI (w : World) : (sizeOf 3).run Try.prog w = .ok 1 w := by kernel_rfl

/-- 'next[:n]'. -/
theorem slice6 (g n : Nat) (h : n ≤ 6) (w : World) : (Instr.sliceAt 53 (.pointer (some ⟨g, 0, none⟩)) none (some (.int .i64 n)) none).run Try.prog w = .ok (.slice (some ⟨g, 0, none⟩) n 6) w := by
  have ht : Try.prog.underlying 53 = some (.array (Try.prog.arrayLen 53) (Try.prog.elem 53)) := by rw [arrayLenK, elemK, Try.underlying53]
  rw [run_sliceAt_array_h w 53 ⟨g, 0, none⟩ ht .i64 n (by omega) (by rw [arrayLenK]; omega), elemK, sizeOfI, arrayLenK]
  simp [Result.andThen, slicedAt, Addr.add]

theorem keyA_at (xs : List Int) {j : Nat} (h : j < 6) : (#[.int .i64 (nth xs 0), .int .i64 (nth xs 1), .int .i64 (nth xs 2), .int .i64 (nth xs 3), .int .i64 (nth xs 4), .int .i64 (nth xs 5)] : Array Value)[j]? = some (.int .i64 (nth xs j)) := by
  match j, h with
  | 0, _ => rfl
  | 1, _ => rfl
  | 2, _ => rfl
  | 3, _ => rfl
  | 4, _ => rfl
  | 5, _ => rfl

/-- Behind a move in 'next'. -/
theorem MoveRet.six {w w' : World} {gn n : Nat} {wide t : Int} {xs : List Int} {en : Ending} (h : MoveRet w gn 0 #[.int .i64 (nth xs 0), .int .i64 (nth xs 1), .int .i64 (nth xs 2), .int .i64 (nth xs 3), .int .i64 (nth xs 4), .int .i64 (nth xs 5)] 53 wide xs t en w') (hl : xs.length = n) {i : Nat} (hi : i < 6) :
    w'.cell? ⟨gn, i, none⟩ = some (.int .i64 (nth (movedL wide xs t) i)) := by
  obtain ⟨_, _, cur', hb, _, h1, h2⟩ := h
  rw [hb.cell]
  by_cases hn : i < xs.length
  · have := h1 i hn
    rwa [Nat.zero_add] at this
  · have e1 : nth (movedL wide xs t) i = 0 := nth_out (by rw [length_movedL]; omega)
    have e2 : nth xs i = 0 := nth_out (by omega)
    rw [h2 i (.inr (by omega)), e1, ← e2]
    exact keyA_at xs hi

theorem OwnK.ne_map {w : World} {B b n : Nat} {v : Value} {S S' : List (List Int × Int)} (h : OwnK w B v S) (hm : MapS w b n S') : v.ownBlock ≠ some b := fun e => by
  obtain ⟨D, ⟨es, clock, he, _⟩, _⟩ := hm
  rcases h.2 with ⟨rfl, _⟩ | ⟨g, cap, cur, rfl, _, hg, _⟩
  · simp [Value.ownBlock] at e
  · simp only [Value.ownBlock, Option.some.injEq] at e
    rw [e, he] at hg
    simp at hg

/-- What boardsFrom hands back. -/
def RetS (w : World) (wide : Int) (n : Nat) (e : Ending) (w' : World) : Prop :=
  ∃ g c b, e = .returned (.tuple #[.slice (some ⟨g, 0, none⟩) (allS wide n).length c, .map (some b)]) ∧ OwnK w' w.heap.size (.slice (some ⟨g, 0, none⟩) (allS wide n).length c) (allS wide n) ∧ MapS w' b n (allS wide n) ∧ w.heap.size ≤ b ∧ Below w.heap.size w w'

set_option maxRecDepth 100000 in
set_option maxHeartbeats 4000000 in
theorem boardsFrom_any (wide tall : Int) (n : Nat) (w : World) (hs : SidesOk 6 wide tall) (hN : wide * tall = n) :
    Calls Try.prog 35 #[.int .i64 wide, .int .i64 tall] w (RetS w wide n) := by
  have hs9 : SidesOk 9 wide tall := ⟨⟨hs.1.1, by have := hs.1.2; omega⟩, ⟨hs.2.1.1, by have := hs.2.1.2; omega⟩, hs.2.2.1, by have := hs.2.2.2; omega⟩
  have hord := sides_ord (by omega) hs hN
  have hok := hid hord.1
  have hol := hid hord.2.1
  have h2 : 2 ≤ n := hord.2.2.1
  have h6 : n ≤ 6 := by have := hord.2.2.2; omega
  have hW := hid (doneW_in hs9)
  have hL := hid (doneL_in hs9 hN)
  have HN := hid hN
  have hwb := hs.1
  have htb := hs.2.1
  have hIn := hid (In6.of hok.out hol.out h6)
  clear hs hs9 hN hord
  obtain ⟨i0, hi, hz0, hz1, hz2⟩ := info_parts Try.infoKey
  have hmm := @run_makeMap Try.prog
  go_enter Try.func35, Try.ntmps35
  go_wp2_with fail
  refine (implBoardDone_any wide tall w).mono fun e w1 h => ?_
  obtain ⟨ao, c, rfl, hnc, ho, hb⟩ := h.to (n := n) (by rw [hL.out, hol.out])
  rw [hL.out] at ho
  rw [hW.out]
  have hfd : ∀ w, (Instr.field 25 (.agg #[.int .i64 wide, .slice ao n c]) 1).run Try.prog w = .ok (.slice ao n c) w := fun _ => by kernel_rfl
  go_wp2_with fail
  refine (placesOf_any ao (ordL n) n c w1 hol.out h6 ho.ints).mono fun e w2 h => ?_
  obtain ⟨rfl, hb2⟩ := h
  have B := hb.trans (hb2.mono hb.size)
  clear hb hb2 ho h hnc hfd
  unfold keyV
  have hM : MapS (((w2.alloc (.cells #[.int .i64 (nth (ordL n) 0), .int .i64 (nth (ordL n) 1), .int .i64 (nth (ordL n) 2), .int .i64 (nth (ordL n) 3), .int .i64 (nth (ordL n) 4), .int .i64 (nth (ordL n) 5)] 53)).alloc (.cells #[.int .i64 (nth (ordL n) 0), .int .i64 (nth (ordL n) 1), .int .i64 (nth (ordL n) 2), .int .i64 (nth (ordL n) 3), .int .i64 (nth (ordL n) 4), .int .i64 (nth (ordL n) 5)] 53)).alloc (.map #[] 0)) (w2.heap.size + 1 + 1) n [] := by
    have := MapS.made ((w2.alloc (.cells #[.int .i64 (nth (ordL n) 0), .int .i64 (nth (ordL n) 1), .int .i64 (nth (ordL n) 2), .int .i64 (nth (ordL n) 3), .int .i64 (nth (ordL n) 4), .int .i64 (nth (ordL n) 5)] 53)).alloc (.cells #[.int .i64 (nth (ordL n) 0), .int .i64 (nth (ordL n) 1), .int .i64 (nth (ordL n) 2), .int .i64 (nth (ordL n) 3), .int .i64 (nth (ordL n) 4), .int .i64 (nth (ordL n) 5)] 53)) n
    simpa using this
  have hO : OwnK (((w2.alloc (.cells #[.int .i64 (nth (ordL n) 0), .int .i64 (nth (ordL n) 1), .int .i64 (nth (ordL n) 2), .int .i64 (nth (ordL n) 3), .int .i64 (nth (ordL n) 4), .int .i64 (nth (ordL n) 5)] 53)).alloc (.cells #[.int .i64 (nth (ordL n) 0), .int .i64 (nth (ordL n) 1), .int .i64 (nth (ordL n) 2), .int .i64 (nth (ordL n) 3), .int .i64 (nth (ordL n) 4), .int .i64 (nth (ordL n) 5)] 53)).alloc (.map #[] 0)) w.heap.size (.slice (some ⟨w2.heap.size + 1, 0, none⟩) 1 1) [(ordL n, 0)] := by
    have hsz := B.size
    have := World.ownsRow_lit (base := w.heap.size) (e := 53) (size := 6) (w2.alloc (.cells #[.int .i64 (nth (ordL n) 0), .int .i64 (nth (ordL n) 1), .int .i64 (nth (ordL n) 2), .int .i64 (nth (ordL n) 3), .int .i64 (nth (ordL n) 4), .int .i64 (nth (ordL n) 5)] 53)) #[.int .i64 (nth (ordL n) 0), .int .i64 (nth (ordL n) 1), .int .i64 (nth (ordL n) 2), .int .i64 (nth (ordL n) 3), .int .i64 (nth (ordL n) 4), .int .i64 (nth (ordL n) 5)] 1 (by simp; omega) (by unfold maxLen; omega) rfl
    simpa [OwnK, rowC, keyC] using this.alloc (.map #[] 0)
  have hB3 : Below w.heap.size w (((w2.alloc (.cells #[.int .i64 (nth (ordL n) 0), .int .i64 (nth (ordL n) 1), .int .i64 (nth (ordL n) 2), .int .i64 (nth (ordL n) 3), .int .i64 (nth (ordL n) 4), .int .i64 (nth (ordL n) 5)] 53)).alloc (.cells #[.int .i64 (nth (ordL n) 0), .int .i64 (nth (ordL n) 1), .int .i64 (nth (ordL n) 2), .int .i64 (nth (ordL n) 3), .int .i64 (nth (ordL n) 4), .int .i64 (nth (ordL n) 5)] 53)).alloc (.map #[] 0)) := ((B.alloc (by have := B.size; omega) _).alloc (by have := B.size; simp; omega) _).alloc (by have := B.size; simp; omega) _
  go_wp2_with (with_reducible refine wpList_mapS0 rfl _ _ _ rfl (w2.heap.size + 1 + 1) n [] rfl hM (by decide) (ordL n) rfl 0 rfl hIn.out rfl (by omega) ?_)
  intro w3 hM3 hg3
  have hO3 := hO.kept hg3 (.inr (by simp [Value.ownBlock]))
  have hsz := B.size
  have hB4 := hB3.grown hg3 (by simp; omega) (fun k hk => by simp only [Option.some.injEq] at hk; omega)
  clear hM hO hB3 hg3 hi hz0 hz1 hz2 hmm i0
  obtain ⟨bM, hbM⟩ : ∃ bM, w2.heap.size + 1 + 1 = bM := ⟨_, rfl⟩
  have hbMw : w.heap.size ≤ bM := by omega
  rw [hbM] at hM3 ⊢
  clear hbM hsz B
  go_wp2_with fail
  go_loopw [7, 9, 10, 11, 12, 13] (fun v at_ _ _ _ _ wr => ∃ a : Nat, at_ = .int .i64 a ∧ a ≤ (roundS wide n a).length ∧ OwnK wr w.heap.size v (roundS wide n a) ∧ MapS wr bM n (roundS wide n a) ∧ Below w.heap.size w wr) (fun _ at_ _ _ _ _ _ => fct n + 1 - (intOf at_).toNat)
  case atStart => exact ⟨0, rfl, Nat.zero_le _, hO3, hM3, hB4⟩
  case round =>
    obtain ⟨a, rfl, hal, hO, hM, hB⟩ := hrel
    clear hO3 hM3 hB4
    have hsr := hid (round_srch hok.out hol.out a hal)
    have hle := hid (Nat.le_trans hsr.out.len_le (fct_le h6))
    have hSl := hid (hsr.out.len_le)
    by_cases hlt : a < (roundS wide n a).length
    · have hnext := hid (roundS_succ hlt)
      have HA := hid hlt
      generalize roundS wide n a = S at *
      obtain ⟨g, c2, rfl⟩ := hO.shape (by omega)
      have hd : decide ((a : Int) < S.length) = true := decide_eq_true (by omega)
      go_wp2_with fail
      go_loopw [7, 10, 11, 12, 13] (fun v t _ _ _ wi => ∃ j : Nat, t = .int .i64 ((j : Int) + 1) ∧ j + 1 ≤ n ∧ OwnK wi w.heap.size v (tilesS wide S a j) ∧ MapS wi bM n (tilesS wide S a j) ∧ Below w.heap.size w wi) (fun _ t _ _ _ _ => n + 1 - (intOf t).toNat)
      case atStart => exact ⟨0, rfl, by omega, hO, hM, hB⟩
      case round =>
        obtain ⟨j, rfl, hj, hO, hM, hB⟩ := hrel
        have hst := hid (hsr.out.tiles HA.out j)
        have hTl := hid (tilesS_len wide S a j)
        have hTb := hid (tilesS_bd wide a HA.out j)
        have hTs := hid (tilesS_succ wide S a j)
        by_cases hjn : j + 1 < n
        · have hd2 : decide ((j : Int) + 1 < n) = true := decide_eq_true (by omega)
          have hT0 : a < (tilesS wide S a j).length := Nat.lt_of_lt_of_le HA.out hTl.out
          have hT7 : (tilesS wide S a j).length ≤ 720 := Nat.le_trans hst.out.len_le (fct_le h6)
          have hN := HN.out
          have hsl := fun gx wx => slice6 gx n h6 wx
          generalize tilesS wide S a j = T at *
          obtain ⟨g, c2, rfl⟩ := hO.shape (by omega)
          have k0 : wr.cell? ⟨g, a * 6, none⟩ = some (.int .i64 (nth (bdS T a) 0)) := hO.cell hT0 (j := 0) (by omega)
          have k1 := hO.cell hT0 (j := 1) (by omega)
          have k2 := hO.cell hT0 (j := 2) (by omega)
          have k3 := hO.cell hT0 (j := 3) (by omega)
          have k4 := hO.cell hT0 (j := 4) (by omega)
          have k5 := hO.cell hT0 (j := 5) (by omega)
          go_wp2_with fail
          clear hN hsl
          have hbo := hid (hst.out.ok a hT0)
          have hdp := hid (farS_at hst.out hT0)
          have hd0 := dep_pos hst.out hT0
          have hd7 := dep_le hst.out a hT0
          have hone := hid (hasS_iff.2 ⟨a, hT0, rfl⟩ : hasS T (bdS T a) = true)
          have hyes := hid (fun h h2 => hTs.out.trans (stepS_yes h h2))
          have hno := hid (fun h => hTs.out.trans (stepS_no h))
          have hseen := hid (fun h => hTs.out.trans (stepS_seen h))
          have hlo : Hid (∀ i, i < 6 → wr.cell? ⟨g, a * 6 + i, none⟩ = some (.int .i64 (nth (bdS T a) i))) := fun i hi => hO.cell hT0 hi
          have hdT := hid hTb.out.2
          clear k0 k1 k2 k3 k4 k5 hTb hTl
          generalize bdS T a = xs at *
          generalize dpS T a = d at *
          have bk := Blk.new wr #[.int .i64 (nth xs 0), .int .i64 (nth xs 1), .int .i64 (nth xs 2), .int .i64 (nth xs 3), .int .i64 (nth xs 4), .int .i64 (nth xs 5)] 53
          have hMA := hM.kept (World.grownBy_alloc wr (.cells #[.int .i64 (nth xs 0), .int .i64 (nth xs 1), .int .i64 (nth xs 2), .int .i64 (nth xs 3), .int .i64 (nth xs 4), .int .i64 (nth xs 5)] 53) none) (by simp)
          have hOA := hO.kept (World.grownBy_alloc wr (.cells #[.int .i64 (nth xs 0), .int .i64 (nth xs 1), .int .i64 (nth xs 2), .int .i64 (nth xs 3), .int .i64 (nth xs 4), .int .i64 (nth xs 5)] 53) none) (.inr (by simp [Value.ownBlock]))
          have hBA := hB.alloc hB.size (.cells #[.int .i64 (nth xs 0), .int .i64 (nth xs 1), .int .i64 (nth xs 2), .int .i64 (nth xs 3), .int .i64 (nth xs 4), .int .i64 (nth xs 5)] 53)
          have hgl := (hO.lt g rfl).2
          have hml := hM.lt
          have hwl := hB.size
          have hloA : Hid (∀ i, i < 6 → (wr.alloc (.cells #[.int .i64 (nth xs 0), .int .i64 (nth xs 1), .int .i64 (nth xs 2), .int .i64 (nth xs 3), .int .i64 (nth xs 4), .int .i64 (nth xs 5)] 53)).cell? ⟨g, a * 6 + i, none⟩ = some (.int .i64 (nth xs i))) := fun i hi => by rw [World.cell?_of_block (heap_alloc_old wr _ (show (⟨g, a * 6 + i, none⟩ : Addr).block < wr.heap.size from hgl))]; exact hlo.out i hi
          clear hlo
          generalize (wr.alloc (.cells #[.int .i64 (nth xs 0), .int .i64 (nth xs 1), .int .i64 (nth xs 2), .int .i64 (nth xs 3), .int .i64 (nth xs 4), .int .i64 (nth xs 5)] 53)) = wa at *
          have hcu : ∀ i, i < xs.length → (#[.int .i64 (nth xs 0), .int .i64 (nth xs 1), .int .i64 (nth xs 2), .int .i64 (nth xs 3), .int .i64 (nth xs 4), .int .i64 (nth xs 5)] : Array Value)[0 + i]? = some (.int .i64 (nth xs i)) := fun i hix => by
            have h1 := hbo.out.2
            rw [Nat.zero_add]
            exact keyA_at xs (by omega)
          refine (moveTile_any wide wr.heap.size 0 n 6 xs ((j : Int) + 1) _ 53 wa hbo.out.2 hbo.out.1 bk hcu).mono fun e w4 h => ?_
          clear hcu
          have hs6 := hid (fun i (hi : i < 6) => h.six hbo.out.2 hi)
          obtain ⟨rfl, hg4, _⟩ := h
          have hM4 := hMA.kept hg4 (by simp; omega)
          have hO4 := hOA.kept hg4 (.inr (by simp [Value.ownBlock]; omega))
          have hB4 := hBA.grown hg4 hBA.size (fun k hk => by simp only [Option.some.injEq] at hk; omega)
          have hlo4 : Hid (∀ i, i < 6 → w4.cell? ⟨g, a * 6 + i, none⟩ = some (.int .i64 (nth xs i))) := fun i hi => by rw [World.cell?_of_block (hg4.block g (by have := (hOA.lt g rfl).2; exact this) (by simp; omega))]; exact hloA.out i hi
          clear hM hO hB hMA hOA hBA hloA hg4 bk
          cases hc : canB wide xs ((j : Int) + 1) with
          | false =>
            have hn2 := hid (hno.out hc)
            clear hc
            go_wp2
            go_roundw
            case rel => exact ⟨j + 1, by go_num, by omega, by rw [hn2.out]; exact hO4, by rw [hn2.out]; exact hM4, hB4⟩
            case measure => simp [intOf]; omega
          | true =>
            have hc2 := hid hc
            clear hc
            have hIx := hid (In6.of hbo.out.1 hbo.out.2 h6)
            have hIy : Hid (In6 n (movedL wide xs ((j : Int) + 1))) := In6.of (boardOk_moved hbo.out.1) (by rw [length_movedL]; exact hbo.out.2) h6
            generalize movedL wide xs ((j : Int) + 1) = ys at *
            have hlk := hM4.lookOk hIy.out
            unfold keyV at hlk
            have s0 := hs6.out 0 (by omega)
            have s1 := hs6.out 1 (by omega)
            have s2 := hs6.out 2 (by omega)
            have s3 := hs6.out 3 (by omega)
            have s4 := hs6.out 4 (by omega)
            have s5 := hs6.out 5 (by omega)
            cases hsn : hasS T ys with
            | true =>
              have hn2 := hid (hseen.out hsn)
              rw [hsn] at hlk
              clear hsn
              go_wp2
              go_roundw
              case rel => exact ⟨j + 1, by go_num, by omega, by rw [hn2.out]; exact hO4, by rw [hn2.out]; exact hM4, hB4⟩
              case measure => simp [intOf]; omega
            | false =>
              have hn2 := hid (hyes.out hc2.out hsn)
              rw [hsn] at hlk
              have HS := hid hsn
              have hlk2 := (show MapS w4.drew bM n T from hM4).look hIx.out
              rw [valS_in hone.out, hdp.out] at hlk2
              unfold keyV at hlk2
              have hlk3 := hlk2
              unfold World.drew at hlk3
              have q0 : w4.cell? ⟨g, a * 6, none⟩ = some (.int .i64 (nth xs 0)) := hlo4.out 0 (by omega)
              have q1 := hlo4.out 1 (by omega)
              have q2 := hlo4.out 2 (by omega)
              have q3 := hlo4.out 3 (by omega)
              have q4 := hlo4.out 4 (by omega)
              have q5 := hlo4.out 5 (by omega)
              have hTd : decide (a < T.length) = true := decide_eq_true hT0
              have hwr : IntKind.i64.wrap (d + 1) = d + 1 := IntWalk.i64_in _ (by omega)
              clear hsn
              go_wp2
              go_still_tail 9, (by kernel_rfl)
              change wpList _ _ _ _ _ w4.drew
              clear hlk2 hlk3 hlk hwr
              have hMd : MapS w4.drew bM n T := hM4
              have hOd : OwnK w4.drew w.heap.size (.slice (some ⟨g, 0, none⟩) T.length c2) T := hO4
              have hBd : Below w.heap.size w w4.drew := hB4.drew
              have r0 : w4.drew.cell? ⟨wr.heap.size, 0, none⟩ = some (.int .i64 (nth ys 0)) := s0
              have r1 : w4.drew.cell? ⟨wr.heap.size, 1, none⟩ = some (.int .i64 (nth ys 1)) := s1
              have r2 : w4.drew.cell? ⟨wr.heap.size, 2, none⟩ = some (.int .i64 (nth ys 2)) := s2
              have r3 : w4.drew.cell? ⟨wr.heap.size, 3, none⟩ = some (.int .i64 (nth ys 3)) := s3
              have r4 : w4.drew.cell? ⟨wr.heap.size, 4, none⟩ = some (.int .i64 (nth ys 4)) := s4
              have r5 : w4.drew.cell? ⟨wr.heap.size, 5, none⟩ = some (.int .i64 (nth ys 5)) := s5
              clear q0 q1 q2 q3 q4 q5 s0 s1 s2 s3 s4 s5 hM4 hO4 hB4
              generalize w4.drew = w5 at *
              have hlt5 : wr.heap.size < w5.heap.size := World.block_lt_of_cell? _ _ r0
              go_wp2_with (with_reducible refine wpList_mapS rfl _ _ _ rfl bM n T rfl hMd (by omega) ys rfl (d + 1) rfl hIy.out HS.out (by omega) ?_)
              intro w6 hM6 hg6
              have hO6 := hOd.kept hg6 (.inr (hOd.ne_map hMd))
              have hB6 := hBd.grown hg6 hBd.size (fun k hk => by simp only [Option.some.injEq] at hk; omega)
              have hne6 : some wr.heap.size ≠ some bM := by simp; omega
              have t0 := hg6.cell r0 hne6
              have t1 := hg6.cell r1 hne6
              have t2 := hg6.cell r2 hne6
              have t3 := hg6.cell r3 hne6
              have t4 := hg6.cell r4 hne6
              have t5 := hg6.cell r5 hne6
              have hz6 := hM6.lt
              have hnm6 := hid (hO6.ne_map hM6)
              obtain ⟨i0, hi, hz0, hz1, hz2⟩ := info_parts Try.infoKey
              clear r0 r1 r2 r3 r4 r5 hMd hOd hBd hg6 hne6
              go_wp2_with (at_builtin; refine wpList_append_own _ rfl _ _ 47 rfl w.heap.size 53 i0 _ 6 48 Try.underlying47 hi hz0 hz1 hz2 rfl (by decide) _ _ _ rfl (hO6.kept (World.grownBy_alloc w6 _ none) (.inr (by simp [Value.ownBlock]))) ⟨w6.heap.size, 0, none⟩ 1 1 (keyC ys) rfl rfl ?c2 (keyC_one ys) ?c3 ?c4 ?c5 ?_)
              case c2 =>
                intro q u hu
                rw [Addr.add_lit, Nat.zero_add, cellNew]
                simpa [keyC] using hu
              case c3 => unfold maxLen; omega
              case c4 => omega
              case c5 => have := hB6.size; simp; omega
              intro v' w7 hown7 hg7 _
              have hO7 : OwnK w7 w.heap.size v' (T ++ [(ys, d + 1)]) := OwnK.appended hown7
              have hM7 := (hM6.kept (World.grownBy_alloc w6 _ none) (by simp)).kept hg7 (fun e => hnm6.out e.symm)
              have hB7 := (hB6.alloc hB6.size _).grown hg7 (by have := hB6.size; simp; omega) (fun k hk => (hO6.lt k hk).1)
              clear hown7 hg7 hM6 hO6 hB6 hi hz0 hz1 hz2 i0 t0 t1 t2 t3 t4 t5
              go_wp2
              go_roundw
              case rel => exact ⟨j + 1, by go_num, by omega, by rw [hn2.out]; exact hO7, by rw [hn2.out]; exact hM7, hB7⟩
              case measure => simp [intOf]; omega
        · obtain rfl : j = n - 1 := by omega
          have hd2 : decide (((n - 1 : Nat) : Int) + 1 < n) = false := decide_eq_false (by omega)
          have hN := HN.out
          have hal2 : Hid (a + 1 ≤ (tilesS wide S a (n - 1)).length) := Nat.lt_of_lt_of_le HA.out hTl.out
          have hsf := hid (Nat.lt_of_lt_of_le HA.out hSl.out)
          have ha7 : a < 720 := Nat.lt_of_lt_of_le HA.out hle.out
          go_wp2
          go_roundw
          case rel => exact ⟨a + 1, by go_num, by rw [hnext.out]; exact hal2.out, by rw [hnext.out]; exact hO, by rw [hnext.out]; exact hM, hB⟩
          case measure => have := hsf.out; simp [intOf]; omega
    · have hd : decide ((a : Int) < (roundS wide n a).length) = false := decide_eq_false (by omega)
      have hall := hid (allS_eq (wide := wide) (n := n) (a := a) (by omega) (Nat.le_trans hal hSl.out))
      obtain ⟨g, c2, rfl⟩ := hO.shape hsr.out.pos
      have hfin : RetS w wide n (.returned (.tuple #[.slice (some ⟨g, 0, none⟩) (roundS wide n a).length c2, .map (some bM)])) wr := by
        unfold RetS
        rw [hall.out]
        exact ⟨g, c2, bM, rfl, hO, hM, hbMw, hB⟩
      have HF := hid hfin
      clear hfin
      go_wp2
      go_ret2
      exact HF.out

end Go.Proofs.Ytfpckcmkikckgaa
