/- FnExactBoardText: for every input the law returns true, and each argument reads behind the call as it read before. No condition. -/
import Derived.Test.YtaepoddlhghdpaaRows
import Derived.Test.YtaepoddlhghdpaaFrame
import Derived.Test.YtaepoddlhghdpaaLFnExactBoardText
namespace Go.Proofs.Ytaepoddlhghdpaa.fnExactBoardText
open Go.ChangeShapes Go.WideShapes Go.ChangeAt Go.RowKit
open Go.ChangeMaps (open_string shut_string)
set_option linter.unusedVariables false

theorem own : ownKnob Try.prog.godebug = none := by kernel_rfl
theorem laidOut : laidOutB Try.prog = true := by kernel_rfl

set_option maxRecDepth 100000 in
theorem lifted (os : Os) (started : os.Started) (H : Type) (enc : TypeId × Value → H) :
    ReturnsInHanded {} Try.checked os (3) .any (Rows.fnExactBoardTextSpec.pre6 enc Try.prog Try.f3 Rows.fnExactBoardTextRow.domain false) (Rows.fnExactBoardTextSpec.post enc Try.prog Try.f3 false true false false) := by
  refine returnsInHanded_of_change (C := Try.checked) own started (by as_aux_lemma => kernel_rfl) Try.func3
    (ChangeSpec.witness6 (enc := enc) (C := Try.checked) false ⟨#[], #[.agg #[.int .i64 0, .slice none 0 0]], []⟩ 8 (by as_aux_lemma => kernel_rfl) (by as_aux_lemma => kernel_rfl) (by as_aux_lemma => kernel_rfl) (by as_aux_lemma => kernel_rfl)) ?_
  intro W base args ds gs before hval0 hW hcnd _
  have hval : ∀ (j : Nat) t v, (Try.f3).params[j]? = some t → args[j]? = some v → Value.okWide Try.prog W .any base t v := hval0
  have hW' := hW
  obtain ⟨p, q, hA0, hV, rfl, hfz, hnd⟩ := hW
  have hA : DataW.TrodAll enc Try.prog W 0 (fun _ => true) true (Try.f3).params.toList args.toList ds p := hA0
  rw [Try.params3] at hA hval
  obtain ⟨v0, vs0, d0, ds0, p0, q0, hargs, rfl, rfl, h0, r0⟩ := trodAll_cons hA
  obtain ⟨rfl, rfl, rfl⟩ := trodAll_nil r0
  obtain rfl : args = #[v0] := by cases args; simp_all
  obtain ⟨rfl, rfl⟩ := trodVars_none hV
  have k0 := h0
  have lt0 : ∀ x ∈ p0, x.block < W.heap.size := by obtain ⟨m, hm⟩ := k0; exact DataW.trod_lt m _ _ _ hm
  obtain ⟨x0, y0, dx0, dy0, m0, rfl, rfl, rfl, hx0, hy0⟩ := Joins.open_agg2 Try.underlying24 (by as_aux_lemma => kernel_rfl) (by as_aux_lemma => kernel_rfl) (hval 0 24 v0 rfl rfl) h0
  obtain ⟨a0, e0, _, w0⟩ := DataW.trod_int Try.underlying3 hx0
  obtain rfl : x0 = .int .i64 a0 := by simpa using e0
  obtain ⟨ao0, l0, c0, f0⟩ := Joins.slice_form Try.underlying22 hy0
  obtain rfl : y0 = .slice ao0 l0 c0 := by simpa using f0
  obtain ⟨z0, rr0⟩ : ∃ zs, IsRow .i64 W ao0 l0 c0 zs := isRow_of Try.underlying22 Try.underlying3 (by as_aux_lemma => kernel_rfl) hy0
  clear hA0 hval0
  refine (fnExactBoardText_walk W a0 (i64_of w0) ao0 (z0.take l0) l0 c0 rr0.len rr0.le rr0.max rr0.ints rr0.i64).mono fun e W' ⟨he, bel⟩ => ?_
  subst he
  exact ⟨_, rfl, _, _, _, [], _, [], hW', trodAll_mk1 (shut_bool Try.underlying4 _), (trodAll_cons_mk (Below.trod laidOut (by as_aux_lemma => kernel_rfl) (of_decide_eq_true (by as_aux_lemma => kernel_rfl)) k0 bel lt0) trodAll_mk0), rfl, bel.frame _, fun h => by cases h⟩

theorem over : Rows.fnExactBoardTextRow.holds Try.pinned (OpenSpec.ofChange Rows.fnExactBoardTextSpec) :=
  OpenClaim.holds_of_wide (3) Try.f3 rfl rfl rfl rfl rfl rfl rfl ⟨rfl, rfl, rfl, rfl, rfl⟩ rfl rfl rfl rfl rfl (by as_aux_lemma => kernel_rfl) Try.func3 (by as_aux_lemma => kernel_rfl)
    (of_decide_eq_true (by as_aux_lemma => kernel_rfl)) (by unfold Func.isWrapper; first | (rw [if_pos (by decide +kernel)]; kernel_rfl) | (rw [if_neg (by decide +kernel)]; exact ⟨rfl, rfl⟩))
    (fun os started H enc _ => lifted os started H enc)

theorem proved : Rows.FnExactBoardTextSaid := over
#print axioms proved
end Go.Proofs.Ytaepoddlhghdpaa.fnExactBoardText
