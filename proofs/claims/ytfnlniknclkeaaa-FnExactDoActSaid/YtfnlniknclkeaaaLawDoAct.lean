/-
  The statement FnExactDoAct of the program: for every input the law returns true, and each argument reads behind the call as it read before. No condition.
-/
import Derived.Test.YtfnlniknclkeaaaRows
import Derived.Test.YtfnlniknclkeaaaFnDoAct
import Derived.Test.YtfnlniknclkeaaaOpenAct
import Derived.Test.YtfnlniknclkeaaaGM
import Derived.ShutString
import Derived.ChangeOld
import Derived.Lib.SmallJoins
import Derived.Below
namespace Go.Proofs.Ytfnlniknclkeaaa.fnExactDoAct
open Go.ChangeShapes Go.WideShapes Go.ChangeAt Go.RowKit Go.Joins
set_option linter.unusedVariables false

theorem own : ownKnob Try.prog.godebug = none := by kernel_rfl
theorem laidOut : laidOutB Try.prog = true := by kernel_rfl

set_option maxRecDepth 100000 in
theorem lifted (os : Os) (started : os.Started) (H : Type) (enc : TypeId × Value → H) :
    ReturnsInHanded {} Try.checked os 4 .any (Rows.fnExactDoActSpec.pre6 enc Try.prog Try.f4 Rows.fnExactDoActRow.domain false) (Rows.fnExactDoActSpec.post enc Try.prog Try.f4 false true false false) := by
  refine returnsInHanded_of_change (C := Try.checked) own started (by kernel_rfl) Try.func4
    (ChangeSpec.witness6 (enc := enc) (C := Try.checked) false ⟨#[], #[.agg #[.slice none 0 0, .slice none 0 0, .slice none 0 0, .slice none 0 0, .int .i64 0, .int .i64 0], .agg #[.int .i64 0, .int .i64 0, .int .i64 0, .int .i64 0, .int .i64 0]], []⟩ 8 (by kernel_rfl) (by kernel_rfl) (by kernel_rfl) (by kernel_rfl)) ?_
  intro W base args ds gs before hval0 hW hcnd _
  have hval : ∀ (j : Nat) t v, Try.f4.params[j]? = some t → args[j]? = some v → Value.okWide Try.prog W .any base t v := hval0
  have hW' := hW
  obtain ⟨p, q, hA0, hV, rfl, hfz, hnd⟩ := hW
  have hA : DataW.TrodAll enc Try.prog W 0 (fun _ => true) true Try.f4.params.toList args.toList ds p := hA0
  rw [Try.params4] at hA hval
  obtain ⟨v0, vs0, d0, ds0, p0, q0, hargs, rfl, rfl, h0, r0⟩ := trodAll_cons hA
  obtain ⟨v1, vs1, d1, ds1, p1, q1, rfl, rfl, rfl, h1, r1⟩ := trodAll_cons r0
  obtain ⟨rfl, rfl, rfl⟩ := trodAll_nil r1
  obtain rfl : args = #[v0, v1] := by cases args; simp_all
  obtain ⟨rfl, rfl⟩ := trodVars_none hV
  have k0 := h0
  have lt0 : ∀ x ∈ p0, x.block < W.heap.size := by obtain ⟨m, hm⟩ := k0; exact DataW.trod_lt m _ _ _ hm
  have k1 := h1
  have lt1 : ∀ x ∈ p1, x.block < W.heap.size := by obtain ⟨m, hm⟩ := k1; exact DataW.trod_lt m _ _ _ hm
  obtain ⟨u0_0, u0_1, u0_2, u0_3, u0_4, u0_5, y0_0, y0_1, y0_2, y0_3, y0_4, y0_5, n0, rfl, g0_0, g0_1, g0_2, g0_3, g0_4, g0_5⟩ := open_agg6 Try.underlying45 (by kernel_rfl) (by kernel_rfl) (hval 0 45 v0 rfl rfl) h0
  obtain ⟨m0, z0_0, w0_0⟩ := recs_of_trod Try.underlying43 Try.underlying93 rfl (by kernel_rfl) (by kernel_rfl) (by kernel_rfl) g0_0
  obtain ⟨z0_1, w0_1⟩ := ints_of_trod Try.underlying25 Try.underlying3 (by kernel_rfl) g0_1
  obtain ⟨z0_2, w0_2⟩ := ints_of_trod Try.underlying25 Try.underlying3 (by kernel_rfl) g0_2
  obtain ⟨z0_3, w0_3⟩ := ints_of_trod Try.underlying25 Try.underlying3 (by kernel_rfl) g0_3
  obtain ⟨x0_4, rfl, w0_4⟩ := open_intcell Try.underlying3 g0_4
  obtain ⟨x0_5, rfl, w0_5⟩ := open_intcell Try.underlying3 g0_5
  obtain ⟨u1_0, u1_1, u1_2, u1_3, u1_4, y1_0, y1_1, y1_2, y1_3, y1_4, n1, rfl, g1_0, g1_1, g1_2, g1_3, g1_4⟩ := open_agg5 Try.underlying47 (by kernel_rfl) (by kernel_rfl) (hval 1 47 v1 rfl rfl) h1
  obtain ⟨x1_0, rfl, w1_0⟩ := open_intcell Try.underlying3 g1_0
  obtain ⟨x1_1, rfl, w1_1⟩ := open_intcell Try.underlying3 g1_1
  obtain ⟨x1_2, rfl, w1_2⟩ := open_intcell Try.underlying3 g1_2
  obtain ⟨x1_3, rfl, w1_3⟩ := open_intcell Try.underlying3 g1_3
  obtain ⟨x1_4, rfl, w1_4⟩ := open_intcell Try.underlying3 g1_4
  clear hA0 hval0
  refine (fnExactDoAct_any u0_0 u0_1 u0_2 u0_3 ⟨m0, z0_0, z0_1, z0_2, z0_3, x0_4, x0_5⟩ x1_0 x1_1 x1_2 x1_3 x1_4 W ⟨w0_0, w0_1, w0_2, w0_3⟩).mono fun e W' ⟨he, bel⟩ => ?_
  subst he
  exact ⟨_, rfl, _, _, _, [], _, [], hW', trodAll_mk1 (shut_bool Try.underlying4 _), (trodAll_cons_mk (Below.trod laidOut (by kernel_rfl) (of_decide_eq_true (by kernel_rfl)) k0 bel lt0) (trodAll_cons_mk (Below.trod laidOut (by kernel_rfl) (of_decide_eq_true (by kernel_rfl)) k1 bel lt1) trodAll_mk0)), rfl, bel.frame _, fun h => by cases h⟩

theorem over : Rows.fnExactDoActRow.holds Try.pinned (OpenSpec.ofChange Rows.fnExactDoActSpec) :=
  OpenClaim.holds_of_wide 4 Try.f4 rfl rfl rfl rfl rfl rfl rfl ⟨rfl, rfl, rfl, rfl, rfl⟩ rfl rfl rfl rfl rfl (by kernel_rfl) Try.func4 (by kernel_rfl)
    (of_decide_eq_true (by kernel_rfl)) (by unfold Func.isWrapper; first | (rw [if_pos (by decide +kernel)]; kernel_rfl) | (rw [if_neg (by decide +kernel)]; exact ⟨rfl, rfl⟩))
    (fun os started H enc _ => lifted os started H enc)

theorem proved : Rows.FnExactDoActSaid := over
end Go.Proofs.Ytfnlniknclkeaaa.fnExactDoAct
