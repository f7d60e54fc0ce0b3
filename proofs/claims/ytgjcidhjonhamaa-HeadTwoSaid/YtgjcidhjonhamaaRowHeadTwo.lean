/- The row of HeadTwo: for every two heads the law returns true and leaves its arguments as they were. No condition. -/
import Derived.Test.YtgjcidhjonhamaaRows
import Derived.Test.YtgjcidhjonhamaaPHeadTwox3
import Derived.Test.YtgjcidhjonhamaaPureHeadTwo
import Derived.WalkKit
import Derived.ProofKit
import Derived.OpenShut
import Derived.ShutString
import Derived.ChangeOld
import Derived.Below
import Derived.SizedLaws
import Derived.Lib.SmallJoins
namespace Go.Proofs.Ytgjcidhjonhamaa.headTwo
open Go.ChangeShapes Go.WideShapes Go.ChangeAt Go.RowKit
set_option linter.unusedVariables false
theorem own : ownKnob Try.prog.godebug = none := by kernel_rfl
theorem laidOut : laidOutB Try.prog = true := by kernel_rfl
def IsRow (k : IntKind) (w : World) (a : Option Addr) (len cap : Nat) (zs : List Int) : Prop :=
  (a = none ∧ len = 0 ∧ cap = 0 ∧ zs = []) ∨
  ∃ x, a = some x ∧ len ≤ cap ∧ cap ≤ maxLen ∧ zs.length = cap ∧ (∀ i, i < zs.length → w.cell? (x.add i) = some (.int k (zs.getD i 0))) ∧ ∀ n ∈ zs, (Lit.int k n).wf = true
set_option maxRecDepth 100000 in
theorem lifted (os : Os) (started : os.Started) (H : Type) (enc : TypeId × Value → H) :
    ReturnsInHanded {} Try.checked os 10 .any (Rows.headTwoSpec.pre6 enc Try.prog Try.f10 Rows.headTwoRow.domain false) (Rows.headTwoSpec.post enc Try.prog Try.f10 false true false false) := by
  refine returnsInHanded_of_change_sized (C := Try.checked) own started (by kernel_rfl) Try.func10
    (ChangeSpec.witness6 (enc := enc) (C := Try.checked) false ⟨#[], #[.agg #[.int .i64 0, .int .i64 0, .int .i64 0, .bool false], .agg #[.int .i64 0, .int .i64 0, .int .i64 0, .bool false]], []⟩ 8 (by kernel_rfl) (by kernel_rfl) (by kernel_rfl) (by kernel_rfl)) ?_
  intro W base args ds gs before hval0 hW hcnd hsz0 _
  have hsz : (DataW.weightsEach Try.prog (Try.f10.params.toList ++ Rows.headTwoSpec.plain.varTypes Try.prog) (ds ++ gs)).all (· ≤ reachBytes) = true := hsz0
  have hval : ∀ (j : Nat) t v, Try.f10.params[j]? = some t → args[j]? = some v → Value.okWide Try.prog W .any base t v := hval0
  have hW' := hW
  obtain ⟨p, q, hA0, hV, rfl, hfz, hnd⟩ := hW
  have hA : DataW.TrodAll enc Try.prog W 0 (fun _ => true) true Try.f10.params.toList args.toList ds p := hA0
  rw [Try.params10] at hA hval hsz
  obtain ⟨v0, vs0, d0, ds0, p0, q0, hargs, rfl, rfl, h0, r0⟩ := trodAll_cons hA
  obtain ⟨v1, vs1, d1, ds1, p1, q1, rfl, rfl, rfl, h1, r1⟩ := trodAll_cons r0
  obtain ⟨rfl, rfl, rfl⟩ := trodAll_nil r1
  obtain rfl : args = #[v0, v1] := by cases args; simp_all
  obtain ⟨rfl, rfl⟩ := trodVars_none hV
  have k0 := h0
  have lt0 : ∀ x ∈ p0, x.block < W.heap.size := by obtain ⟨m, hm⟩ := k0; exact DataW.trod_lt m _ _ _ hm
  obtain ⟨c0_0, c0_1, c0_2, c0_3, e0_0, e0_1, e0_2, e0_3, n0, rfl, rfl, rfl, t0_0, t0_1, t0_2, t0_3⟩ := Go.Joins.open_agg4 Try.underlying36 (by kernel_rfl) (by kernel_rfl) (hval 0 36 v0 rfl rfl) h0
  obtain ⟨a0_0, q0_0, _, w0_0⟩ := DataW.trod_int Try.underlying3 t0_0
  obtain ⟨a0_1, q0_1, _, w0_1⟩ := DataW.trod_int Try.underlying3 t0_1
  obtain ⟨a0_2, q0_2, _, w0_2⟩ := DataW.trod_int Try.underlying3 t0_2
  obtain ⟨a0_3, q0_3, _⟩ := DataW.trod_bool Try.underlying4 t0_3
  simp only [List.cons.injEq, and_true] at q0_0 q0_1 q0_2 q0_3
  subst q0_0 q0_1 q0_2 q0_3
  have k1 := h1
  have lt1 : ∀ x ∈ p1, x.block < W.heap.size := by obtain ⟨m, hm⟩ := k1; exact DataW.trod_lt m _ _ _ hm
  obtain ⟨c1_0, c1_1, c1_2, c1_3, e1_0, e1_1, e1_2, e1_3, n1, rfl, rfl, rfl, t1_0, t1_1, t1_2, t1_3⟩ := Go.Joins.open_agg4 Try.underlying36 (by kernel_rfl) (by kernel_rfl) (hval 1 36 v1 rfl rfl) h1
  obtain ⟨a1_0, q1_0, _, w1_0⟩ := DataW.trod_int Try.underlying3 t1_0
  obtain ⟨a1_1, q1_1, _, w1_1⟩ := DataW.trod_int Try.underlying3 t1_1
  obtain ⟨a1_2, q1_2, _, w1_2⟩ := DataW.trod_int Try.underlying3 t1_2
  obtain ⟨a1_3, q1_3, _⟩ := DataW.trod_bool Try.underlying4 t1_3
  simp only [List.cons.injEq, and_true] at q1_0 q1_1 q1_2 q1_3
  subst q1_0 q1_1 q1_2 q1_3
  clear hA0 hval0 hsz0 hsz
  obtain ⟨k, hk⟩ := Pure.HeadTwo a0_0 a0_1 a0_2 a0_3 a1_0 a1_1 a1_2 a1_3
  refine (PHeadTwo.gloaminglaw8_HeadTwo.calls k a0_0 a0_1 a0_2 a0_3 a1_0 a1_1 a1_2 a1_3 true W hk).mono fun e W' ⟨he, bel⟩ => ?_
  subst he
  exact ⟨_, rfl, _, _, _, [], _, [], hW', trodAll_mk1 (shut_bool Try.underlying4 _), (trodAll_cons_mk (Below.trod laidOut (by kernel_rfl) (of_decide_eq_true (by kernel_rfl)) k0 bel lt0) (trodAll_cons_mk (Below.trod laidOut (by kernel_rfl) (of_decide_eq_true (by kernel_rfl)) k1 bel lt1) trodAll_mk0)), rfl, bel.frame _, fun h => by cases h⟩
theorem over : Rows.headTwoRow.holds Try.pinned (OpenSpec.ofChange Rows.headTwoSpec) :=
  OpenClaim.holds_of_wide 10 Try.f10 rfl rfl rfl rfl rfl rfl rfl ⟨rfl, rfl, rfl, rfl, rfl⟩ rfl rfl rfl rfl rfl (by kernel_rfl) Try.func10 (by kernel_rfl)
    (of_decide_eq_true (by kernel_rfl)) (by unfold Func.isWrapper; first | (rw [if_pos (by decide +kernel)]; kernel_rfl) | (rw [if_neg (by decide +kernel)]; exact ⟨rfl, rfl⟩))
    (fun os started H enc _ => lifted os started H enc)
theorem proved : Rows.HeadTwoSaid := over
#print axioms proved
end Go.Proofs.Ytgjcidhjonhamaa.headTwo
namespace Go.Proofs.Ytgjcidhjonhamaa
/-- The row, under a short name, for the claim. -/
theorem headTwo_holds : Rows.HeadTwoSaid := headTwo.proved
end Go.Proofs.Ytgjcidhjonhamaa
