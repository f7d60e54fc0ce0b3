/- One step of a region that draws its order: append of numbers to a slice of the call's own. -/
import Derived.Test.YtpkbdmieelgdlaaGreatP1
import Derived.Deep.RegionLaw
namespace Go.Proofs.YtpkbdmieelgdlaaGreat
open Go Go.RowKit

/-- One step: append of numbers to a slice of the call's own. -/
theorem step_pushes {ops : Array Oper} {o : Oper} {a : Act} {w : World} {K : Act → World → Prop} {Q : Exit → Act → World → Prop} {E : Prop} (a0 : World) (hgd : o.guard = none) (s x : Operand)
    (ho : o.op = .call { callee := .builtin .append, args := #[s, x], argTypes := #[23, 23] })
    (B : Nat) (v : Value) (xs : List Int) (hs : a.eval s = v) (hown : Own w B v xs) (A : Option Addr) (c : Nat) (ys : List Int) (m : Nat) (hm : ys.length = m) (hx : a.eval x = .slice A m c) (hy : IsInts w A ys) (hn : A = none → ys.length = 0 ∧ c = 0)
    (hl : xs.length + ys.length ≤ 4294967296) (hB : a0.heap.size ≤ B) (hU : Upd [] a0 w) (hBw : B ≤ w.heap.size)
    (h : ∀ v' w', Own w' B v' (xs ++ ys) → Upd [] a0 w' → B ≤ w'.heap.size → Upd v.ownBlock.toList w w' → K (a.put o.dst v') w') :
    if Region.wanted o (yielded ops a.tmps) = true then Oper.wp Tryz.prog o a w K Q else E := by
  have hw : Region.wanted o (yielded ops a.tmps) = true := by simp [Region.wanted, hgd]
  rw [if_pos hw]
  subst hm
  obtain ⟨i0, hi, hz0, hz1, hz2⟩ := info_parts int_info
  cases A with
  | none =>
    obtain ⟨h1, rfl⟩ := hn rfl
    obtain rfl := List.eq_nil_of_length_eq_zero h1
    have hrun := run_append_owned_none (P := Tryz.prog) (w := w) B 23 o.type 3 i0 1 Tryz.underlying23 hi v xs.length (xs.map (Value.int .i64)) hown
    unfold Oper.wp
    simp [execOp, ho, resolve, invoke, builtin, hs, hx, hrun, Result.andThen]
    exact h v w (by simpa using hown) hU hBw (Upd.refl _ _)
  | some ad =>
    refine wp_append_own w s x 23 ho B 3 i0 (.int .i64 0) 1 8 Tryz.underlying23 hi hz0 hz1 hz2 rfl (by decide) v xs.length (xs.map (Value.int .i64)) hs hown ad ys.length c (ys.map (Value.int .i64)) hx (by simp) ?_ ?_ (by unfold maxLen; omega) (by omega) hBw ?_
    · intro j u hj
      rcases hy with rfl | ⟨b, off, h1, h2, h3⟩
      · simp at hj
      · simp only [Option.some.injEq] at h1
        subst h1
        have hjl : j < ys.length := by
          have := (List.getElem?_eq_some_iff.1 hj).1
          simpa using this
        rw [add_plain, h3 j hjl]
        rw [List.getElem?_map, List.getElem?_eq_getElem hjl] at hj
        rw [List.getD_eq_getElem?_getD, List.getElem?_eq_getElem hjl]
        exact hj
    · intro u hu
      obtain ⟨x, _, rfl⟩ := List.mem_map.1 hu
      rfl
    · intro v' w' h1 h2 _
      refine h v' w' ?_ (hU.grown h2 (fun k hk => .inr ?_)) (Nat.le_trans hBw h2.size) ⟨h2.os, h2.tape, h2.output, h2.size, fun k hk hn => h2.block k hk (fun e => hn (by rw [← e]; simp))⟩
      · unfold Own
        rw [List.length_append, List.map_append]
        exact h1
      · have := World.ownsRow.lt hown k hk
        omega
end Go.Proofs.YtpkbdmieelgdlaaGreat
