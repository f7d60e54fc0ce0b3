/- A plan for all operations of a region but its last one, which waits for all others. No program in sight. -/
import Derived.Test.YtnhgmmjlhhgdoaaPlan3
import Derived.Test.YtnhgmmjlhhgdoaaSink
namespace Go.Proofs.Ytnhgmmjlhhgdoaa.Plan
open Go Sink

section
variable {P : Program} {l : List Oper} {o : Oper} {Q : Exit → Act → World → Prop}
theorem wp_plan_sink {id : Nat} {a : Act} {w : World} (plan : List Step) (N : Nat) (S : World → Prop) (ho : l.getLast? = some o) (hN : l.dropLast.length = N) (hm : P.follows .mixedOrders = true) (hh : headB l.dropLast = true) (hl : lastB N o = true) (hok : planOk l.dropLast plan = true)
    (hQ : ∀ c a d v w, Q (.panic c) (Act.put a d v) w → Q (.panic c) a w) (hS : S w.drew) (h : S w.drew → wpPlan P l.dropLast S (Tail P l o Q) plan a w.drew) : (Code.region id l.toArray true).wp P Q a w := by
  refine wp_sinkH N S ho hN hm hh hl hS (fun hS => ?_)
  unfold planOk at hok
  simp only [Bool.and_eq_true] at hok
  obtain ⟨⟨⟨h1, h2⟩, h3⟩, h4⟩ := hok
  subst hN
  have := plan_sound (P := P) (S := S) (Q := Tail P l o Q) h1 (fun c a d v w hh => hQ c a d v w hh) plan (Array.replicate l.dropLast.length false) 0 l.dropLast.length a w.drew ⟨by simp, fun j => ?_⟩ h2 h3 (of_decide_eq_true h4) hS (h hS)
  · exact this
  · rw [Nat.zero_testBit, Array.getD_eq_getD_getElem?]
    cases hq : (Array.replicate l.dropLast.length false)[j]? with
    | none => rfl
    | some b =>
      have hb := Array.getElem?_eq_some_iff.1 hq
      obtain ⟨_, hb⟩ := hb
      simp at hb
      rw [hb]
      rfl
theorem sink_done {a : Act} {w : World} {S : World → Prop} {lst : List Oper} (h : wpList P l.toArray Q [o] a w) : wpPlan P lst S (Tail P l o Q) [] a w := h
end
end Go.Proofs.Ytnhgmmjlhhgdoaa.Plan
