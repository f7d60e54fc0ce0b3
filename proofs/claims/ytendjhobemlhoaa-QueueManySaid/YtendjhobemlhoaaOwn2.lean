/- Two slices of numbers that the call has built by append, and append to one of them. -/
import Derived.Test.YtendjhobemlhoaaOwn
import Derived.Maps.AppendAt
namespace Go.Proofs.Ytendjhobemlhoaa
open Go Go.RowKit

/-- They lie in different blocks. -/
def Apart (v v' : Value) : Prop := ∀ b, v.ownBlock = some b → v'.ownBlock ≠ some b
theorem Apart.symm {v v' : Value} (h : Apart v v') : Apart v' v := fun b h1 h2 => h b h2 h1
theorem Apart.none (v : Value) (n c : Nat) : Apart (.slice none n c) v := fun b h => by cases h

theorem wpList_push2 {w : World} {ops : Array Oper} {rest : List Oper} {o : Oper} {a : Act} {Q : Exit → Act → World → Prop} (hgd : o.guard = none) (s x : Operand)
    (ho : o.op = .call { callee := .builtin .append, args := #[s, x], argTypes := #[25, 25] })
    (B : Nat) (v v2 : Value) (xs ys : List Int) (hs : a.eval s = v) (hown : Own w B v xs) (hown2 : Own w B v2 ys) (hap : Apart v v2) (b : Nat) (y : Int) (hx : a.eval x = .slice (some ⟨b, 0, none⟩) 1 1) (hb : Blk w b 3 #[.int .i64 y])
    (hl : xs.length ≤ 4294967296) (hBw : B ≤ w.heap.size)
    (h : ∀ v' w' E, Own w' B v' (xs ++ [y]) → Own w' B v2 ys → Apart v' v2 → (∀ i ∈ E, B ≤ i) → Upd E w w' → wpList Try.prog ops Q rest (a.put o.dst v') w') : wpList Try.prog ops Q (o :: rest) a w := by
  obtain ⟨i0, hi, hz0, hz1, hz2⟩ := info_parts int_info
  refine wpList_append_own_at _ hgd s x 25 ho B 3 i0 (.int .i64 0) 1 8 Try.underlying25 hi hz0 hz1 hz2 rfl (by decide) v xs.length (xs.map (Value.int .i64)) hs hown ⟨b, 0, none⟩ 1 1 [.int .i64 y] hx rfl ?_ ?_ (by unfold maxLen; omega) (by omega) hBw ?_
  · intro j u hj
    match j, hj with
    | 0, hj => simp at hj; subst hj; simpa [Addr.add] using hb.one
  · intro u hu; simp at hu; subst hu; rfl
  · intro v' w' h1 h2 _ h4
    have hE : ∀ i ∈ v.ownBlock.toList, B ≤ i := fun i hm => (World.ownsRow.lt hown i (by simpa using hm)).1
    refine h v' w' v.ownBlock.toList ?_ ?_ ?_ hE ⟨h2.os, h2.tape, h2.output, h2.size, fun k hk hn => h2.block k hk (fun e => hn (by rw [← e]; simp))⟩
    · unfold Own
      rw [List.length_append, List.map_append]
      exact h1
    · refine World.ownsRow.kept hown2 h2 ?_
      cases hv : v2.ownBlock with
      | none => exact .inl rfl
      | some r => exact .inr (fun e => hap r e.symm hv)
    · intro r hr hr2
      rcases h4 with h4 | h4
      · exact hap r (by rw [← h4]; exact hr) hr2
      · rw [hr] at h4
        simp only [Option.some.injEq] at h4
        have := (World.ownsRow.lt hown2 r hr2).2
        omega
end Go.Proofs.Ytendjhobemlhoaa
