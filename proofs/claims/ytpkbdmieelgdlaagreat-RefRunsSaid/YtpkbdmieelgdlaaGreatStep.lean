/- What a call turns within blocks that are told by a predicate; a law's own slices beside them. -/
import Derived.Test.YtpkbdmieelgdlaaGreatP2
namespace Go.Proofs.YtpkbdmieelgdlaaGreat
open Go Go.RowKit

/-- A call that turns blocks of O alone, and new ones; behind it O' are the blocks. -/
structure StepO (O : Nat → Prop) (w : World) (O' : Nat → Prop) (w' : World) : Prop where
  os : w'.os = w.os
  tape : w'.tape = w.tape
  output : w'.output = w.output
  size : w.heap.size ≤ w'.heap.size
  block : ∀ k, k < w.heap.size → ¬ O k → w'.heap[k]? = w.heap[k]?
  own : ∀ k, O' k → O k ∨ w.heap.size ≤ k
section
variable {O O' O'' : Nat → Prop} {w w' w'' : World}
theorem StepO.refl (O : Nat → Prop) (w : World) : StepO O w O w := ⟨rfl, rfl, rfl, Nat.le_refl _, fun _ _ _ => rfl, fun _ h => .inl h⟩
theorem StepO.upd (O : Nat → Prop) (h : Upd [] w w') : StepO O w O w' := ⟨h.os, h.tape, h.output, h.size, fun k hk _ => h.block k hk (by simp), fun _ h => .inl h⟩
theorem StepO.trans (h : StepO O w O' w') (k : StepO O' w' O'' w'') : StepO O w O'' w'' := by
  have hz := h.size
  refine ⟨k.os.trans h.os, k.tape.trans h.tape, k.output.trans h.output, Nat.le_trans h.size k.size, fun i hi hn => (k.block i (by omega) fun hx => ?_).trans (h.block i hi hn), fun i hi => ?_⟩
  · rcases h.own i hx with h1 | h1
    · exact hn h1
    · omega
  · rcases k.own i hi with h1 | h1
    · exact h.own i h1
    · exact .inr (by omega)
theorem StepO.then (h : StepO O w O' w') (k : Upd [] w' w'') : StepO O w O' w'' := h.trans (.upd O' k)
theorem StepO.behind (k : Upd [] w w') (h : StepO O w' O' w'') : StepO O w O' w'' := (StepO.upd O k).trans h
/-- The same turned within more. -/
theorem StepO.wide {P : Nat → Prop} (h : StepO O w O' w') : StepO (fun k => O k ∨ P k) w (fun k => O' k ∨ P k) w' :=
  ⟨h.os, h.tape, h.output, h.size, fun i hi hn => h.block i hi fun e => hn (.inl e), fun i hi => by
    rcases hi with hi | hi
    · rcases h.own i hi with h1 | h1
      · exact .inl (.inl h1)
      · exact .inr h1
    · exact .inl (.inr hi)⟩
end


/-- The blocks O were made since a0, and nothing that was there then has turned. -/
structure Env (a0 w : World) (O : Nat → Prop) : Prop where
  low : ∀ k, O k → a0.heap.size ≤ k
  upd : Upd [] a0 w
/-- A slice of the law's own, beside the blocks O. -/
structure OwnA (w : World) (B : Nat) (v : Value) (xs : List Int) (O : Nat → Prop) : Prop where
  own : Own w B v xs
  far : ∀ g, v.ownBlock = some g → ¬ O g
section
variable {O O' : Nat → Prop} {a0 w w' : World} {B : Nat} {v : Value} {xs : List Int} {E : List Nat}
theorem Env.step (h : Env a0 w O) (k : StepO O w O' w') : Env a0 w' O' :=
  ⟨fun i hi => by
    rcases k.own i hi with h1 | h1
    · exact h.low i h1
    · have := h.upd.size; omega, ⟨k.os.trans h.upd.os, k.tape.trans h.upd.tape, k.output.trans h.upd.output, Nat.le_trans h.upd.size k.size, fun i hi _ => (k.block i (by have := h.upd.size; omega) fun hx => by have := h.low i hx; omega).trans (h.upd.block i hi (by simp))⟩⟩
theorem Env.upd' (h : Env a0 w O) (k : Upd E w w') (hE : ∀ i ∈ E, a0.heap.size ≤ i) : Env a0 w' O := ⟨h.low, h.upd.step k fun i hi => .inr (hE i hi)⟩
theorem Env.upd0 (h : Env a0 w O) (k : Upd [] w w') : Env a0 w' O := h.upd' k (by simp)
theorem Env.new (a0 : World) : Env a0 a0 (fun _ => False) := ⟨fun _ h => h.elim, Upd.refl _ _⟩
theorem Own.moved (h : Own w B v xs) (hb : ∀ g, v.ownBlock = some g → w'.heap[g]? = w.heap[g]?) : Own w' B v xs := by
  obtain ⟨h1, h2⟩ := h
  refine ⟨h1, ?_⟩
  rcases h2 with h2 | ⟨g, cap, cur, h2, h3, h4, h5⟩
  · exact .inl h2
  · exact .inr ⟨g, cap, cur, h2, h3, (hb g (by rw [h2]; rfl)).trans h4, h5⟩
theorem OwnA.step (h : OwnA w B v xs O) (k : StepO O w O' w') : OwnA w' B v xs O' := by
  refine ⟨h.own.moved fun g hg => k.block g (World.ownsRow.lt h.own g hg).2 (h.far g hg), fun g hg hO => ?_⟩
  rcases k.own g hO with h1 | h1
  · exact h.far g hg h1
  · have := (World.ownsRow.lt h.own g hg).2; omega
theorem OwnA.upd0 (h : OwnA w B v xs O) (k : Upd [] w w') : OwnA w' B v xs O := h.step (.upd O k)
theorem OwnA.nil (w : World) (B : Nat) (O : Nat → Prop) : OwnA w B (.slice none 0 0) [] O := ⟨Own.nil _ _, fun g h => by cases h⟩
theorem OwnA.fresh (h : Own w' B v xs) (hB : w.heap.size ≤ B) (hO : ∀ k, O k → k < w.heap.size) : OwnA w' B v xs O := ⟨h, fun g hg hx => by have := (World.ownsRow.lt h g hg).1; have := hO g hx; omega⟩
end

/-- 'append' of one number to a slice of the law's own, beside the blocks O. -/
theorem wpList_pushO {w : World} {ops : Array Oper} {rest : List Oper} {o : Oper} {a : Act} {Q : Exit → Act → World → Prop} (hgd : o.guard = none) (s x : Operand)
    (ho : o.op = .call { callee := .builtin .append, args := #[s, x], argTypes := #[23, 23] })
    (B : Nat) (v : Value) (xs : List Int) (O : Nat → Prop) (hs : a.eval s = v) (hown : OwnA w B v xs O) (b : Nat) (y : Int) (hx : a.eval x = .slice (some ⟨b, 0, none⟩) 1 1) (hb : Blk w b 3 #[.int .i64 y])
    (hl : xs.length ≤ 4294967296) (hBw : B ≤ w.heap.size) (hO : ∀ k, O k → k < w.heap.size)
    (h : ∀ v' w' E, OwnA w' B v' (xs ++ [y]) O → (∀ i ∈ E, v.ownBlock = some i) → Upd E w w' → (v'.ownBlock = v.ownBlock ∨ v'.ownBlock = some w.heap.size) → wpList Tryz.prog ops Q rest (a.put o.dst v') w') : wpList Tryz.prog ops Q (o :: rest) a w := by
  obtain ⟨i0, hi, hz0, hz1, hz2⟩ := info_parts int_info
  refine wpList_append_own_at _ hgd s x 23 ho B 3 i0 (.int .i64 0) 1 8 Tryz.underlying23 hi hz0 hz1 hz2 rfl (by decide) v xs.length (xs.map (Value.int .i64)) hs hown.own ⟨b, 0, none⟩ 1 1 [.int .i64 y] hx rfl ?_ ?_ (by unfold maxLen; omega) (by omega) hBw ?_
  · intro j u hj
    match j, hj with
    | 0, hj => simp at hj; subst hj; simpa [Addr.add] using hb.one
  · intro u hu; simp at hu; subst hu; rfl
  · intro v' w' h1 h2 _ h4
    refine h v' w' v.ownBlock.toList ⟨?_, fun g hg hx => ?_⟩ (fun i hi => by simpa using hi) ⟨h2.os, h2.tape, h2.output, h2.size, fun k hk hn => h2.block k hk (fun e => hn (by rw [← e]; simp))⟩ h4
    · unfold Own
      rw [List.length_append, List.map_append]
      exact h1
    · rcases h4 with h4 | h4
      · exact hown.far g (by rw [← h4]; exact hg) hx
      · rw [hg] at h4
        simp only [Option.some.injEq] at h4
        have := hO g hx
        omega
end Go.Proofs.YtpkbdmieelgdlaaGreat
