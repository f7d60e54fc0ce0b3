/- Slices of numbers: read, and built by append. (The same words as in the texts Bits, Reads, Own, where there are no bits.) -/
import Derived.Test.YtnhgmmjlhhgdoaaErr
import Derived.Test.YtnhgmmjlhhgdoaaStructs
import Derived.Laws.AppendOwnNone
namespace Go.Proofs.Ytnhgmmjlhhgdoaa
open Go Go.RowKit

/-- A slice of numbers that can be read. -/
def IsInts (w : World) (A : Option Addr) (xs : List Int) : Prop := xs = [] ∨ ∃ b off, A = some ⟨b, off, none⟩ ∧ b < w.heap.size ∧ ∀ i, i < xs.length → w.cell? ⟨b, off + i, none⟩ = some (.int .i64 (xs.getD i 0))
theorem IsInts.upd {w w' : World} {A : Option Addr} {xs : List Int} {E : List Nat} (h : IsInts w A xs) (hu : Upd E w w') (hE : xs = [] ∨ ∀ a, A = some a → a.block ∉ E) : IsInts w' A xs := by
  rcases h with h | ⟨b, off, rfl, hb, hc⟩
  · exact .inl h
  · rcases hE with hE | hE
    · exact .inl hE
    · refine .inr ⟨b, off, rfl, Nat.lt_of_lt_of_le hb hu.size, fun i hi => ?_⟩
      rw [hu.cell (p := ⟨b, off + i, none⟩) hb (show b ∉ E from hE _ rfl)]
      exact hc i hi

/-- A slice of numbers of a kind that can be read. -/
def Reads (w : World) (k : IntKind) (A : Option Addr) (xs : List Int) : Prop := xs = [] ∨ ∃ b off, A = some ⟨b, off, none⟩ ∧ b < w.heap.size ∧ ∀ i, i < xs.length → w.cell? ⟨b, off + i, none⟩ = some (.int k (xs.getD i 0))
section
variable {w w' : World} {k : IntKind} {A : Option Addr} {xs : List Int} {E : List Nat}
theorem Reads.at (h : Reads w k A xs) {n i : Nat} (hn : xs.length = n) (hi : i < n) : ∃ b off, A = some ⟨b, off, none⟩ ∧ b < w.heap.size ∧ w.cell? ⟨b, off + i, none⟩ = some (.int k (xs.getD i 0)) := by
  rcases h with rfl | ⟨b, off, h1, h2, h3⟩
  · simp at hn; omega
  · exact ⟨b, off, h1, h2, h3 i (by omega)⟩
theorem Reads.upd (h : Reads w k A xs) (hu : Upd E w w') (hE : ∀ i ∈ E, w.heap.size ≤ i) : Reads w' k A xs := by
  rcases h with h | ⟨b, off, rfl, hb, hc⟩
  · exact .inl h
  · refine .inr ⟨b, off, rfl, Nat.lt_of_lt_of_le hb hu.size, fun i hi => ?_⟩
    rw [hu.cell (p := ⟨b, off + i, none⟩) hb (fun hm => by have := hE _ hm; simp only at this; omega)]
    exact hc i hi
theorem Reads.ints (h : Reads w .i64 A xs) : IsInts w A xs := h
theorem reads_of {len cap : Nat} {zs : List Int} (h : (A = none ∧ len = 0 ∧ cap = 0 ∧ zs = []) ∨
    ∃ x, A = some x ∧ len ≤ cap ∧ cap ≤ maxLen ∧ zs.length = cap ∧ (∀ i, i < zs.length → w.cell? (x.add i) = some (.int k (zs.getD i 0))) ∧ ∀ n ∈ zs, (Lit.int k n).wf = true) :
    ∃ xs : List Int, xs.length = len ∧ len ≤ maxLen ∧ Reads w k A xs ∧ ∀ n ∈ xs, (Lit.int k n).wf = true := by
  rcases h with ⟨rfl, rfl, rfl, rfl⟩ | ⟨x, rfl, hl, hm, hz, hc, hw⟩
  · exact ⟨[], rfl, Nat.zero_le _, .inl rfl, fun n hn => by cases hn⟩
  · refine ⟨zs.take len, by simp; omega, by omega, ?_, fun n hn => hw n (List.mem_of_mem_take hn)⟩
    rcases Nat.eq_zero_or_pos len with rfl | hpos
    · exact .inl (by simp)
    · have h0 := hc 0 (by omega)
      have ha : x.add 0 = x := by simp [Addr.add]
      rw [ha] at h0
      have hs := spot_of_cell h0
      obtain ⟨b, off, sp⟩ := x
      simp only at hs
      subst hs
      refine .inr ⟨b, off, rfl, World.block_lt_of_cell? _ _ h0, fun i hi => ?_⟩
      simp only [List.length_take] at hi
      have := hc i (by omega)
      rw [add_plain] at this
      rw [this, List.getD_eq_getElem?_getD, List.getD_eq_getElem?_getD, List.getElem?_take_of_lt (by omega)]
end
theorem getD_mem {xs : List Int} {k : Nat} (hk : k < xs.length) : xs.getD k 0 ∈ xs := by
  rw [List.getD_eq_getElem?_getD, List.getElem?_eq_getElem hk]
  exact List.getElem_mem hk

/-- A slice of the call's own, from block B on: the numbers xs. -/
def Own (w : World) (B : Nat) (v : Value) (xs : List Int) : Prop := w.ownsRow B 3 1 v xs.length (xs.map (Value.int .i64))
section
variable {w w' a0 : World} {B : Nat} {v : Value} {xs : List Int} {E : List Nat}
theorem Own.nil (w : World) (B : Nat) : Own w B (.slice none 0 0) [] := World.ownsRow_nil _ _ _ _
theorem Own.empty (w : World) (hB : B ≤ w.heap.size) : Own (w.alloc (.cells #[] 3)) B (.slice (some ⟨w.heap.size, 0, none⟩) 0 0) [] := World.ownsRow_lit w #[] 0 hB (by unfold maxLen; omega) rfl
theorem Own.alloc (h : Own w B v xs) (o : Obj) : Own (w.alloc o) B v xs := World.ownsRow.alloc h o
theorem Own.drew (h : Own w B v xs) : Own w.drew B v xs := h
theorem Own.upd (h : Own w B v xs) (hu : Upd E w w') (hE : ∀ i ∈ E, i < B) : Own w' B v xs := by
  obtain ⟨h1, h2⟩ := h
  refine ⟨h1, ?_⟩
  rcases h2 with h2 | ⟨g, cap, cur, h2, h3, h4, h5⟩
  · exact .inl h2
  · refine .inr ⟨g, cap, cur, h2, h3, ?_, h5⟩
    have hlt : g < w.heap.size := by
      rcases Nat.lt_or_ge g w.heap.size with hlt | hge
      · exact hlt
      · rw [Array.getElem?_eq_none hge] at h4; cases h4
    rw [hu.block g hlt (fun hm => by have := hE g hm; omega)]
    exact h4
/-- It is a slice of so many numbers that can be read. -/
theorem Own.form (h : Own w B v xs) : ∃ A cap, v = .slice A xs.length cap ∧ IsInts w A xs ∧ (A = none → xs.length = 0 ∧ cap = 0) := by
  have h0 := h
  obtain ⟨h1, h2⟩ := h
  rcases h2 with ⟨rfl, h2⟩ | ⟨g, cap, cur, rfl, h3, h4, h5⟩
  · refine ⟨none, 0, by rw [h2], .inl (List.eq_nil_of_length_eq_zero h2), fun _ => ⟨h2, rfl⟩⟩
  · refine ⟨_, cap, rfl, ?_, fun h => by cases h⟩
    refine .inr ⟨g, 0, rfl, (h0.lt g rfl).2, fun i hi => ?_⟩
    rw [Nat.zero_add, World.ownsRow.cellAt h0 i (by omega), List.getElem?_map, List.getD_eq_getElem?_getD, List.getElem?_eq_getElem hi]
    rfl
end

/-- 'append' of one number. -/
theorem wpList_push {w : World} {ops : Array Oper} {rest : List Oper} {o : Oper} {a : Act} {Q : Exit → Act → World → Prop} (a0 : World) (hgd : o.guard = none) (s x : Operand)
    (ho : o.op = .call { callee := .builtin .append, args := #[s, x], argTypes := #[22, 22] })
    (B : Nat) (v : Value) (xs : List Int) (hs : a.eval s = v) (hown : Own w B v xs) (b : Nat) (y : Int) (hx : a.eval x = .slice (some ⟨b, 0, none⟩) 1 1) (hb : Blk w b 3 #[.int .i64 y])
    (hl : xs.length ≤ 4294967296) (hB : a0.heap.size ≤ B) (hU : Upd [] a0 w) (hBw : B ≤ w.heap.size)
    (h : ∀ v' w', Own w' B v' (xs ++ [y]) → Upd [] a0 w' → B ≤ w'.heap.size → wpList Try.prog ops Q rest (a.put o.dst v') w') : wpList Try.prog ops Q (o :: rest) a w := by
  obtain ⟨i0, hi, hz0, hz1, hz2⟩ := info_parts int_info
  refine wpList_append_own _ hgd s x 22 ho B 3 i0 (.int .i64 0) 1 8 Try.underlying22 hi hz0 hz1 hz2 rfl (by decide) v xs.length (xs.map (Value.int .i64)) hs hown ⟨b, 0, none⟩ 1 1 [.int .i64 y] hx rfl ?_ ?_ (by unfold maxLen; omega) (by omega) hBw ?_
  · intro j u hj
    match j, hj with
    | 0, hj => simp at hj; subst hj; simpa [Addr.add] using hb.one
  · intro u hu; simp at hu; subst hu; rfl
  · intro v' w' h1 h2 _
    refine h v' w' ?_ (hU.grown h2 (fun k hk => .inr ?_)) (Nat.le_trans hBw h2.size)
    · unfold Own
      rw [List.length_append, List.map_append]
      exact h1
    · have := World.ownsRow.lt hown k hk
      omega

/-- 'append' of a slice of numbers. -/
theorem wpList_pushes {w : World} {ops : Array Oper} {rest : List Oper} {o : Oper} {a : Act} {Q : Exit → Act → World → Prop} (a0 : World) (hgd : o.guard = none) (s x : Operand)
    (ho : o.op = .call { callee := .builtin .append, args := #[s, x], argTypes := #[22, 22] })
    (B : Nat) (v : Value) (xs : List Int) (hs : a.eval s = v) (hown : Own w B v xs) (A : Option Addr) (c : Nat) (ys : List Int) (m : Nat) (hm : ys.length = m) (hx : a.eval x = .slice A m c) (hy : IsInts w A ys) (hn : A = none → ys.length = 0 ∧ c = 0)
    (hl : xs.length + ys.length ≤ 4294967296) (hB : a0.heap.size ≤ B) (hU : Upd [] a0 w) (hBw : B ≤ w.heap.size)
    (h : ∀ v' w', Own w' B v' (xs ++ ys) → Upd [] a0 w' → B ≤ w'.heap.size → wpList Try.prog ops Q rest (a.put o.dst v') w') : wpList Try.prog ops Q (o :: rest) a w := by
  subst hm
  obtain ⟨i0, hi, hz0, hz1, hz2⟩ := info_parts int_info
  cases A with
  | none =>
    obtain ⟨h1, rfl⟩ := hn rfl
    obtain rfl := List.eq_nil_of_length_eq_zero h1
    refine wpList_append_own_none hgd s x 22 ho B 3 i0 1 Try.underlying22 hi v xs.length (xs.map (Value.int .i64)) hs hown hx ?_
    exact h v w (by simpa using hown) hU hBw
  | some ad =>
    refine wpList_append_own _ hgd s x 22 ho B 3 i0 (.int .i64 0) 1 8 Try.underlying22 hi hz0 hz1 hz2 rfl (by decide) v xs.length (xs.map (Value.int .i64)) hs hown ad ys.length c (ys.map (Value.int .i64)) hx (by simp) ?_ ?_ (by unfold maxLen; omega) (by omega) hBw ?_
    · intro j u hj
      rcases hy with rfl | ⟨b, off, h1, h2, h3⟩
      · simp at hj
      · simp only [Option.some.injEq] at h1
        subst h1
        have hjl : j < ys.length := by
          have := (List.getElem?_eq_some_iff.1 hj).1
          simpa using this
        rw [add_plain, h3 j hjl]
        rw [List.getElem?_map, List.getElem?_eq_getElem hjl] at hj
        rw [List.getD_eq_getElem?_getD, List.getElem?_eq_getElem hjl]
        exact hj
    · intro u hu
      obtain ⟨x, _, rfl⟩ := List.mem_map.1 hu
      rfl
    · intro v' w' h1 h2 _
      refine h v' w' ?_ (hU.grown h2 (fun k hk => .inr ?_)) (Nat.le_trans hBw h2.size)
      · unfold Own
        rw [List.length_append, List.map_append]
        exact h1
      · have := World.ownsRow.lt hown k hk
        omega
end Go.Proofs.Ytnhgmmjlhhgdoaa
