/- A law's own rows: a slice of slices of numbers, each built by append. -/
import Derived.Test.YtendjhobemlhoaaQLaw
import Derived.Maps.AppendAt
import Derived.Deep.RegionLaw
namespace Go.Proofs.Ytendjhobemlhoaa
open Go Go.RowKit

/-- One step: append of one number to a slice of one's own. -/
theorem step_push1 {ops : Array Oper} {o : Oper} {a : Act} {w : World} {K : Act → World → Prop} {Q : Exit → Act → World → Prop} {E : Prop} (hgd : o.guard = none) (s x : Operand)
    (ho : o.op = .call { callee := .builtin .append, args := #[s, x], argTypes := #[25, 25] })
    (B : Nat) (v : Value) (xs : List Int) (hs : a.eval s = v) (hown : Own w B v xs) (b : Nat) (y : Int) (hx : a.eval x = .slice (some ⟨b, 0, none⟩) 1 1) (hb : Blk w b 3 #[.int .i64 y])
    (hl : xs.length ≤ 4294967296) (hBw : B ≤ w.heap.size)
    (h : ∀ v' w', Own w' B v' (xs ++ [y]) → Upd v.ownBlock.toList w w' → (v'.ownBlock = v.ownBlock ∨ v'.ownBlock = some w.heap.size) → K (a.put o.dst v') w') :
    if Region.wanted o (yielded ops a.tmps) = true then Oper.wp Try.prog o a w K Q else E := by
  have hw : Region.wanted o (yielded ops a.tmps) = true := by simp [Region.wanted, hgd]
  rw [if_pos hw]
  obtain ⟨i0, hi, hz0, hz1, hz2⟩ := info_parts int_info
  obtain ⟨v', w', hrun, h1, h2, _, h4⟩ := run_append_own_at (P := Try.prog) (w := w) B 25 o.type 3 i0 (.int .i64 0) 1 8 Try.underlying25 hi hz0 hz1 hz2 rfl (by decide) v xs.length (xs.map (Value.int .i64)) hown ⟨b, 0, none⟩ 1 1 [.int .i64 y] rfl
    (by
      intro j u hj
      match j, hj with
      | 0, hj => simp at hj; subst hj; simpa [Addr.add] using hb.one)
    (by intro u hu; simp at hu; subst hu; rfl) (by unfold maxLen; omega) (by omega) hBw
  unfold Oper.wp
  simp [execOp, ho, resolve, invoke, builtin, hs, hx, hrun, Result.andThen]
  refine h v' w' ?_ ⟨h2.os, h2.tape, h2.output, h2.size, fun k hk hn => h2.block k hk (fun e => hn (by rw [← e]; simp))⟩ h4
  unfold Own
  rw [List.length_append, List.map_append]
  exact h1
theorem Own.slice' {w : World} {B : Nat} {v : Value} {xs : List Int} (h : Own w B v xs) : ∃ A cap, v = .slice A xs.length cap := by
  obtain ⟨A, cap, e, _⟩ := h.form
  exact ⟨A, cap, e⟩
theorem ints_info : (Try.prog.info? 25).map (fun i => (i.zero, i.size, i.bytes)) = some (some (.slice none 0 0), 1, 24) := by kernel_rfl

def vnil : Value := .slice none 0 0
/-- The rows R lie at block g. -/
structure Rows3 (w : World) (B g : Nat) (vs : List Value) (R : List (List Int)) (O : Nat → Prop) : Prop where
  blk : Blk w g 25 vs.toArray
  len : vs.length = R.length
  own : ∀ i, i < R.length → Own w B (vs.getD i vnil) (R.getD i [])
  far : ∀ i, i < R.length → ∀ k, (vs.getD i vnil).ownBlock = some k → ¬ O k ∧ k ≠ g
  apart : ∀ i j, i < R.length → j < R.length → i ≠ j → Apart (vs.getD i vnil) (vs.getD j vnil)
  far0 : ¬ O g
  low : B ≤ g
section
variable {w w' : World} {B g : Nat} {vs : List Value} {R : List (List Int)} {O O' : Nat → Prop}
theorem Rows3.step (h : Rows3 w B g vs R O) (k : StepO O w O' w') : Rows3 w' B g vs R O' := by
  have hno : ∀ b, b < w.heap.size → ¬ O b → ¬ O' b := fun b hb hn hx => by
    rcases k.own b hx with h1 | h1
    · exact hn h1
    · omega
  exact ⟨h.blk.moved (k.block g h.blk.lt h.far0), h.len, fun i hi => (h.own i hi).moved fun b hb => k.block b (World.ownsRow.lt (h.own i hi) b hb).2 (h.far i hi b hb).1, fun i hi b hb => ⟨hno b (World.ownsRow.lt (h.own i hi) b hb).2 (h.far i hi b hb).1, (h.far i hi b hb).2⟩, h.apart, hno g h.blk.lt h.far0, h.low⟩
theorem Rows3.upd0 (h : Rows3 w B g vs R O) (hu : Upd [] w w') : Rows3 w' B g vs R O := h.step (.upd O hu)
theorem Rows3.cell (h : Rows3 w B g vs R O) {i : Nat} (hi : i < R.length) : w.cell? ⟨g, i, none⟩ = some (vs.getD i vnil) ∧ w.frozen? ⟨g, i, none⟩ = false := by
  refine ⟨?_, h.blk.frozen i⟩
  rw [h.blk.cell, List.getD_eq_getElem?_getD, List.getElem?_eq_getElem (by rw [h.len]; exact hi)]
  simp [h.len, hi]
theorem rows_getD_set (R : List (List Int)) (k i : Nat) (r : List Int) (hk : k < R.length) : (R.set k r).getD i [] = if i = k then r else R.getD i [] := rows_set R k i r hk
theorem vals_getD_set (vs : List Value) (k i : Nat) (v : Value) (hk : k < vs.length) : (vs.set k v).getD i vnil = if i = k then v else vs.getD i vnil := by
  rw [List.getD_eq_getElem?_getD, List.getD_eq_getElem?_getD, List.getElem?_set]
  by_cases h : k = i
  · subst h; rw [if_pos rfl, if_pos rfl, if_pos hk]; rfl
  · rw [if_neg h, if_neg (Ne.symm h)]
/-- A row has one more; behind the store. -/
theorem Rows3.put (h : Rows3 w B g vs R O) {k : Nat} (hk : k < R.length) {v' : Value} {r' : List Int} (ho : Own w' B v' r') (hu : Upd (vs.getD k vnil).ownBlock.toList w w') (hv : v'.ownBlock = (vs.getD k vnil).ownBlock ∨ v'.ownBlock = some w.heap.size) (hO : ∀ b, O b → b < w.heap.size) :
    Rows3 (w'.setCell ⟨g, k, none⟩ v') B g (vs.set k v') (R.set k r') O ∧ w'.cell? ⟨g, k, none⟩ = some (vs.getD k vnil) ∧ w'.frozen? ⟨g, k, none⟩ = false ∧ (∀ b, b < w.heap.size → b ≠ g → (vs.getD k vnil).ownBlock ≠ some b → (w'.setCell ⟨g, k, none⟩ v').heap[b]? = w.heap[b]?) ∧ ∀ b, O b → b ≠ g ∧ (vs.getD k vnil).ownBlock ≠ some b := by
  have hgw := h.blk.lt
  have hE : ∀ b, b < w.heap.size → (vs.getD k vnil).ownBlock ≠ some b → w'.heap[b]? = w.heap[b]? := fun b hb hn => hu.block b hb fun hm => hn (by simpa using hm)
  have hs : ∀ b, b ≠ g → (w'.setCell ⟨g, k, none⟩ v').heap[b]? = w'.heap[b]? := fun b hb => Below.heap_setCell _ _ _ _ hb
  have hvg : (vs.getD k vnil).ownBlock ≠ some g := fun e => (h.far k hk g e).2 rfl
  have hblk : Blk w' g 25 vs.toArray := h.blk.moved (hE g hgw hvg)
  have hkl : k < vs.length := by rw [h.len]; exact hk
  have hv'g : ∀ b, v'.ownBlock = some b → ¬ O b ∧ b ≠ g := fun b hb => by
    rcases hv with h1 | h1
    · exact h.far k hk b (h1 ▸ hb)
    · rw [hb] at h1; simp only [Option.some.injEq] at h1
      exact ⟨fun hx => by have := hO b hx; omega, by omega⟩
  refine ⟨⟨?_, by simp [h.len], fun i hi => ?_, fun i hi => ?_, fun i j hi hj hij => ?_, h.far0, h.low⟩, ?_, hblk.frozen k, fun b hb h1 h2 => (hs b h1).trans (hE b hb h2), fun b hb => ⟨fun e => h.far0 (e ▸ hb), fun e => (h.far k hk b e).1 hb⟩⟩
  · have := hblk.set_ k v'
    simpa using this
  · rw [List.length_set] at hi
    rw [vals_getD_set _ _ _ _ hkl, rows_getD_set _ _ _ _ hk]
    by_cases e : i = k
    · rw [if_pos e, if_pos e]
      exact ho.moved fun b hb => hs b (hv'g b hb).2
    · rw [if_neg e, if_neg e]
      exact (h.own i hi).moved fun b hb => (hs b (h.far i hi b hb).2).trans (hE b (World.ownsRow.lt (h.own i hi) b hb).2 fun e2 => h.apart i k hi hk e b hb e2)
  · rw [List.length_set] at hi
    rw [vals_getD_set _ _ _ _ hkl]
    by_cases e : i = k
    · rw [if_pos e]; exact hv'g
    · rw [if_neg e]; exact h.far i hi
  · rw [List.length_set] at hi hj
    rw [vals_getD_set _ _ _ _ hkl, vals_getD_set _ _ _ _ hkl]
    have key : ∀ i, i < R.length → i ≠ k → Apart v' (vs.getD i vnil) := fun i hi e b h1 h2 => by
      rcases hv with h3 | h3
      · exact h.apart k i hk hi (Ne.symm e) b (h3 ▸ h1) h2
      · rw [h1] at h3; simp only [Option.some.injEq] at h3
        have := (World.ownsRow.lt (h.own i hi) b h2).2
        omega
    by_cases e1 : i = k
    · by_cases e2 : j = k
      · omega
      · rw [if_pos e1, if_neg e2]; exact key j hj e2
    · by_cases e2 : j = k
      · rw [if_neg e1, if_pos e2]; exact (key i hi e1).symm
      · rw [if_neg e1, if_neg e2]; exact h.apart i j hi hj hij
  · rw [hblk.cell, List.getD_eq_getElem?_getD, List.getElem?_eq_getElem hkl]
    simp [hkl]
end

/-- What is left of rows: all ahead of k is gone, and the first i of row k. -/
def leftR (R : List (List Int)) (k i : Nat) : List (List Int) := (List.range R.length).map fun j => if j < k then [] else if j = k then (R.getD j []).drop i else R.getD j []
theorem leftR_len (R : List (List Int)) (k i : Nat) : (leftR R k i).length = R.length := by simp [leftR]
theorem leftR_get (R : List (List Int)) (k i j : Nat) : (leftR R k i).getD j [] = if j < k then [] else if j = k then (R.getD j []).drop i else R.getD j [] := by
  unfold leftR
  rw [List.getD_eq_getElem?_getD, List.getElem?_map]
  by_cases h : j < R.length
  · rw [List.getElem?_range h]; rfl
  · have e : R.getD j [] = [] := by rw [List.getD_eq_getElem?_getD, List.getElem?_eq_none (by omega)]; rfl
    rw [List.getElem?_eq_none (by simpa using h), e]
    simp
theorem ext_rows {R R' : List (List Int)} (hl : R.length = R'.length) (h : ∀ j, R.getD j [] = R'.getD j []) : R = R' := by
  apply List.ext_getElem hl
  intro j h1 h2
  have := h j
  rwa [List.getD_eq_getElem?_getD, List.getD_eq_getElem?_getD, List.getElem?_eq_getElem h1, List.getElem?_eq_getElem h2] at this
theorem leftR_start (R : List (List Int)) : leftR R 0 0 = R := ext_rows (leftR_len ..) fun j => by
  rw [leftR_get, if_neg (by omega), List.drop_zero]; split <;> rfl
theorem leftR_poll (R : List (List Int)) (k i : Nat) (hk : k < R.length) : (leftR R k i).set k ((R.getD k []).drop (i + 1)) = leftR R k (i + 1) := ext_rows (by rw [List.length_set, leftR_len, leftR_len]) fun j => by
  rw [rows_set _ _ _ _ (by rw [leftR_len]; exact hk), leftR_get, leftR_get]
  by_cases h1 : j = k
  · subst h1; simp
  · rw [if_neg h1, if_neg h1, if_neg h1]
theorem leftR_next (R : List (List Int)) (k : Nat) : leftR R k (R.getD k []).length = leftR R (k + 1) 0 := ext_rows (by rw [leftR_len, leftR_len]) fun j => by
  rw [leftR_get, leftR_get]
  rcases Nat.lt_trichotomy j k with h | h | h
  · rw [if_pos h, if_pos (by omega)]
  · subst h; simp
  · rw [if_neg (by omega), if_neg (by omega), if_neg (by omega), List.drop_zero]; split <;> rfl
end Go.Proofs.Ytendjhobemlhoaa
