/- An argument that is a slice of numbers, as a list of Lean's numbers. -/
import Derived.Test.YtendjhobemlhoaaBits
import Derived.Test.YtendjhobemlhoaaStructs
namespace Go.Proofs.Ytendjhobemlhoaa
open Go Go.RowKit

/-- A slice of numbers of a kind that can be read. -/
def Reads (w : World) (k : IntKind) (A : Option Addr) (xs : List Int) : Prop := xs = [] ∨ ∃ b off, A = some ⟨b, off, none⟩ ∧ b < w.heap.size ∧ ∀ i, i < xs.length → w.cell? ⟨b, off + i, none⟩ = some (.int k (xs.getD i 0))
section
variable {w w' : World} {k : IntKind} {A : Option Addr} {xs : List Int} {E : List Nat}
theorem Reads.at (h : Reads w k A xs) {n i : Nat} (hn : xs.length = n) (hi : i < n) : ∃ b off, A = some ⟨b, off, none⟩ ∧ b < w.heap.size ∧ w.cell? ⟨b, off + i, none⟩ = some (.int k (xs.getD i 0)) := by
  rcases h with rfl | ⟨b, off, h1, h2, h3⟩
  · simp at hn; omega
  · exact ⟨b, off, h1, h2, h3 i (by omega)⟩
theorem Reads.upd (h : Reads w k A xs) (hu : Upd E w w') (hE : ∀ i ∈ E, w.heap.size ≤ i) : Reads w' k A xs := by
  rcases h with h | ⟨b, off, rfl, hb, hc⟩
  · exact .inl h
  · refine .inr ⟨b, off, rfl, Nat.lt_of_lt_of_le hb hu.size, fun i hi => ?_⟩
    rw [hu.cell (p := ⟨b, off + i, none⟩) hb (fun hm => by have := hE _ hm; simp only at this; omega)]
    exact hc i hi
theorem Reads.ints (h : Reads w .i64 A xs) : IsInts w A xs := h
theorem reads_of {len cap : Nat} {zs : List Int} (h : (A = none ∧ len = 0 ∧ cap = 0 ∧ zs = []) ∨
    ∃ x, A = some x ∧ len ≤ cap ∧ cap ≤ maxLen ∧ zs.length = cap ∧ (∀ i, i < zs.length → w.cell? (x.add i) = some (.int k (zs.getD i 0))) ∧ ∀ n ∈ zs, (Lit.int k n).wf = true) :
    ∃ xs : List Int, xs.length = len ∧ len ≤ maxLen ∧ Reads w k A xs ∧ ∀ n ∈ xs, (Lit.int k n).wf = true := by
  rcases h with ⟨rfl, rfl, rfl, rfl⟩ | ⟨x, rfl, hl, hm, hz, hc, hw⟩
  · exact ⟨[], rfl, Nat.zero_le _, .inl rfl, fun n hn => by cases hn⟩
  · refine ⟨zs.take len, by simp; omega, by omega, ?_, fun n hn => hw n (List.mem_of_mem_take hn)⟩
    rcases Nat.eq_zero_or_pos len with rfl | hpos
    · exact .inl (by simp)
    · have h0 := hc 0 (by omega)
      have ha : x.add 0 = x := by simp [Addr.add]
      rw [ha] at h0
      have hs := spot_of_cell h0
      obtain ⟨b, off, sp⟩ := x
      simp only at hs
      subst hs
      refine .inr ⟨b, off, rfl, World.block_lt_of_cell? _ _ h0, fun i hi => ?_⟩
      simp only [List.length_take] at hi
      have := hc i (by omega)
      rw [add_plain] at this
      rw [this, List.getD_eq_getElem?_getD, List.getD_eq_getElem?_getD, List.getElem?_take_of_lt (by omega)]
end
end Go.Proofs.Ytendjhobemlhoaa
