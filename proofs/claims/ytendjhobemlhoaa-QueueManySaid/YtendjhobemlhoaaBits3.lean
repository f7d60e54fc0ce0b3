/- Package bits, more: what is found where no place is so, or one is; layer 2's example; a slice of one number. -/
import Derived.Test.YtendjhobemlhoaaBits2
import Derived.Test.YtendjhobemlhoaaArenaTwo
namespace Go.Proofs.Ytendjhobemlhoaa
open Go Go.RowKit

theorem rep_get (m i : Nat) : (List.replicate m false).getD i false = false := by
  rw [List.getD_eq_getElem?_getD, List.getElem?_replicate]
  split <;> rfl
theorem one_get (m j i : Nat) (h : j < m) : ((List.replicate m false).set j true).getD i false = decide (i = j) := by
  rw [List.getD_eq_getElem?_getD, List.getElem?_set]
  by_cases hij : j = i
  · subst hij; simp [h]
  · rw [if_neg hij, List.getElem?_replicate]
    have : ¬ i = j := fun h => hij h.symm
    split <;> simp [this]
section
variable {m : Nat}
theorem rep_true (x : Int) : nextZ (List.replicate m false) true x = -1 := nextZ_eq (.inl ⟨rfl, fun j _ _ => by rw [rep_get]; simp⟩)
theorem rep_false {x : Int} (h : x ≤ 0) (hm : 1 ≤ m) : nextZ (List.replicate m false) false x = 0 := nextZ_eq (.inr ⟨0, rfl, by omega, by simp; omega, rep_get _ _, fun j h1 h2 => by omega⟩)
theorem next_past {l : List Bool} {is : Bool} {x : Int} (h : l.length ≤ x) : nextZ l is x = -1 := nextZ_eq (.inl ⟨rfl, fun j h1 h2 => by omega⟩)
theorem rep_run {x : Int} {K : Nat} (h : x ≤ 0) (h1 : 1 ≤ K) (hm : K ≤ m) : runZ (List.replicate m false) x K = 0 := runZ_eq (by omega) (.inr ⟨0, rfl, by omega, by simp; omega, fun j _ _ => rep_get _ _, fun j h1 h2 => by omega⟩)
theorem run_past {l : List Bool} {x k : Int} (hk : 1 ≤ k) (h : l.length ≤ x) : runZ l x k = -1 := runZ_eq hk (.inl ⟨rfl, fun a h1 h2 => by omega⟩)
theorem run_long {l : List Bool} {x k : Int} (h : l.length < k) : runZ l x k = -1 := runZ_eq (by omega) (.inl ⟨rfl, fun a h1 h2 => by omega⟩)
variable {j : Nat}
theorem one_true {x : Int} (hj : j < m) (h : x ≤ 0) : nextZ ((List.replicate m false).set j true) true x = j :=
  nextZ_eq (.inr ⟨j, rfl, by omega, by simpa using hj, by rw [one_get _ _ _ hj]; simp, fun i h1 h2 => by rw [one_get _ _ _ hj]; simp; omega⟩)
theorem one_after (hj : j < m) : nextZ ((List.replicate m false).set j true) true ((j : Int) + 1) = -1 :=
  nextZ_eq (.inl ⟨rfl, fun i h1 h2 => by rw [one_get _ _ _ hj]; simp; omega⟩)
theorem one_false {x : Int} (hj : j < m) (h0 : 0 < j) (h : x ≤ 0) : nextZ ((List.replicate m false).set j true) false x = 0 :=
  nextZ_eq (.inr ⟨0, rfl, by omega, by simp; omega, by rw [one_get _ _ _ hj]; simp; omega, fun i h1 h2 => by omega⟩)
theorem one_false1 {x : Int} (hm : 1 < m) (h : x ≤ 0) : nextZ ((List.replicate m false).set 0 true) false x = 1 :=
  nextZ_eq (.inr ⟨1, rfl, by omega, by simpa using hm, by rw [one_get _ _ _ (by omega)]; simp, fun i h1 h2 => by rw [one_get _ _ _ (by omega)]; simp; omega⟩)
theorem one_false0 {x : Int} : nextZ ((List.replicate 1 false).set 0 true) false x = -1 :=
  nextZ_eq (.inl ⟨rfl, fun i h1 h2 => by rw [one_get _ _ _ (by omega)]; simp at h2; simp [h2]⟩)
theorem one_run_all (hj : j < m) : runZ ((List.replicate m false).set j true) 0 m = -1 :=
  runZ_eq (by omega) (.inl ⟨rfl, fun a h1 h2 => ⟨j, by simp at h2; omega, by simp at h2; omega, by rw [one_get _ _ _ hj]; simp⟩⟩)
theorem one_run_ahead (hj : j < m) (h0 : 0 < j) : runZ ((List.replicate m false).set j true) 0 j = 0 :=
  runZ_eq (by omega) (.inr ⟨0, rfl, by omega, by simp; omega, fun i h1 h2 => by rw [one_get _ _ _ hj]; simp; omega, fun i h1 h2 => by omega⟩)
theorem one_run_behind {K : Nat} (h0 : 0 < K) (h : j + 1 + K = m) : runZ ((List.replicate m false).set j true) j K = (j : Int) + 1 :=
  runZ_eq (by omega) (.inr ⟨j + 1, by omega, by omega, by simp; omega, fun i h1 h2 => by rw [one_get _ _ _ (by omega)]; simp; omega,
    fun i h1 h2 => ⟨j, by omega, by omega, by rw [one_get _ _ _ (by omega)]; simp⟩⟩)
end

theorem isInts_one (w : World) (t : TypeId) (x : Int) : IsInts (w.alloc (.cells #[.int .i64 x] t)) (some ⟨w.heap.size, 0, none⟩) [x] := by
  refine .inr ⟨_, 0, rfl, by simp, fun i hi => ?_⟩
  simp only [List.length_cons, List.length_nil, Nat.zero_add] at hi
  obtain rfl : i = 0 := by omega
  exact (Blk.new w t _).one
theorem setAll_one (l : List Bool) (is : Bool) (j : Nat) : setAll l is [(j : Int)] = l.set j is := by simp [setAll]
end Go.Proofs.Ytendjhobemlhoaa
