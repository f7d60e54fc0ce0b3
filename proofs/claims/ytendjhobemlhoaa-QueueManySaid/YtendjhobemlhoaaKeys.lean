/- slices.Sorted over maps.Keys at a map by int: its keys in order. -/
import Derived.Test.YtendjhobemlhoaaMap
import Derived.Test.YtendjhobemlhoaaShelf
import Derived.Test.YtendjhobemlhoaaOwn
import Derived.Shelf.SlIterI.Nil
namespace Go.Proofs.Ytendjhobemlhoaa
open Go Go.RowKit Go.Maps Go.Sort Go.Shelf

/-- The keys in [0, m), in order. -/
def keysL (f : Int → Option Value) (m : Nat) : List Int := ((List.range m).filter (fun (p : Nat) => (f (p : Int)).isSome)).map (fun (p : Nat) => (p : Int))
theorem mem_keysL {f : Int → Option Value} {m : Nat} {x : Int} : x ∈ keysL f m ↔ ∃ p : Nat, x = p ∧ p < m ∧ f p ≠ none := by
  unfold keysL
  simp only [List.mem_map, List.mem_filter, List.mem_range]
  constructor
  · rintro ⟨p, ⟨h1, h2⟩, rfl⟩; exact ⟨p, rfl, h1, fun e => by simp [e] at h2⟩
  · rintro ⟨p, rfl, h1, h2⟩; exact ⟨p, ⟨h1, by cases h : f (p : Int) with
      | none => exact absurd h h2
      | some v => rfl⟩, rfl⟩
theorem keysL_sorted (f : Int → Option Value) (m : Nat) : (keysL f m).Pairwise (· < ·) := by
  unfold keysL
  refine List.pairwise_map.2 (((List.pairwise_lt_range).filter _).imp fun h => ?_)
  omega
theorem keysL_length (f : Int → Option Value) (m : Nat) : (keysL f m).length ≤ m := by
  unfold keysL
  rw [List.length_map]
  exact Nat.le_trans (List.length_filter_le _ _) (by simp)

theorem sorts (m : Nat) : AnyZI.SortsIn Try.prog Try.sortedZ_ren Fence.wide m :=
  ⟨fun blk off cap ss W hH hblk hsz => callsIn_wide.2 (Try.slices_Sort_int blk off cap ss W hH hblk hsz), fun p cap W => callsIn_wide.2 (Try.slices_Sort_int_none p cap W)⟩

theorem maps_keys (mb : Option Nat) (w : World) : Calls Try.prog 98 #[.map mb] w fun e w' => e = .returned (.func (.func 103) #[] #[.pointer (some ⟨w.heap.size, 0, none⟩)]) ∧ w' = w.alloc (.cells #[.map mb] 99) :=
  callsIn_wide.1 (AnyZI.keys_in Try.keysZ Fence.wide 5 trivial rfl mb w)

theorem sorted_keys (g b n m : Nat) (f : Int → Option Value) (w : World) (hg : w.cell? ⟨g, 0, none⟩ = some (.map (some b))) (hM : MapV w b n f) (hn : n ≤ 65536) (hm : ∀ x, f x ≠ none → 0 ≤ x ∧ x < m) :
    Calls Try.prog 97 #[.func (.func 103) #[] #[.pointer (some ⟨g, 0, none⟩)]] w fun e w' => ∃ v, e = .returned v ∧ Own w' w.heap.size v (keysL f m) ∧ Below w.heap.size w w' := by
  obtain ⟨D, h1, h2⟩ := hM
  have hgl : g < w.heap.size := by
    rcases Nat.lt_or_ge g w.heap.size with h | h
    · exact h
    · simp [World.cell?, Array.getElem?_eq_none h] at hg
  have hsz : Maps.size D ≤ n := h1.size_le
  have hseq : SeqGives Fence.wide 2 Try.prog 103 #[.pointer (some ⟨g, 0, none⟩)] encZ (fun ss => ss.Perm (intKeys D)) (Maps.size D) w :=
    AnyZI.keys_gives (ρ := Try.keysZ_ren) { Try.keysZ with } Fence.wide _ trivial rfl (by omega) g b n D _ hgl hg h1
  have hperm : (keysL f m).Perm (intKeys D) := by
    obtain ⟨es, rfl, hp, hk⟩ := int_lit h1
    refine perm_intKeys hp (fun p hp => ?_) ((keysL_sorted f m).imp fun h => by omega) fun x => ?_
    · obtain ⟨x, e, _⟩ := hk p hp
      exact ⟨x, e⟩
    · rw [mem_keysL]
      constructor
      · rintro ⟨p, rfl, hp, hf⟩
        rw [(h2.2 _ (h2.1 _ hf)).1]
        cases hfp : f (p : Int) with
        | none => exact absurd hfp hf
        | some v => rfl
      · intro hh
        have hx : f x ≠ none := fun e => by
          obtain ⟨p, hp, hs⟩ := List.any_eq_true.1 hh
          obtain ⟨y, ey, oky⟩ := hk p hp
          have : p.1 = keyI x := WideAt.sameKey_eq hs
          have hxy : y = x := by rw [ey] at this; injection this
          subst hxy
          rw [(h2.2 y oky).1, e] at hh
          cases hh
        have h3 := hm x hx
        exact ⟨x.toNat, by omega, by omega, by rw [Int.toNat_of_nonneg h3.1]; exact hx⟩
  have cS := AnyZI.sorted_in Try.sortedZ Fence.wide 5 trivial trivial trivial trivial rfl (by omega) (sorts _) (enters_of Try.func102 (by kernel_rfl) rfl) 103 #[.pointer (some ⟨g, 0, none⟩)] trivial (enters_of Try.func103 (by kernel_rfl) rfl) _ _ (by unfold maxLen; omega) (by omega) _ hseq
  change CallsIn _ _ Try.prog 97 _ _ _ at cS
  refine (callsIn_wide.1 cS).mono ?_
  rintro e w' ⟨v, ss, rfl, hS, hrow, _, hb⟩
  refine ⟨v, rfl, ?_, hb⟩
  have e1 : ss.mergeSort leI = keysL f m := by
    rw [mergeSort_of_perm_i (hS.trans hperm.symm)]
    refine List.mergeSort_of_pairwise ((keysL_sorted f m).imp fun h => ?_)
    simp only [leI, decide_eq_true_eq]
    omega
  have e2 : ss.length = (keysL f m).length := by rw [(hS.trans hperm.symm).length_eq]
  unfold Own
  rw [← e2, ← e1]
  exact hrow
end Go.Proofs.Ytendjhobemlhoaa
