/- What RootRises is handed, opened: a slice of slices of numbers. -/
import Derived.Test.YtnhgmmjlhhgdoaaChecked
import Derived.Test.YtnhgmmjlhhgdoaaMerge
import Derived.KernelRfl
import Derived.ProofKit
namespace Go.Proofs.Ytnhgmmjlhhgdoaa
open Go Go.RowKit Go.ChangeShapes Go.WideShapes Go.Deep

theorem ints_field {H : Type} {enc : TypeId × Value → H} {w : World} {base : Nat} {fuel : Nat} {v : Value} {y : DataW H × List MemPlace}
    (hf : DataW.trod enc Try.prog w base (fun _ => true) true fuel 22 [v] = some y) : ∃ (A : Option Addr) (cap : Nat) (xs : List Int), v = .slice A xs.length cap ∧ xs.length ≤ maxLen ∧ Reads w .i64 A xs ∧ (∀ x ∈ xs, -9223372036854775808 ≤ x ∧ x ≤ 9223372036854775807) ∧ (A = none → xs.length = 0 ∧ cap = 0) := by
  rcases open_ints Try.underlying22 Try.underlying3 (by kernel_rfl) hf with ⟨hcs, _⟩ | ⟨x, l, c, zs, hcs, _, hl, hm, hz, _, hcell, hwz⟩
  · simp only [List.cons.injEq, and_true] at hcs
    subst hcs
    exact ⟨none, 0, [], rfl, Nat.zero_le _, .inl rfl, (fun x h => by cases h), fun _ => ⟨rfl, rfl⟩⟩
  · simp only [List.cons.injEq, and_true] at hcs
    subst hcs
    obtain ⟨xs, h1, h2, h3, h4⟩ := reads_of (A := some x) (len := l) (cap := c) (zs := zs) (k := .i64) (w := w) (.inr ⟨x, rfl, hl, hm, by simpa using hz, hcell, hwz⟩)
    exact ⟨some x, c, xs, by rw [h1], by omega, h3, fun v hv => bounds_i64 (h4 v hv), fun h => by cases h⟩

/-- Each list of a slice of lists, with its bounds. -/
theorem lists_of {H : Type} {enc : TypeId × Value → H} {w : World} {base : Nat} {A : Option Addr} {len cap : Nat} {d : DataW H} {ps : List MemPlace}
    (h : DataW.Trod enc Try.prog w base (fun _ => true) true 28 (.slice A len cap) d ps) : ∃ LS : List (List Int), LS.length = len ∧ len ≤ maxLen ∧ Lists w A LS ∧ (∀ l ∈ LS, l.length ≤ maxLen ∧ ∀ x ∈ l, -9223372036854775808 ≤ x ∧ x ≤ 9223372036854775807) := by
  obtain ⟨fuel, hf⟩ := h
  have hC : Try.prog.cellsOf 22 = 1 := by kernel_rfl
  rcases open_slice Try.underlying28 hf with h0 | ⟨a, len', cap', m, n, D, Pl, hcs, _, hl, hm, hmm, _, hi⟩
  · simp [Value.cells] at h0
    exact ⟨[], h0.1.2.1.symm, by rw [h0.1.2.1]; exact Nat.zero_le _, .inl rfl, (fun l h => by cases h)⟩
  · simp [Value.cells] at hcs
    obtain ⟨rfl, rfl, rfl⟩ := hcs
    have hlm : len ≤ m := by rw [hmm]; split <;> omega
    rw [hC] at hi
    have key : ∀ i, i < len → ∃ (Ai : Option Addr) (ci : Nat) (xs : List Int), w.cell? (a.add (i * 1)) = some (.slice Ai xs.length ci) ∧ xs.length ≤ maxLen ∧ Reads w .i64 Ai xs ∧ (∀ x ∈ xs, -9223372036854775808 ≤ x ∧ x ≤ 9223372036854775807) ∧ (Ai = none → xs.length = 0 ∧ ci = 0) := by
      intro i hil
      obtain ⟨cs', hc, ht'⟩ := hi i (by omega)
      obtain ⟨_, hcl, hat⟩ := World.cells?_some hc
      have h1 := hat 0 (by omega)
      obtain ⟨v, rfl⟩ : ∃ v, cs' = [v] := by
        match cs', hcl with
        | [v], _ => exact ⟨v, rfl⟩
      obtain ⟨Ai, ci, xs, rfl, hxl, hx, hb, hn⟩ := ints_field ht'
      refine ⟨Ai, ci, xs, ?_, hxl, hx, hb, hn⟩
      have h2 : (a.add (i * 1)).add 0 = a.add (i * 1) := by simp [Addr.add]
      rw [h2] at h1
      simpa using h1
    rcases Nat.eq_zero_or_pos len with h0 | hpos
    · subst h0
      exact ⟨[], rfl, Nat.zero_le _, .inl rfl, (fun l h => by cases h)⟩
    · have ha : a.spot = none := by
        obtain ⟨_, _, _, hc, _⟩ := key 0 hpos
        have := spot_of_cell hc
        simpa [Addr.add] using this
      obtain ⟨b, off, sp⟩ := a
      simp only at ha
      subst ha
      have key2 : ∀ i, i < len → ∃ (xs : List Int) (Ai : Option Addr) (ci : Nat), w.cell? (⟨b, off + i, none⟩ : Addr) = some (.slice Ai xs.length ci) ∧ xs.length ≤ maxLen ∧ Reads w .i64 Ai xs ∧ (∀ x ∈ xs, -9223372036854775808 ≤ x ∧ x ≤ 9223372036854775807) ∧ (Ai = none → xs.length = 0 ∧ ci = 0) := by
        intro i h
        obtain ⟨Ai, ci, xs, h1, h2⟩ := key i h
        rw [add_plain, Nat.mul_one] at h1
        exact ⟨xs, Ai, ci, h1, h2⟩
      let f : Nat → List Int := fun i => if h : i < len then Classical.choose (key2 i h) else []
      have hf : ∀ i (h : i < len), ∃ (Ai : Option Addr) (ci : Nat), w.cell? (⟨b, off + i, none⟩ : Addr) = some (.slice Ai (f i).length ci) ∧ (f i).length ≤ maxLen ∧ Reads w .i64 Ai (f i) ∧ (∀ x ∈ f i, -9223372036854775808 ≤ x ∧ x ≤ 9223372036854775807) ∧ (Ai = none → (f i).length = 0 ∧ ci = 0) := by
        intro i h
        have hs := Classical.choose_spec (key2 i h)
        have hfi : f i = Classical.choose (key2 i h) := dif_pos h
        rw [hfi]
        exact hs
      have hlen : ((List.range len).map f).length = len := by simp
      have hget : ∀ i, i < len → ((List.range len).map f).getD i [] = f i := fun i h => by
        rw [List.getD_eq_getElem?_getD, List.getElem?_map, List.getElem?_range h]
        rfl
      refine ⟨(List.range len).map f, hlen, by omega, .inr ⟨b, off, rfl, ?_, fun i hi => ?_⟩, fun l hl => ?_⟩
      · obtain ⟨_, _, hc, _⟩ := hf 0 hpos
        exact World.block_lt_of_cell? _ _ hc
      · rw [hlen] at hi
        obtain ⟨Ai, ci, h1, h2, h3, h4, h5⟩ := hf i hi
        rw [hget i hi]
        exact ⟨Ai, ci, h1, h3, h5⟩
      · obtain ⟨i, hi, rfl⟩ := List.mem_map.1 hl
        rw [List.mem_range] at hi
        obtain ⟨Ai, ci, h1, h2, h3, h4, h5⟩ := hf i hi
        exact ⟨h2, h4⟩
end Go.Proofs.Ytnhgmmjlhhgdoaa
