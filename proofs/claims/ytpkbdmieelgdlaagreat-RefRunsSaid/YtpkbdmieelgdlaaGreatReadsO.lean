/- A slice of numbers that can be read, beside the blocks of a predicate. -/
import Derived.Test.YtpkbdmieelgdlaaGreatStep
namespace Go.Proofs.YtpkbdmieelgdlaaGreat
open Go Go.RowKit

/-- A slice of numbers that can be read, beside the blocks O. -/
def ReadsO (w : World) (A : Option Addr) (xs : List Int) (O : Nat → Prop) : Prop := xs = [] ∨ ∃ b off, A = some ⟨b, off, none⟩ ∧ b < w.heap.size ∧ ¬ O b ∧ ∀ i, i < xs.length → w.cell? ⟨b, off + i, none⟩ = some (.int .i64 (xs.getD i 0))
section
variable {w w' : World} {A : Option Addr} {xs : List Int} {O O' : Nat → Prop} {B : Nat} {v : Value}
theorem ReadsO.step (h : ReadsO w A xs O) (k : StepO O w O' w') : ReadsO w' A xs O' := by
  rcases h with h | ⟨b, off, rfl, hb, hO, hc⟩
  · exact .inl h
  · refine .inr ⟨b, off, rfl, Nat.lt_of_lt_of_le hb k.size, fun hx => ?_, fun i hi => ?_⟩
    · rcases k.own b hx with h1 | h1
      · exact hO h1
      · omega
    · rw [World.cell?_of_block (w := w) (k.block b hb hO)]
      exact hc i hi
theorem ReadsO.upd0 (h : ReadsO w A xs O) (hu : Upd [] w w') : ReadsO w' A xs O := h.step (.upd O hu)
theorem ReadsO.at (h : ReadsO w A xs O) {n i : Nat} (hn : xs.length = n) (hi : i < n) : ∃ b off, A = some ⟨b, off, none⟩ ∧ b < w.heap.size ∧ w.cell? ⟨b, off + i, none⟩ = some (.int .i64 (xs.getD i 0)) := by
  rcases h with rfl | ⟨b, off, h1, h2, _, h3⟩
  · simp at hn; omega
  · exact ⟨b, off, h1, h2, h3 i (by omega)⟩
theorem OwnA.reads (h : OwnA w B v xs O) : ∃ A cap, v = .slice A xs.length cap ∧ ReadsO w A xs O := by
  have h0 := h.own
  rcases h.own.2 with ⟨e, h2⟩ | ⟨g, cap, cur, e, h3, h4, h5⟩
  · exact ⟨none, 0, by rw [e, h2], .inl (List.eq_nil_of_length_eq_zero h2)⟩
  · refine ⟨_, cap, e, .inr ⟨g, 0, rfl, (World.ownsRow.lt h0 g (by rw [e]; rfl)).2, h.far g (by rw [e]; rfl), fun i hi => ?_⟩⟩
    rw [e] at h0
    rw [Nat.zero_add, World.ownsRow.cellAt h0 i (by omega), List.getElem?_map, List.getD_eq_getElem?_getD, List.getElem?_eq_getElem hi]
    rfl
end
/-- One number, as a slice that was made for the call. -/
theorem reads_one {w : World} {O : Nat → Prop} {g : Nat} {x : Int} (hb : Blk w g 3 #[.int .i64 x]) (hO : ¬ O g) : ReadsO w (some ⟨g, 0, none⟩) [x] O :=
  .inr ⟨g, 0, rfl, hb.lt, hO, fun i hi => by
    obtain rfl : i = 0 := by simpa using hi
    exact hb.one⟩
theorem reads_blk {w : World} {O : Nat → Prop} {g : Nat} {xs : List Int} (hb : Blk w g 3 (ints xs)) (hO : ¬ O g) : ReadsO w (some ⟨g, 0, none⟩) xs O :=
  .inr ⟨g, 0, rfl, hb.lt, hO, fun i hi => by rw [Nat.zero_add]; exact hb.int i hi⟩
end Go.Proofs.YtpkbdmieelgdlaaGreat
