/- What SpaceRuns is handed, opened: a slice of structs of a Bool and two numbers. -/
import Derived.Test.YtpkbdmieelgdlaaOpen2
namespace Go.Proofs.Ytpkbdmieelgdlaa
open Go Go.RowKit Go.ChangeShapes Go.WideShapes Go.Deep

/-- What is asked of the space lies in three cells. -/
structure PAskAt (w : World) (b o : Nat) (g : Bool) (a k : Int) : Prop where
  c0 : w.cell? ⟨b, o, none⟩ = some (.bool g)
  c1 : w.cell? ⟨b, o + 1, none⟩ = some (.int .i64 a)
  c2 : w.cell? ⟨b, o + 2, none⟩ = some (.int .i64 k)
  A : -9223372036854775808 ≤ a ∧ a ≤ 9223372036854775807
  K : -9223372036854775808 ≤ k ∧ k ≤ 9223372036854775807

theorem ask3_known : knownFields Try.prog 39 [4, 3, 3] = true := by kernel_rfl
theorem ask3_cells : Try.prog.cellsOf 39 = 3 := by kernel_rfl

theorem asks3_of {H : Type} {enc : TypeId × Value → H} {w : World} {base : Nat} {A : Option Addr} {len cap : Nat} {d : DataW H} {ps : List MemPlace}
    (h : DataW.Trod enc Try.prog w base (fun _ => true) true 22 (.slice A len cap) d ps) : len = 0 ∨ ∃ b off, A = some ⟨b, off, none⟩ ∧ b < w.heap.size ∧ ∀ k, k < len → ∃ g x y, PAskAt w b (off + k * 3) g x y := by
  obtain ⟨fuel, hf⟩ := h
  obtain ⟨fs, hfs, hsz, hone, hty⟩ := known_fields ask3_known
  rcases open_fields Try.underlying22 hfs hone (ask3_cells.trans hsz.symm) hf with h0 | ⟨a, len', cap', m, hcs, hl, hm, hmm, hi⟩
  · simp [Value.cells] at h0
    exact .inl h0.2.1
  · simp [Value.cells] at hcs
    obtain ⟨rfl, rfl, rfl⟩ := hcs
    rcases Nat.eq_zero_or_pos len with h0 | hpos
    · exact .inl h0
    · right
      have hlm : len ≤ m := by rw [hmm]; split <;> omega
      rw [show fs.size = 3 from hsz] at hi
      obtain ⟨f0, g0, t0⟩ := hty 0 (by decide)
      obtain ⟨f1, g1, t1⟩ := hty 1 (by decide)
      obtain ⟨f2, g2, t2⟩ := hty 2 (by decide)
      have ha : a.spot = none := by
        obtain ⟨n, hn⟩ := hi 0 (by omega)
        obtain ⟨v, y, hc, hy⟩ := hn 0 f0 g0
        have := spot_of_cell hc
        simpa [Addr.add] using this
      obtain ⟨b, off, sp⟩ := a
      simp only at ha
      subst ha
      refine ⟨b, off, rfl, ?_, fun k hk => ?_⟩
      · obtain ⟨n, hn⟩ := hi 0 (by omega)
        obtain ⟨v, y, hc, hy⟩ := hn 0 f0 g0
        rw [add_plain] at hc
        exact World.block_lt_of_cell? _ _ hc
      · obtain ⟨n, hn⟩ := hi k (by omega)
        obtain ⟨v0, y0, c0, h0⟩ := hn 0 f0 g0
        obtain ⟨v1, y1, c1, h1⟩ := hn 1 f1 g1
        obtain ⟨v2, y2, c2, h2⟩ := hn 2 f2 g2
        rw [show f0.type = 4 from t0] at h0
        rw [show f1.type = 3 from t1] at h1
        rw [show f2.type = 3 from t2] at h2
        obtain ⟨x0, e0, _⟩ := DataW.trod_bool Try.underlying4 h0
        obtain ⟨x1, e1, _, w1⟩ := DataW.trod_int Try.underlying3 h1
        obtain ⟨x2, e2, _, w2⟩ := DataW.trod_int Try.underlying3 h2
        simp only [List.cons.injEq, and_true] at e0 e1 e2
        subst e0 e1 e2
        rw [add_plain] at c0 c1 c2
        exact ⟨x0, x1, x2, c0, c1, c2, bounds_i64 w1, bounds_i64 w2⟩
end Go.Proofs.Ytpkbdmieelgdlaa
