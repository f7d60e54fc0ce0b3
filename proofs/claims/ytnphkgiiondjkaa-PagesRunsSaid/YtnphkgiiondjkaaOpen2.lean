/- What BitsRuns is handed, opened: a slice of structs of a Bool, a slice of numbers, two numbers. -/
import Derived.Test.YtnphkgiiondjkaaChecked
import Derived.Test.YtnphkgiiondjkaaStructs
import Derived.Test.YtnphkgiiondjkaaReads
import Derived.KernelRfl
import Derived.ProofKit
namespace Go.Proofs.Ytnphkgiiondjkaa
open Go Go.RowKit Go.ChangeShapes Go.WideShapes Go.Deep

/-- What is asked of places. -/
structure AskB where
  is : Bool
  A : Option Addr
  cap : Nat
  xs : List Int
  N : Int
  K : Int
/-- It lies in four cells. -/
structure AskAt (w : World) (b o : Nat) (r : AskB) : Prop where
  c0 : w.cell? ⟨b, o, none⟩ = some (.bool r.is)
  c1 : w.cell? ⟨b, o + 1, none⟩ = some (.slice r.A r.xs.length r.cap)
  c2 : w.cell? ⟨b, o + 2, none⟩ = some (.int .i64 r.N)
  c3 : w.cell? ⟨b, o + 3, none⟩ = some (.int .i64 r.K)
  len : r.xs.length ≤ maxLen
  xs : Reads w .i64 r.A r.xs
  N : -9223372036854775808 ≤ r.N ∧ r.N ≤ 9223372036854775807
  K : -9223372036854775808 ≤ r.K ∧ r.K ≤ 9223372036854775807

theorem ask2_known : knownFields Try.prog 54 [4, 34, 3, 3] = true := by kernel_rfl
theorem ask2_cells : Try.prog.cellsOf 54 = 4 := by kernel_rfl

theorem ints_field {H : Type} {enc : TypeId × Value → H} {w : World} {base : Nat} {fuel : Nat} {v : Value} {y : DataW H × List MemPlace}
    (hf : DataW.trod enc Try.prog w base (fun _ => true) true fuel 34 [v] = some y) : ∃ (A : Option Addr) (cap : Nat) (xs : List Int), v = .slice A xs.length cap ∧ xs.length ≤ maxLen ∧ Reads w .i64 A xs := by
  rcases open_ints Try.underlying34 Try.underlying3 (by kernel_rfl) hf with ⟨hcs, _⟩ | ⟨x, l, c, zs, hcs, _, hl, hm, hz, _, hcell, hwz⟩
  · simp only [List.cons.injEq, and_true] at hcs
    subst hcs
    exact ⟨none, 0, [], rfl, Nat.zero_le _, .inl rfl⟩
  · simp only [List.cons.injEq, and_true] at hcs
    subst hcs
    obtain ⟨xs, h1, h2, h3, h4⟩ := reads_of (A := some x) (len := l) (cap := c) (zs := zs) (k := .i64) (w := w) (.inr ⟨x, rfl, hl, hm, by simpa using hz, hcell, hwz⟩)
    exact ⟨some x, c, xs, by rw [h1], by omega, h3⟩

theorem asks2_of {H : Type} {enc : TypeId × Value → H} {w : World} {base : Nat} {A : Option Addr} {len cap : Nat} {d : DataW H} {ps : List MemPlace}
    (h : DataW.Trod enc Try.prog w base (fun _ => true) true 51 (.slice A len cap) d ps) : len = 0 ∨ ∃ b off, A = some ⟨b, off, none⟩ ∧ b < w.heap.size ∧ ∀ k, k < len → ∃ r, AskAt w b (off + k * 4) r := by
  obtain ⟨fuel, hf⟩ := h
  obtain ⟨fs, hfs, hsz, hone, hty⟩ := known_fields ask2_known
  rcases open_fields Try.underlying51 hfs hone (ask2_cells.trans hsz.symm) hf with h0 | ⟨a, len', cap', m, hcs, hl, hm, hmm, hi⟩
  · simp [Value.cells] at h0
    exact .inl h0.2.1
  · simp [Value.cells] at hcs
    obtain ⟨rfl, rfl, rfl⟩ := hcs
    rcases Nat.eq_zero_or_pos len with h0 | hpos
    · exact .inl h0
    · right
      have hlm : len ≤ m := by rw [hmm]; split <;> omega
      rw [show fs.size = 4 from hsz] at hi
      obtain ⟨f0, g0, t0⟩ := hty 0 (by decide)
      obtain ⟨f1, g1, t1⟩ := hty 1 (by decide)
      obtain ⟨f2, g2, t2⟩ := hty 2 (by decide)
      obtain ⟨f3, g3, t3⟩ := hty 3 (by decide)
      have ha : a.spot = none := by
        obtain ⟨n, hn⟩ := hi 0 (by omega)
        obtain ⟨v, y, hc, hy⟩ := hn 0 f0 g0
        have := spot_of_cell hc
        simpa [Addr.add] using this
      obtain ⟨b, off, sp⟩ := a
      simp only at ha
      subst ha
      refine ⟨b, off, rfl, ?_, fun k hk => ?_⟩
      · obtain ⟨n, hn⟩ := hi 0 (by omega)
        obtain ⟨v, y, hc, hy⟩ := hn 0 f0 g0
        rw [add_plain] at hc
        exact World.block_lt_of_cell? _ _ hc
      · obtain ⟨n, hn⟩ := hi k (by omega)
        obtain ⟨v0, y0, c0, h0⟩ := hn 0 f0 g0
        obtain ⟨v1, y1, c1, h1⟩ := hn 1 f1 g1
        obtain ⟨v2, y2, c2, h2⟩ := hn 2 f2 g2
        obtain ⟨v3, y3, c3, h3⟩ := hn 3 f3 g3
        rw [show f0.type = 4 from t0] at h0
        rw [show f1.type = 34 from t1] at h1
        rw [show f2.type = 3 from t2] at h2
        rw [show f3.type = 3 from t3] at h3
        obtain ⟨x0, e0, _⟩ := DataW.trod_bool Try.underlying4 h0
        obtain ⟨A1, cap1, xs, rfl, hxl, hx⟩ := ints_field h1
        obtain ⟨x2, e2, _, w2⟩ := DataW.trod_int Try.underlying3 h2
        obtain ⟨x3, e3, _, w3⟩ := DataW.trod_int Try.underlying3 h3
        simp only [List.cons.injEq, and_true] at e0 e2 e3
        subst e0 e2 e3
        rw [add_plain] at c0 c1 c2 c3
        exact ⟨⟨x0, A1, cap1, xs, x2, x3⟩, c0, c1, c2, c3, hxl, hx, bounds_i64 w2, bounds_i64 w3⟩
end Go.Proofs.Ytnphkgiiondjkaa
