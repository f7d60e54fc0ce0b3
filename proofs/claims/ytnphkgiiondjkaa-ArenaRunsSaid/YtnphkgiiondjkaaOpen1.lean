/- What ArenaRuns is handed, opened: a slice of structs of three numbers. -/
import Derived.Test.YtnphkgiiondjkaaChecked
import Derived.Test.YtnphkgiiondjkaaStructs
import Derived.Test.YtnphkgiiondjkaaArenaRuns
import Derived.KernelRfl
namespace Go.Proofs.Ytnphkgiiondjkaa
open Go Go.RowKit Go.ChangeShapes Go.WideShapes Go.Deep

theorem ask_known : knownFields Try.prog 36 [3, 3, 3] = true := by kernel_rfl
theorem ask_cells : Try.prog.cellsOf 36 = 3 := by kernel_rfl

theorem rows3_of {H : Type} {enc : TypeId × Value → H} {w : World} {base : Nat} {A : Option Addr} {len cap : Nat} {d : DataW H} {ps : List MemPlace}
    (h : DataW.Trod enc Try.prog w base (fun _ => true) true 33 (.slice A len cap) d ps) : len = 0 ∨ ∃ b off F, A = some ⟨b, off, none⟩ ∧ Rows3 w b off len F := by
  obtain ⟨fuel, hf⟩ := h
  obtain ⟨fs, hfs, hsz, hone, hty⟩ := known_fields ask_known
  rcases open_fields Try.underlying33 hfs hone (ask_cells.trans hsz.symm) hf with h0 | ⟨a, len', cap', m, hcs, hl, hm, hmm, hi⟩
  · simp [Value.cells] at h0
    exact .inl h0.2.1
  · simp [Value.cells] at hcs
    obtain ⟨rfl, rfl, rfl⟩ := hcs
    rcases Nat.eq_zero_or_pos len with h0 | hpos
    · exact .inl h0
    · right
      have hlm : len ≤ m := by rw [hmm]; split <;> omega
      have key : ∀ k, k < len → ∀ j, j < 3 → ∃ x : Int, w.cell? (a.add (k * 3 + j)) = some (.int .i64 x) ∧ -9223372036854775808 ≤ x ∧ x ≤ 9223372036854775807 := by
        intro k hk j hj
        obtain ⟨n, hn⟩ := hi k (by omega)
        obtain ⟨f, hf1, hf2⟩ := hty j hj
        have hf2 : f.type = 3 := by
          match j, hj with
          | 0, _ => exact hf2
          | 1, _ => exact hf2
          | 2, _ => exact hf2
        obtain ⟨v, y, hc, hy⟩ := hn j f hf1
        rw [hf2] at hy
        obtain ⟨x, hx, _, hw⟩ := DataW.trod_int Try.underlying3 hy
        simp only [List.cons.injEq, and_true] at hx
        subst hx
        rw [show fs.size = 3 from hsz] at hc
        exact ⟨x, hc, bounds_i64 hw⟩
      obtain ⟨x, hx, _⟩ := key 0 hpos 0 (by omega)
      have ha : a.add (0 * 3 + 0) = a := by simp [Addr.add]
      rw [ha] at hx
      have hs := spot_of_cell hx
      obtain ⟨b, off, sp⟩ := a
      simp only at hs
      subst hs
      refine ⟨b, off, fun k j => if h : k < len ∧ j < 3 then Classical.choose (key k h.1 j h.2) else 0, rfl, World.block_lt_of_cell? _ _ hx, fun k hk j hj => ?_⟩
      have hc := Classical.choose_spec (key k hk j hj)
      simp only [hk, hj, and_self, dite_true]
      exact ⟨(congrArg w.cell? (add_plain b off (k * 3 + j))).symm.trans hc.1, hc.2⟩
end Go.Proofs.Ytnphkgiiondjkaa
namespace Go.Proofs.Ytnphkgiiondjkaa
open Go Go.RowKit
theorem runs_all (n : Int) (A : Option Addr) (len cap : Nat) (w : World) (h : len = 0 ∨ ∃ b off F, A = some ⟨b, off, none⟩ ∧ Rows3 w b off len F) :
    Calls Try.prog 4 #[.int .i64 n, .slice A len cap] w fun e w' => e = .returned (.bool true) ∧ Below w.heap.size w w' := by
  by_cases hn : n < 1 ∨ 256 < n
  · exact runs_no n A len cap w hn
  · obtain ⟨n, rfl⟩ := Int.eq_ofNat_of_zero_le (show 0 ≤ n by omega)
    by_cases hl : 60 < len
    · exact runs_long n A len cap w (by omega) (by omega) hl
    · rcases h with rfl | ⟨b, off, F, rfl, hF⟩
      · exact runs_empty n A cap w (by omega) (by omega)
      · exact runs_yes n b off len cap F w (by omega) (by omega) (by omega) hF
end Go.Proofs.Ytnphkgiiondjkaa
