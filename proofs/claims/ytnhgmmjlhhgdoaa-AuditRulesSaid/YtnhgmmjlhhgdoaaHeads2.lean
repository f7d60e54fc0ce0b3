/- The program's own answer of which heads may be; the document's sizes of blocks. -/
import Derived.Test.YtnhgmmjlhhgdoaaHeads
import Derived.Deep.LoopGhost
namespace Go.Proofs.Ytnhgmmjlhhgdoaa
open Go Go.RowKit

theorem in2_walk (n lo hi : Int) (g : Nat) (w : World) (hB : Blk w g 3 #[.int .i64 lo, .int .i64 hi]) :
    Calls Try.prog 71 #[.int .i64 n, .slice (some ⟨g, 0, none⟩) 2 2] w fun e w' => e = .returned (.bool (decide (lo ≤ n ∧ n ≤ hi))) ∧ w' = w := by
  have c0 : w.cell? ⟨g, 0, none⟩ = some (.int .i64 lo) := hB.cell 0
  have c1 : w.cell? ⟨g, 1, none⟩ = some (.int .i64 hi) := hB.cell 1
  clear hB
  rcases (show (n < lo ∧ decide (lo ≤ n ∧ n ≤ hi) = false) ∨ (lo ≤ n ∧ hi < n ∧ decide (lo ≤ n ∧ n ≤ hi) = false) ∨ (lo ≤ n ∧ n ≤ hi ∧ decide (lo ≤ n ∧ n ≤ hi) = true) by simp only [decide_eq_false_iff_not, decide_eq_true_eq]; omega) with ⟨h1, hr⟩ | ⟨h1, h2, hr⟩ | ⟨h1, h2, hr⟩
  all_goals
    rw [hr]
    clear hr
    go_enter Try.func71, Try.ntmps71
    go_wp2_with fail
    go_loopg [5] 2 (fun gk i wr => ∃ j : Nat, gk = 2 - j ∧ (j = 0 ∨ j = 2 ∧ ¬ (lo ≤ n ∧ n ≤ hi)) ∧ i = .int .i64 j ∧ w = wr)
    case atStart => exact ⟨0, rfl, .inl rfl, rfl, rfl⟩
    case round =>
      obtain ⟨j, rfl, hj, rfl, rfl⟩ := hrel
      rcases hj with rfl | ⟨rfl, hnot⟩
      · go_wp2_with fail
        first
          | (go_ret; exact ⟨rfl, rfl⟩)
          | (go_roundg 0
             case measure => omega
             case rel => exact ⟨2, rfl, .inr ⟨rfl, by omega⟩, rfl, rfl⟩)
      · first
          | (exfalso; omega)
          | (go_wp2_with fail
             go_ret
             exact ⟨rfl, rfl⟩)

set_option maxRecDepth 100000 in
set_option maxHeartbeats 3200000 in
theorem may_walk (k c l : Int) (f : Bool) (w : World) : Calls Try.prog 55 #[.agg #[.int .i64 k, .int .i64 c, .int .i64 l, .bool f]] w fun e w' => e = .returned (.bool (mayB k c l f)) ∧ Below w.heap.size w w' := by
  have hm := may_cases k c l f
  generalize mayB k c l f = r at *
  rcases hm with ⟨h1, rfl⟩ | ⟨h1, h2, rfl⟩ | ⟨h1, h2, hm⟩
  · have hr1 : decide (0 ≤ l ∧ l ≤ 1023) = false := by simp only [decide_eq_false_iff_not]; omega
    go_enter Try.func55, Try.ntmps55
    go_wp2_with fail
    refine (in2_walk _ _ _ _ _ (Blk.newAt _ _ _ _ (by simp))).mono ?_
    rintro e w1 ⟨rfl, rfl⟩
    rw [hr1]
    clear hr1
    go_wp2_with fail
    go_ret
    exact ⟨rfl, (((Upd.refl [] w).alloc _).alloc _).below⟩
  · have hr1 : decide (0 ≤ l ∧ l ≤ 1023) = false := by simp only [decide_eq_false_iff_not]; omega
    go_enter Try.func55, Try.ntmps55
    go_wp2_with fail
    refine (in2_walk _ _ _ _ _ (Blk.newAt _ _ _ _ (by simp))).mono ?_
    rintro e w1 ⟨rfl, rfl⟩
    rw [hr1]
    clear hr1
    go_wp2_with fail
    go_ret
    exact ⟨rfl, (((Upd.refl [] w).alloc _).alloc _).below⟩
  · have hr1 : decide (0 ≤ l ∧ l ≤ 1023) = true := by simp only [decide_eq_true_eq]; omega
    go_enter Try.func55, Try.ntmps55
    go_wp2_with fail
    refine (in2_walk _ _ _ _ _ (Blk.newAt _ _ _ _ (by simp))).mono ?_
    rintro e w1 ⟨rfl, rfl⟩
    rw [hr1]
    clear hr1
    rcases hm with ⟨rfl, hc⟩ | ⟨rfl, hc⟩ | ⟨rfl, hc⟩ | ⟨rfl, hc⟩ | ⟨h3, h4, h5, h6, rfl⟩
    · have hr : decide (1 ≤ c ∧ c ≤ 256) = r := by
        rcases hc with ⟨h3, rfl⟩ | ⟨h3, h4, rfl⟩ | ⟨h3, h4, rfl⟩ <;> simp <;> omega
      clear hc
      go_wp2_with fail
      refine (in2_walk _ _ _ _ _ (Blk.newAt _ _ _ _ (by simp))).mono ?_
      rintro e w1 ⟨rfl, rfl⟩
      rw [hr]
      clear hr
      go_wp2_with fail
      go_ret
      exact ⟨rfl, ((((Upd.refl [] w).alloc _).alloc _).alloc _).below⟩
    · have hr : decide (0 ≤ c ∧ c ≤ 0) = r := by
        rcases hc with ⟨h3, rfl⟩ | ⟨h3, h4, rfl⟩ | ⟨h3, rfl⟩ <;> simp <;> omega
      clear hc
      go_wp2_with fail
      refine (in2_walk _ _ _ _ _ (Blk.newAt _ _ _ _ (by simp))).mono ?_
      rintro e w1 ⟨rfl, rfl⟩
      rw [hr]
      clear hr
      go_wp2_with fail
      go_ret
      exact ⟨rfl, ((((Upd.refl [] w).alloc _).alloc _).alloc _).below⟩
    · have hr : decide (0 ≤ c ∧ c ≤ 0) = r := by
        rcases hc with ⟨h3, rfl⟩ | ⟨h3, h4, rfl⟩ | ⟨h3, rfl⟩ <;> simp <;> omega
      clear hc
      go_wp2_with fail
      refine (in2_walk _ _ _ _ _ (Blk.newAt _ _ _ _ (by simp))).mono ?_
      rintro e w1 ⟨rfl, rfl⟩
      rw [hr]
      clear hr
      go_wp2_with fail
      go_ret
      exact ⟨rfl, ((((Upd.refl [] w).alloc _).alloc _).alloc _).below⟩
    · have hr : (decide (1 ≤ c ∧ c ≤ 3) = false ∧ r = false) ∨ (decide (1 ≤ c ∧ c ≤ 3) = true ∧ l ≠ 5 ∧ r = false) ∨ (decide (1 ≤ c ∧ c ≤ 3) = true ∧ l = 5 ∧ r = !f) := by
        simp only [decide_eq_false_iff_not, decide_eq_true_eq]
        rcases hc with ⟨h3, rfl⟩ | ⟨h3, h4, rfl⟩ | ⟨h3, h4, h5, rfl⟩ | ⟨h3, h4, rfl, rfl, rfl⟩ | ⟨h3, h4, rfl, rfl, rfl⟩
        · exact .inl ⟨by omega, rfl⟩
        · exact .inl ⟨by omega, rfl⟩
        · exact .inr (.inl ⟨by omega, h5, rfl⟩)
        · exact .inr (.inr ⟨by omega, rfl, rfl⟩)
        · exact .inr (.inr ⟨by omega, rfl, rfl⟩)
      clear hc
      go_wp2_with fail
      refine (in2_walk _ _ _ _ _ (Blk.newAt _ _ _ _ (by simp))).mono ?_
      rintro e w1 ⟨rfl, rfl⟩
      rcases hr with ⟨hr, rfl⟩ | ⟨hr, h5, rfl⟩ | ⟨hr, rfl, rfl⟩
      all_goals
        rw [hr]
        clear hr
        go_wp2_with fail
        go_ret
        refine ⟨?_, ((((Upd.refl [] w).alloc _).alloc _).alloc _).below⟩
        first | rfl | (cases f <;> rfl) | (simp; done) | (simp; omega)
    · go_wp2_with fail
      go_ret
      exact ⟨rfl, (((Upd.refl [] w).alloc _).alloc _).below⟩
end Go.Proofs.Ytnhgmmjlhhgdoaa
