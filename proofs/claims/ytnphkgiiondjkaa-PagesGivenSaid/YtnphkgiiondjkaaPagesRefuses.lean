/- The walk of PagesRefuses: at every input the law returns true, and nothing that was there has turned. -/
import Derived.Test.YtnphkgiiondjkaaPages3
namespace Go.Proofs.Ytnphkgiiondjkaa
open Go Go.RowKit

theorem full_fill_no {n i a k : Nat} (h : i < a + k) (hk : 1 ≤ k) : fullB (fillB n i) a k = false := by
  cases hf : fullB (fillB n i) a k with
  | false => rfl
  | true =>
    have := fullB_true.1 hf (max a i) (by omega) (by omega)
    rw [fillB_get] at this
    simp at this
    omega
theorem run_one_fill {n i : Nat} (h : i < n) : runZ (fillB n i) 0 ((1 : Nat) : Int) = i := by
  have := run_one (fillB n i) 0
  rw [fillB_next h] at this
  exact this
theorem run_one_none (n : Nat) : runZ (fillB n n) 0 ((1 : Nat) : Int) = -1 := by
  have := run_one (fillB n n) 0
  rw [fillB_none] at this
  exact this

set_option maxRecDepth 100000 in
set_option maxHeartbeats 8000000 in
theorem prefuses_walk (N : Nat) (k : Int) (w : World) (hN : N ≤ 255) (BK : -9223372036854775808 ≤ k ∧ k ≤ 9223372036854775807) :
    Calls Try.prog 20 #[.int .u8 N, .int .i64 k] w fun e w' => e = .returned (.bool true) ∧ Below w.heap.size w w' := by
  obtain ⟨m, hm⟩ : ∃ m : Nat, 2 + (N : Int) % 50 = m := ⟨2 + N % 50, by omega⟩
  have hm1 : 2 ≤ m := by omega
  have hm2 : m ≤ 51 := by omega
  obtain ⟨BK1, BK2⟩ := BK
  obtain ⟨mn, hmn⟩ : ∃ x : Int, (if (0 : Int) < k then 0 else k) = x := ⟨_, rfl⟩
  obtain ⟨mx, hmx⟩ : ∃ x : Int, (if k < 300 then 300 else k) = x := ⟨_, rfl⟩
  have l1 : mn ≤ 0 ∧ -9223372036854775808 ≤ mn := by rw [← hmn]; split <;> omega
  have l2 : 300 ≤ mx ∧ mx ≤ 9223372036854775807 := by rw [← hmx]; split <;> omega
  have L1 := Lib.hid l1
  have L2 := Lib.hid l2
  clear l1 l2
  have N1 := fun w => pages_new_fill m w (by omega) (by omega)
  have HN1 := Lib.hid N1
  have HL1 : Hid ((fillB m 1).length = m) := Lib.hid (fillB_length (by omega))
  have HL2 : Hid ((fillB m 2).length = m) := Lib.hid (fillB_length (by omega))
  clear N1
  go_enter Try.func20, Try.ntmps20
  go_wp2_with fail
  refine (HN1.out _).mono ?_
  rintro e w1 ⟨q, p, g, rfl, hA, hq, hp, hg, hb⟩
  have c0 : w1.cell? ⟨q, 0, none⟩ = some (.pointer (some ⟨p, 0, none⟩)) := hA.1.cell 0
  have H := Lib.hid hA
  have HU : Hid (Upd [] w w1) := Lib.hid (Upd.of_below hb)
  have HG := Lib.hid hg
  clear hA hb hq hp hg hm
  go_wp2_with fail
  refine (err0 _).mono ?_
  rintro e w' ⟨rfl, rfl⟩
  go_wp2_with fail
  refine (ptake_arg q mn _ (by have := L1.out; omega)).mono ?_
  rintro e w' ⟨rfl, rfl⟩
  go_wp2_with fail
  refine (pgive_arg q 0 1 _ (.inr (by omega))).mono ?_
  rintro e w' ⟨rfl, rfl⟩
  go_wp2_with fail
  refine (pgive_no q p g _ 1 1 _ H.out (by rw [HL1.out]; omega) (by omega) (by omega) (by rw [HL1.out]; omega) (full_fill_no (by omega) (by omega))).mono ?_
  rintro e w' ⟨rfl, rfl⟩
  go_wp2_with fail
  refine (ptake_yes q p g _ 1 1 _ H.out (by rw [HL1.out]; omega) (by omega) (run_one_fill (by omega))).mono ?_
  rintro e w2 ⟨rfl, h2, hu⟩
  rw [span_one, fillB_set (by omega)] at h2
  have H2 := Lib.hid h2
  have HU2 := Lib.hid (HU.out.step hu (by have := HG.out; simp; omega))
  clear h2 hu c0 H HU
  by_cases hm3 : m = 2
  · go_wp2_with fail
    refine (pgive_none q p g _ 1 2 _ H2.out (by rw [HL2.out]; omega) (by omega) (by omega) (by rw [HL2.out]; omega)).mono ?_
    rintro e w' ⟨rfl, rfl⟩
    clear hm3
    go_wp2_with fail
    refine (pgive_none q p g _ 1 mx _ H2.out (by rw [HL2.out]; omega) (by have := L2.out; omega) (by omega) (by rw [HL2.out]; have := L2.out; omega)).mono ?_
    rintro e w' ⟨rfl, rfl⟩
    go_wp2_with fail
    refine (pgive_arg q mn 1 _ (.inr (by have := L1.out; omega))).mono ?_
    rintro e w' ⟨rfl, rfl⟩
    go_wp2_with fail
    refine (err1 _).mono ?_
    rintro e w' ⟨rfl, rfl⟩
    go_wp2_with fail
    refine (err1 _).mono ?_
    rintro e w' ⟨rfl, rfl⟩
    go_wp2_with fail
    refine (err2 _).mono ?_
    rintro e w' ⟨rfl, rfl⟩
    go_wp2_with fail
    refine (err0 _).mono ?_
    rintro e w' ⟨rfl, rfl⟩
    go_wp2_with fail
    refine (err2 _).mono ?_
    rintro e w' ⟨rfl, rfl⟩
    go_wp2_with fail
    refine (err2 _).mono ?_
    rintro e w' ⟨rfl, rfl⟩
    go_wp2_with fail
    refine (err1 _).mono ?_
    rintro e w' ⟨rfl, rfl⟩
    have c0 : w2.cell? ⟨q, 0, none⟩ = some (.pointer (some ⟨p, 0, none⟩)) := H2.out.1.cell 0
    go_wp2_with fail
    have hq := bits_has p g _ 1 _ H2.out.2
    rw [(show hasB (fillB m 2) 1 = true from hasB_fill (n := m) (i := 2) (x := 1) (by omega))] at hq
    refine hq.mono ?_
    rintro e w' ⟨rfl, rfl⟩
    clear hq
    go_wp2_with fail
    refine (awake3_calls _).mono ?_
    rintro e w9 ⟨rfl, hb⟩
    have HE := Lib.hid (HU2.out.step (Upd.of_below hb : Upd [] _ _) (by simp))
    clear hb
    go_wp2_with fail
    go_ret
    exact ⟨rfl, HE.out.below⟩
  · go_wp2_with fail
    refine (pgive_no q p g _ 1 2 _ H2.out (by rw [HL2.out]; omega) (by omega) (by omega) (by rw [HL2.out]; omega) (full_fill_no (by omega) (by omega))).mono ?_
    rintro e w' ⟨rfl, rfl⟩
    go_wp2_with fail
    refine (pgive_none q p g _ 1 mx _ H2.out (by rw [HL2.out]; omega) (by have := L2.out; omega) (by omega) (by rw [HL2.out]; have := L2.out; omega)).mono ?_
    rintro e w' ⟨rfl, rfl⟩
    go_wp2_with fail
    refine (pgive_arg q mn 1 _ (.inr (by have := L1.out; omega))).mono ?_
    rintro e w' ⟨rfl, rfl⟩
    go_wp2_with fail
    refine (err1 _).mono ?_
    rintro e w' ⟨rfl, rfl⟩
    go_wp2_with fail
    refine (err1 _).mono ?_
    rintro e w' ⟨rfl, rfl⟩
    go_wp2_with fail
    refine (err2 _).mono ?_
    rintro e w' ⟨rfl, rfl⟩
    go_wp2_with fail
    refine (err0 _).mono ?_
    rintro e w' ⟨rfl, rfl⟩
    go_wp2_with fail
    refine (err2 _).mono ?_
    rintro e w' ⟨rfl, rfl⟩
    go_wp2_with fail
    refine (err2 _).mono ?_
    rintro e w' ⟨rfl, rfl⟩
    go_wp2_with fail
    refine (err1 _).mono ?_
    rintro e w' ⟨rfl, rfl⟩
    have c0 : w2.cell? ⟨q, 0, none⟩ = some (.pointer (some ⟨p, 0, none⟩)) := H2.out.1.cell 0
    go_wp2_with fail
    have hq := bits_has p g _ 1 _ H2.out.2
    rw [(show hasB (fillB m 2) 1 = true from hasB_fill (n := m) (i := 2) (x := 1) (by omega))] at hq
    refine hq.mono ?_
    rintro e w' ⟨rfl, rfl⟩
    clear hq
    go_wp2_with fail
    refine (awake3_calls _).mono ?_
    rintro e w9 ⟨rfl, hb⟩
    have HE := Lib.hid (HU2.out.step (Upd.of_below hb : Upd [] _ _) (by simp))
    clear hb
    go_wp2_with fail
    go_ret
    exact ⟨rfl, HE.out.below⟩
end Go.Proofs.Ytnphkgiiondjkaa
