/- The walk of PagesOne: at every input the law returns true, and nothing that was there has turned. -/
import Derived.Test.YtnphkgiiondjkaaPagesRefuses
namespace Go.Proofs.Ytnphkgiiondjkaa
open Go Go.RowKit

set_option maxRecDepth 100000 in
set_option maxHeartbeats 8000000 in
theorem pone_walk (N G : Nat) (w : World) (hN : N ≤ 255) (hG : G ≤ 255) :
    Calls Try.prog 19 #[.int .u8 N, .int .u8 G] w fun e w' => e = .returned (.bool true) ∧ Below w.heap.size w w' := by
  obtain ⟨m, hm⟩ : ∃ m : Nat, 2 + (N : Int) % 200 = m := ⟨2 + N % 200, by omega⟩
  have hm1 : 2 ≤ m := by omega
  have hm2 : m ≤ 201 := by omega
  obtain ⟨z, hz⟩ : ∃ z : Nat, (G : Int) % ((m : Int) - 1) = z := ⟨G % (m - 1), by
    have : (m : Int) - 1 = ((m - 1 : Nat) : Int) := by omega
    rw [this]
    omega⟩
  have hz1 : z + 1 < m := by
    have h1 := Int.emod_lt_of_pos (G : Int) (show (0 : Int) < (m : Int) - 1 by omega)
    omega
  obtain ⟨y, hy⟩ : ∃ y : Nat, 1 + (z : Int) = y := ⟨1 + z, by omega⟩
  have hy1 : 1 ≤ y := by omega
  have hy2 : y < m := by omega
  have HZ := Lib.hid (And.intro hz hz1)
  have HY := Lib.hid hy
  have N1 := fun w => pages_new_fill m w (by omega) (by omega)
  have HN1 := Lib.hid N1
  have HL : Hid (∀ i, i ≤ m → (fillB m i).length = m) := Lib.hid (fun i h => fillB_length h)
  clear N1 hy hz hz1
  go_enter Try.func19, Try.ntmps19
  go_wp2_with fail
  refine (HN1.out _).mono ?_
  rintro e w1 ⟨q, p, g, rfl, hA, hq, hp, hg, hb⟩
  have c0 : w1.cell? ⟨q, 0, none⟩ = some (.pointer (some ⟨p, 0, none⟩)) := hA.1.cell 0
  have H := Lib.hid hA
  have HU : Hid (Upd [] w w1) := Lib.hid (Upd.of_below hb)
  have HG := Lib.hid hg
  clear hA hb hq hp hg hm HN1
  go_wp2_with fail
  refine (err0 _).mono ?_
  rintro e w' ⟨rfl, rfl⟩
  go_wp2_with fail
  have hq := bits_size p g _ _ H.out.2
  rw [HL.out 1 (by omega)] at hq
  refine hq.mono ?_
  rintro e w' ⟨rfl, rfl⟩
  clear hq
  go_wp2_with fail
  have hq := count_any p g _ _ H.out.2 (by rw [HL.out 1 (by omega)]; omega)
  rw [fillB_count m 1] at hq
  refine hq.mono ?_
  rintro e w' ⟨rfl, rfl⟩
  clear hq
  go_wp2_with fail
  have hq := bits_has p g _ 0 _ H.out.2
  rw [(show hasB (fillB m 1) 0 = true from hasB_fill (n := m) (i := 1) (x := 0) (by omega))] at hq
  refine hq.mono ?_
  rintro e w' ⟨rfl, rfl⟩
  clear hq
  go_upto_block 0 with fail
  clear c0
  go_cut [8] (fun _ wx => Hid (IsPages wx q p g (fillB m m)) ∧ Hid (Upd [] w wx))
  case first =>
    go_wp2_with fail
    go_loopg [8] (m - 1) (fun gk i wr => ∃ j : Nat, gk = m - j ∧ 1 ≤ j ∧ j ≤ m ∧ i = .int .i64 j ∧ Hid (IsPages wr q p g (fillB m j)) ∧ Hid (Upd [] w wr))
    case atStart => exact ⟨1, rfl, by omega, by omega, rfl, H, HU⟩
    case round =>
      clear H HU
      obtain ⟨j, rfl, hj1, hj, rfl, H, HU⟩ := hrel
      by_cases hlt : j < m
      · go_wp2_with fail
        refine (ptake_yes q p g _ 1 j _ H.out (by rw [HL.out j hj]; omega) (by omega) (run_one_fill hlt)).mono ?_
        rintro e w2 ⟨rfl, h2, hu⟩
        rw [span_one, fillB_set hlt] at h2
        have c0 : w2.cell? ⟨q, 0, none⟩ = some (.pointer (some ⟨p, 0, none⟩)) := h2.1.cell 0
        have H2 := Lib.hid h2
        have HU2 := Lib.hid (HU.out.step hu (by have := HG.out; simp; omega))
        clear h2 hu
        obtain ⟨d, hd⟩ : ∃ d : Nat, (m : Int) - 1 - (j : Int) = d := ⟨m - 1 - j, by omega⟩
        have hleft := left_any q p g _ w2 H2.out (by rw [HL.out (j + 1) (by omega)]; omega)
        rw [HL.out (j + 1) (by omega), fillB_count, show (m : Int) - ((j + 1 : Nat) : Int) = (d : Int) by omega] at hleft
        have HLEFT := Lib.hid hleft
        have HD := Lib.hid hd
        clear hleft hd
        go_wp2_with fail
        refine (err0 _).mono ?_
        rintro e w' ⟨rfl, rfl⟩
        go_wp2_with fail
        have hq := bits_has p g _ j _ H2.out.2
        rw [hasB_fill (n := m) (i := j + 1) (x := j) (by omega)] at hq
        refine hq.mono ?_
        rintro e w' ⟨rfl, rfl⟩
        clear hq
        go_wp2_with fail
        have hq := count_any p g _ _ H2.out.2 (by rw [HL.out (j + 1) (by omega)]; omega)
        rw [fillB_count m (j + 1)] at hq
        refine hq.mono ?_
        rintro e w' ⟨rfl, rfl⟩
        clear hq
        go_wp2_with fail
        refine (HLEFT.out).mono ?_
        rintro e w' ⟨rfl, n1, rfl⟩
        have hd := HD.out
        have H3 : Hid (IsPages (w2.drewN n1) q p g (fillB m (j + 1))) := Lib.hid H2.out
        have HU3 : Hid (Upd [] w (w2.drewN n1)) := Lib.hid (HU2.out.drewN n1)
        go_wp2_with fail
        go_roundg (m - (j + 1))
        case measure => omega
        case rel => exact ⟨j + 1, rfl, by omega, by omega, by go_num, H3, HU3⟩
      · obtain rfl : j = m := by omega
        go_wp2_with fail
        go_meet
        exact ⟨H, HU⟩
  case rest =>
    clear H HU
    obtain ⟨H, HU⟩ := hcut
    go_wp2_with fail
    refine (ptake_no q p g _ 1 _ H.out (by rw [HL.out m (by omega)]; omega) (by omega) (by omega) (run_one_none m)).mono ?_
    rintro e w' ⟨rfl, rfl⟩
    obtain ⟨hz, hz1⟩ := HZ.out
    go_wp2_with fail
    clear hz hz1
    simp only [HY.out]
    refine (pgive_yes q p g _ y 1 _ H.out (by rw [HL.out m (by omega)]; omega) (by omega) (by omega) (by rw [HL.out m (by omega)]; omega) (fullB_true.2 fun j h1 h2 => by rw [fillB_get]; simp; omega)).mono ?_
    rintro e w2 ⟨rfl, h2, hu⟩
    rw [span_one] at h2
    have H2 := Lib.hid h2
    have HU2 := Lib.hid (HU.out.step hu (by have := HG.out; simp; omega))
    clear h2 hu
    have hrun : runZ ((fillB m m).set y false) 0 ((1 : Nat) : Int) = y := by
      have h1 := run_one ((fillB m m).set y false) 0
      have h2 := two_next hy2 hy2
      rw [same_set, Nat.min_self] at h2
      rw [h2] at h1
      exact h1
    have HRUN := Lib.hid hrun
    clear hrun
    go_wp2_with fail
    refine (ptake_yes q p g _ 1 y _ H2.out (by rw [List.length_set, HL.out m (by omega)]; omega) (by omega) HRUN.out).mono ?_
    rintro e w3 ⟨rfl, _, hu⟩
    have HU3 := Lib.hid (HU2.out.step hu (by have := HG.out; simp; omega))
    clear hu
    go_wp2_with fail
    refine (err3 _).mono ?_
    rintro e w' ⟨rfl, rfl⟩
    go_wp2_with fail
    refine (err0 _).mono ?_
    rintro e w' ⟨rfl, rfl⟩
    go_wp2_with fail
    refine (err0 _).mono ?_
    rintro e w' ⟨rfl, rfl⟩
    go_wp2_with fail
    refine (awake3_calls _).mono ?_
    rintro e w9 ⟨rfl, hb⟩
    have HE := Lib.hid (HU3.out.step (Upd.of_below hb : Upd [] _ _) (by simp))
    clear hb
    go_wp2_with fail
    go_ret
    exact ⟨rfl, HE.out.below⟩
end Go.Proofs.Ytnphkgiiondjkaa
