/- The walk of PagesHoles: at every input the law returns true, and nothing that was there has turned. -/
import Derived.Test.YtnphkgiiondjkaaPagesRefuses
namespace Go.Proofs.Ytnphkgiiondjkaa
open Go Go.RowKit

/-- Behind i holes of d - 1 pages, a page between each two: what is taken. -/
def gapB (d i : Nat) : List Bool := (List.range (1 + 8 * d)).map fun x => decide (x % d = 0) || decide (i * d < x)
theorem gap_length (d i : Nat) : (gapB d i).length = 1 + 8 * d := by simp [gapB]
theorem gap_start : ∀ d, d < 8 → 2 ≤ d → span (fillB (1 + 8 * d) 1) true 1 (8 * d) = gapB d 0 ∧ runZ (fillB (1 + 8 * d) 1) 0 ((8 * d : Nat) : Int) = ((1 : Nat) : Int) ∧ countB (gapB d 0) = 1 + 8 * d := by decide +kernel
theorem gap_step : ∀ d, d < 8 → 2 ≤ d → ∀ i, i < 8 → span (gapB d i) false (1 + i * d) (d - 1) = gapB d (i + 1) ∧ fullB (gapB d i) (1 + i * d) (d - 1) = true := by decide +kernel
theorem gap_count : ∀ d, d < 8 → 2 ≤ d → countB (gapB d 8) = 9 := by decide +kernel
theorem gap_none : ∀ d, d < 8 → 2 ≤ d → runZ (gapB d 8) 0 (d : Int) = -1 := by decide +kernel
theorem gap_join : ∀ d, d < 8 → 2 ≤ d → ∀ j, j < 7 → fullB (gapB d 8) (1 + j * d + (d - 1)) 1 = true ∧ runZ ((gapB d 8).set (1 + j * d + (d - 1)) false) 0 ((2 * (d - 1) + 1 : Nat) : Int) = ((1 + j * d : Nat) : Int) := by decide +kernel

set_option maxRecDepth 100000 in
set_option maxHeartbeats 8000000 in
theorem pholes_walk (C G : Nat) (w : World) (hC : C ≤ 255) (hG : G ≤ 255) :
    Calls Try.prog 17 #[.int .u8 C, .int .u8 G] w fun e w' => e = .returned (.bool true) ∧ Below w.heap.size w w' := by
  obtain ⟨s, hs⟩ : ∃ s : Nat, 1 + (C : Int) % 6 = s := ⟨1 + C % 6, by omega⟩
  have hs1 : 1 ≤ s := by omega
  have hs2 : s ≤ 6 := by omega
  obtain ⟨d, hd⟩ : ∃ d : Nat, (s : Int) + 1 = d := ⟨s + 1, by omega⟩
  have hd0 : d = s + 1 := by omega
  obtain ⟨t, ht⟩ : ∃ t : Nat, (8 : Int) * (d : Int) = t := ⟨8 * d, by omega⟩
  obtain ⟨m, hm⟩ : ∃ m : Nat, (1 : Int) + (t : Int) = m := ⟨1 + t, by omega⟩
  have HD : Hid (d = s + 1 ∧ t = 8 * d ∧ m = 1 + 8 * d ∧ d < 8 ∧ 2 ≤ d) := Lib.hid (by omega)
  have HM := Lib.hid (show m ≤ 57 by omega)
  have hd2 : d ≤ 7 := by omega
  have ht2 : t ≤ 56 := by omega
  have N1 := fun w => pages_new_fill m w (by omega) (by omega)
  have HN1 := Lib.hid N1
  have hS := gap_start d (by omega) (by omega)
  rw [show 1 + 8 * d = m by omega, show 8 * d = t by omega] at hS
  have HS := Lib.hid hS
  have HS1 := Lib.hid hs
  have HS2 := Lib.hid hd
  have HS3 := Lib.hid ht
  have HS4 := Lib.hid hm
  clear N1 hS hd0
  go_enter Try.func17, Try.ntmps17
  go_wp2_with fail
  refine (HN1.out _).mono ?_
  rintro e w1 ⟨q, p, g, rfl, hA, hq, hp, hg, hb⟩
  have c0 : w1.cell? ⟨q, 0, none⟩ = some (.pointer (some ⟨p, 0, none⟩)) := hA.1.cell 0
  have H := Lib.hid hA
  have HU : Hid (Upd [] w w1) := Lib.hid (Upd.of_below hb)
  have HG := Lib.hid hg
  clear hA hb hq hp hg HN1 hm hs
  go_wp2_with fail
  refine (err0 _).mono ?_
  rintro e w' ⟨rfl, rfl⟩
  have HLM : Hid ((fillB m 1).length = m) := Lib.hid (fillB_length (by have := HD.out; omega))
  go_wp2_with fail
  refine (ptake_yes q p g _ t 1 _ H.out (by rw [HLM.out]; have := HM.out; omega) (by have := HD.out; omega) HS.out.2.1).mono ?_
  rintro e w2 ⟨rfl, h2, hu⟩
  rw [HS.out.1] at h2
  have HP2 := Lib.hid h2
  have HU2 := Lib.hid (HU.out.step hu (by have := HG.out; simp; omega))
  clear h2 hu H HU
  go_wp2_with fail
  refine (err0 _).mono ?_
  rintro e w' ⟨rfl, rfl⟩
  go_upto_block 0 with fail
  clear c0 ht
  go_cut [10] (fun _ wx => Hid (IsPages wx q p g (gapB d 8)) ∧ Hid (Upd [] w wx))
  case first =>
    go_wp2_with fail
    go_loopg [10] 8 (fun gk i wr => ∃ j : Nat, gk = 8 - j ∧ j ≤ 8 ∧ i = .int .i64 j ∧ Hid (IsPages wr q p g (gapB d j)) ∧ Hid (Upd [] w wr))
    case atStart => exact ⟨0, rfl, by omega, rfl, HP2, HU2⟩
    case round =>
      clear HP2 HU2
      obtain ⟨j, rfl, hj, rfl, H, HU⟩ := hrel
      by_cases hlt : j < 8
      · obtain ⟨v, hv⟩ : ∃ v : Nat, (j : Int) * (d : Int) = v := ⟨j * d, by simp⟩
        have hv' : j * d = v := by exact_mod_cast hv
        have hv2 : v ≤ 49 := by rw [← hv']; exact Nat.mul_le_mul (by omega : j ≤ 7) hd2
        have hvm : v + d ≤ t := by
          have h1 := HD.out
          have h2 : (j + 1) * d ≤ 8 * d := Nat.mul_le_mul_right d (by omega)
          rw [Nat.succ_mul] at h2
          omega
        have hst := gap_step d (by omega) HD.out.2.2.2.2 j hlt
        rw [hv', show d - 1 = s by have := HD.out; omega] at hst
        obtain ⟨u, hu⟩ : ∃ u : Nat, (1 : Int) + (v : Int) = u := ⟨1 + v, by omega⟩
        rw [show 1 + v = u by omega] at hst
        have hu1 : 1 ≤ u ∧ u + s ≤ m := by have := HD.out; omega
        have HST := Lib.hid hst
        have HU1 := Lib.hid hu1
        clear hv' hst hvm hu1
        go_wp2_with fail
        clear hv hu
        refine (pgive_yes q p g _ u s _ H.out (by rw [gap_length]; omega) (by omega) HU1.out.1 (by rw [gap_length]; have := HU1.out; have := HD.out; omega) HST.out.2).mono ?_
        rintro e w3 ⟨rfl, h3, hu3⟩
        rw [HST.out.1] at h3
        have HP3 := Lib.hid h3
        have HU3 := Lib.hid (HU.out.step hu3 (by have := HG.out; simp; omega))
        clear h3 hu3
        go_wp2_with fail
        refine (err0 _).mono ?_
        rintro e w' ⟨rfl, rfl⟩
        go_wp2_with fail
        go_roundg (8 - (j + 1))
        case measure => omega
        case rel => exact ⟨j + 1, rfl, by omega, by go_num, HP3, HU3⟩
      · obtain rfl : j = 8 := by omega
        go_wp2_with fail
        go_meet
        exact ⟨H, HU⟩
  case rest =>
    clear HP2 HU2
    obtain ⟨H, HU⟩ := hcut
    obtain ⟨z, hz⟩ : ∃ z : Nat, (8 : Int) * (s : Int) = z := ⟨8 * s, by omega⟩
    have hleft := left_any q p g _ wc H.out (by rw [gap_length]; omega)
    rw [gap_length, gap_count d (by omega) HD.out.2.2.2.2, show ((1 + 8 * d : Nat) : Int) - ((9 : Nat) : Int) = (z : Int) by have := HD.out; omega] at hleft
    have HLEFT := Lib.hid hleft
    have HZ := Lib.hid hz
    clear hleft hz
    go_wp2_with fail
    refine (HLEFT.out).mono ?_
    rintro e w' ⟨rfl, n1, rfl⟩
    have H3 : IsPages (wc.drewN n1) q p g (gapB d 8) := H.out
    have HU3 : Upd [] w (wc.drewN n1) := HU.out.drewN n1
    obtain ⟨w3, hw3⟩ : ∃ w3, wc.drewN n1 = w3 := ⟨_, rfl⟩
    rw [hw3] at H3 HU3 ⊢
    have H := Lib.hid H3
    have HU := Lib.hid HU3
    clear H3 HU3 hw3
    go_wp2_with fail
    refine (ptake_no q p g _ d _ H.out (by rw [gap_length]; omega) (by have := HD.out; omega) (by omega) (gap_none d (by omega) HD.out.2.2.2.2)).mono ?_
    rintro e w' ⟨rfl, rfl⟩
    obtain ⟨j, hj⟩ : ∃ j : Nat, (G : Int) % 7 = j := ⟨G % 7, by omega⟩
    have hj7 : j < 7 := by omega
    obtain ⟨v, hv⟩ : ∃ v : Nat, (j : Int) * (d : Int) = v := ⟨j * d, by simp⟩
    have hv' : j * d = v := by exact_mod_cast hv
    have hv2 : v ≤ 42 := by rw [← hv']; exact Nat.mul_le_mul (by omega : j ≤ 6) hd2
    have hvm : v + 2 * d ≤ t := by
      have h1 := HD.out
      have h2 : (j + 2) * d ≤ 8 * d := Nat.mul_le_mul_right d (by omega)
      rw [Nat.add_mul] at h2
      omega
    have hjo := gap_join d (by omega) HD.out.2.2.2.2 j hj7
    obtain ⟨u, hu⟩ : ∃ u : Nat, (1 : Int) + (v : Int) = u := ⟨1 + v, by omega⟩
    obtain ⟨x, hx⟩ : ∃ x : Nat, (u : Int) + (s : Int) = x := ⟨u + s, by omega⟩
    obtain ⟨y, hy⟩ : ∃ y : Nat, (2 : Int) * (s : Int) = y := ⟨2 * s, by omega⟩
    obtain ⟨y1, hy1⟩ : ∃ y1 : Nat, (y : Int) + 1 = y1 := ⟨y + 1, by omega⟩
    have hu2 : u ≤ 43 := by omega
    have hy2 : y ≤ 12 := by omega
    rw [hv', show d - 1 = s by have := HD.out; omega, show 1 + v + s = x by omega, show 2 * s + 1 = y1 by omega, show 1 + v = u by omega] at hjo
    have hx1 : 1 ≤ x ∧ x + 1 ≤ m := by have := HD.out; omega
    have HJO := Lib.hid hjo
    have HX1 := Lib.hid hx1
    have hy3 : 1 ≤ y1 := by omega
    clear hv' hjo hvm hx1
    go_wp2_with fail
    refine (pgive_yes q p g _ x 1 _ H.out (by rw [gap_length]; omega) (by omega) HX1.out.1 (by rw [gap_length]; have := HX1.out; have := HD.out; omega) HJO.out.1).mono ?_
    rintro e w4 ⟨rfl, h4, hu4⟩
    rw [span_one] at h4
    have HP4 := Lib.hid h4
    have HU4 := Lib.hid (HU.out.step hu4 (by have := HG.out; simp; omega))
    clear h4 hu4
    go_wp2_with fail
    refine (ptake_yes q p g _ y1 u _ HP4.out (by rw [List.length_set, gap_length]; omega) hy3 HJO.out.2).mono ?_
    rintro e w5 ⟨rfl, _, hu5⟩
    have HU5 := Lib.hid (HU4.out.step hu5 (by have := HG.out; simp; omega))
    clear hu5
    have hz := HZ.out
    go_wp2_with fail
    refine (err3 _).mono ?_
    rintro e w' ⟨rfl, rfl⟩
    go_wp2_with fail
    refine (err0 _).mono ?_
    rintro e w' ⟨rfl, rfl⟩
    go_wp2_with fail
    refine (err0 _).mono ?_
    rintro e w' ⟨rfl, rfl⟩
    go_wp2_with fail
    refine (awake3_calls _).mono ?_
    rintro e w9 ⟨rfl, hb⟩
    have HE := Lib.hid (HU5.out.step (Upd.of_below hb : Upd [] _ _) (by simp))
    clear hb
    go_wp2_with fail
    go_ret
    exact ⟨rfl, HE.out.below⟩
end Go.Proofs.Ytnphkgiiondjkaa
