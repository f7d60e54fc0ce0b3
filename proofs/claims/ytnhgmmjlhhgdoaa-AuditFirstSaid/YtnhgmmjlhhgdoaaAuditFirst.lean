/- AuditFirst: of two rules that are broken the first one is told. -/
import Derived.Test.YtnhgmmjlhhgdoaaAuditFirst0
namespace Go.Proofs.Ytnhgmmjlhhgdoaa
open Go Go.RowKit

theorem VS_val (g : Nat) : (VS g).val = .agg #[.slice (some ⟨g + 8, 0, none⟩) 6 6, .slice (some ⟨g + 9, 0, none⟩) 1 1, .slice (some ⟨g + 1, 0, none⟩) 16 16, .slice (some ⟨g + 11, 0, none⟩) 2 2, .slice (some ⟨g + 12, 0, none⟩) 1 1, .slice (some ⟨g + 13, 0, none⟩) 1 1, .int .i64 9, .int .i64 4, .int .i64 32, .int .i64 1] := rfl
theorem StF.cell {w : World} {g : Nat} {b0 b1 b2 b3 b4 b5 b6 : Bool} {nq np : Nat} (h : StF w g b0 b1 b2 b3 b4 b5 b6 nq np) {j : Nat} {t : TypeId} {cs : Array Value} (hj : (LF g b0 b1 b2 b3 b4 b5 b6 nq np)[j]? = some (t, cs)) {i : Nat} {v : Value} (hi : cs[i]? = some v) : w.cell? ⟨g + j, i, none⟩ = some v := by
  rw [(h.blks j t cs hj).cell i]; exact hi
theorem StF.free {w : World} {g : Nat} {b0 b1 b2 b3 b4 b5 b6 : Bool} {nq np : Nat} (h : StF w g b0 b1 b2 b3 b4 b5 b6 nq np) {j : Nat} {t : TypeId} {cs : Array Value} (hj : (LF g b0 b1 b2 b3 b4 b5 b6 nq np)[j]? = some (t, cs)) (i : Nat) : w.frozen? ⟨g + j, i, none⟩ = false := (h.blks j t cs hj).frozen i
theorem fl_step (x y j i : Nat) (hj : j < 2) : fl x y (j + 1) i = (fl x y j i || decide (i = if j = 0 then x else y)) := by
  rcases (show j = 0 ∨ j = 1 by omega) with rfl | rfl <;> simp [fl]
set_option maxRecDepth 100000 in
set_option maxHeartbeats 3200000 in
theorem auditFirst_law (a b : Int) (w : World) (ha : 0 ≤ a ∧ a ≤ 255) (hb : 0 ≤ b ∧ b ≤ 255) : Calls Try.prog 6 #[.int .u8 a, .int .u8 b] w fun e w' => e = .returned (.bool true) ∧ Below w.heap.size w w' := by
  obtain ⟨ha1, ha2⟩ := ha
  obtain ⟨hb1, hb2⟩ := hb
  obtain ⟨x, hx⟩ : ∃ x : Nat, a % 7 = x := ⟨(a % 7).toNat, by omega⟩
  obtain ⟨y, hy⟩ : ∃ y : Nat, b % 7 = y := ⟨(b % 7).toNat, by omega⟩
  have hx7 : x < 7 := by omega
  have hy7 : y < 7 := by omega
  go_enter Try.func6, Try.ntmps6
  go_wp2_with fail
  simp only [hx, hy]
  clear hx hy ha1 ha2 hb1 hb2
  refine (sound_walk _).mono ?_
  rintro e w1 ⟨he, hB, hs, hU⟩
  rw [VS_val] at he
  subst he
  have HB := Lib.hid hB
  have HU := Lib.hid hU
  clear hB hU
  generalize hg0 : w.heap.size = g at *
  have HG := Lib.hid hg0
  have HLG := Lib.hid (Nat.le_of_eq hg0)
  clear hg0
  go_upto_region 3 with fail
  generalize hW : World.alloc w1 (Obj.cells _ 30) = w2
  have HB2 : Hid (Blks w2 g (LS0 g ++ [(30, (VS g).cells.toArray)])) := Lib.hid (by rw [← hW]; exact HB.out.alloc hs _ _)
  have HU2 : Hid (Upd [] w w2) := Lib.hid (HU.out.trans (by rw [← hW]; exact (Upd.refl [] w1).alloc _))
  have hs2 : w2.heap.size = g + 15 := by rw [← hW]; simp [hs]
  clear hW
  try rw [hs]
  clear hs
  go_upto_block 0 with fail
  generalize hW : World.alloc w2 (Obj.cells _ 3) = w3
  have HBL : Hid (Blk w3 (g + 15) 3 #[.int .i64 x, .int .i64 y]) := Lib.hid (by rw [← hW, ← hs2]; exact Blk.new _ _ _)
  have H23 : Hid (Upd [] w2 w3) := Lib.hid (by rw [← hW]; exact (Upd.refl [] w2).alloc _)
  have HS3 : Hid (g + 15 ≤ w3.heap.size) := Lib.hid (by rw [← hs2]; exact H23.out.size)
  have HST : Hid (StF w3 g false false false false false false false 0 (g + 13)) := Lib.hid ((StF.start HB2.out).upd H23.out)
  clear hW
  try rw [hs2]
  clear hs2
  go_wp2_with fail
  go_loopg [21] 2 (fun gk i wr => ∃ (j nq np : Nat), gk = 2 - j ∧ j ≤ 2 ∧ i = .int .i64 j ∧ Hid (Upd [] w wr) ∧ Hid (g + 15 ≤ wr.heap.size) ∧ Hid (Blk wr (g + 15) 3 #[.int .i64 x, .int .i64 y]) ∧ Hid (StF wr g (fl x y j 0) (fl x y j 1) (fl x y j 2) (fl x y j 3) (fl x y j 4) (fl x y j 5) (fl x y j 6) nq np))
  case atStart => exact ⟨0, 0, g + 13, rfl, by omega, rfl, Lib.hid (HU2.out.trans H23.out), HS3, HBL, HST⟩
  case round =>
    obtain ⟨j, nq, np, rfl, hj, rfl, HUW, HG15, HLB, HSF⟩ := hrel
    by_cases hlt : j < 2
    · have hlt2 : (j : Int) < 2 := by omega
      have HF := fun i => fl_step x y j i hlt
      have hck : wr.cell? ⟨g + 15, j, none⟩ = some (.int .i64 (((if j = 0 then x else y : Nat)) : Int)) := by
        rcases (show j = 0 ∨ j = 1 by omega) with rfl | rfl
        · exact vw_cells HLB.out (Upd.refl _ _) rfl
        · exact vw_cells HLB.out (Upd.refl _ _) rfl
      have hk7 : (if j = 0 then x else y) < 7 := by split <;> assumption
      generalize (if j = 0 then x else y) = k at *
      have HF0 := Lib.hid (HF 0)
      have HF1 := Lib.hid (HF 1)
      have HF2 := Lib.hid (HF 2)
      have HF3 := Lib.hid (HF 3)
      have HF4 := Lib.hid (HF 4)
      have HF5 := Lib.hid (HF 5)
      have HF6 := Lib.hid (HF 6)
      clear HF
      generalize fl x y j 0 = b0 at *
      generalize fl x y j 1 = b1 at *
      generalize fl x y j 2 = b2 at *
      generalize fl x y j 3 = b3 at *
      generalize fl x y j 4 = b4 at *
      generalize fl x y j 5 = b5 at *
      generalize fl x y j 6 = b6 at *
      rcases (show k = 0 ∨ k = 1 ∨ k = 2 ∨ k = 3 ∨ k = 4 ∨ k = 5 ∨ k = 6 by omega) with rfl | rfl | rfl | rfl | rfl | rfl | rfl
      · have HSFk := HSF
        have d0 : wr.cell? ⟨g + 14, 0, none⟩ = some (.slice (some ⟨g + 8, 0, none⟩) 6 6) := HSF.out.cell (j := 14) rfl rfl
        obtain ⟨u, t0⟩ : ∃ u, wr.cell? ⟨g + 8, 31, none⟩ = some u := ⟨_, HSF.out.cell (j := 8) rfl rfl⟩
        have f0 : wr.frozen? ⟨g + 8, 31, none⟩ = false := HSF.out.free (j := 8) rfl 31
        clear HSFk
        have HNEW := Lib.hid HSF.out.k0
        have hg15 := HG15.out
        go_wp2_with fail
        go_roundg (2 - (j + 1))
        case measure => omega
        case rel => exact ⟨j + 1, nq, np, rfl, by omega, by go_num, Lib.hid (HUW.out.setCell (.inr (by have := HLG.out; simp; omega)) _), Lib.hid (by have := HG15.out; simp <;> omega), Lib.hid (HLB.out.far (by simp) _), Lib.hid (by rw [HF0.out, HF1.out, HF2.out, HF3.out, HF4.out, HF5.out, HF6.out]; simpa using HNEW.out)⟩
      · have HSFk := HSF
        obtain ⟨u, t0⟩ : ∃ u, wr.cell? ⟨g + 14, 8, none⟩ = some u := ⟨_, HSF.out.cell (j := 14) rfl rfl⟩
        have f0 : wr.frozen? ⟨g + 14, 8, none⟩ = false := HSF.out.free (j := 14) rfl 8
        clear HSFk
        have HNEW := Lib.hid HSF.out.k1
        have hg15 := HG15.out
        go_wp2_with fail
        go_roundg (2 - (j + 1))
        case measure => omega
        case rel => exact ⟨j + 1, nq, np, rfl, by omega, by go_num, Lib.hid (HUW.out.setCell (.inr (by have := HLG.out; simp; omega)) _), Lib.hid (by have := HG15.out; simp <;> omega), Lib.hid (HLB.out.far (by simp) _), Lib.hid (by rw [HF0.out, HF1.out, HF2.out, HF3.out, HF4.out, HF5.out, HF6.out]; simpa using HNEW.out)⟩
      · have HSFk := HSF
        have d0 : wr.cell? ⟨g + 14, 2, none⟩ = some (.slice (some ⟨g + 1, 0, none⟩) 16 16) := HSF.out.cell (j := 14) rfl rfl
        obtain ⟨u, t0⟩ : ∃ u, wr.cell? ⟨g + 1, 4, none⟩ = some u := ⟨_, HSF.out.cell (j := 1) rfl rfl⟩
        have f0 : wr.frozen? ⟨g + 1, 4, none⟩ = false := HSF.out.free (j := 1) rfl 4
        clear HSFk
        have HNEW := Lib.hid HSF.out.k2
        have hg15 := HG15.out
        go_wp2_with fail
        go_roundg (2 - (j + 1))
        case measure => omega
        case rel => exact ⟨j + 1, nq, np, rfl, by omega, by go_num, Lib.hid (HUW.out.setCell (.inr (by have := HLG.out; simp; omega)) _), Lib.hid (by have := HG15.out; simp <;> omega), Lib.hid (HLB.out.far (by simp) _), Lib.hid (by rw [HF0.out, HF1.out, HF2.out, HF3.out, HF4.out, HF5.out, HF6.out]; simpa using HNEW.out)⟩
      · have HSFk := HSF
        have d0 : wr.cell? ⟨g + 14, 0, none⟩ = some (.slice (some ⟨g + 8, 0, none⟩) 6 6) := HSF.out.cell (j := 14) rfl rfl
        have d1 : wr.cell? ⟨g + 8, 17, none⟩ = some (.slice (some ⟨g + 4, 0, none⟩) 3 3) := HSF.out.cell (j := 8) rfl rfl
        obtain ⟨u, t0⟩ : ∃ u, wr.cell? ⟨g + 4, 1, none⟩ = some u := ⟨_, HSF.out.cell (j := 4) rfl rfl⟩
        have f0 : wr.frozen? ⟨g + 4, 1, none⟩ = false := HSF.out.free (j := 4) rfl 1
        clear HSFk
        have HNEW := Lib.hid HSF.out.k3
        have hg15 := HG15.out
        go_wp2_with fail
        go_roundg (2 - (j + 1))
        case measure => omega
        case rel => exact ⟨j + 1, nq, np, rfl, by omega, by go_num, Lib.hid (HUW.out.setCell (.inr (by have := HLG.out; simp; omega)) _), Lib.hid (by have := HG15.out; simp <;> omega), Lib.hid (HLB.out.far (by simp) _), Lib.hid (by rw [HF0.out, HF1.out, HF2.out, HF3.out, HF4.out, HF5.out, HF6.out]; simpa using HNEW.out)⟩
      · have HSFk := HSF
        have d0 : wr.cell? ⟨g + 14, 3, none⟩ = some (.slice (some ⟨g + 11, 0, none⟩) 2 2) := HSF.out.cell (j := 14) rfl rfl
        obtain ⟨u, t0⟩ : ∃ u, wr.cell? ⟨g + 11, 1, none⟩ = some u := ⟨_, HSF.out.cell (j := 11) rfl rfl⟩
        have f0 : wr.frozen? ⟨g + 11, 1, none⟩ = false := HSF.out.free (j := 11) rfl 1
        clear HSFk
        have f1 : (wr.alloc (.cells #[.int .i64 64] 3)).frozen? ⟨g + 11, 1, none⟩ = false := (HSF.out.upd ((Upd.refl [] wr).alloc _)).free (j := 11) rfl 1
        obtain ⟨u1, t1⟩ : ∃ u, (wr.alloc (.cells #[.int .i64 64] 3)).cell? ⟨g + 11, 1, none⟩ = some u := ⟨_, (HSF.out.upd ((Upd.refl [] wr).alloc _)).cell (j := 11) rfl rfl⟩
        have HNEW := Lib.hid ((HSF.out.upd ((Upd.refl [] wr).alloc (.cells #[.int .i64 64] 3))).k4 wr.heap.size (Blk.new _ _ _) HG15.out)
        have hg15 := HG15.out
        go_wp2_with fail
        go_roundg (2 - (j + 1))
        case measure => omega
        case rel => exact ⟨j + 1, wr.heap.size, np, rfl, by omega, by go_num, Lib.hid ((HUW.out.alloc _).setCell (.inr (by have := HLG.out; simp; omega)) _), Lib.hid (by have := HG15.out; simp <;> omega), Lib.hid ((HLB.out.alloc _).far (by simp) _), Lib.hid (by rw [HF0.out, HF1.out, HF2.out, HF3.out, HF4.out, HF5.out, HF6.out]; simpa using HNEW.out)⟩
      · have HSFk := HSF
        obtain ⟨u, t0⟩ : ∃ u, wr.cell? ⟨g + 14, 5, none⟩ = some u := ⟨_, HSF.out.cell (j := 14) rfl rfl⟩
        have f0 : wr.frozen? ⟨g + 14, 5, none⟩ = false := HSF.out.free (j := 14) rfl 5
        clear HSFk
        have f1 : (wr.alloc (.cells #[.int .i64 66, .int .i64 3] 3)).frozen? ⟨g + 14, 5, none⟩ = false := (HSF.out.upd ((Upd.refl [] wr).alloc _)).free (j := 14) rfl 5
        obtain ⟨u1, t1⟩ : ∃ u, (wr.alloc (.cells #[.int .i64 66, .int .i64 3] 3)).cell? ⟨g + 14, 5, none⟩ = some u := ⟨_, (HSF.out.upd ((Upd.refl [] wr).alloc _)).cell (j := 14) rfl rfl⟩
        have HNEW := Lib.hid ((HSF.out.upd ((Upd.refl [] wr).alloc (.cells #[.int .i64 66, .int .i64 3] 3))).k5 wr.heap.size (Blk.new _ _ _) HG15.out)
        have hg15 := HG15.out
        go_wp2_with fail
        go_roundg (2 - (j + 1))
        case measure => omega
        case rel => exact ⟨j + 1, nq, wr.heap.size, rfl, by omega, by go_num, Lib.hid ((HUW.out.alloc _).setCell (.inr (by have := HLG.out; simp; omega)) _), Lib.hid (by have := HG15.out; simp <;> omega), Lib.hid ((HLB.out.alloc _).far (by simp) _), Lib.hid (by rw [HF0.out, HF1.out, HF2.out, HF3.out, HF4.out, HF5.out, HF6.out]; simpa using HNEW.out)⟩
      · have HSFk := HSF
        obtain ⟨u, t0⟩ : ∃ u, wr.cell? ⟨g + 14, 6, none⟩ = some u := ⟨_, HSF.out.cell (j := 14) rfl rfl⟩
        have f0 : wr.frozen? ⟨g + 14, 6, none⟩ = false := HSF.out.free (j := 14) rfl 6
        clear HSFk
        have HNEW := Lib.hid HSF.out.k6
        have hg15 := HG15.out
        go_wp2_with fail
        go_roundg (2 - (j + 1))
        case measure => omega
        case rel => exact ⟨j + 1, nq, np, rfl, by omega, by go_num, Lib.hid (HUW.out.setCell (.inr (by have := HLG.out; simp; omega)) _), Lib.hid (by have := HG15.out; simp <;> omega), Lib.hid (HLB.out.far (by simp) _), Lib.hid (by rw [HF0.out, HF1.out, HF2.out, HF3.out, HF4.out, HF5.out, HF6.out]; simpa using HNEW.out)⟩
    · obtain rfl : j = 2 := by omega
      have HGD := Lib.hid (HSF.out.good _ (first_is g nq np x hx7 y hy7))
      have hvc : ∀ i v, (VF g (fl x y 2 0) (fl x y 2 1) (fl x y 2 2) (fl x y 2 3) (fl x y 2 4) (fl x y 2 5) (fl x y 2 6) nq np).cells[i]? = some v → wr.cell? ⟨g + 14, i, none⟩ = some v := fun i v h => HSF.out.cell (j := 14) rfl (by simpa using h)
      have hmin : ((min x y : Nat) : Int) = min (x : Int) (y : Int) := by omega
      generalize VF g (fl x y 2 0) (fl x y 2 1) (fl x y 2 2) (fl x y 2 3) (fl x y 2 4) (fl x y 2 5) (fl x y 2 6) nq np = V at *
      rw [hmin] at HGD
      have hcc := HGD.out.check
      clear hmin HSF HGD HLB HB HB2 HBL HST
      obtain ⟨oa, oc, os, ha, hc, hs, ra, rc, rs, qa, qc, qs, fa, fc, fs, pa, pc, ps, clock, serial, used, runs⟩ := V
      have d0 := hvc 0 _ rfl
      have d1 := hvc 1 _ rfl
      have d2 := hvc 2 _ rfl
      have d3 := hvc 3 _ rfl
      have d4 := hvc 4 _ rfl
      have d5 := hvc 5 _ rfl
      have d6 := hvc 6 _ rfl
      have d7 := hvc 7 _ rfl
      have d8 := hvc 8 _ rfl
      have d9 := hvc 9 _ rfl
      clear hvc
      simp only [Vw.val] at hcc d0 d1 d2 d3 d4 d5 d6 d7 d8 d9
      generalize os.length = no at *
      generalize hs.length = nh at *
      generalize rs.length = nr at *
      generalize qs.length = nqs at *
      generalize fs.length = nf at *
      generalize ps.length = np at *
      have HCC := Lib.hid hcc
      clear hcc
      have hmb : 0 ≤ min (x : Int) (y : Int) ∧ min (x : Int) (y : Int) ≤ 7 := by omega
      obtain ⟨m, hm⟩ : ∃ m : Int, min (x : Int) (y : Int) = m := ⟨_, rfl⟩
      rw [hm] at HCC hmb
      obtain ⟨hmb1, hmb2⟩ := hmb
      go_wp2_with fail
      refine HCC.out.mono ?_
      rintro e w5 ⟨rfl, hb5⟩
      have H5 : Hid (Upd [] w w5) := Lib.hid (HUW.out.step (Upd.of_below hb5 : Upd [] _ _) (by simp))
      clear hb5 d0 d1 d2 d3 d4 d5 d6 d7 d8 d9
      go_wp2_with fail
      refine (awake23_walk _).mono ?_
      rintro e w6 ⟨rfl, hb6⟩
      have H6 : Hid (Upd [] w w6) := Lib.hid (H5.out.step (Upd.of_below hb6 : Upd [] _ _) (by simp))
      clear hb6
      go_wp2_with fail
      go_ret
      exact ⟨rfl, H6.out.below⟩
end Go.Proofs.Ytnhgmmjlhhgdoaa
