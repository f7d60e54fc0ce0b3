/- The document's Check of a view: the first rule that is broken. -/
import Derived.Test.YtnhgmmjlhhgdoaaRules7
namespace Go.Proofs.Ytnhgmmjlhhgdoaa
open Go Go.RowKit

theorem says_at {f : Nat} {xs : Array Value} {R : Prop} {W : World} (h : Calls Try.prog f xs W (Says R W)) (hR : R) : Calls Try.prog f xs W fun e w' => e = .returned (.bool true) ∧ Below W.heap.size W w' :=
  h.mono fun _ _ ⟨_, h1, h2, h3⟩ => ⟨by rw [h1, h2.2 hR], h3⟩
theorem says_not {f : Nat} {xs : Array Value} {R : Prop} {W : World} (h : Calls Try.prog f xs W (Says R W)) (hR : ¬ R) : Calls Try.prog f xs W fun e w' => e = .returned (.bool false) ∧ Below W.heap.size W w' :=
  h.mono fun _ _ ⟨r, h1, h2, h3⟩ => ⟨by
    cases r with
    | false => exact h1
    | true => exact absurd (h2.1 rfl) hR, h3⟩
/-- The number of the first rule that is broken. -/
def SaysC (v : Vw) (w : World) (e : Ending) (w' : World) : Prop := ∃ k, e = .returned (.int .i64 k) ∧ CheckIs v k ∧ Below w.heap.size w w'
/-- What a view is to be, that it be gone through by the document. -/
structure Light (v : Vw) : Prop where
  nos : v.os.length ≤ 40
  nhs : v.hs.length ≤ 40
  nqs : v.qs.length ≤ 10
  qs : ∀ q ∈ v.qs, q.length ≤ 40
  nfs : v.fs.length ≤ 40
  nps : v.ps.length ≤ 40
  adr : ∀ o ∈ v.os, o.adr ≤ 9223372036854775807
  fa : v.fa = none → v.fs.length = 0 ∧ v.fc = 0
  pa : v.pa = none → v.ps.length = 0 ∧ v.pc = 0
set_option maxRecDepth 100000 in
set_option maxHeartbeats 3200000 in
theorem check20_walk (v : Vw) (w : World) (S : Sees w v) (L : Light v) : Calls Try.prog 17 #[v.val] w (SaysC v w) := by
  by_cases h1 : R1 v.os
  · have C1 := Lib.hid (fun W (u : Upd [] w W) => says_at (rule1_walk v W (S.upd u (by simp)) (by have := L.nos; omega)) h1)
    by_cases h2 : R2 v.os v.used
    · have C2 := Lib.hid (fun W (u : Upd [] w W) => says_at (rule2_walk v W (S.upd u (by simp)) L.nos h1 L.adr) h2)
      by_cases h3 : R3 v.os v.rs v.hs
      · have C3 := Lib.hid (fun W (u : Upd [] w W) => says_at (rule3_walk v W (S.upd u (by simp)) L.nos L.nhs) h3)
        by_cases h4 : R4 v.os
        · have C4 := Lib.hid (fun W (u : Upd [] w W) => says_at (rule4_walk v W (S.upd u (by simp)) L.nos h1) h4)
          by_cases h5 : R5 v.os v.qs
          · have C5 := Lib.hid (fun W (u : Upd [] w W) => says_at (rule5_walk v W (S.upd u (by simp)) L.nos L.nqs L.qs h1) h5)
            by_cases h6 : R6 v.os (v.fs ++ v.ps)
            · have C6 := Lib.hid (fun W (u : Upd [] w W) => says_at (rule6_walk v W (S.upd u (by simp)) L.nos L.nfs L.nps L.fa L.pa h1) h6)
              by_cases h7 : R7 v.os v.clock v.serial v.runs
              · have C7 := Lib.hid (fun W (u : Upd [] w W) => says_at (rule7_walk v W (S.upd u (by simp)) L.nos h1) h7)
                have HC : Hid (CheckIs v 0) := Lib.hid (.inr (.inr (.inr (.inr (.inr (.inr (.inr ⟨rfl, h1, h2, h3, h4, h5, h6, h7⟩)))))))
                clear L S h1 h2 h3 h4 h5 h6 h7
                unfold SaysC
                generalize CheckIs v = CI at *
                obtain ⟨oa, oc, os, ha, hc, hs, ra, rc, rs, qa, qc, qs, fa, fc, fs, pa, pc, ps, clock, serial, used, runs⟩ := v
                simp only [Vw.val] at *
                generalize os.length = no at *
                generalize hs.length = nh at *
                generalize rs.length = nr at *
                generalize qs.length = nqs at *
                generalize fs.length = nf at *
                generalize ps.length = np at *
                go_enter Try.func17, Try.ntmps17
                go_upto_block 0 with fail
                generalize hW : World.alloc w (Obj.cells _ 30) = w1
                have HB : Hid (Blk w1 w.heap.size 30 _) := Lib.hid (by rw [← hW]; exact Blk.new _ _ _)
                have HU : Hid (Upd [] w w1) := Lib.hid (by rw [← hW]; exact (Upd.refl [] w).alloc _)
                have HV : Hid (Upd [] w1 w1) := Lib.hid (Upd.refl _ _)
                clear hW
                generalize hq0 : w.heap.size = q at *
                have HQ0 := Lib.hid hq0
                clear hq0
                have d0 : w1.cell? ⟨q, 0, none⟩ = some (.slice oa no oc) := vw_cells HB.out HV.out rfl
                have d1 : w1.cell? ⟨q, 1, none⟩ = some (.slice ha nh hc) := vw_cells HB.out HV.out rfl
                have d2 : w1.cell? ⟨q, 2, none⟩ = some (.slice ra nr rc) := vw_cells HB.out HV.out rfl
                have d3 : w1.cell? ⟨q, 3, none⟩ = some (.slice qa nqs qc) := vw_cells HB.out HV.out rfl
                have d4 : w1.cell? ⟨q, 4, none⟩ = some (.slice fa nf fc) := vw_cells HB.out HV.out rfl
                have d5 : w1.cell? ⟨q, 5, none⟩ = some (.slice pa np pc) := vw_cells HB.out HV.out rfl
                have d6 : w1.cell? ⟨q, 6, none⟩ = some (.int .i64 clock) := vw_cells HB.out HV.out rfl
                have d7 : w1.cell? ⟨q, 7, none⟩ = some (.int .i64 serial) := vw_cells HB.out HV.out rfl
                have d8 : w1.cell? ⟨q, 8, none⟩ = some (.int .i64 used) := vw_cells HB.out HV.out rfl
                have d9 : w1.cell? ⟨q, 9, none⟩ = some (.int .i64 runs) := vw_cells HB.out HV.out rfl
                go_wp2_with fail
                refine (C1.out _ (HU.out.trans HV.out)).mono ?_
                rintro e w2 ⟨rfl, hb⟩
                replace HV : Hid (Upd [] w1 w2) := Lib.hid (HV.out.step (Upd.of_below hb : Upd [] _ _) (by simp))
                clear hb d0 d1 d2 d3 d4 d5 d6 d7 d8 d9
                have d0 : w2.cell? ⟨q, 0, none⟩ = some (.slice oa no oc) := vw_cells HB.out HV.out rfl
                have d1 : w2.cell? ⟨q, 1, none⟩ = some (.slice ha nh hc) := vw_cells HB.out HV.out rfl
                have d2 : w2.cell? ⟨q, 2, none⟩ = some (.slice ra nr rc) := vw_cells HB.out HV.out rfl
                have d3 : w2.cell? ⟨q, 3, none⟩ = some (.slice qa nqs qc) := vw_cells HB.out HV.out rfl
                have d4 : w2.cell? ⟨q, 4, none⟩ = some (.slice fa nf fc) := vw_cells HB.out HV.out rfl
                have d5 : w2.cell? ⟨q, 5, none⟩ = some (.slice pa np pc) := vw_cells HB.out HV.out rfl
                have d6 : w2.cell? ⟨q, 6, none⟩ = some (.int .i64 clock) := vw_cells HB.out HV.out rfl
                have d7 : w2.cell? ⟨q, 7, none⟩ = some (.int .i64 serial) := vw_cells HB.out HV.out rfl
                have d8 : w2.cell? ⟨q, 8, none⟩ = some (.int .i64 used) := vw_cells HB.out HV.out rfl
                have d9 : w2.cell? ⟨q, 9, none⟩ = some (.int .i64 runs) := vw_cells HB.out HV.out rfl
                go_wp2_with fail
                refine (C2.out _ (HU.out.trans HV.out)).mono ?_
                rintro e w3 ⟨rfl, hb⟩
                replace HV : Hid (Upd [] w1 w3) := Lib.hid (HV.out.step (Upd.of_below hb : Upd [] _ _) (by simp))
                clear hb d0 d1 d2 d3 d4 d5 d6 d7 d8 d9
                have d0 : w3.cell? ⟨q, 0, none⟩ = some (.slice oa no oc) := vw_cells HB.out HV.out rfl
                have d1 : w3.cell? ⟨q, 1, none⟩ = some (.slice ha nh hc) := vw_cells HB.out HV.out rfl
                have d2 : w3.cell? ⟨q, 2, none⟩ = some (.slice ra nr rc) := vw_cells HB.out HV.out rfl
                have d3 : w3.cell? ⟨q, 3, none⟩ = some (.slice qa nqs qc) := vw_cells HB.out HV.out rfl
                have d4 : w3.cell? ⟨q, 4, none⟩ = some (.slice fa nf fc) := vw_cells HB.out HV.out rfl
                have d5 : w3.cell? ⟨q, 5, none⟩ = some (.slice pa np pc) := vw_cells HB.out HV.out rfl
                have d6 : w3.cell? ⟨q, 6, none⟩ = some (.int .i64 clock) := vw_cells HB.out HV.out rfl
                have d7 : w3.cell? ⟨q, 7, none⟩ = some (.int .i64 serial) := vw_cells HB.out HV.out rfl
                have d8 : w3.cell? ⟨q, 8, none⟩ = some (.int .i64 used) := vw_cells HB.out HV.out rfl
                have d9 : w3.cell? ⟨q, 9, none⟩ = some (.int .i64 runs) := vw_cells HB.out HV.out rfl
                go_wp2_with fail
                refine (C3.out _ (HU.out.trans HV.out)).mono ?_
                rintro e w4 ⟨rfl, hb⟩
                replace HV : Hid (Upd [] w1 w4) := Lib.hid (HV.out.step (Upd.of_below hb : Upd [] _ _) (by simp))
                clear hb d0 d1 d2 d3 d4 d5 d6 d7 d8 d9
                have d0 : w4.cell? ⟨q, 0, none⟩ = some (.slice oa no oc) := vw_cells HB.out HV.out rfl
                have d1 : w4.cell? ⟨q, 1, none⟩ = some (.slice ha nh hc) := vw_cells HB.out HV.out rfl
                have d2 : w4.cell? ⟨q, 2, none⟩ = some (.slice ra nr rc) := vw_cells HB.out HV.out rfl
                have d3 : w4.cell? ⟨q, 3, none⟩ = some (.slice qa nqs qc) := vw_cells HB.out HV.out rfl
                have d4 : w4.cell? ⟨q, 4, none⟩ = some (.slice fa nf fc) := vw_cells HB.out HV.out rfl
                have d5 : w4.cell? ⟨q, 5, none⟩ = some (.slice pa np pc) := vw_cells HB.out HV.out rfl
                have d6 : w4.cell? ⟨q, 6, none⟩ = some (.int .i64 clock) := vw_cells HB.out HV.out rfl
                have d7 : w4.cell? ⟨q, 7, none⟩ = some (.int .i64 serial) := vw_cells HB.out HV.out rfl
                have d8 : w4.cell? ⟨q, 8, none⟩ = some (.int .i64 used) := vw_cells HB.out HV.out rfl
                have d9 : w4.cell? ⟨q, 9, none⟩ = some (.int .i64 runs) := vw_cells HB.out HV.out rfl
                go_wp2_with fail
                refine (C4.out _ (HU.out.trans HV.out)).mono ?_
                rintro e w5 ⟨rfl, hb⟩
                replace HV : Hid (Upd [] w1 w5) := Lib.hid (HV.out.step (Upd.of_below hb : Upd [] _ _) (by simp))
                clear hb d0 d1 d2 d3 d4 d5 d6 d7 d8 d9
                have d0 : w5.cell? ⟨q, 0, none⟩ = some (.slice oa no oc) := vw_cells HB.out HV.out rfl
                have d1 : w5.cell? ⟨q, 1, none⟩ = some (.slice ha nh hc) := vw_cells HB.out HV.out rfl
                have d2 : w5.cell? ⟨q, 2, none⟩ = some (.slice ra nr rc) := vw_cells HB.out HV.out rfl
                have d3 : w5.cell? ⟨q, 3, none⟩ = some (.slice qa nqs qc) := vw_cells HB.out HV.out rfl
                have d4 : w5.cell? ⟨q, 4, none⟩ = some (.slice fa nf fc) := vw_cells HB.out HV.out rfl
                have d5 : w5.cell? ⟨q, 5, none⟩ = some (.slice pa np pc) := vw_cells HB.out HV.out rfl
                have d6 : w5.cell? ⟨q, 6, none⟩ = some (.int .i64 clock) := vw_cells HB.out HV.out rfl
                have d7 : w5.cell? ⟨q, 7, none⟩ = some (.int .i64 serial) := vw_cells HB.out HV.out rfl
                have d8 : w5.cell? ⟨q, 8, none⟩ = some (.int .i64 used) := vw_cells HB.out HV.out rfl
                have d9 : w5.cell? ⟨q, 9, none⟩ = some (.int .i64 runs) := vw_cells HB.out HV.out rfl
                go_wp2_with fail
                refine (C5.out _ (HU.out.trans HV.out)).mono ?_
                rintro e w6 ⟨rfl, hb⟩
                replace HV : Hid (Upd [] w1 w6) := Lib.hid (HV.out.step (Upd.of_below hb : Upd [] _ _) (by simp))
                clear hb d0 d1 d2 d3 d4 d5 d6 d7 d8 d9
                have d0 : w6.cell? ⟨q, 0, none⟩ = some (.slice oa no oc) := vw_cells HB.out HV.out rfl
                have d1 : w6.cell? ⟨q, 1, none⟩ = some (.slice ha nh hc) := vw_cells HB.out HV.out rfl
                have d2 : w6.cell? ⟨q, 2, none⟩ = some (.slice ra nr rc) := vw_cells HB.out HV.out rfl
                have d3 : w6.cell? ⟨q, 3, none⟩ = some (.slice qa nqs qc) := vw_cells HB.out HV.out rfl
                have d4 : w6.cell? ⟨q, 4, none⟩ = some (.slice fa nf fc) := vw_cells HB.out HV.out rfl
                have d5 : w6.cell? ⟨q, 5, none⟩ = some (.slice pa np pc) := vw_cells HB.out HV.out rfl
                have d6 : w6.cell? ⟨q, 6, none⟩ = some (.int .i64 clock) := vw_cells HB.out HV.out rfl
                have d7 : w6.cell? ⟨q, 7, none⟩ = some (.int .i64 serial) := vw_cells HB.out HV.out rfl
                have d8 : w6.cell? ⟨q, 8, none⟩ = some (.int .i64 used) := vw_cells HB.out HV.out rfl
                have d9 : w6.cell? ⟨q, 9, none⟩ = some (.int .i64 runs) := vw_cells HB.out HV.out rfl
                go_wp2_with fail
                refine (C6.out _ (HU.out.trans HV.out)).mono ?_
                rintro e w7 ⟨rfl, hb⟩
                replace HV : Hid (Upd [] w1 w7) := Lib.hid (HV.out.step (Upd.of_below hb : Upd [] _ _) (by simp))
                clear hb d0 d1 d2 d3 d4 d5 d6 d7 d8 d9
                have d0 : w7.cell? ⟨q, 0, none⟩ = some (.slice oa no oc) := vw_cells HB.out HV.out rfl
                have d1 : w7.cell? ⟨q, 1, none⟩ = some (.slice ha nh hc) := vw_cells HB.out HV.out rfl
                have d2 : w7.cell? ⟨q, 2, none⟩ = some (.slice ra nr rc) := vw_cells HB.out HV.out rfl
                have d3 : w7.cell? ⟨q, 3, none⟩ = some (.slice qa nqs qc) := vw_cells HB.out HV.out rfl
                have d4 : w7.cell? ⟨q, 4, none⟩ = some (.slice fa nf fc) := vw_cells HB.out HV.out rfl
                have d5 : w7.cell? ⟨q, 5, none⟩ = some (.slice pa np pc) := vw_cells HB.out HV.out rfl
                have d6 : w7.cell? ⟨q, 6, none⟩ = some (.int .i64 clock) := vw_cells HB.out HV.out rfl
                have d7 : w7.cell? ⟨q, 7, none⟩ = some (.int .i64 serial) := vw_cells HB.out HV.out rfl
                have d8 : w7.cell? ⟨q, 8, none⟩ = some (.int .i64 used) := vw_cells HB.out HV.out rfl
                have d9 : w7.cell? ⟨q, 9, none⟩ = some (.int .i64 runs) := vw_cells HB.out HV.out rfl
                go_wp2_with fail
                refine (C7.out _ (HU.out.trans HV.out)).mono ?_
                rintro e w8 ⟨rfl, hb⟩
                replace HV : Hid (Upd [] w1 w8) := Lib.hid (HV.out.step (Upd.of_below hb : Upd [] _ _) (by simp))
                clear hb d0 d1 d2 d3 d4 d5 d6 d7 d8 d9
                go_wp2_with fail
                go_ret
                exact ⟨_, rfl, HC.out, (HU.out.trans HV.out).below⟩
              · have C7 := Lib.hid (fun W (u : Upd [] w W) => says_not (rule7_walk v W (S.upd u (by simp)) L.nos h1) h7)
                have HC : Hid (CheckIs v 7) := Lib.hid (.inr (.inr (.inr (.inr (.inr (.inr (.inl ⟨rfl, h1, h2, h3, h4, h5, h6, h7⟩)))))))
                clear L S h1 h2 h3 h4 h5 h6 h7
                unfold SaysC
                generalize CheckIs v = CI at *
                obtain ⟨oa, oc, os, ha, hc, hs, ra, rc, rs, qa, qc, qs, fa, fc, fs, pa, pc, ps, clock, serial, used, runs⟩ := v
                simp only [Vw.val] at *
                generalize os.length = no at *
                generalize hs.length = nh at *
                generalize rs.length = nr at *
                generalize qs.length = nqs at *
                generalize fs.length = nf at *
                generalize ps.length = np at *
                go_enter Try.func17, Try.ntmps17
                go_upto_block 0 with fail
                generalize hW : World.alloc w (Obj.cells _ 30) = w1
                have HB : Hid (Blk w1 w.heap.size 30 _) := Lib.hid (by rw [← hW]; exact Blk.new _ _ _)
                have HU : Hid (Upd [] w w1) := Lib.hid (by rw [← hW]; exact (Upd.refl [] w).alloc _)
                have HV : Hid (Upd [] w1 w1) := Lib.hid (Upd.refl _ _)
                clear hW
                generalize hq0 : w.heap.size = q at *
                have HQ0 := Lib.hid hq0
                clear hq0
                have d0 : w1.cell? ⟨q, 0, none⟩ = some (.slice oa no oc) := vw_cells HB.out HV.out rfl
                have d1 : w1.cell? ⟨q, 1, none⟩ = some (.slice ha nh hc) := vw_cells HB.out HV.out rfl
                have d2 : w1.cell? ⟨q, 2, none⟩ = some (.slice ra nr rc) := vw_cells HB.out HV.out rfl
                have d3 : w1.cell? ⟨q, 3, none⟩ = some (.slice qa nqs qc) := vw_cells HB.out HV.out rfl
                have d4 : w1.cell? ⟨q, 4, none⟩ = some (.slice fa nf fc) := vw_cells HB.out HV.out rfl
                have d5 : w1.cell? ⟨q, 5, none⟩ = some (.slice pa np pc) := vw_cells HB.out HV.out rfl
                have d6 : w1.cell? ⟨q, 6, none⟩ = some (.int .i64 clock) := vw_cells HB.out HV.out rfl
                have d7 : w1.cell? ⟨q, 7, none⟩ = some (.int .i64 serial) := vw_cells HB.out HV.out rfl
                have d8 : w1.cell? ⟨q, 8, none⟩ = some (.int .i64 used) := vw_cells HB.out HV.out rfl
                have d9 : w1.cell? ⟨q, 9, none⟩ = some (.int .i64 runs) := vw_cells HB.out HV.out rfl
                go_wp2_with fail
                refine (C1.out _ (HU.out.trans HV.out)).mono ?_
                rintro e w2 ⟨rfl, hb⟩
                replace HV : Hid (Upd [] w1 w2) := Lib.hid (HV.out.step (Upd.of_below hb : Upd [] _ _) (by simp))
                clear hb d0 d1 d2 d3 d4 d5 d6 d7 d8 d9
                have d0 : w2.cell? ⟨q, 0, none⟩ = some (.slice oa no oc) := vw_cells HB.out HV.out rfl
                have d1 : w2.cell? ⟨q, 1, none⟩ = some (.slice ha nh hc) := vw_cells HB.out HV.out rfl
                have d2 : w2.cell? ⟨q, 2, none⟩ = some (.slice ra nr rc) := vw_cells HB.out HV.out rfl
                have d3 : w2.cell? ⟨q, 3, none⟩ = some (.slice qa nqs qc) := vw_cells HB.out HV.out rfl
                have d4 : w2.cell? ⟨q, 4, none⟩ = some (.slice fa nf fc) := vw_cells HB.out HV.out rfl
                have d5 : w2.cell? ⟨q, 5, none⟩ = some (.slice pa np pc) := vw_cells HB.out HV.out rfl
                have d6 : w2.cell? ⟨q, 6, none⟩ = some (.int .i64 clock) := vw_cells HB.out HV.out rfl
                have d7 : w2.cell? ⟨q, 7, none⟩ = some (.int .i64 serial) := vw_cells HB.out HV.out rfl
                have d8 : w2.cell? ⟨q, 8, none⟩ = some (.int .i64 used) := vw_cells HB.out HV.out rfl
                have d9 : w2.cell? ⟨q, 9, none⟩ = some (.int .i64 runs) := vw_cells HB.out HV.out rfl
                go_wp2_with fail
                refine (C2.out _ (HU.out.trans HV.out)).mono ?_
                rintro e w3 ⟨rfl, hb⟩
                replace HV : Hid (Upd [] w1 w3) := Lib.hid (HV.out.step (Upd.of_below hb : Upd [] _ _) (by simp))
                clear hb d0 d1 d2 d3 d4 d5 d6 d7 d8 d9
                have d0 : w3.cell? ⟨q, 0, none⟩ = some (.slice oa no oc) := vw_cells HB.out HV.out rfl
                have d1 : w3.cell? ⟨q, 1, none⟩ = some (.slice ha nh hc) := vw_cells HB.out HV.out rfl
                have d2 : w3.cell? ⟨q, 2, none⟩ = some (.slice ra nr rc) := vw_cells HB.out HV.out rfl
                have d3 : w3.cell? ⟨q, 3, none⟩ = some (.slice qa nqs qc) := vw_cells HB.out HV.out rfl
                have d4 : w3.cell? ⟨q, 4, none⟩ = some (.slice fa nf fc) := vw_cells HB.out HV.out rfl
                have d5 : w3.cell? ⟨q, 5, none⟩ = some (.slice pa np pc) := vw_cells HB.out HV.out rfl
                have d6 : w3.cell? ⟨q, 6, none⟩ = some (.int .i64 clock) := vw_cells HB.out HV.out rfl
                have d7 : w3.cell? ⟨q, 7, none⟩ = some (.int .i64 serial) := vw_cells HB.out HV.out rfl
                have d8 : w3.cell? ⟨q, 8, none⟩ = some (.int .i64 used) := vw_cells HB.out HV.out rfl
                have d9 : w3.cell? ⟨q, 9, none⟩ = some (.int .i64 runs) := vw_cells HB.out HV.out rfl
                go_wp2_with fail
                refine (C3.out _ (HU.out.trans HV.out)).mono ?_
                rintro e w4 ⟨rfl, hb⟩
                replace HV : Hid (Upd [] w1 w4) := Lib.hid (HV.out.step (Upd.of_below hb : Upd [] _ _) (by simp))
                clear hb d0 d1 d2 d3 d4 d5 d6 d7 d8 d9
                have d0 : w4.cell? ⟨q, 0, none⟩ = some (.slice oa no oc) := vw_cells HB.out HV.out rfl
                have d1 : w4.cell? ⟨q, 1, none⟩ = some (.slice ha nh hc) := vw_cells HB.out HV.out rfl
                have d2 : w4.cell? ⟨q, 2, none⟩ = some (.slice ra nr rc) := vw_cells HB.out HV.out rfl
                have d3 : w4.cell? ⟨q, 3, none⟩ = some (.slice qa nqs qc) := vw_cells HB.out HV.out rfl
                have d4 : w4.cell? ⟨q, 4, none⟩ = some (.slice fa nf fc) := vw_cells HB.out HV.out rfl
                have d5 : w4.cell? ⟨q, 5, none⟩ = some (.slice pa np pc) := vw_cells HB.out HV.out rfl
                have d6 : w4.cell? ⟨q, 6, none⟩ = some (.int .i64 clock) := vw_cells HB.out HV.out rfl
                have d7 : w4.cell? ⟨q, 7, none⟩ = some (.int .i64 serial) := vw_cells HB.out HV.out rfl
                have d8 : w4.cell? ⟨q, 8, none⟩ = some (.int .i64 used) := vw_cells HB.out HV.out rfl
                have d9 : w4.cell? ⟨q, 9, none⟩ = some (.int .i64 runs) := vw_cells HB.out HV.out rfl
                go_wp2_with fail
                refine (C4.out _ (HU.out.trans HV.out)).mono ?_
                rintro e w5 ⟨rfl, hb⟩
                replace HV : Hid (Upd [] w1 w5) := Lib.hid (HV.out.step (Upd.of_below hb : Upd [] _ _) (by simp))
                clear hb d0 d1 d2 d3 d4 d5 d6 d7 d8 d9
                have d0 : w5.cell? ⟨q, 0, none⟩ = some (.slice oa no oc) := vw_cells HB.out HV.out rfl
                have d1 : w5.cell? ⟨q, 1, none⟩ = some (.slice ha nh hc) := vw_cells HB.out HV.out rfl
                have d2 : w5.cell? ⟨q, 2, none⟩ = some (.slice ra nr rc) := vw_cells HB.out HV.out rfl
                have d3 : w5.cell? ⟨q, 3, none⟩ = some (.slice qa nqs qc) := vw_cells HB.out HV.out rfl
                have d4 : w5.cell? ⟨q, 4, none⟩ = some (.slice fa nf fc) := vw_cells HB.out HV.out rfl
                have d5 : w5.cell? ⟨q, 5, none⟩ = some (.slice pa np pc) := vw_cells HB.out HV.out rfl
                have d6 : w5.cell? ⟨q, 6, none⟩ = some (.int .i64 clock) := vw_cells HB.out HV.out rfl
                have d7 : w5.cell? ⟨q, 7, none⟩ = some (.int .i64 serial) := vw_cells HB.out HV.out rfl
                have d8 : w5.cell? ⟨q, 8, none⟩ = some (.int .i64 used) := vw_cells HB.out HV.out rfl
                have d9 : w5.cell? ⟨q, 9, none⟩ = some (.int .i64 runs) := vw_cells HB.out HV.out rfl
                go_wp2_with fail
                refine (C5.out _ (HU.out.trans HV.out)).mono ?_
                rintro e w6 ⟨rfl, hb⟩
                replace HV : Hid (Upd [] w1 w6) := Lib.hid (HV.out.step (Upd.of_below hb : Upd [] _ _) (by simp))
                clear hb d0 d1 d2 d3 d4 d5 d6 d7 d8 d9
                have d0 : w6.cell? ⟨q, 0, none⟩ = some (.slice oa no oc) := vw_cells HB.out HV.out rfl
                have d1 : w6.cell? ⟨q, 1, none⟩ = some (.slice ha nh hc) := vw_cells HB.out HV.out rfl
                have d2 : w6.cell? ⟨q, 2, none⟩ = some (.slice ra nr rc) := vw_cells HB.out HV.out rfl
                have d3 : w6.cell? ⟨q, 3, none⟩ = some (.slice qa nqs qc) := vw_cells HB.out HV.out rfl
                have d4 : w6.cell? ⟨q, 4, none⟩ = some (.slice fa nf fc) := vw_cells HB.out HV.out rfl
                have d5 : w6.cell? ⟨q, 5, none⟩ = some (.slice pa np pc) := vw_cells HB.out HV.out rfl
                have d6 : w6.cell? ⟨q, 6, none⟩ = some (.int .i64 clock) := vw_cells HB.out HV.out rfl
                have d7 : w6.cell? ⟨q, 7, none⟩ = some (.int .i64 serial) := vw_cells HB.out HV.out rfl
                have d8 : w6.cell? ⟨q, 8, none⟩ = some (.int .i64 used) := vw_cells HB.out HV.out rfl
                have d9 : w6.cell? ⟨q, 9, none⟩ = some (.int .i64 runs) := vw_cells HB.out HV.out rfl
                go_wp2_with fail
                refine (C6.out _ (HU.out.trans HV.out)).mono ?_
                rintro e w7 ⟨rfl, hb⟩
                replace HV : Hid (Upd [] w1 w7) := Lib.hid (HV.out.step (Upd.of_below hb : Upd [] _ _) (by simp))
                clear hb d0 d1 d2 d3 d4 d5 d6 d7 d8 d9
                have d0 : w7.cell? ⟨q, 0, none⟩ = some (.slice oa no oc) := vw_cells HB.out HV.out rfl
                have d1 : w7.cell? ⟨q, 1, none⟩ = some (.slice ha nh hc) := vw_cells HB.out HV.out rfl
                have d2 : w7.cell? ⟨q, 2, none⟩ = some (.slice ra nr rc) := vw_cells HB.out HV.out rfl
                have d3 : w7.cell? ⟨q, 3, none⟩ = some (.slice qa nqs qc) := vw_cells HB.out HV.out rfl
                have d4 : w7.cell? ⟨q, 4, none⟩ = some (.slice fa nf fc) := vw_cells HB.out HV.out rfl
                have d5 : w7.cell? ⟨q, 5, none⟩ = some (.slice pa np pc) := vw_cells HB.out HV.out rfl
                have d6 : w7.cell? ⟨q, 6, none⟩ = some (.int .i64 clock) := vw_cells HB.out HV.out rfl
                have d7 : w7.cell? ⟨q, 7, none⟩ = some (.int .i64 serial) := vw_cells HB.out HV.out rfl
                have d8 : w7.cell? ⟨q, 8, none⟩ = some (.int .i64 used) := vw_cells HB.out HV.out rfl
                have d9 : w7.cell? ⟨q, 9, none⟩ = some (.int .i64 runs) := vw_cells HB.out HV.out rfl
                go_wp2_with fail
                refine (C7.out _ (HU.out.trans HV.out)).mono ?_
                rintro e w8 ⟨rfl, hb⟩
                replace HV : Hid (Upd [] w1 w8) := Lib.hid (HV.out.step (Upd.of_below hb : Upd [] _ _) (by simp))
                clear hb d0 d1 d2 d3 d4 d5 d6 d7 d8 d9
                go_wp2_with fail
                go_ret
                exact ⟨_, rfl, HC.out, (HU.out.trans HV.out).below⟩
            · have C6 := Lib.hid (fun W (u : Upd [] w W) => says_not (rule6_walk v W (S.upd u (by simp)) L.nos L.nfs L.nps L.fa L.pa h1) h6)
              have HC : Hid (CheckIs v 6) := Lib.hid (.inr (.inr (.inr (.inr (.inr (.inl ⟨rfl, h1, h2, h3, h4, h5, h6⟩))))))
              clear L S h1 h2 h3 h4 h5 h6
              unfold SaysC
              generalize CheckIs v = CI at *
              obtain ⟨oa, oc, os, ha, hc, hs, ra, rc, rs, qa, qc, qs, fa, fc, fs, pa, pc, ps, clock, serial, used, runs⟩ := v
              simp only [Vw.val] at *
              generalize os.length = no at *
              generalize hs.length = nh at *
              generalize rs.length = nr at *
              generalize qs.length = nqs at *
              generalize fs.length = nf at *
              generalize ps.length = np at *
              go_enter Try.func17, Try.ntmps17
              go_upto_block 0 with fail
              generalize hW : World.alloc w (Obj.cells _ 30) = w1
              have HB : Hid (Blk w1 w.heap.size 30 _) := Lib.hid (by rw [← hW]; exact Blk.new _ _ _)
              have HU : Hid (Upd [] w w1) := Lib.hid (by rw [← hW]; exact (Upd.refl [] w).alloc _)
              have HV : Hid (Upd [] w1 w1) := Lib.hid (Upd.refl _ _)
              clear hW
              generalize hq0 : w.heap.size = q at *
              have HQ0 := Lib.hid hq0
              clear hq0
              have d0 : w1.cell? ⟨q, 0, none⟩ = some (.slice oa no oc) := vw_cells HB.out HV.out rfl
              have d1 : w1.cell? ⟨q, 1, none⟩ = some (.slice ha nh hc) := vw_cells HB.out HV.out rfl
              have d2 : w1.cell? ⟨q, 2, none⟩ = some (.slice ra nr rc) := vw_cells HB.out HV.out rfl
              have d3 : w1.cell? ⟨q, 3, none⟩ = some (.slice qa nqs qc) := vw_cells HB.out HV.out rfl
              have d4 : w1.cell? ⟨q, 4, none⟩ = some (.slice fa nf fc) := vw_cells HB.out HV.out rfl
              have d5 : w1.cell? ⟨q, 5, none⟩ = some (.slice pa np pc) := vw_cells HB.out HV.out rfl
              have d6 : w1.cell? ⟨q, 6, none⟩ = some (.int .i64 clock) := vw_cells HB.out HV.out rfl
              have d7 : w1.cell? ⟨q, 7, none⟩ = some (.int .i64 serial) := vw_cells HB.out HV.out rfl
              have d8 : w1.cell? ⟨q, 8, none⟩ = some (.int .i64 used) := vw_cells HB.out HV.out rfl
              have d9 : w1.cell? ⟨q, 9, none⟩ = some (.int .i64 runs) := vw_cells HB.out HV.out rfl
              go_wp2_with fail
              refine (C1.out _ (HU.out.trans HV.out)).mono ?_
              rintro e w2 ⟨rfl, hb⟩
              replace HV : Hid (Upd [] w1 w2) := Lib.hid (HV.out.step (Upd.of_below hb : Upd [] _ _) (by simp))
              clear hb d0 d1 d2 d3 d4 d5 d6 d7 d8 d9
              have d0 : w2.cell? ⟨q, 0, none⟩ = some (.slice oa no oc) := vw_cells HB.out HV.out rfl
              have d1 : w2.cell? ⟨q, 1, none⟩ = some (.slice ha nh hc) := vw_cells HB.out HV.out rfl
              have d2 : w2.cell? ⟨q, 2, none⟩ = some (.slice ra nr rc) := vw_cells HB.out HV.out rfl
              have d3 : w2.cell? ⟨q, 3, none⟩ = some (.slice qa nqs qc) := vw_cells HB.out HV.out rfl
              have d4 : w2.cell? ⟨q, 4, none⟩ = some (.slice fa nf fc) := vw_cells HB.out HV.out rfl
              have d5 : w2.cell? ⟨q, 5, none⟩ = some (.slice pa np pc) := vw_cells HB.out HV.out rfl
              have d6 : w2.cell? ⟨q, 6, none⟩ = some (.int .i64 clock) := vw_cells HB.out HV.out rfl
              have d7 : w2.cell? ⟨q, 7, none⟩ = some (.int .i64 serial) := vw_cells HB.out HV.out rfl
              have d8 : w2.cell? ⟨q, 8, none⟩ = some (.int .i64 used) := vw_cells HB.out HV.out rfl
              have d9 : w2.cell? ⟨q, 9, none⟩ = some (.int .i64 runs) := vw_cells HB.out HV.out rfl
              go_wp2_with fail
              refine (C2.out _ (HU.out.trans HV.out)).mono ?_
              rintro e w3 ⟨rfl, hb⟩
              replace HV : Hid (Upd [] w1 w3) := Lib.hid (HV.out.step (Upd.of_below hb : Upd [] _ _) (by simp))
              clear hb d0 d1 d2 d3 d4 d5 d6 d7 d8 d9
              have d0 : w3.cell? ⟨q, 0, none⟩ = some (.slice oa no oc) := vw_cells HB.out HV.out rfl
              have d1 : w3.cell? ⟨q, 1, none⟩ = some (.slice ha nh hc) := vw_cells HB.out HV.out rfl
              have d2 : w3.cell? ⟨q, 2, none⟩ = some (.slice ra nr rc) := vw_cells HB.out HV.out rfl
              have d3 : w3.cell? ⟨q, 3, none⟩ = some (.slice qa nqs qc) := vw_cells HB.out HV.out rfl
              have d4 : w3.cell? ⟨q, 4, none⟩ = some (.slice fa nf fc) := vw_cells HB.out HV.out rfl
              have d5 : w3.cell? ⟨q, 5, none⟩ = some (.slice pa np pc) := vw_cells HB.out HV.out rfl
              have d6 : w3.cell? ⟨q, 6, none⟩ = some (.int .i64 clock) := vw_cells HB.out HV.out rfl
              have d7 : w3.cell? ⟨q, 7, none⟩ = some (.int .i64 serial) := vw_cells HB.out HV.out rfl
              have d8 : w3.cell? ⟨q, 8, none⟩ = some (.int .i64 used) := vw_cells HB.out HV.out rfl
              have d9 : w3.cell? ⟨q, 9, none⟩ = some (.int .i64 runs) := vw_cells HB.out HV.out rfl
              go_wp2_with fail
              refine (C3.out _ (HU.out.trans HV.out)).mono ?_
              rintro e w4 ⟨rfl, hb⟩
              replace HV : Hid (Upd [] w1 w4) := Lib.hid (HV.out.step (Upd.of_below hb : Upd [] _ _) (by simp))
              clear hb d0 d1 d2 d3 d4 d5 d6 d7 d8 d9
              have d0 : w4.cell? ⟨q, 0, none⟩ = some (.slice oa no oc) := vw_cells HB.out HV.out rfl
              have d1 : w4.cell? ⟨q, 1, none⟩ = some (.slice ha nh hc) := vw_cells HB.out HV.out rfl
              have d2 : w4.cell? ⟨q, 2, none⟩ = some (.slice ra nr rc) := vw_cells HB.out HV.out rfl
              have d3 : w4.cell? ⟨q, 3, none⟩ = some (.slice qa nqs qc) := vw_cells HB.out HV.out rfl
              have d4 : w4.cell? ⟨q, 4, none⟩ = some (.slice fa nf fc) := vw_cells HB.out HV.out rfl
              have d5 : w4.cell? ⟨q, 5, none⟩ = some (.slice pa np pc) := vw_cells HB.out HV.out rfl
              have d6 : w4.cell? ⟨q, 6, none⟩ = some (.int .i64 clock) := vw_cells HB.out HV.out rfl
              have d7 : w4.cell? ⟨q, 7, none⟩ = some (.int .i64 serial) := vw_cells HB.out HV.out rfl
              have d8 : w4.cell? ⟨q, 8, none⟩ = some (.int .i64 used) := vw_cells HB.out HV.out rfl
              have d9 : w4.cell? ⟨q, 9, none⟩ = some (.int .i64 runs) := vw_cells HB.out HV.out rfl
              go_wp2_with fail
              refine (C4.out _ (HU.out.trans HV.out)).mono ?_
              rintro e w5 ⟨rfl, hb⟩
              replace HV : Hid (Upd [] w1 w5) := Lib.hid (HV.out.step (Upd.of_below hb : Upd [] _ _) (by simp))
              clear hb d0 d1 d2 d3 d4 d5 d6 d7 d8 d9
              have d0 : w5.cell? ⟨q, 0, none⟩ = some (.slice oa no oc) := vw_cells HB.out HV.out rfl
              have d1 : w5.cell? ⟨q, 1, none⟩ = some (.slice ha nh hc) := vw_cells HB.out HV.out rfl
              have d2 : w5.cell? ⟨q, 2, none⟩ = some (.slice ra nr rc) := vw_cells HB.out HV.out rfl
              have d3 : w5.cell? ⟨q, 3, none⟩ = some (.slice qa nqs qc) := vw_cells HB.out HV.out rfl
              have d4 : w5.cell? ⟨q, 4, none⟩ = some (.slice fa nf fc) := vw_cells HB.out HV.out rfl
              have d5 : w5.cell? ⟨q, 5, none⟩ = some (.slice pa np pc) := vw_cells HB.out HV.out rfl
              have d6 : w5.cell? ⟨q, 6, none⟩ = some (.int .i64 clock) := vw_cells HB.out HV.out rfl
              have d7 : w5.cell? ⟨q, 7, none⟩ = some (.int .i64 serial) := vw_cells HB.out HV.out rfl
              have d8 : w5.cell? ⟨q, 8, none⟩ = some (.int .i64 used) := vw_cells HB.out HV.out rfl
              have d9 : w5.cell? ⟨q, 9, none⟩ = some (.int .i64 runs) := vw_cells HB.out HV.out rfl
              go_wp2_with fail
              refine (C5.out _ (HU.out.trans HV.out)).mono ?_
              rintro e w6 ⟨rfl, hb⟩
              replace HV : Hid (Upd [] w1 w6) := Lib.hid (HV.out.step (Upd.of_below hb : Upd [] _ _) (by simp))
              clear hb d0 d1 d2 d3 d4 d5 d6 d7 d8 d9
              have d0 : w6.cell? ⟨q, 0, none⟩ = some (.slice oa no oc) := vw_cells HB.out HV.out rfl
              have d1 : w6.cell? ⟨q, 1, none⟩ = some (.slice ha nh hc) := vw_cells HB.out HV.out rfl
              have d2 : w6.cell? ⟨q, 2, none⟩ = some (.slice ra nr rc) := vw_cells HB.out HV.out rfl
              have d3 : w6.cell? ⟨q, 3, none⟩ = some (.slice qa nqs qc) := vw_cells HB.out HV.out rfl
              have d4 : w6.cell? ⟨q, 4, none⟩ = some (.slice fa nf fc) := vw_cells HB.out HV.out rfl
              have d5 : w6.cell? ⟨q, 5, none⟩ = some (.slice pa np pc) := vw_cells HB.out HV.out rfl
              have d6 : w6.cell? ⟨q, 6, none⟩ = some (.int .i64 clock) := vw_cells HB.out HV.out rfl
              have d7 : w6.cell? ⟨q, 7, none⟩ = some (.int .i64 serial) := vw_cells HB.out HV.out rfl
              have d8 : w6.cell? ⟨q, 8, none⟩ = some (.int .i64 used) := vw_cells HB.out HV.out rfl
              have d9 : w6.cell? ⟨q, 9, none⟩ = some (.int .i64 runs) := vw_cells HB.out HV.out rfl
              go_wp2_with fail
              refine (C6.out _ (HU.out.trans HV.out)).mono ?_
              rintro e w7 ⟨rfl, hb⟩
              replace HV : Hid (Upd [] w1 w7) := Lib.hid (HV.out.step (Upd.of_below hb : Upd [] _ _) (by simp))
              clear hb d0 d1 d2 d3 d4 d5 d6 d7 d8 d9
              go_wp2_with fail
              go_ret
              exact ⟨_, rfl, HC.out, (HU.out.trans HV.out).below⟩
          · have C5 := Lib.hid (fun W (u : Upd [] w W) => says_not (rule5_walk v W (S.upd u (by simp)) L.nos L.nqs L.qs h1) h5)
            have HC : Hid (CheckIs v 5) := Lib.hid (.inr (.inr (.inr (.inr (.inl ⟨rfl, h1, h2, h3, h4, h5⟩)))))
            clear L S h1 h2 h3 h4 h5
            unfold SaysC
            generalize CheckIs v = CI at *
            obtain ⟨oa, oc, os, ha, hc, hs, ra, rc, rs, qa, qc, qs, fa, fc, fs, pa, pc, ps, clock, serial, used, runs⟩ := v
            simp only [Vw.val] at *
            generalize os.length = no at *
            generalize hs.length = nh at *
            generalize rs.length = nr at *
            generalize qs.length = nqs at *
            generalize fs.length = nf at *
            generalize ps.length = np at *
            go_enter Try.func17, Try.ntmps17
            go_upto_block 0 with fail
            generalize hW : World.alloc w (Obj.cells _ 30) = w1
            have HB : Hid (Blk w1 w.heap.size 30 _) := Lib.hid (by rw [← hW]; exact Blk.new _ _ _)
            have HU : Hid (Upd [] w w1) := Lib.hid (by rw [← hW]; exact (Upd.refl [] w).alloc _)
            have HV : Hid (Upd [] w1 w1) := Lib.hid (Upd.refl _ _)
            clear hW
            generalize hq0 : w.heap.size = q at *
            have HQ0 := Lib.hid hq0
            clear hq0
            have d0 : w1.cell? ⟨q, 0, none⟩ = some (.slice oa no oc) := vw_cells HB.out HV.out rfl
            have d1 : w1.cell? ⟨q, 1, none⟩ = some (.slice ha nh hc) := vw_cells HB.out HV.out rfl
            have d2 : w1.cell? ⟨q, 2, none⟩ = some (.slice ra nr rc) := vw_cells HB.out HV.out rfl
            have d3 : w1.cell? ⟨q, 3, none⟩ = some (.slice qa nqs qc) := vw_cells HB.out HV.out rfl
            have d4 : w1.cell? ⟨q, 4, none⟩ = some (.slice fa nf fc) := vw_cells HB.out HV.out rfl
            have d5 : w1.cell? ⟨q, 5, none⟩ = some (.slice pa np pc) := vw_cells HB.out HV.out rfl
            have d6 : w1.cell? ⟨q, 6, none⟩ = some (.int .i64 clock) := vw_cells HB.out HV.out rfl
            have d7 : w1.cell? ⟨q, 7, none⟩ = some (.int .i64 serial) := vw_cells HB.out HV.out rfl
            have d8 : w1.cell? ⟨q, 8, none⟩ = some (.int .i64 used) := vw_cells HB.out HV.out rfl
            have d9 : w1.cell? ⟨q, 9, none⟩ = some (.int .i64 runs) := vw_cells HB.out HV.out rfl
            go_wp2_with fail
            refine (C1.out _ (HU.out.trans HV.out)).mono ?_
            rintro e w2 ⟨rfl, hb⟩
            replace HV : Hid (Upd [] w1 w2) := Lib.hid (HV.out.step (Upd.of_below hb : Upd [] _ _) (by simp))
            clear hb d0 d1 d2 d3 d4 d5 d6 d7 d8 d9
            have d0 : w2.cell? ⟨q, 0, none⟩ = some (.slice oa no oc) := vw_cells HB.out HV.out rfl
            have d1 : w2.cell? ⟨q, 1, none⟩ = some (.slice ha nh hc) := vw_cells HB.out HV.out rfl
            have d2 : w2.cell? ⟨q, 2, none⟩ = some (.slice ra nr rc) := vw_cells HB.out HV.out rfl
            have d3 : w2.cell? ⟨q, 3, none⟩ = some (.slice qa nqs qc) := vw_cells HB.out HV.out rfl
            have d4 : w2.cell? ⟨q, 4, none⟩ = some (.slice fa nf fc) := vw_cells HB.out HV.out rfl
            have d5 : w2.cell? ⟨q, 5, none⟩ = some (.slice pa np pc) := vw_cells HB.out HV.out rfl
            have d6 : w2.cell? ⟨q, 6, none⟩ = some (.int .i64 clock) := vw_cells HB.out HV.out rfl
            have d7 : w2.cell? ⟨q, 7, none⟩ = some (.int .i64 serial) := vw_cells HB.out HV.out rfl
            have d8 : w2.cell? ⟨q, 8, none⟩ = some (.int .i64 used) := vw_cells HB.out HV.out rfl
            have d9 : w2.cell? ⟨q, 9, none⟩ = some (.int .i64 runs) := vw_cells HB.out HV.out rfl
            go_wp2_with fail
            refine (C2.out _ (HU.out.trans HV.out)).mono ?_
            rintro e w3 ⟨rfl, hb⟩
            replace HV : Hid (Upd [] w1 w3) := Lib.hid (HV.out.step (Upd.of_below hb : Upd [] _ _) (by simp))
            clear hb d0 d1 d2 d3 d4 d5 d6 d7 d8 d9
            have d0 : w3.cell? ⟨q, 0, none⟩ = some (.slice oa no oc) := vw_cells HB.out HV.out rfl
            have d1 : w3.cell? ⟨q, 1, none⟩ = some (.slice ha nh hc) := vw_cells HB.out HV.out rfl
            have d2 : w3.cell? ⟨q, 2, none⟩ = some (.slice ra nr rc) := vw_cells HB.out HV.out rfl
            have d3 : w3.cell? ⟨q, 3, none⟩ = some (.slice qa nqs qc) := vw_cells HB.out HV.out rfl
            have d4 : w3.cell? ⟨q, 4, none⟩ = some (.slice fa nf fc) := vw_cells HB.out HV.out rfl
            have d5 : w3.cell? ⟨q, 5, none⟩ = some (.slice pa np pc) := vw_cells HB.out HV.out rfl
            have d6 : w3.cell? ⟨q, 6, none⟩ = some (.int .i64 clock) := vw_cells HB.out HV.out rfl
            have d7 : w3.cell? ⟨q, 7, none⟩ = some (.int .i64 serial) := vw_cells HB.out HV.out rfl
            have d8 : w3.cell? ⟨q, 8, none⟩ = some (.int .i64 used) := vw_cells HB.out HV.out rfl
            have d9 : w3.cell? ⟨q, 9, none⟩ = some (.int .i64 runs) := vw_cells HB.out HV.out rfl
            go_wp2_with fail
            refine (C3.out _ (HU.out.trans HV.out)).mono ?_
            rintro e w4 ⟨rfl, hb⟩
            replace HV : Hid (Upd [] w1 w4) := Lib.hid (HV.out.step (Upd.of_below hb : Upd [] _ _) (by simp))
            clear hb d0 d1 d2 d3 d4 d5 d6 d7 d8 d9
            have d0 : w4.cell? ⟨q, 0, none⟩ = some (.slice oa no oc) := vw_cells HB.out HV.out rfl
            have d1 : w4.cell? ⟨q, 1, none⟩ = some (.slice ha nh hc) := vw_cells HB.out HV.out rfl
            have d2 : w4.cell? ⟨q, 2, none⟩ = some (.slice ra nr rc) := vw_cells HB.out HV.out rfl
            have d3 : w4.cell? ⟨q, 3, none⟩ = some (.slice qa nqs qc) := vw_cells HB.out HV.out rfl
            have d4 : w4.cell? ⟨q, 4, none⟩ = some (.slice fa nf fc) := vw_cells HB.out HV.out rfl
            have d5 : w4.cell? ⟨q, 5, none⟩ = some (.slice pa np pc) := vw_cells HB.out HV.out rfl
            have d6 : w4.cell? ⟨q, 6, none⟩ = some (.int .i64 clock) := vw_cells HB.out HV.out rfl
            have d7 : w4.cell? ⟨q, 7, none⟩ = some (.int .i64 serial) := vw_cells HB.out HV.out rfl
            have d8 : w4.cell? ⟨q, 8, none⟩ = some (.int .i64 used) := vw_cells HB.out HV.out rfl
            have d9 : w4.cell? ⟨q, 9, none⟩ = some (.int .i64 runs) := vw_cells HB.out HV.out rfl
            go_wp2_with fail
            refine (C4.out _ (HU.out.trans HV.out)).mono ?_
            rintro e w5 ⟨rfl, hb⟩
            replace HV : Hid (Upd [] w1 w5) := Lib.hid (HV.out.step (Upd.of_below hb : Upd [] _ _) (by simp))
            clear hb d0 d1 d2 d3 d4 d5 d6 d7 d8 d9
            have d0 : w5.cell? ⟨q, 0, none⟩ = some (.slice oa no oc) := vw_cells HB.out HV.out rfl
            have d1 : w5.cell? ⟨q, 1, none⟩ = some (.slice ha nh hc) := vw_cells HB.out HV.out rfl
            have d2 : w5.cell? ⟨q, 2, none⟩ = some (.slice ra nr rc) := vw_cells HB.out HV.out rfl
            have d3 : w5.cell? ⟨q, 3, none⟩ = some (.slice qa nqs qc) := vw_cells HB.out HV.out rfl
            have d4 : w5.cell? ⟨q, 4, none⟩ = some (.slice fa nf fc) := vw_cells HB.out HV.out rfl
            have d5 : w5.cell? ⟨q, 5, none⟩ = some (.slice pa np pc) := vw_cells HB.out HV.out rfl
            have d6 : w5.cell? ⟨q, 6, none⟩ = some (.int .i64 clock) := vw_cells HB.out HV.out rfl
            have d7 : w5.cell? ⟨q, 7, none⟩ = some (.int .i64 serial) := vw_cells HB.out HV.out rfl
            have d8 : w5.cell? ⟨q, 8, none⟩ = some (.int .i64 used) := vw_cells HB.out HV.out rfl
            have d9 : w5.cell? ⟨q, 9, none⟩ = some (.int .i64 runs) := vw_cells HB.out HV.out rfl
            go_wp2_with fail
            refine (C5.out _ (HU.out.trans HV.out)).mono ?_
            rintro e w6 ⟨rfl, hb⟩
            replace HV : Hid (Upd [] w1 w6) := Lib.hid (HV.out.step (Upd.of_below hb : Upd [] _ _) (by simp))
            clear hb d0 d1 d2 d3 d4 d5 d6 d7 d8 d9
            go_wp2_with fail
            go_ret
            exact ⟨_, rfl, HC.out, (HU.out.trans HV.out).below⟩
        · have C4 := Lib.hid (fun W (u : Upd [] w W) => says_not (rule4_walk v W (S.upd u (by simp)) L.nos h1) h4)
          have HC : Hid (CheckIs v 4) := Lib.hid (.inr (.inr (.inr (.inl ⟨rfl, h1, h2, h3, h4⟩))))
          clear L S h1 h2 h3 h4
          unfold SaysC
          generalize CheckIs v = CI at *
          obtain ⟨oa, oc, os, ha, hc, hs, ra, rc, rs, qa, qc, qs, fa, fc, fs, pa, pc, ps, clock, serial, used, runs⟩ := v
          simp only [Vw.val] at *
          generalize os.length = no at *
          generalize hs.length = nh at *
          generalize rs.length = nr at *
          generalize qs.length = nqs at *
          generalize fs.length = nf at *
          generalize ps.length = np at *
          go_enter Try.func17, Try.ntmps17
          go_upto_block 0 with fail
          generalize hW : World.alloc w (Obj.cells _ 30) = w1
          have HB : Hid (Blk w1 w.heap.size 30 _) := Lib.hid (by rw [← hW]; exact Blk.new _ _ _)
          have HU : Hid (Upd [] w w1) := Lib.hid (by rw [← hW]; exact (Upd.refl [] w).alloc _)
          have HV : Hid (Upd [] w1 w1) := Lib.hid (Upd.refl _ _)
          clear hW
          generalize hq0 : w.heap.size = q at *
          have HQ0 := Lib.hid hq0
          clear hq0
          have d0 : w1.cell? ⟨q, 0, none⟩ = some (.slice oa no oc) := vw_cells HB.out HV.out rfl
          have d1 : w1.cell? ⟨q, 1, none⟩ = some (.slice ha nh hc) := vw_cells HB.out HV.out rfl
          have d2 : w1.cell? ⟨q, 2, none⟩ = some (.slice ra nr rc) := vw_cells HB.out HV.out rfl
          have d3 : w1.cell? ⟨q, 3, none⟩ = some (.slice qa nqs qc) := vw_cells HB.out HV.out rfl
          have d4 : w1.cell? ⟨q, 4, none⟩ = some (.slice fa nf fc) := vw_cells HB.out HV.out rfl
          have d5 : w1.cell? ⟨q, 5, none⟩ = some (.slice pa np pc) := vw_cells HB.out HV.out rfl
          have d6 : w1.cell? ⟨q, 6, none⟩ = some (.int .i64 clock) := vw_cells HB.out HV.out rfl
          have d7 : w1.cell? ⟨q, 7, none⟩ = some (.int .i64 serial) := vw_cells HB.out HV.out rfl
          have d8 : w1.cell? ⟨q, 8, none⟩ = some (.int .i64 used) := vw_cells HB.out HV.out rfl
          have d9 : w1.cell? ⟨q, 9, none⟩ = some (.int .i64 runs) := vw_cells HB.out HV.out rfl
          go_wp2_with fail
          refine (C1.out _ (HU.out.trans HV.out)).mono ?_
          rintro e w2 ⟨rfl, hb⟩
          replace HV : Hid (Upd [] w1 w2) := Lib.hid (HV.out.step (Upd.of_below hb : Upd [] _ _) (by simp))
          clear hb d0 d1 d2 d3 d4 d5 d6 d7 d8 d9
          have d0 : w2.cell? ⟨q, 0, none⟩ = some (.slice oa no oc) := vw_cells HB.out HV.out rfl
          have d1 : w2.cell? ⟨q, 1, none⟩ = some (.slice ha nh hc) := vw_cells HB.out HV.out rfl
          have d2 : w2.cell? ⟨q, 2, none⟩ = some (.slice ra nr rc) := vw_cells HB.out HV.out rfl
          have d3 : w2.cell? ⟨q, 3, none⟩ = some (.slice qa nqs qc) := vw_cells HB.out HV.out rfl
          have d4 : w2.cell? ⟨q, 4, none⟩ = some (.slice fa nf fc) := vw_cells HB.out HV.out rfl
          have d5 : w2.cell? ⟨q, 5, none⟩ = some (.slice pa np pc) := vw_cells HB.out HV.out rfl
          have d6 : w2.cell? ⟨q, 6, none⟩ = some (.int .i64 clock) := vw_cells HB.out HV.out rfl
          have d7 : w2.cell? ⟨q, 7, none⟩ = some (.int .i64 serial) := vw_cells HB.out HV.out rfl
          have d8 : w2.cell? ⟨q, 8, none⟩ = some (.int .i64 used) := vw_cells HB.out HV.out rfl
          have d9 : w2.cell? ⟨q, 9, none⟩ = some (.int .i64 runs) := vw_cells HB.out HV.out rfl
          go_wp2_with fail
          refine (C2.out _ (HU.out.trans HV.out)).mono ?_
          rintro e w3 ⟨rfl, hb⟩
          replace HV : Hid (Upd [] w1 w3) := Lib.hid (HV.out.step (Upd.of_below hb : Upd [] _ _) (by simp))
          clear hb d0 d1 d2 d3 d4 d5 d6 d7 d8 d9
          have d0 : w3.cell? ⟨q, 0, none⟩ = some (.slice oa no oc) := vw_cells HB.out HV.out rfl
          have d1 : w3.cell? ⟨q, 1, none⟩ = some (.slice ha nh hc) := vw_cells HB.out HV.out rfl
          have d2 : w3.cell? ⟨q, 2, none⟩ = some (.slice ra nr rc) := vw_cells HB.out HV.out rfl
          have d3 : w3.cell? ⟨q, 3, none⟩ = some (.slice qa nqs qc) := vw_cells HB.out HV.out rfl
          have d4 : w3.cell? ⟨q, 4, none⟩ = some (.slice fa nf fc) := vw_cells HB.out HV.out rfl
          have d5 : w3.cell? ⟨q, 5, none⟩ = some (.slice pa np pc) := vw_cells HB.out HV.out rfl
          have d6 : w3.cell? ⟨q, 6, none⟩ = some (.int .i64 clock) := vw_cells HB.out HV.out rfl
          have d7 : w3.cell? ⟨q, 7, none⟩ = some (.int .i64 serial) := vw_cells HB.out HV.out rfl
          have d8 : w3.cell? ⟨q, 8, none⟩ = some (.int .i64 used) := vw_cells HB.out HV.out rfl
          have d9 : w3.cell? ⟨q, 9, none⟩ = some (.int .i64 runs) := vw_cells HB.out HV.out rfl
          go_wp2_with fail
          refine (C3.out _ (HU.out.trans HV.out)).mono ?_
          rintro e w4 ⟨rfl, hb⟩
          replace HV : Hid (Upd [] w1 w4) := Lib.hid (HV.out.step (Upd.of_below hb : Upd [] _ _) (by simp))
          clear hb d0 d1 d2 d3 d4 d5 d6 d7 d8 d9
          have d0 : w4.cell? ⟨q, 0, none⟩ = some (.slice oa no oc) := vw_cells HB.out HV.out rfl
          have d1 : w4.cell? ⟨q, 1, none⟩ = some (.slice ha nh hc) := vw_cells HB.out HV.out rfl
          have d2 : w4.cell? ⟨q, 2, none⟩ = some (.slice ra nr rc) := vw_cells HB.out HV.out rfl
          have d3 : w4.cell? ⟨q, 3, none⟩ = some (.slice qa nqs qc) := vw_cells HB.out HV.out rfl
          have d4 : w4.cell? ⟨q, 4, none⟩ = some (.slice fa nf fc) := vw_cells HB.out HV.out rfl
          have d5 : w4.cell? ⟨q, 5, none⟩ = some (.slice pa np pc) := vw_cells HB.out HV.out rfl
          have d6 : w4.cell? ⟨q, 6, none⟩ = some (.int .i64 clock) := vw_cells HB.out HV.out rfl
          have d7 : w4.cell? ⟨q, 7, none⟩ = some (.int .i64 serial) := vw_cells HB.out HV.out rfl
          have d8 : w4.cell? ⟨q, 8, none⟩ = some (.int .i64 used) := vw_cells HB.out HV.out rfl
          have d9 : w4.cell? ⟨q, 9, none⟩ = some (.int .i64 runs) := vw_cells HB.out HV.out rfl
          go_wp2_with fail
          refine (C4.out _ (HU.out.trans HV.out)).mono ?_
          rintro e w5 ⟨rfl, hb⟩
          replace HV : Hid (Upd [] w1 w5) := Lib.hid (HV.out.step (Upd.of_below hb : Upd [] _ _) (by simp))
          clear hb d0 d1 d2 d3 d4 d5 d6 d7 d8 d9
          go_wp2_with fail
          go_ret
          exact ⟨_, rfl, HC.out, (HU.out.trans HV.out).below⟩
      · have C3 := Lib.hid (fun W (u : Upd [] w W) => says_not (rule3_walk v W (S.upd u (by simp)) L.nos L.nhs) h3)
        have HC : Hid (CheckIs v 3) := Lib.hid (.inr (.inr (.inl ⟨rfl, h1, h2, h3⟩)))
        clear L S h1 h2 h3
        unfold SaysC
        generalize CheckIs v = CI at *
        obtain ⟨oa, oc, os, ha, hc, hs, ra, rc, rs, qa, qc, qs, fa, fc, fs, pa, pc, ps, clock, serial, used, runs⟩ := v
        simp only [Vw.val] at *
        generalize os.length = no at *
        generalize hs.length = nh at *
        generalize rs.length = nr at *
        generalize qs.length = nqs at *
        generalize fs.length = nf at *
        generalize ps.length = np at *
        go_enter Try.func17, Try.ntmps17
        go_upto_block 0 with fail
        generalize hW : World.alloc w (Obj.cells _ 30) = w1
        have HB : Hid (Blk w1 w.heap.size 30 _) := Lib.hid (by rw [← hW]; exact Blk.new _ _ _)
        have HU : Hid (Upd [] w w1) := Lib.hid (by rw [← hW]; exact (Upd.refl [] w).alloc _)
        have HV : Hid (Upd [] w1 w1) := Lib.hid (Upd.refl _ _)
        clear hW
        generalize hq0 : w.heap.size = q at *
        have HQ0 := Lib.hid hq0
        clear hq0
        have d0 : w1.cell? ⟨q, 0, none⟩ = some (.slice oa no oc) := vw_cells HB.out HV.out rfl
        have d1 : w1.cell? ⟨q, 1, none⟩ = some (.slice ha nh hc) := vw_cells HB.out HV.out rfl
        have d2 : w1.cell? ⟨q, 2, none⟩ = some (.slice ra nr rc) := vw_cells HB.out HV.out rfl
        have d3 : w1.cell? ⟨q, 3, none⟩ = some (.slice qa nqs qc) := vw_cells HB.out HV.out rfl
        have d4 : w1.cell? ⟨q, 4, none⟩ = some (.slice fa nf fc) := vw_cells HB.out HV.out rfl
        have d5 : w1.cell? ⟨q, 5, none⟩ = some (.slice pa np pc) := vw_cells HB.out HV.out rfl
        have d6 : w1.cell? ⟨q, 6, none⟩ = some (.int .i64 clock) := vw_cells HB.out HV.out rfl
        have d7 : w1.cell? ⟨q, 7, none⟩ = some (.int .i64 serial) := vw_cells HB.out HV.out rfl
        have d8 : w1.cell? ⟨q, 8, none⟩ = some (.int .i64 used) := vw_cells HB.out HV.out rfl
        have d9 : w1.cell? ⟨q, 9, none⟩ = some (.int .i64 runs) := vw_cells HB.out HV.out rfl
        go_wp2_with fail
        refine (C1.out _ (HU.out.trans HV.out)).mono ?_
        rintro e w2 ⟨rfl, hb⟩
        replace HV : Hid (Upd [] w1 w2) := Lib.hid (HV.out.step (Upd.of_below hb : Upd [] _ _) (by simp))
        clear hb d0 d1 d2 d3 d4 d5 d6 d7 d8 d9
        have d0 : w2.cell? ⟨q, 0, none⟩ = some (.slice oa no oc) := vw_cells HB.out HV.out rfl
        have d1 : w2.cell? ⟨q, 1, none⟩ = some (.slice ha nh hc) := vw_cells HB.out HV.out rfl
        have d2 : w2.cell? ⟨q, 2, none⟩ = some (.slice ra nr rc) := vw_cells HB.out HV.out rfl
        have d3 : w2.cell? ⟨q, 3, none⟩ = some (.slice qa nqs qc) := vw_cells HB.out HV.out rfl
        have d4 : w2.cell? ⟨q, 4, none⟩ = some (.slice fa nf fc) := vw_cells HB.out HV.out rfl
        have d5 : w2.cell? ⟨q, 5, none⟩ = some (.slice pa np pc) := vw_cells HB.out HV.out rfl
        have d6 : w2.cell? ⟨q, 6, none⟩ = some (.int .i64 clock) := vw_cells HB.out HV.out rfl
        have d7 : w2.cell? ⟨q, 7, none⟩ = some (.int .i64 serial) := vw_cells HB.out HV.out rfl
        have d8 : w2.cell? ⟨q, 8, none⟩ = some (.int .i64 used) := vw_cells HB.out HV.out rfl
        have d9 : w2.cell? ⟨q, 9, none⟩ = some (.int .i64 runs) := vw_cells HB.out HV.out rfl
        go_wp2_with fail
        refine (C2.out _ (HU.out.trans HV.out)).mono ?_
        rintro e w3 ⟨rfl, hb⟩
        replace HV : Hid (Upd [] w1 w3) := Lib.hid (HV.out.step (Upd.of_below hb : Upd [] _ _) (by simp))
        clear hb d0 d1 d2 d3 d4 d5 d6 d7 d8 d9
        have d0 : w3.cell? ⟨q, 0, none⟩ = some (.slice oa no oc) := vw_cells HB.out HV.out rfl
        have d1 : w3.cell? ⟨q, 1, none⟩ = some (.slice ha nh hc) := vw_cells HB.out HV.out rfl
        have d2 : w3.cell? ⟨q, 2, none⟩ = some (.slice ra nr rc) := vw_cells HB.out HV.out rfl
        have d3 : w3.cell? ⟨q, 3, none⟩ = some (.slice qa nqs qc) := vw_cells HB.out HV.out rfl
        have d4 : w3.cell? ⟨q, 4, none⟩ = some (.slice fa nf fc) := vw_cells HB.out HV.out rfl
        have d5 : w3.cell? ⟨q, 5, none⟩ = some (.slice pa np pc) := vw_cells HB.out HV.out rfl
        have d6 : w3.cell? ⟨q, 6, none⟩ = some (.int .i64 clock) := vw_cells HB.out HV.out rfl
        have d7 : w3.cell? ⟨q, 7, none⟩ = some (.int .i64 serial) := vw_cells HB.out HV.out rfl
        have d8 : w3.cell? ⟨q, 8, none⟩ = some (.int .i64 used) := vw_cells HB.out HV.out rfl
        have d9 : w3.cell? ⟨q, 9, none⟩ = some (.int .i64 runs) := vw_cells HB.out HV.out rfl
        go_wp2_with fail
        refine (C3.out _ (HU.out.trans HV.out)).mono ?_
        rintro e w4 ⟨rfl, hb⟩
        replace HV : Hid (Upd [] w1 w4) := Lib.hid (HV.out.step (Upd.of_below hb : Upd [] _ _) (by simp))
        clear hb d0 d1 d2 d3 d4 d5 d6 d7 d8 d9
        go_wp2_with fail
        go_ret
        exact ⟨_, rfl, HC.out, (HU.out.trans HV.out).below⟩
    · have C2 := Lib.hid (fun W (u : Upd [] w W) => says_not (rule2_walk v W (S.upd u (by simp)) L.nos h1 L.adr) h2)
      have HC : Hid (CheckIs v 2) := Lib.hid (.inr (.inl ⟨rfl, h1, h2⟩))
      clear L S h1 h2
      unfold SaysC
      generalize CheckIs v = CI at *
      obtain ⟨oa, oc, os, ha, hc, hs, ra, rc, rs, qa, qc, qs, fa, fc, fs, pa, pc, ps, clock, serial, used, runs⟩ := v
      simp only [Vw.val] at *
      generalize os.length = no at *
      generalize hs.length = nh at *
      generalize rs.length = nr at *
      generalize qs.length = nqs at *
      generalize fs.length = nf at *
      generalize ps.length = np at *
      go_enter Try.func17, Try.ntmps17
      go_upto_block 0 with fail
      generalize hW : World.alloc w (Obj.cells _ 30) = w1
      have HB : Hid (Blk w1 w.heap.size 30 _) := Lib.hid (by rw [← hW]; exact Blk.new _ _ _)
      have HU : Hid (Upd [] w w1) := Lib.hid (by rw [← hW]; exact (Upd.refl [] w).alloc _)
      have HV : Hid (Upd [] w1 w1) := Lib.hid (Upd.refl _ _)
      clear hW
      generalize hq0 : w.heap.size = q at *
      have HQ0 := Lib.hid hq0
      clear hq0
      have d0 : w1.cell? ⟨q, 0, none⟩ = some (.slice oa no oc) := vw_cells HB.out HV.out rfl
      have d1 : w1.cell? ⟨q, 1, none⟩ = some (.slice ha nh hc) := vw_cells HB.out HV.out rfl
      have d2 : w1.cell? ⟨q, 2, none⟩ = some (.slice ra nr rc) := vw_cells HB.out HV.out rfl
      have d3 : w1.cell? ⟨q, 3, none⟩ = some (.slice qa nqs qc) := vw_cells HB.out HV.out rfl
      have d4 : w1.cell? ⟨q, 4, none⟩ = some (.slice fa nf fc) := vw_cells HB.out HV.out rfl
      have d5 : w1.cell? ⟨q, 5, none⟩ = some (.slice pa np pc) := vw_cells HB.out HV.out rfl
      have d6 : w1.cell? ⟨q, 6, none⟩ = some (.int .i64 clock) := vw_cells HB.out HV.out rfl
      have d7 : w1.cell? ⟨q, 7, none⟩ = some (.int .i64 serial) := vw_cells HB.out HV.out rfl
      have d8 : w1.cell? ⟨q, 8, none⟩ = some (.int .i64 used) := vw_cells HB.out HV.out rfl
      have d9 : w1.cell? ⟨q, 9, none⟩ = some (.int .i64 runs) := vw_cells HB.out HV.out rfl
      go_wp2_with fail
      refine (C1.out _ (HU.out.trans HV.out)).mono ?_
      rintro e w2 ⟨rfl, hb⟩
      replace HV : Hid (Upd [] w1 w2) := Lib.hid (HV.out.step (Upd.of_below hb : Upd [] _ _) (by simp))
      clear hb d0 d1 d2 d3 d4 d5 d6 d7 d8 d9
      have d0 : w2.cell? ⟨q, 0, none⟩ = some (.slice oa no oc) := vw_cells HB.out HV.out rfl
      have d1 : w2.cell? ⟨q, 1, none⟩ = some (.slice ha nh hc) := vw_cells HB.out HV.out rfl
      have d2 : w2.cell? ⟨q, 2, none⟩ = some (.slice ra nr rc) := vw_cells HB.out HV.out rfl
      have d3 : w2.cell? ⟨q, 3, none⟩ = some (.slice qa nqs qc) := vw_cells HB.out HV.out rfl
      have d4 : w2.cell? ⟨q, 4, none⟩ = some (.slice fa nf fc) := vw_cells HB.out HV.out rfl
      have d5 : w2.cell? ⟨q, 5, none⟩ = some (.slice pa np pc) := vw_cells HB.out HV.out rfl
      have d6 : w2.cell? ⟨q, 6, none⟩ = some (.int .i64 clock) := vw_cells HB.out HV.out rfl
      have d7 : w2.cell? ⟨q, 7, none⟩ = some (.int .i64 serial) := vw_cells HB.out HV.out rfl
      have d8 : w2.cell? ⟨q, 8, none⟩ = some (.int .i64 used) := vw_cells HB.out HV.out rfl
      have d9 : w2.cell? ⟨q, 9, none⟩ = some (.int .i64 runs) := vw_cells HB.out HV.out rfl
      go_wp2_with fail
      refine (C2.out _ (HU.out.trans HV.out)).mono ?_
      rintro e w3 ⟨rfl, hb⟩
      replace HV : Hid (Upd [] w1 w3) := Lib.hid (HV.out.step (Upd.of_below hb : Upd [] _ _) (by simp))
      clear hb d0 d1 d2 d3 d4 d5 d6 d7 d8 d9
      go_wp2_with fail
      go_ret
      exact ⟨_, rfl, HC.out, (HU.out.trans HV.out).below⟩
  · have C1 := Lib.hid (fun W (u : Upd [] w W) => says_not (rule1_walk v W (S.upd u (by simp)) (by have := L.nos; omega)) h1)
    have HC : Hid (CheckIs v 1) := Lib.hid (.inl ⟨rfl, h1⟩)
    clear L S h1
    unfold SaysC
    generalize CheckIs v = CI at *
    obtain ⟨oa, oc, os, ha, hc, hs, ra, rc, rs, qa, qc, qs, fa, fc, fs, pa, pc, ps, clock, serial, used, runs⟩ := v
    simp only [Vw.val] at *
    generalize os.length = no at *
    generalize hs.length = nh at *
    generalize rs.length = nr at *
    generalize qs.length = nqs at *
    generalize fs.length = nf at *
    generalize ps.length = np at *
    go_enter Try.func17, Try.ntmps17
    go_upto_block 0 with fail
    generalize hW : World.alloc w (Obj.cells _ 30) = w1
    have HB : Hid (Blk w1 w.heap.size 30 _) := Lib.hid (by rw [← hW]; exact Blk.new _ _ _)
    have HU : Hid (Upd [] w w1) := Lib.hid (by rw [← hW]; exact (Upd.refl [] w).alloc _)
    have HV : Hid (Upd [] w1 w1) := Lib.hid (Upd.refl _ _)
    clear hW
    generalize hq0 : w.heap.size = q at *
    have HQ0 := Lib.hid hq0
    clear hq0
    have d0 : w1.cell? ⟨q, 0, none⟩ = some (.slice oa no oc) := vw_cells HB.out HV.out rfl
    have d1 : w1.cell? ⟨q, 1, none⟩ = some (.slice ha nh hc) := vw_cells HB.out HV.out rfl
    have d2 : w1.cell? ⟨q, 2, none⟩ = some (.slice ra nr rc) := vw_cells HB.out HV.out rfl
    have d3 : w1.cell? ⟨q, 3, none⟩ = some (.slice qa nqs qc) := vw_cells HB.out HV.out rfl
    have d4 : w1.cell? ⟨q, 4, none⟩ = some (.slice fa nf fc) := vw_cells HB.out HV.out rfl
    have d5 : w1.cell? ⟨q, 5, none⟩ = some (.slice pa np pc) := vw_cells HB.out HV.out rfl
    have d6 : w1.cell? ⟨q, 6, none⟩ = some (.int .i64 clock) := vw_cells HB.out HV.out rfl
    have d7 : w1.cell? ⟨q, 7, none⟩ = some (.int .i64 serial) := vw_cells HB.out HV.out rfl
    have d8 : w1.cell? ⟨q, 8, none⟩ = some (.int .i64 used) := vw_cells HB.out HV.out rfl
    have d9 : w1.cell? ⟨q, 9, none⟩ = some (.int .i64 runs) := vw_cells HB.out HV.out rfl
    go_wp2_with fail
    refine (C1.out _ (HU.out.trans HV.out)).mono ?_
    rintro e w2 ⟨rfl, hb⟩
    replace HV : Hid (Upd [] w1 w2) := Lib.hid (HV.out.step (Upd.of_below hb : Upd [] _ _) (by simp))
    clear hb d0 d1 d2 d3 d4 d5 d6 d7 d8 d9
    go_wp2_with fail
    go_ret
    exact ⟨_, rfl, HC.out, (HU.out.trans HV.out).below⟩
end Go.Proofs.Ytnhgmmjlhhgdoaa
