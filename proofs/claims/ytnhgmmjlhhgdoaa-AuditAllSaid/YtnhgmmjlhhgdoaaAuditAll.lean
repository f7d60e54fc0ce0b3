/- AuditAll: of any view that is gone through both tell the same first rule that is broken. -/
import Derived.Test.YtnhgmmjlhhgdoaaHeavy
namespace Go.Proofs.Ytnhgmmjlhhgdoaa
open Go Go.RowKit

/-- What is so of any view that is handed in. -/
structure Given (v : Vw) : Prop where
  nos : v.os.length ≤ 9223372036854775807
  nqs : v.qs.length ≤ 9223372036854775807
  adr : ∀ o ∈ v.os, o.adr ≤ 9223372036854775807
  fa : v.fa = none → v.fs.length = 0 ∧ v.fc = 0
  pa : v.pa = none → v.ps.length = 0 ∧ v.pc = 0
theorem Given.light {v : Vw} (G : Given v) (L : LightN v) : Light v := ⟨L.nos, L.nhs, L.nqs, fun q hq => by
  obtain ⟨i, hi, rfl⟩ := List.mem_iff_getElem.1 hq
  have := L.qs i hi
  rwa [getD_of hi] at this, L.nfs, L.nps, G.adr, G.fa, G.pa⟩
set_option maxRecDepth 100000 in
set_option maxHeartbeats 3200000 in
theorem auditAll_law (v : Vw) (w : World) (S : Sees w v) (G : Given v) : Calls Try.prog 4 #[v.val] w fun e w' => e = .returned (.bool true) ∧ Below w.heap.size w w' := by
  have HH : Hid (∀ W, Upd [] w W → Calls Try.prog 15 #[v.val] W (SaysH (LightN v) W)) := Lib.hid (fun W u => heavy_walk v W (S.upd u (by simp)) G.nos G.nqs)
  have HC : Hid (LightN v → ∀ W, Upd [] w W → Calls Try.prog 16 #[v.val] W (SaysC v W)) := Lib.hid (fun L W u => check_walk v W (S.upd u (by simp)) (G.light L) (by have := L.nrs; omega))
  have HD20 : Hid (LightN v → ∀ W, Upd [] w W → Calls Try.prog 17 #[v.val] W (SaysC v W)) := Lib.hid (fun L W u => check20_walk v W (S.upd u (by simp)) (G.light L))
  have HUN : Hid (∀ k j, CheckIs v k → CheckIs v j → k = j) := Lib.hid (fun k j h g => CheckIs.unique h g)
  clear S G
  generalize LightN v = LN at *
  unfold SaysC at HC HD20
  generalize CheckIs v = CI at *
  obtain ⟨oa, oc, os, ha, hc, hs, ra, rc, rs, qa, qc, qs, fa, fc, fs, pa, pc, ps, clock, serial, used, runs⟩ := v
  simp only [Vw.val] at *
  generalize os.length = n at *
  generalize hs.length = nh at *
  generalize rs.length = nr at *
  generalize qs.length = nqs at *
  generalize fs.length = nf at *
  generalize ps.length = np at *
  go_enter Try.func4, Try.ntmps4
  go_upto_region 1 with fail
  generalize hW : World.alloc w (Obj.cells _ 30) = w1
  have HB : Hid (Blk w1 w.heap.size 30 _) := Lib.hid (by rw [← hW]; exact Blk.new _ _ _)
  have HU : Hid (Upd [] w w1) := Lib.hid (by rw [← hW]; exact (Upd.refl [] w).alloc _)
  have HV : Hid (Upd [] w1 w1) := Lib.hid (Upd.refl _ _)
  clear hW
  generalize hq0 : w.heap.size = q at *
  have HQ0 := Lib.hid hq0
  clear hq0
  have HD : Hid (∀ W, Upd [] w1 W → W.cell? ⟨q, 0, none⟩ = some (.slice oa n oc) ∧ W.cell? ⟨q, 1, none⟩ = some (.slice ha nh hc) ∧ W.cell? ⟨q, 2, none⟩ = some (.slice ra nr rc) ∧ W.cell? ⟨q, 3, none⟩ = some (.slice qa nqs qc) ∧ W.cell? ⟨q, 4, none⟩ = some (.slice fa nf fc) ∧ W.cell? ⟨q, 5, none⟩ = some (.slice pa np pc) ∧ W.cell? ⟨q, 6, none⟩ = some (.int .i64 clock) ∧ W.cell? ⟨q, 7, none⟩ = some (.int .i64 serial) ∧ W.cell? ⟨q, 8, none⟩ = some (.int .i64 used) ∧ W.cell? ⟨q, 9, none⟩ = some (.int .i64 runs)) := Lib.hid (fun W hu => ⟨vw_cells HB.out (HV.out.trans hu) rfl, vw_cells HB.out (HV.out.trans hu) rfl, vw_cells HB.out (HV.out.trans hu) rfl, vw_cells HB.out (HV.out.trans hu) rfl, vw_cells HB.out (HV.out.trans hu) rfl, vw_cells HB.out (HV.out.trans hu) rfl, vw_cells HB.out (HV.out.trans hu) rfl, vw_cells HB.out (HV.out.trans hu) rfl, vw_cells HB.out (HV.out.trans hu) rfl, vw_cells HB.out (HV.out.trans hu) rfl⟩)
  refine Plan.wp_plan [.blk [0], .eff 1, .blk [2, 3, 5], .eff 4, .eff 6, .blk [7, 8], .eff 9, .blk [10, 11, 12]] (fun w' => w'.cell? ⟨q, 0, none⟩ = some (.slice oa n oc) ∧ w'.cell? ⟨q, 1, none⟩ = some (.slice ha nh hc) ∧ w'.cell? ⟨q, 2, none⟩ = some (.slice ra nr rc) ∧ w'.cell? ⟨q, 3, none⟩ = some (.slice qa nqs qc) ∧ w'.cell? ⟨q, 4, none⟩ = some (.slice fa nf fc) ∧ w'.cell? ⟨q, 5, none⟩ = some (.slice pa np pc) ∧ w'.cell? ⟨q, 6, none⟩ = some (.int .i64 clock) ∧ w'.cell? ⟨q, 7, none⟩ = some (.int .i64 serial) ∧ w'.cell? ⟨q, 8, none⟩ = some (.int .i64 used) ∧ w'.cell? ⟨q, 9, none⟩ = some (.int .i64 runs)) (by kernel_rfl) (by kernel_rfl) (by intro _ _ d _ _ h; cases d <;> exact h) (HD.out _ (Upd.refl [] w1).drew) (fun hS => ?_)
  clear hS
  apply Plan.blk_intro
  · intro w' hw Φ HΦ
    obtain ⟨d0, d1, d2, d3, d4, d5, d6, d7, d8, d9⟩ := hw
    simp only [Plan.pick, List.map_cons, List.map_nil, List.getD_cons_zero]
    repeat (first | go_values | go_skip | go_guarded | go_step | go_upon)
    exact ⟨rfl, HΦ.out⟩
  · kernel_rfl
  refine Plan.eff_intro (fun K hK hKp => ?_)
  have HK := Lib.hid hK
  clear hK hKp
  simp only [Plan.pick, List.map_cons, List.map_nil, List.getD_cons_zero, List.getD_cons_succ]
  repeat (first | go_values | go_skip | go_guarded | go_step | go_upon)
  refine (HH.out _ (HU.out.drew)).mono ?_
  rintro e w2 ⟨r, rfl, hr, hb⟩
  have H2 : Hid (Upd [] w1 w2) := Lib.hid ((Upd.refl [] w1).drew.step (Upd.of_below hb : Upd [] _ _) (by simp))
  have HLN := Lib.hid hr
  clear hr hb
  try dsimp only
  repeat (first | go_values | go_skip | go_guarded | go_step | go_upon)
  refine HK.out _ _ (HD.out _ H2.out) ?_
  clear HK K
  cases r with
  | true =>
    apply Plan.blk_intro
    · intro w' hw Φ HΦ
      obtain ⟨d0, d1, d2, d3, d4, d5, d6, d7, d8, d9⟩ := hw
      simp only [Plan.pick, List.map_cons, List.map_nil, List.getD_cons_zero, List.getD_cons_succ]
      repeat (first | go_values | go_skip | go_guarded | go_step | go_upon)
      exact ⟨rfl, HΦ.out⟩
    · kernel_rfl
    refine Plan.eff_intro (fun K hK hKp => ?_)
    have HK := Lib.hid hK
    clear hK hKp
    simp only [Plan.pick, List.map_cons, List.map_nil, List.getD_cons_zero, List.getD_cons_succ]
    repeat (first | go_values | go_skip | go_guarded | go_step | go_upon)
    try dsimp only
    repeat (first | go_values | go_skip | go_guarded | go_step | go_upon)
    refine HK.out _ _ (HD.out _ H2.out) ?_
    clear HK K
    refine Plan.eff_intro (fun K hK hKp => ?_)
    have HK := Lib.hid hK
    clear hK hKp
    simp only [Plan.pick, List.map_cons, List.map_nil, List.getD_cons_zero, List.getD_cons_succ]
    repeat (first | go_values | go_skip | go_guarded | go_step | go_upon)
    try dsimp only
    repeat (first | go_values | go_skip | go_guarded | go_step | go_upon)
    refine HK.out _ _ (HD.out _ H2.out) ?_
    clear HK K
    apply Plan.blk_intro
    · intro w' hw Φ HΦ
      obtain ⟨d0, d1, d2, d3, d4, d5, d6, d7, d8, d9⟩ := hw
      simp only [Plan.pick, List.map_cons, List.map_nil, List.getD_cons_zero, List.getD_cons_succ]
      repeat (first | go_values | go_skip | go_guarded | go_step | go_upon)
      exact ⟨rfl, HΦ.out⟩
    · kernel_rfl
    refine Plan.eff_intro (fun K hK hKp => ?_)
    have HK := Lib.hid hK
    clear hK hKp
    simp only [Plan.pick, List.map_cons, List.map_nil, List.getD_cons_zero, List.getD_cons_succ]
    repeat (first | go_values | go_skip | go_guarded | go_step | go_upon)
    try dsimp only
    repeat (first | go_values | go_skip | go_guarded | go_step | go_upon)
    refine HK.out _ _ (HD.out _ H2.out) ?_
    clear HK K
    apply Plan.blk_intro
    · intro w' hw Φ HΦ
      obtain ⟨d0, d1, d2, d3, d4, d5, d6, d7, d8, d9⟩ := hw
      simp only [Plan.pick, List.map_cons, List.map_nil, List.getD_cons_zero, List.getD_cons_succ]
      repeat (first | go_values | go_skip | go_guarded | go_step | go_upon)
      exact ⟨rfl, HΦ.out⟩
    · kernel_rfl
    refine Plan.plan_done ?_
    go_wp2_with fail
    go_ret
    exact ⟨rfl, (HU.out.trans H2.out).below⟩
  | false =>
    have L := HLN.out rfl
    have HCC := Lib.hid (HC.out L)
    have HCD := Lib.hid (HD20.out L)
    clear L HC HD20 HH
    apply Plan.blk_intro
    · intro w' hw Φ HΦ
      obtain ⟨d0, d1, d2, d3, d4, d5, d6, d7, d8, d9⟩ := hw
      simp only [Plan.pick, List.map_cons, List.map_nil, List.getD_cons_zero, List.getD_cons_succ]
      repeat (first | go_values | go_skip | go_guarded | go_step | go_upon)
      exact ⟨rfl, HΦ.out⟩
    · kernel_rfl
    refine Plan.eff_intro (fun K hK hKp => ?_)
    have HK := Lib.hid hK
    clear hK hKp
    simp only [Plan.pick, List.map_cons, List.map_nil, List.getD_cons_zero, List.getD_cons_succ]
    repeat (first | go_values | go_skip | go_guarded | go_step | go_upon)
    refine (HCC.out _ (HU.out.trans H2.out)).mono ?_
    rintro e w3 ⟨k, rfl, hk, hb⟩
    have H3 : Hid (Upd [] w1 w3) := Lib.hid (H2.out.step (Upd.of_below hb : Upd [] _ _) (by simp))
    have HK3 := Lib.hid hk
    clear hk hb
    try dsimp only
    repeat (first | go_values | go_skip | go_guarded | go_step | go_upon)
    refine HK.out _ _ (HD.out _ H3.out) ?_
    clear HK K
    refine Plan.eff_intro (fun K hK hKp => ?_)
    have HK := Lib.hid hK
    clear hK hKp
    simp only [Plan.pick, List.map_cons, List.map_nil, List.getD_cons_zero, List.getD_cons_succ]
    repeat (first | go_values | go_skip | go_guarded | go_step | go_upon)
    refine (HCD.out _ (HU.out.trans H3.out)).mono ?_
    rintro e w4 ⟨k', rfl, hk, hb⟩
    have H4 : Hid (Upd [] w1 w4) := Lib.hid (H3.out.step (Upd.of_below hb : Upd [] _ _) (by simp))
    obtain rfl := HUN.out _ _ HK3.out hk
    clear hk hb
    try dsimp only
    repeat (first | go_values | go_skip | go_guarded | go_step | go_upon)
    refine HK.out _ _ (HD.out _ H4.out) ?_
    clear HK K
    have hkk : (k == k) = true := by simp
    apply Plan.blk_intro
    · intro w' hw Φ HΦ
      obtain ⟨d0, d1, d2, d3, d4, d5, d6, d7, d8, d9⟩ := hw
      simp only [Plan.pick, List.map_cons, List.map_nil, List.getD_cons_zero, List.getD_cons_succ]
      repeat (first | go_values | go_skip | go_guarded | go_step | go_upon)
      exact ⟨rfl, HΦ.out⟩
    · kernel_rfl
    refine Plan.eff_intro (fun K hK hKp => ?_)
    have HK := Lib.hid hK
    clear hK hKp
    simp only [Plan.pick, List.map_cons, List.map_nil, List.getD_cons_zero, List.getD_cons_succ]
    repeat (first | go_values | go_skip | go_guarded | go_step | go_upon)
    refine (awake23_walk _).mono ?_
    rintro e w5 ⟨rfl, hb⟩
    have H5 : Hid (Upd [] w1 w5) := Lib.hid (H4.out.step (Upd.of_below hb : Upd [] _ _) (by simp))
    clear hb
    try dsimp only
    repeat (first | go_values | go_skip | go_guarded | go_step | go_upon)
    refine HK.out _ _ (HD.out _ H5.out) ?_
    clear HK K
    apply Plan.blk_intro
    · intro w' hw Φ HΦ
      obtain ⟨d0, d1, d2, d3, d4, d5, d6, d7, d8, d9⟩ := hw
      simp only [Plan.pick, List.map_cons, List.map_nil, List.getD_cons_zero, List.getD_cons_succ]
      repeat (first | go_values | go_skip | go_guarded | go_step | go_upon)
      exact ⟨rfl, HΦ.out⟩
    · kernel_rfl
    refine Plan.plan_done ?_
    go_wp2_with fail
    go_ret
    exact ⟨rfl, (HU.out.trans H5.out).below⟩
end Go.Proofs.Ytnhgmmjlhhgdoaa
