/- The document's third rule of a view. -/
import Derived.Test.YtnhgmmjlhhgdoaaRules2
namespace Go.Proofs.Ytnhgmmjlhhgdoaa
open Go Go.RowKit

theorem knownB_iff {os : List Ob} {a : Int} : knownB os a = true ↔ Known os a := by
  unfold knownB Known
  rw [isObj_find]
  simp

set_option maxRecDepth 100000 in
set_option maxHeartbeats 3200000 in
theorem rule3_walk (v : Vw) (w : World) (S : Sees w v) (hl : v.os.length ≤ 40) (hlh : v.hs.length ≤ 40) : Calls Try.prog 40 #[v.val] w (Says (R3 v.os v.rs v.hs) w) := by
  have HK : Hid (∀ a W, Upd [] w W → Calls Try.prog 64 #[v.val, .int .i64 a] W fun e w' => e = .returned (.bool (knownB v.os a)) ∧ Below W.heap.size W w') := Lib.hid (fun a W u => known_walk v a W (S.upd u (by simp)) (by omega))
  have HF : Hid (∀ a W, Upd [] w W → Calls Try.prog 65 #[v.val, .int .i64 a] W fun e w' => e = .returned (.int .i64 (findZ v.os a)) ∧ Below W.heap.size W w') := Lib.hid (fun a W u => find_walk v a W (S.upd u (by simp)) (by omega))
  have HR : Hid (∀ nr nh, v.rs.length = nr → v.hs.length = nh → nr = 16 → (∀ i, i < nr → Known v.os (v.rs.getD i 0)) → (∀ i, i < nh → IsObj v.os (v.hs.getD i (0, 0)).2) → R3 v.os v.rs v.hs) := Lib.hid (fun _ _ h1 h2 h3 h4 h5 => ⟨by omega, fun i hi => h4 i (by omega), fun i hi => h5 i (by omega)⟩)
  have HN1 : Hid (v.rs.length ≠ 16 → ¬ R3 v.os v.rs v.hs) := Lib.hid (fun h h2 => h h2.1)
  have HN2 : Hid (∀ nr i, v.rs.length = nr → i < nr → knownB v.os (v.rs.getD i 0) = false → ¬ R3 v.os v.rs v.hs) := Lib.hid (fun nr i h1 h2 h3 h4 => by rw [knownB_iff.2 (h4.2.1 i (by omega))] at h3; cases h3)
  have HN3 : Hid (∀ nh i, v.hs.length = nh → i < nh → findZ v.os (v.hs.getD i (0, 0)).2 < 0 → ¬ R3 v.os v.rs v.hs) := Lib.hid (fun nr i h1 h2 h3 h4 => by have := isObj_find.1 (h4.2.2 i (by omega)); omega)
  generalize R3 v.os v.rs v.hs = R at *
  have HO := Lib.hid S.obs
  have HHE := Lib.hid S.helds
  have HRO := Lib.hid S.roots
  have HQU := Lib.hid S.queues
  have HFI := Lib.hid S.fins
  have HPE := Lib.hid S.pend
  clear S
  obtain ⟨oa, oc, os, ha, hc, hs, ra, rc, rs, qa, qc, qs, fa, fc, fs, pa, pc, ps, clock, serial, used, runs⟩ := v
  simp only [Vw.val] at *
  obtain ⟨nr, hnr⟩ : ∃ n, rs.length = n := ⟨_, rfl⟩
  obtain ⟨nh, hnh⟩ : ∃ n, hs.length = n := ⟨_, rfl⟩
  rw [hnr] at HN1
  rw [hnh] at hlh
  simp only [hnr, hnh] at HK HF ⊢
  generalize os.length = n at *
  generalize qs.length = nqs at *
  generalize fs.length = nf at *
  generalize ps.length = np at *
  have HNR := Lib.hid hnr
  have HNH := Lib.hid hnh
  clear hnr hnh
  by_cases h16 : nr = 16
  · have hn16 : ((nr : Int) == 16) = true := by simp; omega
    have hn17 : ((nr : Int) != 16) = false := by simp; omega
    have h16b : nr ≤ 16 := by omega
    have H16 := Lib.hid h16
    clear HN1 h16
    go_enter Try.func40, Try.ntmps40
    go_upto_region 1 with fail
    generalize hW : World.alloc w (Obj.cells _ 30) = w1
    have HB : Hid (Blk w1 w.heap.size 30 _) := Lib.hid (by rw [← hW]; exact Blk.new _ _ _)
    have HU : Hid (Upd [] w w1) := Lib.hid (by rw [← hW]; exact (Upd.refl [] w).alloc _)
    have hq : w.heap.size < w1.heap.size := HB.out.lt
    clear hW
    generalize hq0 : w.heap.size = q at *
    have HQ0 := Lib.hid hq0
    clear hq0
    have d2 : w1.cell? ⟨q, 2, none⟩ = some (.slice ra nr rc) := vw_cells HB.out (Upd.refl _ _) rfl
    go_upto_block 0 with fail
    clear d2
    go_cut [] (fun wx => Hid (Upd [] w1 wx) ∧ Hid (∀ i, i < nr → Known os (rs.getD i 0)))
    case first =>
      go_wp2_with fail
      go_loopg [3] nr (fun gk i wr => ∃ j : Nat, gk = nr - j ∧ j ≤ nr ∧ i = .int .i64 j ∧ Hid (Upd [] w1 wr) ∧ Hid (∀ m, m < j → Known os (rs.getD m 0)))
      case atStart => exact ⟨0, rfl, by omega, rfl, Lib.hid (Upd.refl _ _), Lib.hid (fun m h => by omega)⟩
      case round =>
        obtain ⟨j, rfl, hj, rfl, HV, HP⟩ := hrel
        have d2 : wr.cell? ⟨q, 2, none⟩ = some (.slice ra nr rc) := vw_cells HB.out HV.out rfl
        by_cases hlt : j < nr
        · obtain ⟨b, off, rfl, hb, c0⟩ := ((Reads.upd HRO.out HU.out (by simp)).upd HV.out (by simp)).at HNR.out hlt
          have HKN : Hid (knownB os (rs.getD j 0) = true ↔ Known os (rs.getD j 0)) := Lib.hid knownB_iff
          have HKJ : Hid (knownB os (rs.getD j 0) = false → ¬ R) := Lib.hid (HN2.out nr j HNR.out hlt)
          obtain ⟨x, hx⟩ : ∃ x, rs.getD j 0 = x := ⟨_, rfl⟩
          rw [hx] at HKN HKJ c0
          have HXJ := Lib.hid hx
          clear hx
          have hk := fun W (hu : Upd [] wr W) => HK.out x W ((HU.out.trans HV.out).trans hu)
          obtain ⟨r, hr⟩ : ∃ r, knownB os x = r := ⟨_, rfl⟩
          rw [hr] at hk HKN HKJ
          have HKC := Lib.hid hk
          clear hk hr
          have HD : Hid (∀ W, Upd [] wr W → W.cell? ⟨q, 0, none⟩ = some (.slice oa n oc) ∧ W.cell? ⟨q, 1, none⟩ = some (.slice ha nh hc) ∧ W.cell? ⟨q, 2, none⟩ = some (.slice (some ⟨b, off, none⟩) nr rc) ∧ W.cell? ⟨q, 3, none⟩ = some (.slice qa nqs qc) ∧ W.cell? ⟨q, 4, none⟩ = some (.slice fa nf fc) ∧ W.cell? ⟨q, 5, none⟩ = some (.slice pa np pc) ∧ W.cell? ⟨q, 6, none⟩ = some (.int .i64 clock) ∧ W.cell? ⟨q, 7, none⟩ = some (.int .i64 serial) ∧ W.cell? ⟨q, 8, none⟩ = some (.int .i64 used) ∧ W.cell? ⟨q, 9, none⟩ = some (.int .i64 runs) ∧ W.cell? ⟨b, off + j, none⟩ = some (.int .i64 x)) := Lib.hid (fun W hu => ⟨vw_cells HB.out (HV.out.trans hu) rfl, vw_cells HB.out (HV.out.trans hu) rfl, vw_cells HB.out (HV.out.trans hu) rfl, vw_cells HB.out (HV.out.trans hu) rfl, vw_cells HB.out (HV.out.trans hu) rfl, vw_cells HB.out (HV.out.trans hu) rfl, vw_cells HB.out (HV.out.trans hu) rfl, vw_cells HB.out (HV.out.trans hu) rfl, vw_cells HB.out (HV.out.trans hu) rfl, vw_cells HB.out (HV.out.trans hu) rfl, (hu.cell (p := ⟨b, off + j, none⟩) hb (by simp)).trans c0⟩)
          go_wp2_with fail
          refine Plan.wp_plan [.blk [0, 1, 2, 3, 4, 5], .eff 6, .blk [7]] (fun w' => w'.cell? ⟨q, 0, none⟩ = some (.slice oa n oc) ∧ w'.cell? ⟨q, 1, none⟩ = some (.slice ha nh hc) ∧ w'.cell? ⟨q, 2, none⟩ = some (.slice (some ⟨b, off, none⟩) nr rc) ∧ w'.cell? ⟨q, 3, none⟩ = some (.slice qa nqs qc) ∧ w'.cell? ⟨q, 4, none⟩ = some (.slice fa nf fc) ∧ w'.cell? ⟨q, 5, none⟩ = some (.slice pa np pc) ∧ w'.cell? ⟨q, 6, none⟩ = some (.int .i64 clock) ∧ w'.cell? ⟨q, 7, none⟩ = some (.int .i64 serial) ∧ w'.cell? ⟨q, 8, none⟩ = some (.int .i64 used) ∧ w'.cell? ⟨q, 9, none⟩ = some (.int .i64 runs) ∧ w'.cell? ⟨b, off + j, none⟩ = some (.int .i64 x)) (by kernel_rfl) (by kernel_rfl) (by intro _ _ d _ _ h; cases d <;> exact h) (HD.out _ (Upd.refl [] wr).drew) (fun hS => ?_)
          clear hS
          apply Plan.blk_intro
          · intro w' hw Φ HΦ
            obtain ⟨d0, d1, d2, d3, d4, d5, d6, d7, d8, d9, c0⟩ := hw
            simp only [Plan.pick, List.map_cons, List.map_nil, List.getD_cons_zero, List.getD_cons_succ]
            repeat (first | go_values | go_skip | go_guarded | go_step | go_upon)
            exact ⟨rfl, HΦ.out⟩
          · kernel_rfl
          refine Plan.eff_intro (fun K hK hKp => ?_)
          have HK := Lib.hid hK
          clear hK hKp
          simp only [Plan.pick, List.map_cons, List.map_nil, List.getD_cons_zero, List.getD_cons_succ]
          repeat (first | go_values | go_skip | go_guarded | go_step | go_upon)
          refine (HKC.out _ (Upd.refl [] wr).drew).mono ?_
          rintro e w5 ⟨rfl, hb5⟩
          have HX : Hid (Upd [] wr w5) := Lib.hid (((Upd.refl [] wr).drew).step (Upd.of_below hb5 : Upd [] _ _) (by simp))
          clear hb5
          try dsimp only
          repeat (first | go_values | go_skip | go_guarded | go_step | go_upon)
          refine HK.out _ _ (HD.out _ HX.out) ?_
          clear HK K
          apply Plan.blk_intro
          · intro w' hw Φ HΦ
            obtain ⟨d0, d1, d2, d3, d4, d5, d6, d7, d8, d9, c0⟩ := hw
            simp only [Plan.pick, List.map_cons, List.map_nil, List.getD_cons_zero, List.getD_cons_succ]
            repeat (first | go_values | go_skip | go_guarded | go_step | go_upon)
            exact ⟨rfl, HΦ.out⟩
          · kernel_rfl
          refine Plan.plan_done ?_
          cases r with
          | false =>
            have HFR := Lib.hid (HKJ.out rfl)
            go_wp2_with fail
            go_ret
            exact ⟨false, rfl, by simp; exact HFR.out, ((HU.out.trans HV.out).trans HX.out).below⟩
          | true =>
            have HL := Lib.hid (HKN.out.1 rfl)
            go_wp2_with fail
            go_roundg (nr - (j + 1))
            case measure => omega
            case rel =>
              refine ⟨j + 1, rfl, by omega, by go_num, Lib.hid (HV.out.trans HX.out), Lib.hid (fun m hm => ?_)⟩
              rcases Nat.eq_or_lt_of_le (show m ≤ j by omega) with rfl | h3
              · rw [HXJ.out]; exact HL.out
              · exact HP.out m h3
        · obtain rfl : j = nr := by omega
          go_wp2_with fail
          go_meet
          exact ⟨HV, HP⟩
    case rest =>
      obtain ⟨HV0, HP0⟩ := hcut
      go_wp2_with fail
      go_loopg [4] nh (fun gk i wr => ∃ j : Nat, gk = nh - j ∧ j ≤ nh ∧ i = .int .i64 j ∧ Hid (Upd [] w1 wr) ∧ Hid (∀ m, m < j → IsObj os (hs.getD m (0, 0)).2))
      case atStart => exact ⟨0, rfl, by omega, rfl, HV0, Lib.hid (fun m h => by omega)⟩
      case round =>
        obtain ⟨j, rfl, hj, rfl, HV, HP⟩ := hrel
        have d1 : wr.cell? ⟨q, 1, none⟩ = some (.slice ha nh hc) := vw_cells HB.out HV.out rfl
        by_cases hlt : j < nh
        · obtain ⟨b, off, rfl, hb, -, c0⟩ := ((HHE.out.upd HU.out (by simp)).upd HV.out (by simp)).at HNH.out hlt
          have HFN : Hid (IsObj os (hs.getD j (0, 0)).2 ↔ 0 ≤ findZ os (hs.getD j (0, 0)).2) := Lib.hid isObj_find
          have HFJ : Hid (findZ os (hs.getD j (0, 0)).2 < 0 → ¬ R) := Lib.hid (HN3.out nh j HNH.out hlt)
          obtain ⟨x, hx⟩ : ∃ x, (hs.getD j (0, 0)).2 = x := ⟨_, rfl⟩
          rw [hx] at HFN HFJ c0
          have HXJ := Lib.hid hx
          clear hx
          have hk := fun W (hu : Upd [] wr W) => HF.out x W ((HU.out.trans HV.out).trans hu)
          generalize findZ os x = r at *
          have HKC := Lib.hid hk
          clear hk
          have HD : Hid (∀ W, Upd [] wr W → W.cell? ⟨q, 0, none⟩ = some (.slice oa n oc) ∧ W.cell? ⟨q, 1, none⟩ = some (.slice (some ⟨b, off, none⟩) nh hc) ∧ W.cell? ⟨q, 2, none⟩ = some (.slice ra nr rc) ∧ W.cell? ⟨q, 3, none⟩ = some (.slice qa nqs qc) ∧ W.cell? ⟨q, 4, none⟩ = some (.slice fa nf fc) ∧ W.cell? ⟨q, 5, none⟩ = some (.slice pa np pc) ∧ W.cell? ⟨q, 6, none⟩ = some (.int .i64 clock) ∧ W.cell? ⟨q, 7, none⟩ = some (.int .i64 serial) ∧ W.cell? ⟨q, 8, none⟩ = some (.int .i64 used) ∧ W.cell? ⟨q, 9, none⟩ = some (.int .i64 runs) ∧ W.cell? ⟨b, off + j * 2 + 1, none⟩ = some (.int .i64 x)) := Lib.hid (fun W hu => ⟨vw_cells HB.out (HV.out.trans hu) rfl, vw_cells HB.out (HV.out.trans hu) rfl, vw_cells HB.out (HV.out.trans hu) rfl, vw_cells HB.out (HV.out.trans hu) rfl, vw_cells HB.out (HV.out.trans hu) rfl, vw_cells HB.out (HV.out.trans hu) rfl, vw_cells HB.out (HV.out.trans hu) rfl, vw_cells HB.out (HV.out.trans hu) rfl, vw_cells HB.out (HV.out.trans hu) rfl, vw_cells HB.out (HV.out.trans hu) rfl, (hu.cell (p := ⟨b, off + j * 2 + 1, none⟩) hb (by simp)).trans c0⟩)
          by_cases hr : r < 0
          · have hr2 : decide (r < 0) = true := by simpa using hr
            have HFR := Lib.hid (HFJ.out hr)
            clear hr
            go_wp2_with fail
            refine Plan.wp_plan [.blk [0, 1, 2, 3, 4, 5, 6], .eff 7, .blk [8]] (fun w' => w'.cell? ⟨q, 0, none⟩ = some (.slice oa n oc) ∧ w'.cell? ⟨q, 1, none⟩ = some (.slice (some ⟨b, off, none⟩) nh hc) ∧ w'.cell? ⟨q, 2, none⟩ = some (.slice ra nr rc) ∧ w'.cell? ⟨q, 3, none⟩ = some (.slice qa nqs qc) ∧ w'.cell? ⟨q, 4, none⟩ = some (.slice fa nf fc) ∧ w'.cell? ⟨q, 5, none⟩ = some (.slice pa np pc) ∧ w'.cell? ⟨q, 6, none⟩ = some (.int .i64 clock) ∧ w'.cell? ⟨q, 7, none⟩ = some (.int .i64 serial) ∧ w'.cell? ⟨q, 8, none⟩ = some (.int .i64 used) ∧ w'.cell? ⟨q, 9, none⟩ = some (.int .i64 runs) ∧ w'.cell? ⟨b, off + j * 2 + 1, none⟩ = some (.int .i64 x)) (by kernel_rfl) (by kernel_rfl) (by intro _ _ d _ _ h; cases d <;> exact h) (HD.out _ (Upd.refl [] wr).drew) (fun hS => ?_)
            clear hS
            apply Plan.blk_intro
            · intro w' hw Φ HΦ
              obtain ⟨d0, d1, d2, d3, d4, d5, d6, d7, d8, d9, c0⟩ := hw
              simp only [Plan.pick, List.map_cons, List.map_nil, List.getD_cons_zero, List.getD_cons_succ]
              repeat (first | go_values | go_skip | go_guarded | go_step | go_upon)
              exact ⟨rfl, HΦ.out⟩
            · kernel_rfl
            refine Plan.eff_intro (fun K hK hKp => ?_)
            have HK := Lib.hid hK
            clear hK hKp
            simp only [Plan.pick, List.map_cons, List.map_nil, List.getD_cons_zero, List.getD_cons_succ]
            repeat (first | go_values | go_skip | go_guarded | go_step | go_upon)
            refine (HKC.out _ (Upd.refl [] wr).drew).mono ?_
            rintro e w5 ⟨rfl, hb5⟩
            have HX : Hid (Upd [] wr w5) := Lib.hid (((Upd.refl [] wr).drew).step (Upd.of_below hb5 : Upd [] _ _) (by simp))
            clear hb5
            try dsimp only
            repeat (first | go_values | go_skip | go_guarded | go_step | go_upon)
            refine HK.out _ _ (HD.out _ HX.out) ?_
            clear HK K
            apply Plan.blk_intro
            · intro w' hw Φ HΦ
              obtain ⟨d0, d1, d2, d3, d4, d5, d6, d7, d8, d9, c0⟩ := hw
              simp only [Plan.pick, List.map_cons, List.map_nil, List.getD_cons_zero, List.getD_cons_succ]
              repeat (first | go_values | go_skip | go_guarded | go_step | go_upon)
              exact ⟨rfl, HΦ.out⟩
            · kernel_rfl
            refine Plan.plan_done ?_
            go_wp2_with fail
            go_ret
            exact ⟨false, rfl, by simp; exact HFR.out, ((HU.out.trans HV.out).trans HX.out).below⟩
          · have hr2 : decide (r < 0) = false := by simpa using hr
            have HL := Lib.hid (HFN.out.2 (by omega))
            clear hr
            go_wp2_with fail
            refine Plan.wp_plan [.blk [0, 1, 2, 3, 4, 5, 6], .eff 7, .blk [8]] (fun w' => w'.cell? ⟨q, 0, none⟩ = some (.slice oa n oc) ∧ w'.cell? ⟨q, 1, none⟩ = some (.slice (some ⟨b, off, none⟩) nh hc) ∧ w'.cell? ⟨q, 2, none⟩ = some (.slice ra nr rc) ∧ w'.cell? ⟨q, 3, none⟩ = some (.slice qa nqs qc) ∧ w'.cell? ⟨q, 4, none⟩ = some (.slice fa nf fc) ∧ w'.cell? ⟨q, 5, none⟩ = some (.slice pa np pc) ∧ w'.cell? ⟨q, 6, none⟩ = some (.int .i64 clock) ∧ w'.cell? ⟨q, 7, none⟩ = some (.int .i64 serial) ∧ w'.cell? ⟨q, 8, none⟩ = some (.int .i64 used) ∧ w'.cell? ⟨q, 9, none⟩ = some (.int .i64 runs) ∧ w'.cell? ⟨b, off + j * 2 + 1, none⟩ = some (.int .i64 x)) (by kernel_rfl) (by kernel_rfl) (by intro _ _ d _ _ h; cases d <;> exact h) (HD.out _ (Upd.refl [] wr).drew) (fun hS => ?_)
            clear hS
            apply Plan.blk_intro
            · intro w' hw Φ HΦ
              obtain ⟨d0, d1, d2, d3, d4, d5, d6, d7, d8, d9, c0⟩ := hw
              simp only [Plan.pick, List.map_cons, List.map_nil, List.getD_cons_zero, List.getD_cons_succ]
              repeat (first | go_values | go_skip | go_guarded | go_step | go_upon)
              exact ⟨rfl, HΦ.out⟩
            · kernel_rfl
            refine Plan.eff_intro (fun K hK hKp => ?_)
            have HK := Lib.hid hK
            clear hK hKp
            simp only [Plan.pick, List.map_cons, List.map_nil, List.getD_cons_zero, List.getD_cons_succ]
            repeat (first | go_values | go_skip | go_guarded | go_step | go_upon)
            refine (HKC.out _ (Upd.refl [] wr).drew).mono ?_
            rintro e w5 ⟨rfl, hb5⟩
            have HX : Hid (Upd [] wr w5) := Lib.hid (((Upd.refl [] wr).drew).step (Upd.of_below hb5 : Upd [] _ _) (by simp))
            clear hb5
            try dsimp only
            repeat (first | go_values | go_skip | go_guarded | go_step | go_upon)
            refine HK.out _ _ (HD.out _ HX.out) ?_
            clear HK K
            apply Plan.blk_intro
            · intro w' hw Φ HΦ
              obtain ⟨d0, d1, d2, d3, d4, d5, d6, d7, d8, d9, c0⟩ := hw
              simp only [Plan.pick, List.map_cons, List.map_nil, List.getD_cons_zero, List.getD_cons_succ]
              repeat (first | go_values | go_skip | go_guarded | go_step | go_upon)
              exact ⟨rfl, HΦ.out⟩
            · kernel_rfl
            refine Plan.plan_done ?_
            go_wp2_with fail
            go_roundg (nh - (j + 1))
            case measure => omega
            case rel =>
              refine ⟨j + 1, rfl, by omega, by go_num, Lib.hid (HV.out.trans HX.out), Lib.hid (fun m hm => ?_)⟩
              rcases Nat.eq_or_lt_of_le (show m ≤ j by omega) with rfl | h3
              · rw [HXJ.out]; exact HL.out
              · exact HP.out m h3
        · obtain rfl : j = nh := by omega
          have HT := Lib.hid (HR.out _ _ HNR.out HNH.out H16.out HP0.out HP.out)
          go_wp2_with fail
          go_ret
          exact ⟨true, rfl, by simp; exact HT.out, (HU.out.trans HV.out).below⟩
  · have HFR : Hid (¬ R) := Lib.hid (HN1.out h16)
    go_enter Try.func40, Try.ntmps40
    go_upto_region 1 with fail
    generalize hW : World.alloc w (Obj.cells _ 30) = w1
    have HB : Hid (Blk w1 w.heap.size 30 _) := Lib.hid (by rw [← hW]; exact Blk.new _ _ _)
    have HU : Hid (Upd [] w w1) := Lib.hid (by rw [← hW]; exact (Upd.refl [] w).alloc _)
    have hq : w.heap.size < w1.heap.size := HB.out.lt
    clear hW
    generalize hq0 : w.heap.size = q at *
    have HQ0 := Lib.hid hq0
    clear hq0
    have d2 : w1.cell? ⟨q, 2, none⟩ = some (.slice ra nr rc) := vw_cells HB.out (Upd.refl _ _) rfl
    have hb16 : ((nr : Int) == 16) = false := by simp; omega
    have hb17 : ((nr : Int) != 16) = true := by simp; omega
    clear h16
    go_wp2_with fail
    go_ret
    exact ⟨false, rfl, by simp; exact HFR.out, HU.out.below⟩
end Go.Proofs.Ytnhgmmjlhhgdoaa
