/- The document's fourth rule of a view. -/
import Derived.Test.YtnhgmmjlhhgdoaaRules3
namespace Go.Proofs.Ytnhgmmjlhhgdoaa
open Go Go.RowKit

/-- Is a word of an object of that kind, at that place, an address? -/
def asks4 (kd : Int) (k : Nat) : Bool := kd == 2 || (kd == 4 && ((k : Int) == 0 || (k : Int) == 2))
theorem ok4_iff {os : List Ob} {o : Ob} (h : o.kind = 4 → o.ws.length = 5) : Ok4 os o ↔ ∀ k, k < o.ws.length → asks4 o.kind k = true → Known os (o.ws.getD k 0) := by
  unfold Ok4 asks4
  constructor
  · rintro ⟨h1, h2⟩ k hk ha
    simp only [Bool.or_eq_true, Bool.and_eq_true, beq_iff_eq] at ha
    rcases ha with ha | ⟨ha, hb⟩
    · exact h1 ha k hk
    · rcases hb with hb | hb
      · obtain rfl : k = 0 := by omega
        exact (h2 ha).1
      · obtain rfl : k = 2 := by omega
        exact (h2 ha).2
  · intro h1
    refine ⟨fun ha k hk => h1 k hk (by simp [ha]), fun ha => ⟨h1 0 (by rw [h ha]; omega) (by simp [ha]), h1 2 (by rw [h ha]; omega) (by simp [ha])⟩⟩
theorem may_ref {c l : Int} {f : Bool} (h : mayB 4 c l f = true) : l = 5 := by
  unfold mayB at h
  split at h
  · cases h
  · simp at h
    exact h.1.2.2
theorem R1.ref5 {os : List Ob} (h : R1 os) {i : Nat} (hi : i < os.length) (hk : (os.getD i ob0).kind = 4) : (os.getD i ob0).ws.length = 5 := by
  obtain ⟨_, _, hm, hl⟩ := h i hi
  have h5 : (os.getD i ob0).len = 5 := by
    rw [hk] at hm
    exact may_ref hm
  omega
set_option maxRecDepth 100000 in
set_option maxHeartbeats 3200000 in
theorem rule4_walk (v : Vw) (w : World) (S : Sees w v) (hl : v.os.length ≤ 40) (h1 : R1 v.os) : Calls Try.prog 41 #[v.val] w (Says (R4 v.os) w) := by
  have HK : Hid (∀ a W, Upd [] w W → Calls Try.prog 64 #[v.val, .int .i64 a] W fun e w' => e = .returned (.bool (knownB v.os a)) ∧ Below W.heap.size W w') := Lib.hid (fun a W u => known_walk v a W (S.upd u (by simp)) (by omega))
  have HR : Hid (∀ n, v.os.length = n → (∀ i, i < n → Ok4 v.os (v.os.getD i ob0)) → R4 v.os) := Lib.hid (fun _ h1 h2 i hi => h2 i (by omega))
  have HN' : Hid (∀ n i, v.os.length = n → i < n → ¬ Ok4 v.os (v.os.getD i ob0) → ¬ R4 v.os) := Lib.hid (fun n i h hi h1 h2 => h1 (h2 i (by omega)))
  have HLN : Hid (∀ n i, v.os.length = n → i < n → (v.os.getD i ob0).ws.length ≤ 1023 ∧ (Ok4 v.os (v.os.getD i ob0) ↔ ∀ k, k < (v.os.getD i ob0).ws.length → asks4 (v.os.getD i ob0).kind k = true → Known v.os ((v.os.getD i ob0).ws.getD k 0))) := Lib.hid (fun n i h hi => ⟨by
    obtain ⟨_, _, hm, hl⟩ := h1 i (by omega)
    rcases may_cases (v.os.getD i ob0).kind (v.os.getD i ob0).cls (v.os.getD i ob0).len (v.os.getD i ob0).fin with ⟨_, h⟩ | ⟨_, _, h⟩ | ⟨h1, h2, _⟩
    · rw [h] at hm; cases hm
    · rw [h] at hm; cases hm
    · omega, ok4_iff (h1.ref5 (by omega))⟩)
  clear h1
  generalize R4 v.os = R at *
  have HO := Lib.hid S.obs
  have HHE := Lib.hid S.helds
  have HRO := Lib.hid S.roots
  have HQU := Lib.hid S.queues
  have HFI := Lib.hid S.fins
  have HPE := Lib.hid S.pend
  clear S
  obtain ⟨oa, oc, os, ha, hc, hs, ra, rc, rs, qa, qc, qs, fa, fc, fs, pa, pc, ps, clock, serial, used, runs⟩ := v
  simp only [Vw.val] at *
  obtain ⟨n, hn⟩ : ∃ n, os.length = n := ⟨_, rfl⟩
  rw [hn] at hl
  simp only [hn] at HK ⊢
  generalize hs.length = nh at *
  generalize rs.length = nr at *
  generalize qs.length = nqs at *
  generalize fs.length = nf at *
  generalize ps.length = np at *
  have HN := Lib.hid hn
  clear hn
  go_enter Try.func41, Try.ntmps41
  go_upto_region 1 with fail
  generalize hW : World.alloc w (Obj.cells _ 30) = w1
  have HB : Hid (Blk w1 w.heap.size 30 _) := Lib.hid (by rw [← hW]; exact Blk.new _ _ _)
  have HU : Hid (Upd [] w w1) := Lib.hid (by rw [← hW]; exact (Upd.refl [] w).alloc _)
  have hq : w.heap.size < w1.heap.size := HB.out.lt
  clear hW
  generalize hq0 : w.heap.size = q at *
  have HQ0 := Lib.hid hq0
  clear hq0
  go_wp2_with fail
  go_loopg [3] n (fun gk i wr => ∃ j : Nat, gk = n - j ∧ j ≤ n ∧ i = .int .i64 j ∧ Hid (Upd [] w1 wr) ∧ Hid (∀ m, m < j → Ok4 os (os.getD m ob0)))
  case atStart => exact ⟨0, rfl, by omega, rfl, Lib.hid (Upd.refl _ _), Lib.hid (fun m h => by omega)⟩
  case round =>
    obtain ⟨j, rfl, hj, rfl, HV, HP⟩ := hrel
    have d0 : wr.cell? ⟨q, 0, none⟩ = some (.slice oa n oc) := vw_cells HB.out HV.out rfl
    have hqr : q < wr.heap.size := Nat.lt_of_lt_of_le hq HV.out.size
    by_cases hlt : j < n
    · obtain ⟨bo, oo, rfl, hbo, ⟨c0, c1, c2, c3, c4, c5⟩, hws⟩ := ((HO.out.upd HU.out (by simp)).upd HV.out (by simp)).at HN.out hlt
      have HWS := Lib.hid hws
      clear hws
      obtain ⟨hz, hok⟩ := HLN.out n j HN.out hlt
      have HJN := Lib.hid (HN'.out n j HN.out hlt)
      have HST : Hid (Ok4 os (os.getD j ob0) → ∀ m, m < j + 1 → Ok4 os (os.getD m ob0)) := Lib.hid (fun h m hm => by
        rcases Nat.eq_or_lt_of_le (show m ≤ j by omega) with rfl | h3
        · exact h
        · exact HP.out m h3)
      clear HP
      generalize Ok4 os (os.getD j ob0) = OKJ at *
      generalize (os.getD j ob0).adr = ad at *
      generalize (os.getD j ob0).kind = kd at *
      generalize (os.getD j ob0).cls = cl at *
      generalize (os.getD j ob0).len = ln at *
      generalize (os.getD j ob0).fin = fi at *
      generalize (os.getD j ob0).wa = wa at *
      generalize (os.getD j ob0).wc = wc at *
      generalize (os.getD j ob0).ws = ws at *
      obtain ⟨z, hwz⟩ : ∃ z, ws.length = z := ⟨_, rfl⟩
      rw [hwz] at hz c5 hok
      have HOK := Lib.hid hok
      have HWZ := Lib.hid hwz
      clear hok hwz
      go_wp2_with fail
      generalize hW : World.alloc wr (Obj.cells _ 37) = wo
      have HBO : Hid (Blk wo wr.heap.size 37 _) := Lib.hid (by rw [← hW]; exact Blk.new _ _ _)
      have HX : Hid (Upd [] wr wo) := Lib.hid (by rw [← hW]; exact (Upd.refl [] wr).alloc _)
      clear hW d0 c0 c1 c2 c3 c4 c5
      generalize hg : wr.heap.size = g at *
      have HG := Lib.hid hg
      clear hg
      go_loopg [5] z (fun gk i wr => ∃ k : Nat, gk = z - k ∧ k ≤ z ∧ i = .int .i64 k ∧ Hid (Upd [] wo wr) ∧ Hid (∀ m, m < k → asks4 kd m = true → Known os (ws.getD m 0)))
      case atStart => exact ⟨0, rfl, by omega, rfl, Lib.hid (Upd.refl _ _), Lib.hid (fun m h => by omega)⟩
      case round =>
        obtain ⟨k, rfl, hk, rfl, HI, HPI⟩ := hrel
        have HUI : Hid (Upd [] w wr) := Lib.hid (((HU.out.trans HV.out).trans HX.out).trans HI.out)
        have e5 : wr.cell? ⟨g, 5, none⟩ = some (.slice wa z wc) := vw_cells HBO.out HI.out rfl
        by_cases hlk : k < z
        · have e1 : wr.cell? ⟨g, 1, none⟩ = some (.int .i64 kd) := vw_cells HBO.out HI.out rfl
          obtain ⟨b, off, rfl, hb, c0⟩ := (Reads.upd (Reads.upd HWS.out HX.out (by simp)) HI.out (by simp)).at HWZ.out hlk
          have HKN : Hid (knownB os (ws.getD k 0) = true ↔ Known os (ws.getD k 0)) := Lib.hid knownB_iff
          have HKJ : Hid (asks4 kd k = true → knownB os (ws.getD k 0) = false → ¬ R) := Lib.hid (fun ha hf => HJN.out (fun ho => by rw [HKN.out.2 (HOK.out.1 ho k hlk ha)] at hf; cases hf))
          obtain ⟨x, hx⟩ : ∃ x, ws.getD k 0 = x := ⟨_, rfl⟩
          rw [hx] at HKN HKJ c0
          have HXJ := Lib.hid hx
          clear hx
          have hk := fun W (hu : Upd [] wr W) => HK.out x W (HUI.out.trans hu)
          obtain ⟨r, hr⟩ : ∃ r, knownB os x = r := ⟨_, rfl⟩
          rw [hr] at hk HKN HKJ
          have HKC := Lib.hid hk
          clear hk hr
          have HD : Hid (∀ W, Upd [] wr W → W.cell? ⟨q, 0, none⟩ = some (.slice (some ⟨bo, oo, none⟩) n oc) ∧ W.cell? ⟨q, 1, none⟩ = some (.slice ha nh hc) ∧ W.cell? ⟨q, 2, none⟩ = some (.slice ra nr rc) ∧ W.cell? ⟨q, 3, none⟩ = some (.slice qa nqs qc) ∧ W.cell? ⟨q, 4, none⟩ = some (.slice fa nf fc) ∧ W.cell? ⟨q, 5, none⟩ = some (.slice pa np pc) ∧ W.cell? ⟨q, 6, none⟩ = some (.int .i64 clock) ∧ W.cell? ⟨q, 7, none⟩ = some (.int .i64 serial) ∧ W.cell? ⟨q, 8, none⟩ = some (.int .i64 used) ∧ W.cell? ⟨q, 9, none⟩ = some (.int .i64 runs) ∧ W.cell? ⟨g, 1, none⟩ = some (.int .i64 kd) ∧ W.cell? ⟨g, 5, none⟩ = some (.slice (some ⟨b, off, none⟩) z wc) ∧ W.cell? ⟨b, off + k, none⟩ = some (.int .i64 x)) := Lib.hid (fun W hu => ⟨vw_cells HB.out (((HV.out.trans HX.out).trans HI.out).trans hu) rfl, vw_cells HB.out (((HV.out.trans HX.out).trans HI.out).trans hu) rfl, vw_cells HB.out (((HV.out.trans HX.out).trans HI.out).trans hu) rfl, vw_cells HB.out (((HV.out.trans HX.out).trans HI.out).trans hu) rfl, vw_cells HB.out (((HV.out.trans HX.out).trans HI.out).trans hu) rfl, vw_cells HB.out (((HV.out.trans HX.out).trans HI.out).trans hu) rfl, vw_cells HB.out (((HV.out.trans HX.out).trans HI.out).trans hu) rfl, vw_cells HB.out (((HV.out.trans HX.out).trans HI.out).trans hu) rfl, vw_cells HB.out (((HV.out.trans HX.out).trans HI.out).trans hu) rfl, vw_cells HB.out (((HV.out.trans HX.out).trans HI.out).trans hu) rfl, vw_cells HBO.out (HI.out.trans hu) rfl, vw_cells HBO.out (HI.out.trans hu) rfl, (hu.cell (p := ⟨b, off + k, none⟩) (by simpa using hb) (by simp)).trans c0⟩)
          have HAS : Hid (asks4 kd k = (kd == 2 || (kd == 4 && ((k : Int) == 0 || (k : Int) == 2)))) := Lib.hid rfl
          obtain ⟨b2, hb2⟩ : ∃ b, (kd == 2) = b := ⟨_, rfl⟩
          obtain ⟨b4, hb4⟩ : ∃ b, (kd == 4) = b := ⟨_, rfl⟩
          obtain ⟨k0, hk0⟩ : ∃ b, ((k : Int) == 0) = b := ⟨_, rfl⟩
          obtain ⟨k2, hk2⟩ : ∃ b, ((k : Int) == 2) = b := ⟨_, rfl⟩
          rw [hb2, hb4, hk0, hk2] at HAS
          cases b2 with
          | true =>
            have HA : Hid (asks4 kd k = true) := Lib.hid (by rw [HAS.out]; rfl)
            clear hb4 hk0 hk2 HAS
            go_wp2_with fail
            refine Plan.wp_plan [.blk [0, 1, 2, 3, 4, 5, 6, 7, 8, 9, 10, 11, 12, 13, 14, 15, 16, 17, 18, 19, 20, 21, 22, 23, 24], .eff 25, .blk [26, 27]] (fun w' => w'.cell? ⟨q, 0, none⟩ = some (.slice (some ⟨bo, oo, none⟩) n oc) ∧ w'.cell? ⟨q, 1, none⟩ = some (.slice ha nh hc) ∧ w'.cell? ⟨q, 2, none⟩ = some (.slice ra nr rc) ∧ w'.cell? ⟨q, 3, none⟩ = some (.slice qa nqs qc) ∧ w'.cell? ⟨q, 4, none⟩ = some (.slice fa nf fc) ∧ w'.cell? ⟨q, 5, none⟩ = some (.slice pa np pc) ∧ w'.cell? ⟨q, 6, none⟩ = some (.int .i64 clock) ∧ w'.cell? ⟨q, 7, none⟩ = some (.int .i64 serial) ∧ w'.cell? ⟨q, 8, none⟩ = some (.int .i64 used) ∧ w'.cell? ⟨q, 9, none⟩ = some (.int .i64 runs) ∧ w'.cell? ⟨g, 1, none⟩ = some (.int .i64 kd) ∧ w'.cell? ⟨g, 5, none⟩ = some (.slice (some ⟨b, off, none⟩) z wc) ∧ w'.cell? ⟨b, off + k, none⟩ = some (.int .i64 x)) (by kernel_rfl) (by kernel_rfl) (by intro _ _ d _ _ h; cases d <;> exact h) (HD.out _ (Upd.refl [] wr).drew) (fun hS => ?_)
            clear hS
            clear e1 e5 c0
            apply Plan.blk_intro
            · intro w' hw Φ HΦ
              obtain ⟨d0, d1, d2, d3, d4, d5, d6, d7, d8, d9, e1, e5, c0⟩ := hw
              simp only [Plan.pick, List.map_cons, List.map_nil, List.getD_cons_zero, List.getD_cons_succ]
              repeat (first | go_values | go_skip | go_guarded | go_step | go_upon)
              exact ⟨rfl, HΦ.out⟩
            · kernel_rfl
            refine Plan.eff_intro (fun K hK hKp => ?_)
            have HK := Lib.hid hK
            clear hK hKp
            simp only [Plan.pick, List.map_cons, List.map_nil, List.getD_cons_zero, List.getD_cons_succ]
            repeat (first | go_values | go_skip | go_guarded | go_step | go_upon)
            refine (HKC.out _ (Upd.refl [] wr).drew).mono ?_
            rintro e w5 ⟨rfl, hb5⟩
            have HX : Hid (Upd [] wr w5) := Lib.hid (((Upd.refl [] wr).drew).step (Upd.of_below hb5 : Upd [] _ _) (by simp))
            clear hb5
            try dsimp only
            repeat (first | go_values | go_skip | go_guarded | go_step | go_upon)
            refine HK.out _ _ (HD.out _ HX.out) ?_
            clear HK K
            apply Plan.blk_intro
            · intro w' hw Φ HΦ
              obtain ⟨d0, d1, d2, d3, d4, d5, d6, d7, d8, d9, e1, e5, c0⟩ := hw
              simp only [Plan.pick, List.map_cons, List.map_nil, List.getD_cons_zero, List.getD_cons_succ]
              repeat (first | go_values | go_skip | go_guarded | go_step | go_upon)
              exact ⟨rfl, HΦ.out⟩
            · kernel_rfl
            refine Plan.plan_done ?_
            cases r with
            | false =>
              have HFR := Lib.hid (HKJ.out HA.out rfl)
              go_wp2_with fail
              go_ret
              exact ⟨false, rfl, by simp; exact HFR.out, (HUI.out.trans HX.out).below⟩
            | true =>
              have HL := Lib.hid (HKN.out.1 rfl)
              go_wp2_with fail
              go_roundg (z - (k + 1))
              case measure => omega
              case rel =>
                refine ⟨k + 1, rfl, by omega, by go_num, Lib.hid (HI.out.trans HX.out), Lib.hid (fun m hm => ?_)⟩
                rcases Nat.eq_or_lt_of_le (show m ≤ k by omega) with rfl | h3
                · intro h4; rw [HXJ.out]; exact HL.out
                · exact HPI.out m h3
          | false =>
            cases b4 with
            | false =>
              have HA : Hid (asks4 kd k = false) := Lib.hid (by rw [HAS.out]; rfl)
              clear hk0 hk2 HAS
              go_wp2_with fail
              refine Plan.wp_plan [.blk [0, 1, 2, 3, 4, 5, 6, 7, 8, 9, 10, 11, 12, 13, 14, 15, 16, 17, 18, 19, 20, 21, 22, 23, 24], .eff 25, .blk [26, 27]] (fun w' => w'.cell? ⟨q, 0, none⟩ = some (.slice (some ⟨bo, oo, none⟩) n oc) ∧ w'.cell? ⟨q, 1, none⟩ = some (.slice ha nh hc) ∧ w'.cell? ⟨q, 2, none⟩ = some (.slice ra nr rc) ∧ w'.cell? ⟨q, 3, none⟩ = some (.slice qa nqs qc) ∧ w'.cell? ⟨q, 4, none⟩ = some (.slice fa nf fc) ∧ w'.cell? ⟨q, 5, none⟩ = some (.slice pa np pc) ∧ w'.cell? ⟨q, 6, none⟩ = some (.int .i64 clock) ∧ w'.cell? ⟨q, 7, none⟩ = some (.int .i64 serial) ∧ w'.cell? ⟨q, 8, none⟩ = some (.int .i64 used) ∧ w'.cell? ⟨q, 9, none⟩ = some (.int .i64 runs) ∧ w'.cell? ⟨g, 1, none⟩ = some (.int .i64 kd) ∧ w'.cell? ⟨g, 5, none⟩ = some (.slice (some ⟨b, off, none⟩) z wc) ∧ w'.cell? ⟨b, off + k, none⟩ = some (.int .i64 x)) (by kernel_rfl) (by kernel_rfl) (by intro _ _ d _ _ h; cases d <;> exact h) (HD.out _ (Upd.refl [] wr).drew) (fun hS => ?_)
              clear hS
              clear e1 e5 c0
              apply Plan.blk_intro
              · intro w' hw Φ HΦ
                obtain ⟨d0, d1, d2, d3, d4, d5, d6, d7, d8, d9, e1, e5, c0⟩ := hw
                simp only [Plan.pick, List.map_cons, List.map_nil, List.getD_cons_zero, List.getD_cons_succ]
                repeat (first | go_values | go_skip | go_guarded | go_step | go_upon)
                exact ⟨rfl, HΦ.out⟩
              · kernel_rfl
              refine Plan.eff_intro (fun K hK hKp => ?_)
              have HK := Lib.hid hK
              clear hK hKp
              simp only [Plan.pick, List.map_cons, List.map_nil, List.getD_cons_zero, List.getD_cons_succ]
              repeat (first | go_values | go_skip | go_guarded | go_step | go_upon)
              try dsimp only
              repeat (first | go_values | go_skip | go_guarded | go_step | go_upon)
              refine HK.out _ _ (HD.out _ (Upd.refl [] wr).drew) ?_
              clear HK K
              apply Plan.blk_intro
              · intro w' hw Φ HΦ
                obtain ⟨d0, d1, d2, d3, d4, d5, d6, d7, d8, d9, e1, e5, c0⟩ := hw
                simp only [Plan.pick, List.map_cons, List.map_nil, List.getD_cons_zero, List.getD_cons_succ]
                repeat (first | go_values | go_skip | go_guarded | go_step | go_upon)
                exact ⟨rfl, HΦ.out⟩
              · kernel_rfl
              refine Plan.plan_done ?_
              go_wp2_with fail
              go_roundg (z - (k + 1))
              case measure => omega
              case rel =>
                refine ⟨k + 1, rfl, by omega, by go_num, Lib.hid HI.out.drew, Lib.hid (fun m hm => ?_)⟩
                rcases Nat.eq_or_lt_of_le (show m ≤ k by omega) with rfl | h3
                · intro h4; rw [HA.out] at h4; cases h4
                · exact HPI.out m h3
            | true =>
              cases k0 with
              | true =>
                have HA : Hid (asks4 kd k = true) := Lib.hid (by rw [HAS.out]; rfl)
                clear hk2 HAS
                go_wp2_with fail
                refine Plan.wp_plan [.blk [0, 1, 2, 3, 4, 5, 6, 7, 8, 9, 10, 11, 12, 13, 14, 15, 16, 17, 18, 19, 20, 21, 22, 23, 24], .eff 25, .blk [26, 27]] (fun w' => w'.cell? ⟨q, 0, none⟩ = some (.slice (some ⟨bo, oo, none⟩) n oc) ∧ w'.cell? ⟨q, 1, none⟩ = some (.slice ha nh hc) ∧ w'.cell? ⟨q, 2, none⟩ = some (.slice ra nr rc) ∧ w'.cell? ⟨q, 3, none⟩ = some (.slice qa nqs qc) ∧ w'.cell? ⟨q, 4, none⟩ = some (.slice fa nf fc) ∧ w'.cell? ⟨q, 5, none⟩ = some (.slice pa np pc) ∧ w'.cell? ⟨q, 6, none⟩ = some (.int .i64 clock) ∧ w'.cell? ⟨q, 7, none⟩ = some (.int .i64 serial) ∧ w'.cell? ⟨q, 8, none⟩ = some (.int .i64 used) ∧ w'.cell? ⟨q, 9, none⟩ = some (.int .i64 runs) ∧ w'.cell? ⟨g, 1, none⟩ = some (.int .i64 kd) ∧ w'.cell? ⟨g, 5, none⟩ = some (.slice (some ⟨b, off, none⟩) z wc) ∧ w'.cell? ⟨b, off + k, none⟩ = some (.int .i64 x)) (by kernel_rfl) (by kernel_rfl) (by intro _ _ d _ _ h; cases d <;> exact h) (HD.out _ (Upd.refl [] wr).drew) (fun hS => ?_)
                clear hS
                clear e1 e5 c0
                apply Plan.blk_intro
                · intro w' hw Φ HΦ
                  obtain ⟨d0, d1, d2, d3, d4, d5, d6, d7, d8, d9, e1, e5, c0⟩ := hw
                  simp only [Plan.pick, List.map_cons, List.map_nil, List.getD_cons_zero, List.getD_cons_succ]
                  repeat (first | go_values | go_skip | go_guarded | go_step | go_upon)
                  exact ⟨rfl, HΦ.out⟩
                · kernel_rfl
                refine Plan.eff_intro (fun K hK hKp => ?_)
                have HK := Lib.hid hK
                clear hK hKp
                simp only [Plan.pick, List.map_cons, List.map_nil, List.getD_cons_zero, List.getD_cons_succ]
                repeat (first | go_values | go_skip | go_guarded | go_step | go_upon)
                refine (HKC.out _ (Upd.refl [] wr).drew).mono ?_
                rintro e w5 ⟨rfl, hb5⟩
                have HX : Hid (Upd [] wr w5) := Lib.hid (((Upd.refl [] wr).drew).step (Upd.of_below hb5 : Upd [] _ _) (by simp))
                clear hb5
                try dsimp only
                repeat (first | go_values | go_skip | go_guarded | go_step | go_upon)
                refine HK.out _ _ (HD.out _ HX.out) ?_
                clear HK K
                apply Plan.blk_intro
                · intro w' hw Φ HΦ
                  obtain ⟨d0, d1, d2, d3, d4, d5, d6, d7, d8, d9, e1, e5, c0⟩ := hw
                  simp only [Plan.pick, List.map_cons, List.map_nil, List.getD_cons_zero, List.getD_cons_succ]
                  repeat (first | go_values | go_skip | go_guarded | go_step | go_upon)
                  exact ⟨rfl, HΦ.out⟩
                · kernel_rfl
                refine Plan.plan_done ?_
                cases r with
                | false =>
                  have HFR := Lib.hid (HKJ.out HA.out rfl)
                  go_wp2_with fail
                  go_ret
                  exact ⟨false, rfl, by simp; exact HFR.out, (HUI.out.trans HX.out).below⟩
                | true =>
                  have HL := Lib.hid (HKN.out.1 rfl)
                  go_wp2_with fail
                  go_roundg (z - (k + 1))
                  case measure => omega
                  case rel =>
                    refine ⟨k + 1, rfl, by omega, by go_num, Lib.hid (HI.out.trans HX.out), Lib.hid (fun m hm => ?_)⟩
                    rcases Nat.eq_or_lt_of_le (show m ≤ k by omega) with rfl | h3
                    · intro h4; rw [HXJ.out]; exact HL.out
                    · exact HPI.out m h3
              | false =>
                cases k2 with
                | true =>
                  have HA : Hid (asks4 kd k = true) := Lib.hid (by rw [HAS.out]; rfl)
                  clear HAS
                  go_wp2_with fail
                  refine Plan.wp_plan [.blk [0, 1, 2, 3, 4, 5, 6, 7, 8, 9, 10, 11, 12, 13, 14, 15, 16, 17, 18, 19, 20, 21, 22, 23, 24], .eff 25, .blk [26, 27]] (fun w' => w'.cell? ⟨q, 0, none⟩ = some (.slice (some ⟨bo, oo, none⟩) n oc) ∧ w'.cell? ⟨q, 1, none⟩ = some (.slice ha nh hc) ∧ w'.cell? ⟨q, 2, none⟩ = some (.slice ra nr rc) ∧ w'.cell? ⟨q, 3, none⟩ = some (.slice qa nqs qc) ∧ w'.cell? ⟨q, 4, none⟩ = some (.slice fa nf fc) ∧ w'.cell? ⟨q, 5, none⟩ = some (.slice pa np pc) ∧ w'.cell? ⟨q, 6, none⟩ = some (.int .i64 clock) ∧ w'.cell? ⟨q, 7, none⟩ = some (.int .i64 serial) ∧ w'.cell? ⟨q, 8, none⟩ = some (.int .i64 used) ∧ w'.cell? ⟨q, 9, none⟩ = some (.int .i64 runs) ∧ w'.cell? ⟨g, 1, none⟩ = some (.int .i64 kd) ∧ w'.cell? ⟨g, 5, none⟩ = some (.slice (some ⟨b, off, none⟩) z wc) ∧ w'.cell? ⟨b, off + k, none⟩ = some (.int .i64 x)) (by kernel_rfl) (by kernel_rfl) (by intro _ _ d _ _ h; cases d <;> exact h) (HD.out _ (Upd.refl [] wr).drew) (fun hS => ?_)
                  clear hS
                  clear e1 e5 c0
                  apply Plan.blk_intro
                  · intro w' hw Φ HΦ
                    obtain ⟨d0, d1, d2, d3, d4, d5, d6, d7, d8, d9, e1, e5, c0⟩ := hw
                    simp only [Plan.pick, List.map_cons, List.map_nil, List.getD_cons_zero, List.getD_cons_succ]
                    repeat (first | go_values | go_skip | go_guarded | go_step | go_upon)
                    exact ⟨rfl, HΦ.out⟩
                  · kernel_rfl
                  refine Plan.eff_intro (fun K hK hKp => ?_)
                  have HK := Lib.hid hK
                  clear hK hKp
                  simp only [Plan.pick, List.map_cons, List.map_nil, List.getD_cons_zero, List.getD_cons_succ]
                  repeat (first | go_values | go_skip | go_guarded | go_step | go_upon)
                  refine (HKC.out _ (Upd.refl [] wr).drew).mono ?_
                  rintro e w5 ⟨rfl, hb5⟩
                  have HX : Hid (Upd [] wr w5) := Lib.hid (((Upd.refl [] wr).drew).step (Upd.of_below hb5 : Upd [] _ _) (by simp))
                  clear hb5
                  try dsimp only
                  repeat (first | go_values | go_skip | go_guarded | go_step | go_upon)
                  refine HK.out _ _ (HD.out _ HX.out) ?_
                  clear HK K
                  apply Plan.blk_intro
                  · intro w' hw Φ HΦ
                    obtain ⟨d0, d1, d2, d3, d4, d5, d6, d7, d8, d9, e1, e5, c0⟩ := hw
                    simp only [Plan.pick, List.map_cons, List.map_nil, List.getD_cons_zero, List.getD_cons_succ]
                    repeat (first | go_values | go_skip | go_guarded | go_step | go_upon)
                    exact ⟨rfl, HΦ.out⟩
                  · kernel_rfl
                  refine Plan.plan_done ?_
                  cases r with
                  | false =>
                    have HFR := Lib.hid (HKJ.out HA.out rfl)
                    go_wp2_with fail
                    go_ret
                    exact ⟨false, rfl, by simp; exact HFR.out, (HUI.out.trans HX.out).below⟩
                  | true =>
                    have HL := Lib.hid (HKN.out.1 rfl)
                    go_wp2_with fail
                    go_roundg (z - (k + 1))
                    case measure => omega
                    case rel =>
                      refine ⟨k + 1, rfl, by omega, by go_num, Lib.hid (HI.out.trans HX.out), Lib.hid (fun m hm => ?_)⟩
                      rcases Nat.eq_or_lt_of_le (show m ≤ k by omega) with rfl | h3
                      · intro h4; rw [HXJ.out]; exact HL.out
                      · exact HPI.out m h3
                | false =>
                  have HA : Hid (asks4 kd k = false) := Lib.hid (by rw [HAS.out]; rfl)
                  clear HAS
                  go_wp2_with fail
                  refine Plan.wp_plan [.blk [0, 1, 2, 3, 4, 5, 6, 7, 8, 9, 10, 11, 12, 13, 14, 15, 16, 17, 18, 19, 20, 21, 22, 23, 24], .eff 25, .blk [26, 27]] (fun w' => w'.cell? ⟨q, 0, none⟩ = some (.slice (some ⟨bo, oo, none⟩) n oc) ∧ w'.cell? ⟨q, 1, none⟩ = some (.slice ha nh hc) ∧ w'.cell? ⟨q, 2, none⟩ = some (.slice ra nr rc) ∧ w'.cell? ⟨q, 3, none⟩ = some (.slice qa nqs qc) ∧ w'.cell? ⟨q, 4, none⟩ = some (.slice fa nf fc) ∧ w'.cell? ⟨q, 5, none⟩ = some (.slice pa np pc) ∧ w'.cell? ⟨q, 6, none⟩ = some (.int .i64 clock) ∧ w'.cell? ⟨q, 7, none⟩ = some (.int .i64 serial) ∧ w'.cell? ⟨q, 8, none⟩ = some (.int .i64 used) ∧ w'.cell? ⟨q, 9, none⟩ = some (.int .i64 runs) ∧ w'.cell? ⟨g, 1, none⟩ = some (.int .i64 kd) ∧ w'.cell? ⟨g, 5, none⟩ = some (.slice (some ⟨b, off, none⟩) z wc) ∧ w'.cell? ⟨b, off + k, none⟩ = some (.int .i64 x)) (by kernel_rfl) (by kernel_rfl) (by intro _ _ d _ _ h; cases d <;> exact h) (HD.out _ (Upd.refl [] wr).drew) (fun hS => ?_)
                  clear hS
                  clear e1 e5 c0
                  apply Plan.blk_intro
                  · intro w' hw Φ HΦ
                    obtain ⟨d0, d1, d2, d3, d4, d5, d6, d7, d8, d9, e1, e5, c0⟩ := hw
                    simp only [Plan.pick, List.map_cons, List.map_nil, List.getD_cons_zero, List.getD_cons_succ]
                    repeat (first | go_values | go_skip | go_guarded | go_step | go_upon)
                    exact ⟨rfl, HΦ.out⟩
                  · kernel_rfl
                  refine Plan.eff_intro (fun K hK hKp => ?_)
                  have HK := Lib.hid hK
                  clear hK hKp
                  simp only [Plan.pick, List.map_cons, List.map_nil, List.getD_cons_zero, List.getD_cons_succ]
                  repeat (first | go_values | go_skip | go_guarded | go_step | go_upon)
                  try dsimp only
                  repeat (first | go_values | go_skip | go_guarded | go_step | go_upon)
                  refine HK.out _ _ (HD.out _ (Upd.refl [] wr).drew) ?_
                  clear HK K
                  apply Plan.blk_intro
                  · intro w' hw Φ HΦ
                    obtain ⟨d0, d1, d2, d3, d4, d5, d6, d7, d8, d9, e1, e5, c0⟩ := hw
                    simp only [Plan.pick, List.map_cons, List.map_nil, List.getD_cons_zero, List.getD_cons_succ]
                    repeat (first | go_values | go_skip | go_guarded | go_step | go_upon)
                    exact ⟨rfl, HΦ.out⟩
                  · kernel_rfl
                  refine Plan.plan_done ?_
                  go_wp2_with fail
                  go_roundg (z - (k + 1))
                  case measure => omega
                  case rel =>
                    refine ⟨k + 1, rfl, by omega, by go_num, Lib.hid HI.out.drew, Lib.hid (fun m hm => ?_)⟩
                    rcases Nat.eq_or_lt_of_le (show m ≤ k by omega) with rfl | h3
                    · intro h4; rw [HA.out] at h4; cases h4
                    · exact HPI.out m h3
        · obtain rfl : k = z := by omega
          have HL := Lib.hid (HST.out (HOK.out.2 HPI.out))
          go_wp2_with fail
          go_roundg (n - (j + 1))
          case measure => omega
          case rel => exact ⟨j + 1, rfl, by omega, by go_num, Lib.hid ((HV.out.trans HX.out).trans HI.out), HL⟩
    · obtain rfl : j = n := by omega
      have HT := Lib.hid (HR.out _ HN.out HP.out)
      go_wp2_with fail
      go_ret
      exact ⟨true, rfl, by simp; exact HT.out, (HU.out.trans HV.out).below⟩
end Go.Proofs.Ytnhgmmjlhhgdoaa
