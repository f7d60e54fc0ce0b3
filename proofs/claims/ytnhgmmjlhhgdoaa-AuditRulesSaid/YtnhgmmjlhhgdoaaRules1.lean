/- The document's first rule of a view. -/
import Derived.Test.YtnhgmmjlhhgdoaaRef20a
import Derived.Test.YtnhgmmjlhhgdoaaHeads2
import Derived.Test.YtnhgmmjlhhgdoaaSizes1
import Derived.Test.YtnhgmmjlhhgdoaaAud
import Derived.Test.YtnhgmmjlhhgdoaaPlan3
namespace Go.Proofs.Ytnhgmmjlhhgdoaa
open Go Go.RowKit

/-- The answer of a rule. -/
def Says (R : Prop) (w : World) (e : Ending) (w' : World) : Prop := ∃ r, e = .returned (.bool r) ∧ (r = true ↔ R) ∧ Below w.heap.size w w'
set_option maxRecDepth 100000 in
set_option maxHeartbeats 3200000 in
theorem rule1_walk (v : Vw) (w : World) (S : Sees w v) (hl : v.os.length ≤ 9223372036854775807) : Calls Try.prog 38 #[v.val] w (Says (R1 v.os) w) := by
  have HO := Lib.hid S.obs
  clear S
  obtain ⟨oa, oc, os, ha, hc, hs, ra, rc, rs, qa, qc, qs, fa, fc, fs, pa, pc, ps, clock, serial, used, runs⟩ := v
  simp only [Vw.val] at HO hl ⊢
  have HR : Hid (∀ n, os.length = n → (∀ i, i < n → Ok1 os i) → R1 os) := Lib.hid (fun n h h1 i hi => h1 i (by omega))
  have HN' : Hid (∀ n i, os.length = n → i < n → ¬ Ok1 os i → ¬ R1 os) := Lib.hid (fun n i h hi h1 h2 => h1 (h2 i (by omega)))
  generalize R1 os = R at *
  obtain ⟨n, hn⟩ : ∃ n, os.length = n := ⟨_, rfl⟩
  generalize hs.length = nh
  generalize rs.length = nr
  generalize qs.length = nqs
  generalize fs.length = nf
  generalize ps.length = np
  rw [hn] at hl ⊢
  have HN := Lib.hid hn
  clear hn
  go_enter Try.func38, Try.ntmps38
  go_wp2_with fail
  generalize hW : World.alloc w (Obj.cells _ 30) = w1
  have HB : Hid (Blk w1 w.heap.size 30 _) := Lib.hid (by rw [← hW]; exact Blk.new _ _ _)
  have HU : Hid (Upd [] w w1) := Lib.hid (by rw [← hW]; exact (Upd.refl [] w).alloc _)
  have hq : w.heap.size < w1.heap.size := HB.out.lt
  clear hW
  generalize hq0 : w.heap.size = q at *
  have HQ := Lib.hid hq0
  clear hq0
  have d0 := HB.out.cell 0
  simp at d0
  have HD := Lib.hid d0
  clear d0 HB
  go_loopg [3] n (fun gk i wr => ∃ j : Nat, gk = n - j ∧ j ≤ n ∧ i = .int .i64 j ∧ Hid (Upd [] w1 wr) ∧ Hid (∀ m, m < j → Ok1 os m))
  case atStart => exact ⟨0, rfl, by omega, rfl, Lib.hid (Upd.refl _ _), Lib.hid (fun m h => by omega)⟩
  case round =>
    obtain ⟨j, rfl, hj, rfl, HV, HP⟩ := hrel
    have d0 : wr.cell? ⟨q, 0, none⟩ = some (.slice oa n oc) := (HV.out.cell (p := ⟨q, 0, none⟩) hq (by simp)).trans HD.out
    have hqr : q < wr.heap.size := Nat.lt_of_lt_of_le hq HV.out.size
    by_cases hlt : j < n
    · obtain ⟨b, off, rfl, hb, ⟨c0, c1, c2, c3, c4, c5⟩, _⟩ := ((HO.out.upd HU.out (by simp)).upd HV.out (by simp)).at HN.out hlt
      have HOK : Hid (Ok1 os j ↔ 64 ≤ (os.getD j ob0).adr ∧ (0 < j → (os.getD (j - 1) ob0).adr < (os.getD j ob0).adr) ∧ mayB (os.getD j ob0).kind (os.getD j ob0).cls (os.getD j ob0).len (os.getD j ob0).fin = true ∧ ((os.getD j ob0).ws.length : Int) = (os.getD j ob0).len) := Lib.hid Iff.rfl
      have hp : 0 < j → wr.cell? ⟨b, off + (j - 1) * 6, none⟩ = some (.int .i64 (os.getD (j - 1) ob0).adr) := fun h0 => by
        obtain ⟨b', off', he, _, ⟨p0, _⟩, _⟩ := ((HO.out.upd HU.out (by simp)).upd HV.out (by simp)).at HN.out (show j - 1 < n by omega)
        simp only [Option.some.injEq, Addr.mk.injEq] at he
        obtain ⟨rfl, rfl, _⟩ := he
        exact p0
      generalize (os.getD (j - 1) ob0).adr = pv at *
      generalize (os.getD j ob0).adr = x at *
      generalize (os.getD j ob0).kind = k at *
      generalize (os.getD j ob0).cls = c at *
      generalize (os.getD j ob0).len = l at *
      generalize (os.getD j ob0).fin = f at *
      generalize (os.getD j ob0).wa = wa at *
      generalize (os.getD j ob0).ws.length = z at *
      generalize (os.getD j ob0).wc = wc at *
      go_wp2_with fail
      generalize hW : World.alloc wr (Obj.cells _ 37) = wo
      have HB : Hid (Blk wo wr.heap.size 37 _) := Lib.hid (by rw [← hW]; exact Blk.new _ _ _)
      have HX : Hid (Upd [] wr wo) := Lib.hid (by rw [← hW]; exact (Upd.refl [] wr).alloc _)
      clear hW
      have d1 : wo.cell? ⟨q, 0, none⟩ = some (.slice (some ⟨b, off, none⟩) n oc) := (HX.out.cell (p := ⟨q, 0, none⟩) hqr (by simp)).trans d0
      generalize hg : wr.heap.size = g at *
      have e0 := HB.out.cell 0
      have e1 := HB.out.cell 1
      have e2 := HB.out.cell 2
      have e3 := HB.out.cell 3
      have e4 := HB.out.cell 4
      have e5 := HB.out.cell 5
      simp at e0 e1 e2 e3 e4 e5
      have HCE : Hid (∀ W, Upd [] wo W → W.cell? ⟨q, 0, none⟩ = some (.slice (some ⟨b, off, none⟩) n oc) ∧ W.cell? ⟨g, 0, none⟩ = some (.int .i64 x) ∧ W.cell? ⟨g, 1, none⟩ = some (.int .i64 k) ∧ W.cell? ⟨g, 2, none⟩ = some (.int .i64 c) ∧ W.cell? ⟨g, 3, none⟩ = some (.int .i64 l) ∧ W.cell? ⟨g, 4, none⟩ = some (.bool f) ∧ W.cell? ⟨g, 5, none⟩ = some (.slice wa z wc)) := Lib.hid fun W hu => by
        have hgo : g < wo.heap.size := HB.out.lt
        have hqo : q < wo.heap.size := by
          have h1 := HX.out.size
          rw [hg] at h1
          omega
        exact ⟨(hu.cell (p := ⟨q, 0, none⟩) hqo (by simp)).trans d1, (hu.cell (p := ⟨g, 0, none⟩) hgo (by simp)).trans e0, (hu.cell (p := ⟨g, 1, none⟩) hgo (by simp)).trans e1, (hu.cell (p := ⟨g, 2, none⟩) hgo (by simp)).trans e2, (hu.cell (p := ⟨g, 3, none⟩) hgo (by simp)).trans e3, (hu.cell (p := ⟨g, 4, none⟩) hgo (by simp)).trans e4, (hu.cell (p := ⟨g, 5, none⟩) hgo (by simp)).trans e5⟩
      have HUW : Hid (Upd [] w wo) := Lib.hid ((HU.out.trans HV.out).trans HX.out)
      by_cases hx : x < 64
      · have HF : Hid (¬ R) := Lib.hid (HN'.out n j HN.out hlt fun h => by have := (HOK.out.1 h).1; omega)
        go_quiet (fail)
        go_wp2_with fail
        go_ret
        exact ⟨false, rfl, by simp; exact HF.out, (HUW.out.drewN _).below⟩
      · have hx64 : decide (x < 64) = false := by simp; omega
        rcases j with _ | j
        · cases hm : mayB k c l f with
          | false =>
            have HF : Hid (¬ R) := Lib.hid (HN'.out n _ HN.out hlt fun h => by have := (HOK.out.1 h).2.2.1; rw [hm] at this; cases this)
            have hq := mayhead_walk k c l f
            rw [hm] at hq
            have HQ := Lib.hid hq
            clear hq hm
            refine Plan.wp_plan [.blk [0, 1, 2, 3, 4, 5, 6, 7, 8, 9, 10, 11, 12, 13, 14, 15, 16, 17, 18, 19, 20, 21], .eff 22, .blk [23, 24, 25, 26, 27, 28, 29, 30, 31, 32, 33]] (fun w' => w'.cell? ⟨q, 0, none⟩ = some (.slice (some ⟨b, off, none⟩) n oc) ∧ w'.cell? ⟨g, 0, none⟩ = some (.int .i64 x) ∧ w'.cell? ⟨g, 1, none⟩ = some (.int .i64 k) ∧ w'.cell? ⟨g, 2, none⟩ = some (.int .i64 c) ∧ w'.cell? ⟨g, 3, none⟩ = some (.int .i64 l) ∧ w'.cell? ⟨g, 4, none⟩ = some (.bool f) ∧ w'.cell? ⟨g, 5, none⟩ = some (.slice wa z wc)) (by kernel_rfl) (by kernel_rfl) (by intro _ _ d _ _ h; cases d <;> exact h) (HCE.out _ (Upd.refl [] wo).drew) (fun hS => ?_)
            clear hS
            clear d1 e0 e1 e2 e3 e4 e5 d0 c0 c1 c2 c3 c4 c5 hp
            apply Plan.blk_intro
            · intro w' hw Φ HΦ
              obtain ⟨d1, e0, e1, e2, e3, e4, e5⟩ := hw
              simp only [Plan.pick, List.map_cons, List.map_nil, List.getD_cons_zero, List.getD_cons_succ]
              repeat (first | go_values | go_skip | go_guarded | go_step | go_upon)
              exact ⟨rfl, HΦ.out⟩
            · kernel_rfl
            refine Plan.eff_intro (fun K hK hKp => ?_)
            have HK := Lib.hid hK
            clear hK hKp
            simp only [Plan.pick, List.map_cons, List.map_nil, List.getD_cons_zero, List.getD_cons_succ]
            repeat (first | go_values | go_skip | go_guarded | go_step | go_upon)
            refine (HQ.out _).mono ?_
            rintro e w5 ⟨rfl, hb5⟩
            have HU5 : Hid (Upd [] wo w5) := Lib.hid (((Upd.refl [] wo).drew).step (Upd.of_below hb5 : Upd [] _ _) (by simp))
            clear hb5
            try dsimp only
            repeat (first | go_values | go_skip | go_guarded | go_step | go_upon)
            refine HK.out _ _ (HCE.out _ HU5.out) ?_
            clear HK K
            apply Plan.blk_intro
            · intro w' hw Φ HΦ
              obtain ⟨d1, e0, e1, e2, e3, e4, e5⟩ := hw
              simp only [Plan.pick, List.map_cons, List.map_nil, List.getD_cons_zero, List.getD_cons_succ]
              repeat (first | go_values | go_skip | go_guarded | go_step | go_upon)
              exact ⟨rfl, HΦ.out⟩
            · kernel_rfl
            refine Plan.plan_done ?_
            go_wp2_with fail
            go_ret
            exact ⟨false, rfl, by simp; exact HF.out, (HUW.out.trans HU5.out).below⟩
          | true =>
            have hq := mayhead_walk k c l f
            rw [hm] at hq
            have HQ := Lib.hid hq
            have HM := Lib.hid hm
            clear hq hm
            by_cases hz : (z : Int) = l
            · have HL : Hid (Ok1 os 0) := Lib.hid (HOK.out.2 ⟨by simp at hx64; omega, (fun h => absurd h (by omega)), HM.out, hz⟩)
              have hz2 : ((z : Int) == l) = true := by simp [hz]
              have hz3 : ((z : Int) != l) = false := by simp [hz]
              clear hz
              refine Plan.wp_plan [.blk [0, 1, 2, 3, 4, 5, 6, 7, 8, 9, 10, 11, 12, 13, 14, 15, 16, 17, 18, 19, 20, 21], .eff 22, .blk [23, 24, 25, 26, 27, 28, 29, 30, 31, 32, 33]] (fun w' => w'.cell? ⟨q, 0, none⟩ = some (.slice (some ⟨b, off, none⟩) n oc) ∧ w'.cell? ⟨g, 0, none⟩ = some (.int .i64 x) ∧ w'.cell? ⟨g, 1, none⟩ = some (.int .i64 k) ∧ w'.cell? ⟨g, 2, none⟩ = some (.int .i64 c) ∧ w'.cell? ⟨g, 3, none⟩ = some (.int .i64 l) ∧ w'.cell? ⟨g, 4, none⟩ = some (.bool f) ∧ w'.cell? ⟨g, 5, none⟩ = some (.slice wa z wc)) (by kernel_rfl) (by kernel_rfl) (by intro _ _ d _ _ h; cases d <;> exact h) (HCE.out _ (Upd.refl [] wo).drew) (fun hS => ?_)
              clear hS
              clear d1 e0 e1 e2 e3 e4 e5 d0 c0 c1 c2 c3 c4 c5 hp
              apply Plan.blk_intro
              · intro w' hw Φ HΦ
                obtain ⟨d1, e0, e1, e2, e3, e4, e5⟩ := hw
                simp only [Plan.pick, List.map_cons, List.map_nil, List.getD_cons_zero, List.getD_cons_succ]
                repeat (first | go_values | go_skip | go_guarded | go_step | go_upon)
                exact ⟨rfl, HΦ.out⟩
              · kernel_rfl
              refine Plan.eff_intro (fun K hK hKp => ?_)
              have HK := Lib.hid hK
              clear hK hKp
              simp only [Plan.pick, List.map_cons, List.map_nil, List.getD_cons_zero, List.getD_cons_succ]
              repeat (first | go_values | go_skip | go_guarded | go_step | go_upon)
              refine (HQ.out _).mono ?_
              rintro e w5 ⟨rfl, hb5⟩
              have HU5 : Hid (Upd [] wo w5) := Lib.hid (((Upd.refl [] wo).drew).step (Upd.of_below hb5 : Upd [] _ _) (by simp))
              clear hb5
              try dsimp only
              repeat (first | go_values | go_skip | go_guarded | go_step | go_upon)
              refine HK.out _ _ (HCE.out _ HU5.out) ?_
              clear HK K
              apply Plan.blk_intro
              · intro w' hw Φ HΦ
                obtain ⟨d1, e0, e1, e2, e3, e4, e5⟩ := hw
                simp only [Plan.pick, List.map_cons, List.map_nil, List.getD_cons_zero, List.getD_cons_succ]
                repeat (first | go_values | go_skip | go_guarded | go_step | go_upon)
                exact ⟨rfl, HΦ.out⟩
              · kernel_rfl
              refine Plan.plan_done ?_
              go_wp2_with fail
              go_roundg (n - (0 + 1))
              case measure => omega
              case rel =>
                refine ⟨0 + 1, rfl, by omega, by go_num, Lib.hid ((HV.out.trans HX.out).trans HU5.out), Lib.hid (fun m hm => ?_)⟩
                rcases Nat.eq_or_lt_of_le (show m ≤ 0 by omega) with rfl | h3
                · exact HL.out
                · exact HP.out m h3
            · have HF : Hid (¬ R) := Lib.hid (HN'.out n _ HN.out hlt fun h => hz (HOK.out.1 h).2.2.2)
              have hz2 : ((z : Int) == l) = false := by simp [hz]
              have hz3 : ((z : Int) != l) = true := by simp [hz]
              clear hz
              refine Plan.wp_plan [.blk [0, 1, 2, 3, 4, 5, 6, 7, 8, 9, 10, 11, 12, 13, 14, 15, 16, 17, 18, 19, 20, 21], .eff 22, .blk [23, 24, 25, 26, 27, 28, 29, 30, 31, 32, 33]] (fun w' => w'.cell? ⟨q, 0, none⟩ = some (.slice (some ⟨b, off, none⟩) n oc) ∧ w'.cell? ⟨g, 0, none⟩ = some (.int .i64 x) ∧ w'.cell? ⟨g, 1, none⟩ = some (.int .i64 k) ∧ w'.cell? ⟨g, 2, none⟩ = some (.int .i64 c) ∧ w'.cell? ⟨g, 3, none⟩ = some (.int .i64 l) ∧ w'.cell? ⟨g, 4, none⟩ = some (.bool f) ∧ w'.cell? ⟨g, 5, none⟩ = some (.slice wa z wc)) (by kernel_rfl) (by kernel_rfl) (by intro _ _ d _ _ h; cases d <;> exact h) (HCE.out _ (Upd.refl [] wo).drew) (fun hS => ?_)
              clear hS
              clear d1 e0 e1 e2 e3 e4 e5 d0 c0 c1 c2 c3 c4 c5 hp
              apply Plan.blk_intro
              · intro w' hw Φ HΦ
                obtain ⟨d1, e0, e1, e2, e3, e4, e5⟩ := hw
                simp only [Plan.pick, List.map_cons, List.map_nil, List.getD_cons_zero, List.getD_cons_succ]
                repeat (first | go_values | go_skip | go_guarded | go_step | go_upon)
                exact ⟨rfl, HΦ.out⟩
              · kernel_rfl
              refine Plan.eff_intro (fun K hK hKp => ?_)
              have HK := Lib.hid hK
              clear hK hKp
              simp only [Plan.pick, List.map_cons, List.map_nil, List.getD_cons_zero, List.getD_cons_succ]
              repeat (first | go_values | go_skip | go_guarded | go_step | go_upon)
              refine (HQ.out _).mono ?_
              rintro e w5 ⟨rfl, hb5⟩
              have HU5 : Hid (Upd [] wo w5) := Lib.hid (((Upd.refl [] wo).drew).step (Upd.of_below hb5 : Upd [] _ _) (by simp))
              clear hb5
              try dsimp only
              repeat (first | go_values | go_skip | go_guarded | go_step | go_upon)
              refine HK.out _ _ (HCE.out _ HU5.out) ?_
              clear HK K
              apply Plan.blk_intro
              · intro w' hw Φ HΦ
                obtain ⟨d1, e0, e1, e2, e3, e4, e5⟩ := hw
                simp only [Plan.pick, List.map_cons, List.map_nil, List.getD_cons_zero, List.getD_cons_succ]
                repeat (first | go_values | go_skip | go_guarded | go_step | go_upon)
                exact ⟨rfl, HΦ.out⟩
              · kernel_rfl
              refine Plan.plan_done ?_
              go_wp2_with fail
              go_ret
              exact ⟨false, rfl, by simp; exact HF.out, (HUW.out.trans HU5.out).below⟩
        · have hp' := hp (by omega)
          clear hp
          rw [Nat.add_sub_cancel] at hp'
          have hp2 : wo.cell? ⟨b, off + j * 6, none⟩ = some (.int .i64 pv) := (HX.out.cell (p := ⟨b, off + j * 6, none⟩) (by rw [hg]; exact hb) (by simp)).trans hp'
          have HCE2 : Hid (∀ W, Upd [] wo W → W.cell? ⟨q, 0, none⟩ = some (.slice (some ⟨b, off, none⟩) n oc) ∧ W.cell? ⟨b, off + j * 6, none⟩ = some (.int .i64 pv) ∧ W.cell? ⟨g, 0, none⟩ = some (.int .i64 x) ∧ W.cell? ⟨g, 1, none⟩ = some (.int .i64 k) ∧ W.cell? ⟨g, 2, none⟩ = some (.int .i64 c) ∧ W.cell? ⟨g, 3, none⟩ = some (.int .i64 l) ∧ W.cell? ⟨g, 4, none⟩ = some (.bool f) ∧ W.cell? ⟨g, 5, none⟩ = some (.slice wa z wc)) := Lib.hid fun W hu =>
            ⟨(HCE.out W hu).1, (hu.cell (p := ⟨b, off + j * 6, none⟩) (Nat.lt_trans hb HB.out.lt) (by simp)).trans hp2, (HCE.out W hu).2⟩
          clear hp' hp2
          have hj0 : decide (((j + 1 : Nat) : Int) > 0) = true := by simp
          have hjs : ((j + 1 : Nat) : Int) - 1 = (j : Int) := by omega
          by_cases hpx : x ≤ pv
          · have HF : Hid (¬ R) := Lib.hid (HN'.out n _ HN.out hlt fun h => by have := (HOK.out.1 h).2.1 (by omega); omega)
            have hpx2 : decide (x ≤ pv) = true := by simpa using hpx
            clear hpx
            have hp : 0 < 1 := by omega
            refine Plan.wp_plan [.blk [0, 1, 2, 3, 4, 5, 6, 7, 8, 9, 10, 11, 12, 13, 14, 15, 16, 17, 18, 19, 20, 21], .eff 22, .blk [23, 24, 25, 26, 27, 28, 29, 30, 31, 32, 33]] (fun w' => w'.cell? ⟨q, 0, none⟩ = some (.slice (some ⟨b, off, none⟩) n oc) ∧ w'.cell? ⟨b, off + j * 6, none⟩ = some (.int .i64 pv) ∧ w'.cell? ⟨g, 0, none⟩ = some (.int .i64 x) ∧ w'.cell? ⟨g, 1, none⟩ = some (.int .i64 k) ∧ w'.cell? ⟨g, 2, none⟩ = some (.int .i64 c) ∧ w'.cell? ⟨g, 3, none⟩ = some (.int .i64 l) ∧ w'.cell? ⟨g, 4, none⟩ = some (.bool f) ∧ w'.cell? ⟨g, 5, none⟩ = some (.slice wa z wc)) (by kernel_rfl) (by kernel_rfl) (by intro _ _ d _ _ h; cases d <;> exact h) (HCE2.out _ (Upd.refl [] wo).drew) (fun hS => ?_)
            clear hS
            clear d1 e0 e1 e2 e3 e4 e5 d0 c0 c1 c2 c3 c4 c5 hp
            apply Plan.blk_intro
            · intro w' hw Φ HΦ
              obtain ⟨d1, hp1, e0, e1, e2, e3, e4, e5⟩ := hw
              simp only [Plan.pick, List.map_cons, List.map_nil, List.getD_cons_zero, List.getD_cons_succ]
              repeat (first | go_values | go_skip | go_guarded | go_step | go_upon)
              exact ⟨rfl, HΦ.out⟩
            · kernel_rfl
            refine Plan.eff_intro (fun K hK hKp => ?_)
            have HK := Lib.hid hK
            clear hK hKp
            simp only [Plan.pick, List.map_cons, List.map_nil, List.getD_cons_zero, List.getD_cons_succ]
            repeat (first | go_values | go_skip | go_guarded | go_step | go_upon)
            try dsimp only
            repeat (first | go_values | go_skip | go_guarded | go_step | go_upon)
            refine HK.out _ _ (HCE2.out _ (Upd.refl [] wo).drew) ?_
            clear HK K
            apply Plan.blk_intro
            · intro w' hw Φ HΦ
              obtain ⟨d1, hp1, e0, e1, e2, e3, e4, e5⟩ := hw
              simp only [Plan.pick, List.map_cons, List.map_nil, List.getD_cons_zero, List.getD_cons_succ]
              repeat (first | go_values | go_skip | go_guarded | go_step | go_upon)
              exact ⟨rfl, HΦ.out⟩
            · kernel_rfl
            refine Plan.plan_done ?_
            go_wp2_with fail
            go_ret
            exact ⟨false, rfl, by simp; exact HF.out, (HUW.out.drew).below⟩
          · have hpx2 : decide (x ≤ pv) = false := by simpa using hpx
            have hp : 0 < 1 := by omega
            have HPX := Lib.hid hpx
            clear hpx
            cases hm : mayB k c l f with
            | false =>
              have HF : Hid (¬ R) := Lib.hid (HN'.out n _ HN.out hlt fun h => by have := (HOK.out.1 h).2.2.1; rw [hm] at this; cases this)
              have hq := mayhead_walk k c l f
              rw [hm] at hq
              have HQ := Lib.hid hq
              clear hq hm
              refine Plan.wp_plan [.blk [0, 1, 2, 3, 4, 5, 6, 7, 8, 9, 10, 11, 12, 13, 14, 15, 16, 17, 18, 19, 20, 21], .eff 22, .blk [23, 24, 25, 26, 27, 28, 29, 30, 31, 32, 33]] (fun w' => w'.cell? ⟨q, 0, none⟩ = some (.slice (some ⟨b, off, none⟩) n oc) ∧ w'.cell? ⟨b, off + j * 6, none⟩ = some (.int .i64 pv) ∧ w'.cell? ⟨g, 0, none⟩ = some (.int .i64 x) ∧ w'.cell? ⟨g, 1, none⟩ = some (.int .i64 k) ∧ w'.cell? ⟨g, 2, none⟩ = some (.int .i64 c) ∧ w'.cell? ⟨g, 3, none⟩ = some (.int .i64 l) ∧ w'.cell? ⟨g, 4, none⟩ = some (.bool f) ∧ w'.cell? ⟨g, 5, none⟩ = some (.slice wa z wc)) (by kernel_rfl) (by kernel_rfl) (by intro _ _ d _ _ h; cases d <;> exact h) (HCE2.out _ (Upd.refl [] wo).drew) (fun hS => ?_)
              clear hS
              clear d1 e0 e1 e2 e3 e4 e5 d0 c0 c1 c2 c3 c4 c5 hp
              apply Plan.blk_intro
              · intro w' hw Φ HΦ
                obtain ⟨d1, hp1, e0, e1, e2, e3, e4, e5⟩ := hw
                simp only [Plan.pick, List.map_cons, List.map_nil, List.getD_cons_zero, List.getD_cons_succ]
                repeat (first | go_values | go_skip | go_guarded | go_step | go_upon)
                exact ⟨rfl, HΦ.out⟩
              · kernel_rfl
              refine Plan.eff_intro (fun K hK hKp => ?_)
              have HK := Lib.hid hK
              clear hK hKp
              simp only [Plan.pick, List.map_cons, List.map_nil, List.getD_cons_zero, List.getD_cons_succ]
              repeat (first | go_values | go_skip | go_guarded | go_step | go_upon)
              refine (HQ.out _).mono ?_
              rintro e w5 ⟨rfl, hb5⟩
              have HU5 : Hid (Upd [] wo w5) := Lib.hid (((Upd.refl [] wo).drew).step (Upd.of_below hb5 : Upd [] _ _) (by simp))
              clear hb5
              try dsimp only
              repeat (first | go_values | go_skip | go_guarded | go_step | go_upon)
              refine HK.out _ _ (HCE2.out _ HU5.out) ?_
              clear HK K
              apply Plan.blk_intro
              · intro w' hw Φ HΦ
                obtain ⟨d1, hp1, e0, e1, e2, e3, e4, e5⟩ := hw
                simp only [Plan.pick, List.map_cons, List.map_nil, List.getD_cons_zero, List.getD_cons_succ]
                repeat (first | go_values | go_skip | go_guarded | go_step | go_upon)
                exact ⟨rfl, HΦ.out⟩
              · kernel_rfl
              refine Plan.plan_done ?_
              go_wp2_with fail
              go_ret
              exact ⟨false, rfl, by simp; exact HF.out, (HUW.out.trans HU5.out).below⟩
            | true =>
              have hq := mayhead_walk k c l f
              rw [hm] at hq
              have HQ := Lib.hid hq
              have HM := Lib.hid hm
              clear hq hm
              by_cases hz : (z : Int) = l
              · have HL : Hid (Ok1 os (j + 1)) := Lib.hid (HOK.out.2 ⟨by simp at hx64; omega, (fun _ => by have := HPX.out; omega), HM.out, hz⟩)
                have hz2 : ((z : Int) == l) = true := by simp [hz]
                have hz3 : ((z : Int) != l) = false := by simp [hz]
                clear hz
                refine Plan.wp_plan [.blk [0, 1, 2, 3, 4, 5, 6, 7, 8, 9, 10, 11, 12, 13, 14, 15, 16, 17, 18, 19, 20, 21], .eff 22, .blk [23, 24, 25, 26, 27, 28, 29, 30, 31, 32, 33]] (fun w' => w'.cell? ⟨q, 0, none⟩ = some (.slice (some ⟨b, off, none⟩) n oc) ∧ w'.cell? ⟨b, off + j * 6, none⟩ = some (.int .i64 pv) ∧ w'.cell? ⟨g, 0, none⟩ = some (.int .i64 x) ∧ w'.cell? ⟨g, 1, none⟩ = some (.int .i64 k) ∧ w'.cell? ⟨g, 2, none⟩ = some (.int .i64 c) ∧ w'.cell? ⟨g, 3, none⟩ = some (.int .i64 l) ∧ w'.cell? ⟨g, 4, none⟩ = some (.bool f) ∧ w'.cell? ⟨g, 5, none⟩ = some (.slice wa z wc)) (by kernel_rfl) (by kernel_rfl) (by intro _ _ d _ _ h; cases d <;> exact h) (HCE2.out _ (Upd.refl [] wo).drew) (fun hS => ?_)
                clear hS
                clear d1 e0 e1 e2 e3 e4 e5 d0 c0 c1 c2 c3 c4 c5 hp
                apply Plan.blk_intro
                · intro w' hw Φ HΦ
                  obtain ⟨d1, hp1, e0, e1, e2, e3, e4, e5⟩ := hw
                  simp only [Plan.pick, List.map_cons, List.map_nil, List.getD_cons_zero, List.getD_cons_succ]
                  repeat (first | go_values | go_skip | go_guarded | go_step | go_upon)
                  exact ⟨rfl, HΦ.out⟩
                · kernel_rfl
                refine Plan.eff_intro (fun K hK hKp => ?_)
                have HK := Lib.hid hK
                clear hK hKp
                simp only [Plan.pick, List.map_cons, List.map_nil, List.getD_cons_zero, List.getD_cons_succ]
                repeat (first | go_values | go_skip | go_guarded | go_step | go_upon)
                refine (HQ.out _).mono ?_
                rintro e w5 ⟨rfl, hb5⟩
                have HU5 : Hid (Upd [] wo w5) := Lib.hid (((Upd.refl [] wo).drew).step (Upd.of_below hb5 : Upd [] _ _) (by simp))
                clear hb5
                try dsimp only
                repeat (first | go_values | go_skip | go_guarded | go_step | go_upon)
                refine HK.out _ _ (HCE2.out _ HU5.out) ?_
                clear HK K
                apply Plan.blk_intro
                · intro w' hw Φ HΦ
                  obtain ⟨d1, hp1, e0, e1, e2, e3, e4, e5⟩ := hw
                  simp only [Plan.pick, List.map_cons, List.map_nil, List.getD_cons_zero, List.getD_cons_succ]
                  repeat (first | go_values | go_skip | go_guarded | go_step | go_upon)
                  exact ⟨rfl, HΦ.out⟩
                · kernel_rfl
                refine Plan.plan_done ?_
                go_wp2_with fail
                go_roundg (n - ((j + 1) + 1))
                case measure => omega
                case rel =>
                  refine ⟨(j + 1) + 1, rfl, by omega, by go_num, Lib.hid ((HV.out.trans HX.out).trans HU5.out), Lib.hid (fun m hm => ?_)⟩
                  rcases Nat.eq_or_lt_of_le (show m ≤ (j + 1) by omega) with rfl | h3
                  · exact HL.out
                  · exact HP.out m h3
              · have HF : Hid (¬ R) := Lib.hid (HN'.out n _ HN.out hlt fun h => hz (HOK.out.1 h).2.2.2)
                have hz2 : ((z : Int) == l) = false := by simp [hz]
                have hz3 : ((z : Int) != l) = true := by simp [hz]
                clear hz
                refine Plan.wp_plan [.blk [0, 1, 2, 3, 4, 5, 6, 7, 8, 9, 10, 11, 12, 13, 14, 15, 16, 17, 18, 19, 20, 21], .eff 22, .blk [23, 24, 25, 26, 27, 28, 29, 30, 31, 32, 33]] (fun w' => w'.cell? ⟨q, 0, none⟩ = some (.slice (some ⟨b, off, none⟩) n oc) ∧ w'.cell? ⟨b, off + j * 6, none⟩ = some (.int .i64 pv) ∧ w'.cell? ⟨g, 0, none⟩ = some (.int .i64 x) ∧ w'.cell? ⟨g, 1, none⟩ = some (.int .i64 k) ∧ w'.cell? ⟨g, 2, none⟩ = some (.int .i64 c) ∧ w'.cell? ⟨g, 3, none⟩ = some (.int .i64 l) ∧ w'.cell? ⟨g, 4, none⟩ = some (.bool f) ∧ w'.cell? ⟨g, 5, none⟩ = some (.slice wa z wc)) (by kernel_rfl) (by kernel_rfl) (by intro _ _ d _ _ h; cases d <;> exact h) (HCE2.out _ (Upd.refl [] wo).drew) (fun hS => ?_)
                clear hS
                clear d1 e0 e1 e2 e3 e4 e5 d0 c0 c1 c2 c3 c4 c5 hp
                apply Plan.blk_intro
                · intro w' hw Φ HΦ
                  obtain ⟨d1, hp1, e0, e1, e2, e3, e4, e5⟩ := hw
                  simp only [Plan.pick, List.map_cons, List.map_nil, List.getD_cons_zero, List.getD_cons_succ]
                  repeat (first | go_values | go_skip | go_guarded | go_step | go_upon)
                  exact ⟨rfl, HΦ.out⟩
                · kernel_rfl
                refine Plan.eff_intro (fun K hK hKp => ?_)
                have HK := Lib.hid hK
                clear hK hKp
                simp only [Plan.pick, List.map_cons, List.map_nil, List.getD_cons_zero, List.getD_cons_succ]
                repeat (first | go_values | go_skip | go_guarded | go_step | go_upon)
                refine (HQ.out _).mono ?_
                rintro e w5 ⟨rfl, hb5⟩
                have HU5 : Hid (Upd [] wo w5) := Lib.hid (((Upd.refl [] wo).drew).step (Upd.of_below hb5 : Upd [] _ _) (by simp))
                clear hb5
                try dsimp only
                repeat (first | go_values | go_skip | go_guarded | go_step | go_upon)
                refine HK.out _ _ (HCE2.out _ HU5.out) ?_
                clear HK K
                apply Plan.blk_intro
                · intro w' hw Φ HΦ
                  obtain ⟨d1, hp1, e0, e1, e2, e3, e4, e5⟩ := hw
                  simp only [Plan.pick, List.map_cons, List.map_nil, List.getD_cons_zero, List.getD_cons_succ]
                  repeat (first | go_values | go_skip | go_guarded | go_step | go_upon)
                  exact ⟨rfl, HΦ.out⟩
                · kernel_rfl
                refine Plan.plan_done ?_
                go_wp2_with fail
                go_ret
                exact ⟨false, rfl, by simp; exact HF.out, (HUW.out.trans HU5.out).below⟩
    · obtain rfl : j = n := by omega
      go_wp2_with fail
      go_ret
      exact ⟨_, rfl, by simp; exact HR.out _ HN.out HP.out, (HU.out.trans HV.out).below⟩
end Go.Proofs.Ytnhgmmjlhhgdoaa
