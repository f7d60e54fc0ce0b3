/- The program's fourth rule of a view. -/
import Derived.Test.YtnhgmmjlhhgdoaaPr3
namespace Go.Proofs.Ytnhgmmjlhhgdoaa
open Go Go.RowKit

set_option maxRecDepth 100000 in
set_option maxHeartbeats 1600000 in
theorem leads1_walk (v : Vw) (sh mb rb : Nat) (i : Int) (o : Ob) (w : World) (H : ShAt w v sh mb) (hr : w.cell? ⟨rb, 0, none⟩ = some (.pointer (some ⟨sh, 0, none⟩))) (hrw : rb < w.heap.size) (hws : IsInts w o.wa o.ws) (hl : o.ws.length ≤ 4611686018427387903) (h5 : o.kind = 4 → o.ws.length = 5) :
    Calls Try.prog 59 #[.int .i64 i, o.val, .pointer (some ⟨rb, 0, none⟩)] w (Says (Ok4 v.os o) w) := by
  have HIS : Hid (∀ a W, Upd [] w W → Calls Try.prog 57 #[.pointer (some ⟨sh, 0, none⟩), .int .i64 a] W fun e w' => e = .returned (.bool (decide (Known v.os a))) ∧ Below W.heap.size W w') := Lib.hid (fun a W u => is_walk v sh mb a W (H.upd u (by simp)))
  have HRB : Hid (∀ W, Upd [] w W → W.cell? ⟨rb, 0, none⟩ = some (.pointer (some ⟨sh, 0, none⟩))) := Lib.hid (fun W u => (u.cell (p := ⟨rb, 0, none⟩) hrw (by simp)).trans hr)
  have HWS := Lib.hid hws
  have H5 := Lib.hid h5
  have HOK : Hid (Ok4 v.os o ↔ (o.kind = 2 → ∀ k, k < o.ws.length → Known v.os (o.ws.getD k 0)) ∧ (o.kind = 4 → Known v.os (o.ws.getD 0 0) ∧ Known v.os (o.ws.getD 2 0))) := Lib.hid Iff.rfl
  clear H hr hws h5
  generalize Ok4 v.os o = R at *
  generalize v.os = os at *
  obtain ⟨ad, kd, cl, ln, fi, wa, wc, ws⟩ := o
  simp only [Ob.val] at *
  obtain ⟨z, hz⟩ : ∃ z, ws.length = z := ⟨_, rfl⟩
  rw [hz] at hl H5 HOK ⊢
  have HZ := Lib.hid hz
  clear hz
  go_enter Try.func59, Try.ntmps59
  go_upto_region 1 with fail
  generalize hW : World.alloc w (Obj.cells _ 37) = w1
  have HB : Hid (Blk w1 w.heap.size 37 _) := Lib.hid (by rw [← hW]; exact Blk.new _ _ _)
  have HU : Hid (Upd [] w w1) := Lib.hid (by rw [← hW]; exact (Upd.refl [] w).alloc _)
  clear hW
  generalize hq0 : w.heap.size = q at *
  have HQ0 := Lib.hid hq0
  clear hq0
  have e1 : w1.cell? ⟨q, 1, none⟩ = some (.int .i64 kd) := vw_cells HB.out (Upd.refl _ _) rfl
  have e5 : w1.cell? ⟨q, 5, none⟩ = some (.slice wa z wc) := vw_cells HB.out (Upd.refl _ _) rfl
  by_cases h2 : kd = 2
  · have h2b : (kd == 2) = true := by simp [h2]
    have HO2 : Hid (R ↔ ∀ k, k < z → Known os (ws.getD k 0)) := Lib.hid (by
      rw [HOK.out]
      exact ⟨fun h => h.1 h2, fun h => ⟨fun _ => h, fun h4 => by omega⟩⟩)
    clear h2 HOK H5
    go_wp2_with fail
    go_loopg [16] z (fun gk i wr => ∃ j : Nat, gk = z - j ∧ j ≤ z ∧ i = .int .i64 j ∧ Hid (Upd [] w1 wr) ∧ Hid (∀ m, m < j → Known os (ws.getD m 0)))
    case atStart => exact ⟨0, rfl, by omega, rfl, Lib.hid (Upd.refl _ _), Lib.hid (fun m h => by omega)⟩
    case round =>
      obtain ⟨j, rfl, hj, rfl, HV, HP⟩ := hrel
      by_cases hlt : j < z
      · obtain ⟨b, off, hra, hb, c0⟩ := (Reads.upd HWS.out (HU.out.trans HV.out) (by simp)).at HZ.out hlt
        subst hra
        have r0 := HRB.out _ (HU.out.trans HV.out)
        obtain ⟨x, hx⟩ : ∃ x, ws.getD j 0 = x := ⟨_, rfl⟩
        rw [hx] at c0
        have HXJ := Lib.hid hx
        have hk := HIS.out x _ (HU.out.trans HV.out)
        clear hx e1 e5
        by_cases hkn : Known os x
        · rw [decide_eq_true hkn] at hk
          have HK := Lib.hid hk
          have HL := Lib.hid hkn
          clear hk hkn
          go_wp2_with fail
          refine HK.out.mono ?_
          rintro e w5 ⟨rfl, hb5⟩
          have HX : Hid (Upd [] wr w5) := Lib.hid (Upd.of_below hb5)
          clear hb5 c0 r0
          go_wp2_with fail
          go_roundg (z - (j + 1))
          case measure => omega
          case rel =>
            refine ⟨j + 1, rfl, by omega, by go_num, Lib.hid (HV.out.trans HX.out), Lib.hid (fun m hm => ?_)⟩
            rcases Nat.eq_or_lt_of_le (show m ≤ j by omega) with rfl | h3
            · rw [HXJ.out]; exact HL.out
            · exact HP.out m h3
        · rw [decide_eq_false hkn] at hk
          have HK := Lib.hid hk
          have HFR : Hid (¬ R) := Lib.hid (fun h => hkn (by rw [← HXJ.out]; exact HO2.out.1 h j hlt))
          clear hk hkn
          go_wp2_with fail
          refine HK.out.mono ?_
          rintro e w5 ⟨rfl, hb5⟩
          have HX : Hid (Upd [] wr w5) := Lib.hid (Upd.of_below hb5)
          clear hb5 c0 r0
          go_wp2_with fail
          go_ret
          exact ⟨false, rfl, by simp; exact HFR.out, ((HU.out.trans HV.out).trans HX.out).below⟩
      · obtain rfl : j = z := by omega
        have HT := Lib.hid (HO2.out.2 HP.out)
        go_wp2_with fail
        go_ret
        exact ⟨true, rfl, by simp; exact HT.out, (HU.out.trans HV.out).below⟩
  · have h2b : (kd == 2) = false := by simp [h2]
    by_cases h4 : kd = 4
    · have h4b : (kd == 4) = true := by simp [h4]
      have HO4 : Hid (R ↔ Known os (ws.getD 0 0) ∧ Known os (ws.getD 2 0)) := Lib.hid (by
        rw [HOK.out]
        exact ⟨fun h => h.2 h4, fun h => ⟨fun h3 => absurd h3 h2, fun _ => h⟩⟩)
      have h5 := H5.out h4
      subst h5
      have hws6 : Reads w1 .i64 wa ws := Reads.upd HWS.out HU.out (by simp)
      obtain ⟨wb, wo, hwa, hwb, y0⟩ := hws6.at HZ.out (show 0 < 5 by omega)
      obtain ⟨wb2, wo2, hwa2, -, y2⟩ := hws6.at HZ.out (show 2 < 5 by omega)
      clear hws6 h2 h4 HOK H5
      subst hwa
      simp only [Option.some.injEq, Addr.mk.injEq] at hwa2
      obtain ⟨rfl, rfl, -⟩ := hwa2
      rw [Nat.add_zero] at y0
      generalize ws.getD 0 0 = x0 at *
      generalize ws.getD 2 0 = x2 at *
      have HD : Hid (∀ W, Upd [] w1 W → W.cell? ⟨rb, 0, none⟩ = some (.pointer (some ⟨sh, 0, none⟩)) ∧ W.cell? ⟨q, 5, none⟩ = some (.slice (some ⟨wb, wo, none⟩) 5 wc) ∧ W.cell? ⟨wb, wo, none⟩ = some (.int .i64 x0) ∧ W.cell? ⟨wb, wo + 2, none⟩ = some (.int .i64 x2)) := Lib.hid (fun W u => ⟨HRB.out _ (HU.out.trans u), vw_cells HB.out u rfl, (u.cell (p := ⟨wb, wo, none⟩) hwb (by simp)).trans y0, (u.cell (p := ⟨wb, wo + 2, none⟩) hwb (by simp)).trans y2⟩)
      have HK0 : Hid (∀ W, Upd [] w1 W → Calls Try.prog 57 #[.pointer (some ⟨sh, 0, none⟩), .int .i64 x0] W fun e w' => e = .returned (.bool (decide (Known os x0))) ∧ Below W.heap.size W w') := Lib.hid (fun W u => HIS.out x0 W (HU.out.trans u))
      have HK2 : Hid (∀ W, Upd [] w1 W → Calls Try.prog 57 #[.pointer (some ⟨sh, 0, none⟩), .int .i64 x2] W fun e w' => e = .returned (.bool (decide (Known os x2))) ∧ Below W.heap.size W w') := Lib.hid (fun W u => HIS.out x2 W (HU.out.trans u))
      by_cases hk0 : Known os x0
      · rw [decide_eq_true hk0] at HK0
        have HE : Hid (R ↔ Known os x2) := Lib.hid (by rw [HO4.out]; exact ⟨fun h => h.2, fun h => ⟨hk0, h⟩⟩)
        clear hk0 HO4 y0 y2
        have HE2 : Hid (decide (Known os x2) = true ↔ R) := Lib.hid (by rw [HE.out]; simp)
        generalize decide (Known os x2) = b2 at *
        go_wp2_with fail
        clear e1 e5
        refine Plan.wp_plan [.blk [0, 1, 2, 3, 4, 5], .eff 6, .blk [7, 8, 9, 10, 11, 12, 13], .eff 14, .blk [15, 16]] (fun w' => w'.cell? ⟨rb, 0, none⟩ = some (.pointer (some ⟨sh, 0, none⟩)) ∧ w'.cell? ⟨q, 5, none⟩ = some (.slice (some ⟨wb, wo, none⟩) 5 wc) ∧ w'.cell? ⟨wb, wo, none⟩ = some (.int .i64 x0) ∧ w'.cell? ⟨wb, wo + 2, none⟩ = some (.int .i64 x2)) (by kernel_rfl) (by kernel_rfl) (by intro _ _ d _ _ h; cases d <;> exact h) (HD.out _ (Upd.refl [] w1).drew) (fun hS => ?_)
        clear hS
        apply Plan.blk_intro
        · intro w' hw Φ HΦ
          obtain ⟨r0, e5, y0, y2⟩ := hw
          simp only [Plan.pick, List.map_cons, List.map_nil, List.getD_cons_zero, List.getD_cons_succ]
          repeat (first | go_values | go_skip | go_guarded | go_step | go_upon)
          exact ⟨rfl, HΦ.out⟩
        · kernel_rfl
        refine Plan.eff_intro (fun K hK hKp => ?_)
        have HK := Lib.hid hK
        clear hK hKp
        simp only [Plan.pick, List.map_cons, List.map_nil, List.getD_cons_zero, List.getD_cons_succ]
        repeat (first | go_values | go_skip | go_guarded | go_step | go_upon)
        refine (HK0.out _ (Upd.refl [] w1).drew).mono ?_
        rintro e w2 ⟨rfl, hb2⟩
        have H2 : Hid (Upd [] w1 w2) := Lib.hid (((Upd.refl [] w1).drew).step (Upd.of_below hb2 : Upd [] _ _) (by simp))
        clear hb2
        try dsimp only
        repeat (first | go_values | go_skip | go_guarded | go_step | go_upon)
        refine HK.out _ _ (HD.out _ H2.out) ?_
        clear HK K
        apply Plan.blk_intro
        · intro w' hw Φ HΦ
          obtain ⟨r0, e5, y0, y2⟩ := hw
          simp only [Plan.pick, List.map_cons, List.map_nil, List.getD_cons_zero, List.getD_cons_succ]
          repeat (first | go_values | go_skip | go_guarded | go_step | go_upon)
          exact ⟨rfl, HΦ.out⟩
        · kernel_rfl
        refine Plan.eff_intro (fun K hK hKp => ?_)
        have HK := Lib.hid hK
        clear hK hKp
        simp only [Plan.pick, List.map_cons, List.map_nil, List.getD_cons_zero, List.getD_cons_succ]
        repeat (first | go_values | go_skip | go_guarded | go_step | go_upon)
        refine (HK2.out _ H2.out).mono ?_
        rintro e w3 ⟨rfl, hb3⟩
        have H3 : Hid (Upd [] w1 w3) := Lib.hid (H2.out.step (Upd.of_below hb3 : Upd [] _ _) (by simp))
        clear hb3
        try dsimp only
        repeat (first | go_values | go_skip | go_guarded | go_step | go_upon)
        refine HK.out _ _ (HD.out _ H3.out) ?_
        clear HK K
        apply Plan.blk_intro
        · intro w' hw Φ HΦ
          obtain ⟨r0, e5, y0, y2⟩ := hw
          simp only [Plan.pick, List.map_cons, List.map_nil, List.getD_cons_zero, List.getD_cons_succ]
          repeat (first | go_values | go_skip | go_guarded | go_step | go_upon)
          exact ⟨rfl, HΦ.out⟩
        · kernel_rfl
        refine Plan.plan_done ?_
        go_wp2_with fail
        go_ret
        exact ⟨_, rfl, HE2.out, (HU.out.trans H3.out).below⟩
      · rw [decide_eq_false hk0] at HK0
        have HFR : Hid (¬ R) := Lib.hid (fun h => hk0 (HO4.out.1 h).1)
        clear hk0 HO4 y0 y2
        go_wp2_with fail
        clear e1 e5
        refine Plan.wp_plan [.blk [0, 1, 2, 3, 4, 5], .eff 6, .blk [7, 8, 9, 10, 11, 12, 13], .eff 14, .blk [15, 16]] (fun w' => w'.cell? ⟨rb, 0, none⟩ = some (.pointer (some ⟨sh, 0, none⟩)) ∧ w'.cell? ⟨q, 5, none⟩ = some (.slice (some ⟨wb, wo, none⟩) 5 wc) ∧ w'.cell? ⟨wb, wo, none⟩ = some (.int .i64 x0) ∧ w'.cell? ⟨wb, wo + 2, none⟩ = some (.int .i64 x2)) (by kernel_rfl) (by kernel_rfl) (by intro _ _ d _ _ h; cases d <;> exact h) (HD.out _ (Upd.refl [] w1).drew) (fun hS => ?_)
        clear hS
        apply Plan.blk_intro
        · intro w' hw Φ HΦ
          obtain ⟨r0, e5, y0, y2⟩ := hw
          simp only [Plan.pick, List.map_cons, List.map_nil, List.getD_cons_zero, List.getD_cons_succ]
          repeat (first | go_values | go_skip | go_guarded | go_step | go_upon)
          exact ⟨rfl, HΦ.out⟩
        · kernel_rfl
        refine Plan.eff_intro (fun K hK hKp => ?_)
        have HK := Lib.hid hK
        clear hK hKp
        simp only [Plan.pick, List.map_cons, List.map_nil, List.getD_cons_zero, List.getD_cons_succ]
        repeat (first | go_values | go_skip | go_guarded | go_step | go_upon)
        refine (HK0.out _ (Upd.refl [] w1).drew).mono ?_
        rintro e w2 ⟨rfl, hb2⟩
        have H2 : Hid (Upd [] w1 w2) := Lib.hid (((Upd.refl [] w1).drew).step (Upd.of_below hb2 : Upd [] _ _) (by simp))
        clear hb2
        try dsimp only
        repeat (first | go_values | go_skip | go_guarded | go_step | go_upon)
        refine HK.out _ _ (HD.out _ H2.out) ?_
        clear HK K
        apply Plan.blk_intro
        · intro w' hw Φ HΦ
          obtain ⟨r0, e5, y0, y2⟩ := hw
          simp only [Plan.pick, List.map_cons, List.map_nil, List.getD_cons_zero, List.getD_cons_succ]
          repeat (first | go_values | go_skip | go_guarded | go_step | go_upon)
          exact ⟨rfl, HΦ.out⟩
        · kernel_rfl
        refine Plan.eff_intro (fun K hK hKp => ?_)
        have HK := Lib.hid hK
        clear hK hKp
        simp only [Plan.pick, List.map_cons, List.map_nil, List.getD_cons_zero, List.getD_cons_succ]
        repeat (first | go_values | go_skip | go_guarded | go_step | go_upon)
        try dsimp only
        repeat (first | go_values | go_skip | go_guarded | go_step | go_upon)
        refine HK.out _ _ (HD.out _ H2.out) ?_
        clear HK K
        apply Plan.blk_intro
        · intro w' hw Φ HΦ
          obtain ⟨r0, e5, y0, y2⟩ := hw
          simp only [Plan.pick, List.map_cons, List.map_nil, List.getD_cons_zero, List.getD_cons_succ]
          repeat (first | go_values | go_skip | go_guarded | go_step | go_upon)
          exact ⟨rfl, HΦ.out⟩
        · kernel_rfl
        refine Plan.plan_done ?_
        go_wp2_with fail
        go_ret
        exact ⟨false, rfl, by simp; exact HFR.out, (HU.out.trans H2.out).below⟩
    · have h4b : (kd == 4) = false := by simp [h4]
      have HT : Hid R := Lib.hid (HOK.out.2 ⟨fun h => absurd h h2, fun h => absurd h h4⟩)
      clear h2 h4 HOK H5
      go_wp2_with fail
      go_ret
      exact ⟨true, rfl, by simp; exact HT.out, HU.out.below⟩
def I4 (w : World) (os : List Ob) (i : Nat) (W : World) : Prop := Upd [] w W ∧ ∀ m, m < i → Ok4 os (os.getD m ob0)
theorem leads_step {v : Vw} {sh mb rb n : Nat} {w W : World} {i : Nat} (H : ShAt w v sh mb) (h1 : R1 v.os) (hn : v.os.length = n) (hr : w.cell? ⟨rb, 0, none⟩ = some (.pointer (some ⟨sh, 0, none⟩))) (hrw : rb < w.heap.size) (hi : i < n) (h : I4 w v.os i W) :
    Calls Try.prog 59 (#[.int .i64 (i : Int), (v.os.getD i ob0).val] ++ #[.pointer (some ⟨rb, 0, none⟩)]) W (Rounds (I4 w v.os) (fun W => Upd [] w W ∧ ¬ R4 v.os) (i + 1)) := by
  obtain ⟨g1, g2⟩ := h
  have hws : IsInts W (v.os.getD i ob0).wa (v.os.getD i ob0).ws := by
    obtain ⟨_, _, _, _, _, hw⟩ := (H.sees.obs.upd g1 (by simp)).at hn hi
    exact hw
  have hln := (h1 i (by omega)).2.2
  have hlb : (v.os.getD i ob0).ws.length ≤ 4611686018427387903 := by
    rcases may_cases (v.os.getD i ob0).kind (v.os.getD i ob0).cls (v.os.getD i ob0).len (v.os.getD i ob0).fin with ⟨_, h⟩ | ⟨_, _, h⟩ | ⟨h1, h2, _⟩
    · rw [h] at hln; cases hln.1
    · rw [h] at hln; cases hln.1
    · omega
  refine (leads1_walk v sh mb rb i _ W (H.upd g1 (by simp)) ((g1.cell (p := ⟨rb, 0, none⟩) hrw (by simp)).trans hr) (Nat.lt_of_lt_of_le hrw g1.size) hws hlb (h1.ref5 (by omega))).mono ?_
  rintro e w' ⟨r, rfl, hr2, hb⟩
  have hU : Upd [] w w' := g1.step (Upd.of_below hb : Upd [] _ _) (by simp)
  cases r with
  | true =>
    refine .inl ⟨rfl, hU, fun m hm => ?_⟩
    rcases Nat.eq_or_lt_of_le (show m ≤ i by omega) with rfl | h4
    · exact hr2.1 rfl
    · exact g2 m h4
  | false => exact .inr ⟨rfl, hU, fun h => by have := hr2.2 (h i (by omega)); cases this⟩
set_option maxRecDepth 100000 in
set_option maxHeartbeats 1600000 in
theorem leads_walk (v : Vw) (sh mb : Nat) (w : World) (H : ShAt w v sh mb) (h1 : R1 v.os) (hl : v.os.length ≤ 9223372036854775807) : Calls Try.prog 34 #[.agg #[.pointer (some ⟨sh, 0, none⟩)]] w (Says (R4 v.os) w) := by
  have HSH := Lib.hid H
  have H1 := Lib.hid h1
  clear H h1
  go_enter Try.func34, Try.ntmps34
  go_upto_region 1 with fail
  generalize hW : World.alloc w (Obj.cells _ 62) = w1
  have HB : Hid (Blk w1 w.heap.size 62 #[.pointer (some ⟨sh, 0, none⟩)]) := Lib.hid (by rw [← hW]; exact Blk.new _ _ _)
  have HU : Hid (Upd [] w w1) := Lib.hid (by rw [← hW]; exact (Upd.refl [] w).alloc _)
  have HS1 : Hid (ShAt w1 v sh mb) := Lib.hid (HSH.out.upd HU.out (by simp))
  clear hW
  generalize hq0 : w.heap.size = rb at *
  have hrw : rb < w1.heap.size := HB.out.lt
  have HQ0 := Lib.hid hq0
  clear hq0
  have r0 : w1.cell? ⟨rb, 0, none⟩ = some (.pointer (some ⟨sh, 0, none⟩)) := HB.out.one_of
  have hsw : sh < w1.heap.size := HS1.out.blk.lt
  have HEA := each_walk 59 #[.pointer (some ⟨rb, 0, none⟩)] v.oa v.oc v.os.length v.os sh w1 w1 [] (I4 w1 v.os) (fun W => Upd [] w1 W ∧ ¬ R4 v.os) rfl hl (by simp) HS1.out.sees.obs
    (HS1.out.cell (Upd.refl [] w1) (by simp) rfl) ⟨Upd.refl _ _, fun m h => by omega⟩ (fun i W h => h.1) (fun i W W' h u => ⟨h.1.trans u, h.2⟩)
    hsw enters59 (fun i W hi h => leads_step HS1.out H1.out rfl r0 hrw hi h)
  have HEAC := Lib.hid HEA
  clear HEA
  go_wp2_with fail
  refine HEAC.out.mono ?_
  rintro e w5 (⟨rfl, g1, g2⟩ | ⟨rfl, g1, g2⟩)
  · have HT : Hid (R4 v.os) := Lib.hid g2
    have HG := Lib.hid g1
    clear g1 g2 r0
    go_wp2_with fail
    go_ret
    exact ⟨true, rfl, by simp; exact HT.out, (HU.out.trans HG.out).below⟩
  · have HT := Lib.hid g2
    have HG := Lib.hid g1
    clear g1 g2 r0
    go_wp2_with fail
    go_ret
    exact ⟨false, rfl, by simp; exact HT.out, (HU.out.trans HG.out).below⟩
end Go.Proofs.Ytnhgmmjlhhgdoaa
