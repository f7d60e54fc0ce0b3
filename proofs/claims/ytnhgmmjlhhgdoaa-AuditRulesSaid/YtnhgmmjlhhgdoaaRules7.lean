/- The document's seventh rule of a view. -/
import Derived.Test.YtnhgmmjlhhgdoaaRules6
namespace Go.Proofs.Ytnhgmmjlhhgdoaa
open Go Go.RowKit

theorem serials_len : ∀ os : List Ob, (serials os).length ≤ os.length := fun os => by
  unfold serials
  rw [List.length_map]
  exact List.length_filter_le _ _
set_option maxRecDepth 100000 in
set_option maxHeartbeats 3200000 in
theorem rule7_walk (v : Vw) (w : World) (S : Sees w v) (hl : v.os.length ≤ 40) (h1 : R1 v.os) : Calls Try.prog 44 #[v.val] w (Says (R7 v.os v.clock v.serial v.runs) w) := by
  have HR : Hid (∀ n, v.os.length = n → (∀ i, i < n → Ok7 (v.os.getD i ob0) (serials (v.os.take i)) v.serial v.clock) → (R7 v.os v.clock v.serial v.runs ↔ 0 ≤ v.clock ∧ 0 ≤ v.serial ∧ 0 ≤ v.runs)) := Lib.hid (fun _ h1 h2 => ⟨fun h => h.1, fun h => ⟨h, fun i hi => h2 i (by omega)⟩⟩)
  have HN' : Hid (∀ n i, v.os.length = n → i < n → ¬ Ok7 (v.os.getD i ob0) (serials (v.os.take i)) v.serial v.clock → ¬ R7 v.os v.clock v.serial v.runs) := Lib.hid (fun n i h hi h1 h2 => h1 (h2.2 i (by omega)))
  have H5 : Hid (∀ n j, v.os.length = n → j < n → (v.os.getD j ob0).kind = 4 → (v.os.getD j ob0).ws.length = 5) := Lib.hid (fun n j h hj => h1.ref5 (by omega))
  have HSL : Hid (∀ j, (serials (v.os.take j)).length ≤ 40) := Lib.hid (fun j => by
    have := serials_len (v.os.take j)
    have := List.length_take_le j v.os
    have := List.length_take_le' j v.os
    omega)
  have HSS : Hid (∀ n j, v.os.length = n → j < n → serials (v.os.take (j + 1)) = if (v.os.getD j ob0).kind = 4 then serials (v.os.take j) ++ [(v.os.getD j ob0).ws.getD 4 0] else serials (v.os.take j)) := Lib.hid (fun n j h hj => serials_step (by omega))
  clear h1
  have HO := Lib.hid S.obs
  have HHE := Lib.hid S.helds
  have HRO := Lib.hid S.roots
  have HQU := Lib.hid S.queues
  have HFI := Lib.hid S.fins
  have HPE := Lib.hid S.pend
  clear S
  obtain ⟨oa, oc, os, ha, hc, hs, ra, rc, rs, qa, qc, qs, fa, fc, fs, pa, pc, ps, clock, serial, used, runs⟩ := v
  simp only [Vw.val] at *
  generalize R7 os clock serial runs = R at *
  obtain ⟨n, hn⟩ : ∃ n, os.length = n := ⟨_, rfl⟩
  rw [hn] at hl
  simp only [hn]
  have HN := Lib.hid hn
  clear hn
  generalize hs.length = nh at *
  generalize rs.length = nr at *
  generalize qs.length = nqs at *
  generalize fs.length = nf at *
  generalize ps.length = np at *
  go_enter Try.func44, Try.ntmps44
  go_upto_region 1 with fail
  generalize hW : World.alloc w (Obj.cells _ 30) = w1
  have HB : Hid (Blk w1 w.heap.size 30 _) := Lib.hid (by rw [← hW]; exact Blk.new _ _ _)
  have HU : Hid (Upd [] w w1) := Lib.hid (by rw [← hW]; exact (Upd.refl [] w).alloc _)
  have hq : w.heap.size < w1.heap.size := HB.out.lt
  clear hW
  generalize hq0 : w.heap.size = q at *
  have HQ0 := Lib.hid hq0
  clear hq0
  go_wp2_with fail
  go_loopg [3, 4] n (fun gk c i wr => ∃ j : Nat, gk = n - j ∧ j ≤ n ∧ i = .int .i64 j ∧ Hid (Upd [] w1 wr) ∧ Hid (Own wr w1.heap.size c (serials (os.take j))) ∧ Hid (w1.heap.size ≤ wr.heap.size) ∧ Hid (∀ m, m < j → Ok7 (os.getD m ob0) (serials (os.take m)) serial clock))
  case atStart => exact ⟨0, rfl, by omega, rfl, Lib.hid (Upd.refl _ _), Lib.hid (Own.nil _ _), Lib.hid (Nat.le_refl _), Lib.hid (fun m h => by omega)⟩
  case round =>
    obtain ⟨j, rfl, hj, rfl, HV, HC, HSZ, HP⟩ := hrel
    have HUI : Hid (Upd [] w wr) := Lib.hid (HU.out.trans HV.out)
    have d0 : wr.cell? ⟨q, 0, none⟩ = some (.slice oa n oc) := vw_cells HB.out HV.out rfl
    by_cases hlt : j < n
    · obtain ⟨bo, oo, rfl, hbo, ⟨c0, c1, c2, c3, c4, c5⟩, hws⟩ := (HO.out.upd HUI.out (by simp)).at HN.out hlt
      have HWS := Lib.hid hws
      clear hws
      have HJN : Hid (¬ Ok7 (os.getD j ob0) (serials (os.take j)) serial clock → ¬ R) := Lib.hid (HN'.out n j HN.out hlt)
      have HJ4 : Hid (Ok7 (os.getD j ob0) (serials (os.take j)) serial clock ↔ ((os.getD j ob0).kind = 4 → 1 ≤ (os.getD j ob0).ws.getD 4 0 ∧ (os.getD j ob0).ws.getD 4 0 ≤ serial ∧ (os.getD j ob0).ws.getD 4 0 ∉ serials (os.take j) ∧ 0 ≤ (os.getD j ob0).ws.getD 3 0 ∧ (os.getD j ob0).ws.getD 3 0 ≤ clock)) := Lib.hid Iff.rfl
      have HPN : Hid (Ok7 (os.getD j ob0) (serials (os.take j)) serial clock → ∀ m, m < j + 1 → Ok7 (os.getD m ob0) (serials (os.take m)) serial clock) := Lib.hid (fun h m hm => by
        rcases Nat.eq_or_lt_of_le (show m ≤ j by omega) with rfl | h3
        · exact h
        · exact HP.out m h3)
      have HK5 := Lib.hid (H5.out n j HN.out hlt)
      have HSJ := Lib.hid (HSS.out n j HN.out hlt)
      have HLJ := Lib.hid (HSL.out j)
      clear HP
      obtain ⟨L, hL⟩ : ∃ L, serials (os.take j) = L := ⟨_, rfl⟩
      rw [hL] at HJN HJ4 HPN HSJ HLJ HC
      clear hL
      obtain ⟨cA, cc, rfl, hci, -⟩ := HC.out.form
      have HCI := Lib.hid hci
      clear hci
      generalize hnl : L.length = nl at *
      have HNL := Lib.hid hnl
      clear hnl
      generalize Ok7 (os.getD j ob0) L serial clock = OKJ at *
      generalize (os.getD j ob0).adr = ad at *
      generalize (os.getD j ob0).kind = kd at *
      generalize (os.getD j ob0).cls = cl at *
      generalize (os.getD j ob0).len = ln at *
      generalize (os.getD j ob0).fin = fi at *
      generalize (os.getD j ob0).wa = wa at *
      generalize (os.getD j ob0).wc = wc at *
      generalize (os.getD j ob0).ws = ws at *
      go_upto_region 6 with fail
      generalize hW : World.alloc wr (Obj.cells _ 37) = wo
      have HBO : Hid (Blk wo wr.heap.size 37 _) := Lib.hid (by rw [← hW]; exact Blk.new _ _ _)
      have HX : Hid (Upd [] wr wo) := Lib.hid (by rw [← hW]; exact (Upd.refl [] wr).alloc _)
      clear hW d0 c0 c1 c2 c3 c4 c5
      generalize hg : wr.heap.size = g at *
      have e1 : wo.cell? ⟨g, 1, none⟩ = some (.int .i64 kd) := vw_cells HBO.out (Upd.refl _ _) rfl
      have HOWN : Hid (Own wo w1.heap.size (.slice cA nl cc) L) := Lib.hid (HC.out.upd HX.out (by simp))
      have HSO : Hid (w1.heap.size ≤ wo.heap.size) := Lib.hid (by have := HX.out.size; have := HSZ.out; omega)
      by_cases hkd : kd = 4
      · subst hkd
        have h5 := HK5.out rfl
        rw [if_pos rfl] at HSJ
        have e5 : wo.cell? ⟨g, 5, none⟩ = some (.slice wa ws.length wc) := vw_cells HBO.out (Upd.refl _ _) rfl
        rw [h5] at e5
        have hws6 : Reads wo .i64 wa ws := Reads.upd HWS.out HX.out (by simp)
        obtain ⟨wb, wo', hwa, hwb, y4⟩ := hws6.at h5 (show 4 < 5 by omega)
        obtain ⟨wb1, wo1, hwa1, -, y3⟩ := hws6.at h5 (show 3 < 5 by omega)
        have H55 := Lib.hid h5
        clear hws6 h5
        subst hwa
        simp only [Option.some.injEq, Addr.mk.injEq] at hwa1
        obtain ⟨rfl, rfl, -⟩ := hwa1
        generalize ws.getD 4 0 = x at *
        generalize ws.getD 3 0 = t at *
        have h44 : ((4 : Int) != 4) = false := by decide
        have HIN : Hid (∀ W, Upd [] wo W → Calls Try.prog 66 #[.slice cA nl cc, .int .i64 x] W fun e w' => e = .returned (.bool (decide (x ∈ L))) ∧ W = w') := Lib.hid (fun W hu => by
          have := in_walk cA L cc x W ((HCI.out.upd HX.out (.inr (by simp))).upd hu (.inr (by simp))) (by rw [HNL.out]; have := HLJ.out; omega)
          rw [HNL.out] at this
          exact this.mono fun _ _ h => ⟨h.1, h.2.symm⟩)
        have HDD : Hid (∀ W, Upd [] wo W → W.cell? ⟨g, 5, none⟩ = some (.slice (some ⟨wb, wo', none⟩) 5 wc) ∧ W.cell? ⟨wb, wo' + 4, none⟩ = some (.int .i64 x) ∧ W.cell? ⟨wb, wo' + 3, none⟩ = some (.int .i64 t)) := Lib.hid (fun W hu => ⟨vw_cells HBO.out hu (by simp [H55.out]), (hu.cell (p := ⟨wb, wo' + 4, none⟩) hwb (by simp)).trans y4, (hu.cell (p := ⟨wb, wo' + 3, none⟩) hwb (by simp)).trans y3⟩)
        go_wp2_with fail
        refine Plan.wp_plan [.blk [0, 1, 2, 3, 4, 5, 6, 7, 8, 9]] (fun w' => w'.cell? ⟨g, 5, none⟩ = some (.slice (some ⟨wb, wo', none⟩) 5 wc) ∧ w'.cell? ⟨wb, wo' + 4, none⟩ = some (.int .i64 x) ∧ w'.cell? ⟨wb, wo' + 3, none⟩ = some (.int .i64 t)) (by kernel_rfl) (by kernel_rfl) (by intro _ _ d _ _ h; cases d <;> exact h) (HDD.out _ (Upd.refl [] wo).drew) (fun hS => ?_)
        clear hS
        clear e5 y4 y3 e1
        apply Plan.blk_intro
        · intro w' hw Φ HΦ
          obtain ⟨e5, y4, y3⟩ := hw
          simp only [Plan.pick, List.map_cons, List.map_nil, List.getD_cons_zero, List.getD_cons_succ]
          repeat (first | go_values | go_skip | go_guarded | go_step | go_upon)
          exact ⟨rfl, HΦ.out⟩
        · kernel_rfl
        refine Plan.plan_done ?_
        have HUD : Hid (Upd [] wr wo.drew) := Lib.hid HX.out.drew
        generalize hwd : wo.drew = wd at *
        have HX := HUD
        have d6 : wd.cell? ⟨q, 6, none⟩ = some (.int .i64 clock) := vw_cells HB.out (HV.out.trans HX.out) rfl
        have d7 : wd.cell? ⟨q, 7, none⟩ = some (.int .i64 serial) := vw_cells HB.out (HV.out.trans HX.out) rfl
        have HWD : Hid (Upd [] wo wd) := Lib.hid (by rw [← hwd]; exact (Upd.refl [] wo).drew)
        clear hwd
        by_cases hx1 : x < 1
        · have hb1 : decide (x < 1) = true := by simpa using hx1
          have HFR := Lib.hid (HJN.out (fun h => absurd (HJ4.out.1 h (by trivial)).1 (by omega)))
          clear hx1
          go_wp2_with fail
          go_ret
          exact ⟨false, rfl, by simp; exact HFR.out, (HUI.out.trans HX.out).below⟩
        have hb1 : decide (x < 1) = false := by simpa using hx1
        by_cases hx2 : serial < x
        · have hb2 : decide (serial < x) = true := by simpa using hx2
          have HFR := Lib.hid (HJN.out (fun h => absurd (HJ4.out.1 h (by trivial)).2.1 (by omega)))
          clear hx1 hx2
          go_wp2_with fail
          go_ret
          exact ⟨false, rfl, by simp; exact HFR.out, (HUI.out.trans HX.out).below⟩
        have hb2 : decide (serial < x) = false := by simpa using hx2
        by_cases hin : x ∈ L
        · have hb3 : decide (x ∈ L) = true := by simpa using hin
          rw [hb3] at HIN
          have HFR := Lib.hid (HJN.out (fun h => (HJ4.out.1 h (by trivial)).2.2.1 hin))
          clear hb3 hin hx1 hx2
          go_wp2_with fail
          refine (HIN.out _ HWD.out).mono ?_
          rintro e w' ⟨rfl, rfl⟩
          go_wp2_with fail
          go_ret
          exact ⟨false, rfl, by simp; exact HFR.out, (HUI.out.trans HX.out).below⟩
        have hb3 : decide (x ∈ L) = false := by simpa using hin
        rw [hb3] at HIN
        clear hb3
        by_cases hx4 : t < 0
        · have hb4 : decide (t < 0) = true := by simpa using hx4
          have HFR := Lib.hid (HJN.out (fun h => by have := (HJ4.out.1 h (by trivial)).2.2.2.1; omega))
          clear hin hx1 hx2 hx4
          go_wp2_with fail
          refine (HIN.out _ HWD.out).mono ?_
          rintro e w' ⟨rfl, rfl⟩
          go_wp2_with fail
          go_ret
          exact ⟨false, rfl, by simp; exact HFR.out, (HUI.out.trans HX.out).below⟩
        have hb4 : decide (t < 0) = false := by simpa using hx4
        by_cases hx5 : clock < t
        · have hb5 : decide (clock < t) = true := by simpa using hx5
          have HFR := Lib.hid (HJN.out (fun h => by have := (HJ4.out.1 h (by trivial)).2.2.2.2; omega))
          clear hin hx1 hx2 hx4 hx5
          go_wp2_with fail
          refine (HIN.out _ HWD.out).mono ?_
          rintro e w' ⟨rfl, rfl⟩
          go_wp2_with fail
          go_ret
          exact ⟨false, rfl, by simp; exact HFR.out, (HUI.out.trans HX.out).below⟩
        have hb5 : decide (clock < t) = false := by simpa using hx5
        have HL := Lib.hid (HPN.out (HJ4.out.2 (fun _ => ⟨by omega, by omega, hin, by omega, by omega⟩)))
        clear hin hx1 hx2 hx4 hx5
        go_wp2_with fail
        refine (HIN.out _ HWD.out).mono ?_
        rintro e w' ⟨rfl, rfl⟩
        have HO7 : Hid (Own wd w1.heap.size (.slice cA nl cc) L) := Lib.hid (HOWN.out.upd HWD.out (by simp))
        go_wp2_with (at_builtin; refine wpList_push w1 rfl _ _ rfl w1.heap.size _ L rfl (HO7.out.alloc _) wd.heap.size x rfl (Blk.new _ _ _) (by rw [HNL.out]; have := HLJ.out; omega) (Nat.le_refl _) ((HV.out.trans HX.out).alloc _) (by have := HSO.out; have := HWD.out.size; simp; omega) ?_)
        intro v' w7 hO7 hU7 hS7
        have HO8 : Hid (Own w7 w1.heap.size v' (serials (os.take (j + 1)))) := Lib.hid (by rw [HSJ.out]; exact hO7)
        have HU7 := Lib.hid hU7
        have HS7 := Lib.hid hS7
        clear hO7 hU7 hS7
        go_wp2_with fail
        go_roundg (n - (j + 1))
        case measure => omega
        case rel => exact ⟨j + 1, rfl, by omega, by go_num, HU7, HO8, HS7, HL⟩
      · have HL := Lib.hid (HPN.out (HJ4.out.2 (fun h => absurd h hkd)))
        rw [if_neg hkd] at HSJ
        have hkd2 : (kd != 4) = true := by simpa using hkd
        have hkd3 : (kd == 4) = false := by simpa using hkd
        clear hkd
        generalize ws.length = zz at *
        go_wp2_with fail
        go_roundg (n - (j + 1))
        case measure => omega
        case rel => exact ⟨j + 1, rfl, by omega, by go_num, Lib.hid (HV.out.trans HX.out), by rw [HSJ.out]; exact HOWN, HSO, HL⟩
    · obtain rfl : j = n := by omega
      have HT := Lib.hid (HR.out _ HN.out HP.out)
      clear d0
      have d6 : wr.cell? ⟨q, 6, none⟩ = some (.int .i64 clock) := vw_cells HB.out HV.out rfl
      have d7 : wr.cell? ⟨q, 7, none⟩ = some (.int .i64 serial) := vw_cells HB.out HV.out rfl
      have d9 : wr.cell? ⟨q, 9, none⟩ = some (.int .i64 runs) := vw_cells HB.out HV.out rfl
      have d0 : wr.cell? ⟨q, 0, none⟩ = some (.slice oa j oc) := vw_cells HB.out HV.out rfl
      obtain ⟨b1, hb1⟩ : ∃ b, decide (0 ≤ clock) = b := ⟨_, rfl⟩
      obtain ⟨b2, hb2⟩ : ∃ b, decide (0 ≤ serial) = b := ⟨_, rfl⟩
      obtain ⟨b3, hb3⟩ : ∃ b, decide (0 ≤ runs) = b := ⟨_, rfl⟩
      have HB1 := Lib.hid hb1
      have HB2 := Lib.hid hb2
      have HB3 := Lib.hid hb3
      have HE : Hid (R ↔ (b1 && b2 && b3) = true) := Lib.hid (by
        rw [HT.out, ← HB1.out, ← HB2.out, ← HB3.out]
        simp [and_assoc])
      clear HT
      cases b1 with
      | false =>
        go_wp2_with fail
        go_ret
        exact ⟨_, rfl, by rw [HE.out]; simp, HUI.out.below⟩
      | true =>
        cases b2 with
        | false =>
          go_wp2_with fail
          go_ret
          exact ⟨_, rfl, by rw [HE.out]; simp, HUI.out.below⟩
        | true =>
          cases b3 with
          | false =>
            go_wp2_with fail
            go_ret
            exact ⟨_, rfl, by rw [HE.out]; simp, HUI.out.below⟩
          | true =>
            go_wp2_with fail
            go_ret
            exact ⟨_, rfl, by rw [HE.out]; simp, HUI.out.below⟩
end Go.Proofs.Ytnhgmmjlhhgdoaa
