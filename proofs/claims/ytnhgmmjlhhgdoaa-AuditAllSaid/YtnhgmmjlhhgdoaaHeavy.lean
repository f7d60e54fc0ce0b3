/- What a view is gone through for. -/
import Derived.Test.YtnhgmmjlhhgdoaaAudL
namespace Go.Proofs.Ytnhgmmjlhhgdoaa
open Go Go.RowKit

structure LightN (v : Vw) : Prop where
  nos : v.os.length ≤ 40
  nhs : v.hs.length ≤ 40
  nrs : v.rs.length ≤ 40
  nqs : v.qs.length ≤ 10
  nfs : v.fs.length ≤ 40
  nps : v.ps.length ≤ 40
  qs : ∀ i, i < v.qs.length → (v.qs.getD i []).length ≤ 40
def SaysH (LN : Prop) (w : World) (e : Ending) (w' : World) : Prop := ∃ r, e = .returned (.bool r) ∧ (r = false → LN) ∧ Below w.heap.size w w'
set_option maxRecDepth 100000 in
set_option maxHeartbeats 3200000 in
theorem heavy_walk (v : Vw) (w : World) (S : Sees w v) (hl : v.os.length ≤ 9223372036854775807) (hlq : v.qs.length ≤ 9223372036854775807) : Calls Try.prog 15 #[v.val] w (SaysH (LightN v) w) := by
  have HL : Hid (∀ no nh nr nq nf np : Nat, v.os.length = no → v.hs.length = nh → v.rs.length = nr → v.qs.length = nq → v.fs.length = nf → v.ps.length = np → no ≤ 40 → nh ≤ 40 → nr ≤ 40 → nq ≤ 10 → nf ≤ 40 → np ≤ 40 → (∀ i, i < nq → (v.qs.getD i []).length ≤ 40) → LightN v) := Lib.hid (by
    rintro _ _ _ _ _ _ rfl rfl rfl rfl rfl rfl h1 h2 h3 h4 h5 h6 h7
    exact ⟨h1, h2, h3, h4, h5, h6, h7⟩)
  generalize LightN v = LN at *
  have HO := Lib.hid S.obs
  have HHE := Lib.hid S.helds
  have HRO := Lib.hid S.roots
  have HQU := Lib.hid S.queues
  have HFI := Lib.hid S.fins
  have HPE := Lib.hid S.pend
  clear S
  obtain ⟨oa, oc, os, ha, hc, hs, ra, rc, rs, qa, qc, qs, fa, fc, fs, pa, pc, ps, clock, serial, used, runs⟩ := v
  simp only [Vw.val] at *
  obtain ⟨n, hn⟩ : ∃ n, os.length = n := ⟨_, rfl⟩
  obtain ⟨nh, hnh⟩ : ∃ n, hs.length = n := ⟨_, rfl⟩
  obtain ⟨nr, hnr⟩ : ∃ n, rs.length = n := ⟨_, rfl⟩
  obtain ⟨nqs, hnq⟩ : ∃ n, qs.length = n := ⟨_, rfl⟩
  obtain ⟨nf, hnf⟩ : ∃ n, fs.length = n := ⟨_, rfl⟩
  obtain ⟨np, hnp⟩ : ∃ n, ps.length = n := ⟨_, rfl⟩
  simp only [hn, hnh, hnr, hnq, hnf, hnp] at hl hlq ⊢
  have HN := Lib.hid hn
  have HNH := Lib.hid hnh
  have HNR := Lib.hid hnr
  have HNQ := Lib.hid hnq
  have HNF := Lib.hid hnf
  have HNP := Lib.hid hnp
  clear hn hnh hnr hnq hnf hnp
  go_enter Try.func15, Try.ntmps15
  go_upto_region 1 with fail
  generalize hW : World.alloc w (Obj.cells _ 30) = w1
  have HB : Hid (Blk w1 w.heap.size 30 _) := Lib.hid (by rw [← hW]; exact Blk.new _ _ _)
  have HU : Hid (Upd [] w w1) := Lib.hid (by rw [← hW]; exact (Upd.refl [] w).alloc _)
  have hq : w.heap.size < w1.heap.size := HB.out.lt
  clear hW
  generalize hq0 : w.heap.size = q at *
  have HQ0 := Lib.hid hq0
  clear hq0
  have d0 : w1.cell? ⟨q, 0, none⟩ = some (.slice oa n oc) := vw_cells HB.out (Upd.refl [] w1) rfl
  have d1 : w1.cell? ⟨q, 1, none⟩ = some (.slice ha nh hc) := vw_cells HB.out (Upd.refl [] w1) rfl
  have d2 : w1.cell? ⟨q, 2, none⟩ = some (.slice ra nr rc) := vw_cells HB.out (Upd.refl [] w1) rfl
  have d3 : w1.cell? ⟨q, 3, none⟩ = some (.slice qa nqs qc) := vw_cells HB.out (Upd.refl [] w1) rfl
  have d4 : w1.cell? ⟨q, 4, none⟩ = some (.slice fa nf fc) := vw_cells HB.out (Upd.refl [] w1) rfl
  have d5 : w1.cell? ⟨q, 5, none⟩ = some (.slice pa np pc) := vw_cells HB.out (Upd.refl [] w1) rfl
  have d6 : w1.cell? ⟨q, 6, none⟩ = some (.int .i64 clock) := vw_cells HB.out (Upd.refl [] w1) rfl
  have d7 : w1.cell? ⟨q, 7, none⟩ = some (.int .i64 serial) := vw_cells HB.out (Upd.refl [] w1) rfl
  have d8 : w1.cell? ⟨q, 8, none⟩ = some (.int .i64 used) := vw_cells HB.out (Upd.refl [] w1) rfl
  have d9 : w1.cell? ⟨q, 9, none⟩ = some (.int .i64 runs) := vw_cells HB.out (Upd.refl [] w1) rfl
  obtain ⟨b1, hb1⟩ : ∃ b, decide ((40 : Int) < n) = b := ⟨_, rfl⟩
  obtain ⟨b2, hb2⟩ : ∃ b, decide ((40 : Int) < nh) = b := ⟨_, rfl⟩
  obtain ⟨b3, hb3⟩ : ∃ b, decide ((40 : Int) < nr) = b := ⟨_, rfl⟩
  obtain ⟨b4, hb4⟩ : ∃ b, decide ((10 : Int) < nqs) = b := ⟨_, rfl⟩
  obtain ⟨b5, hb5⟩ : ∃ b, decide ((40 : Int) < nf) = b := ⟨_, rfl⟩
  obtain ⟨b6, hb6⟩ : ∃ b, decide ((40 : Int) < np) = b := ⟨_, rfl⟩
  cases b1 with
  | true =>
    go_wp2_with fail
    go_ret
    exact ⟨true, rfl, (fun h => by cases h), HU.out.below⟩
  | false =>
  cases b2 with
  | true =>
    go_wp2_with fail
    go_ret
    exact ⟨true, rfl, (fun h => by cases h), HU.out.below⟩
  | false =>
  cases b3 with
  | true =>
    go_wp2_with fail
    go_ret
    exact ⟨true, rfl, (fun h => by cases h), HU.out.below⟩
  | false =>
  cases b4 with
  | true =>
    go_wp2_with fail
    go_ret
    exact ⟨true, rfl, (fun h => by cases h), HU.out.below⟩
  | false =>
  cases b5 with
  | true =>
    go_wp2_with fail
    go_ret
    exact ⟨true, rfl, (fun h => by cases h), HU.out.below⟩
  | false =>
  cases b6 with
  | true =>
    go_wp2_with fail
    go_ret
    exact ⟨true, rfl, (fun h => by cases h), HU.out.below⟩
  | false =>
  have H40 : Hid (n ≤ 40 ∧ nh ≤ 40 ∧ nr ≤ 40 ∧ nqs ≤ 10 ∧ nf ≤ 40 ∧ np ≤ 40) := Lib.hid (by
    simp only [decide_eq_false_iff_not] at hb1 hb2 hb3 hb4 hb5 hb6
    omega)
  go_upto_block 0 with fail
  clear d0 d1 d2 d3 d4 d5 d6 d7 d8 d9 hb1 hb2 hb3 hb4 hb5 hb6
  go_cut [] (fun wx => w1 = wx)
  case first =>
    go_wp2_with fail
    go_loopg [3] n (fun gk i wr => ∃ j : Nat, gk = n - j ∧ j ≤ n ∧ i = .int .i64 j ∧ w1 = wr)
    case atStart => exact ⟨0, rfl, by omega, rfl, rfl⟩
    case round =>
      obtain ⟨j, rfl, hj, rfl, rfl⟩ := hrel
      have d0 : w1.cell? ⟨q, 0, none⟩ = some (.slice oa n oc) := vw_cells HB.out (Upd.refl _ _) rfl
      by_cases hlt : j < n
      · obtain ⟨b, off, rfl, hb, ⟨-, -, -, -, -, c5⟩, -⟩ := (HO.out.upd HU.out (by simp)).at HN.out hlt
        generalize (os.getD j ob0).wa = wa at *
        generalize (os.getD j ob0).wc = wc at *
        generalize (os.getD j ob0).ws.length = zz at *
        obtain ⟨b1, hb1⟩ : ∃ b, decide ((80 : Int) < zz) = b := ⟨_, rfl⟩
        cases b1 with
        | true =>
          go_wp2_with fail
          go_ret
          exact ⟨true, rfl, (fun h => by cases h), HU.out.below⟩
        | false =>
          go_wp2_with fail
          go_roundg (n - (j + 1))
          case measure => omega
          case rel => exact ⟨j + 1, rfl, by omega, by go_num, rfl⟩
      · obtain rfl : j = n := by omega
        go_wp2_with fail
        go_meet
        exact rfl
  case rest =>
    obtain rfl := hcut
    go_wp2_with fail
    go_loopg [4] nqs (fun gk i wr => ∃ j : Nat, gk = nqs - j ∧ j ≤ nqs ∧ i = .int .i64 j ∧ w1 = wr ∧ Hid (∀ m, m < j → (qs.getD m []).length ≤ 40))
    case atStart => exact ⟨0, rfl, by omega, rfl, rfl, Lib.hid (fun m h => by omega)⟩
    case round =>
      obtain ⟨j, rfl, hj, rfl, rfl, HP⟩ := hrel
      have d3 : w1.cell? ⟨q, 3, none⟩ = some (.slice qa nqs qc) := vw_cells HB.out (Upd.refl _ _) rfl
      by_cases hlt : j < nqs
      · obtain ⟨bq, oq, Ai, ci, hqa, hbq, cq0, -, -⟩ := HQU.out.at HNQ.out hlt
        subst hqa
        have cq := (HU.out.cell (p := ⟨bq, oq + j, none⟩) hbq (by simp)).trans cq0
        clear cq0
        obtain ⟨zz, hzz⟩ : ∃ z, (qs.getD j []).length = z := ⟨_, rfl⟩
        rw [hzz] at cq
        have HZ := Lib.hid hzz
        clear hzz
        obtain ⟨b1, hb1⟩ : ∃ b, decide ((40 : Int) < zz) = b := ⟨_, rfl⟩
        cases b1 with
        | true =>
          go_wp2_with fail
          go_ret
          exact ⟨true, rfl, (fun h => by cases h), HU.out.below⟩
        | false =>
          have HLE : Hid (zz ≤ 40) := Lib.hid (by simp only [decide_eq_false_iff_not] at hb1; omega)
          go_wp2_with fail
          go_roundg (nqs - (j + 1))
          case measure => omega
          case rel =>
            refine ⟨j + 1, rfl, by omega, by go_num, rfl, Lib.hid (fun m hm => ?_)⟩
            rcases Nat.eq_or_lt_of_le (show m ≤ j by omega) with rfl | h3
            · rw [HZ.out]; exact HLE.out
            · exact HP.out m h3
      · obtain rfl : j = nqs := by omega
        have HT : Hid LN := Lib.hid (by
          obtain ⟨h1, h2, h3, h4, h5, h6⟩ := H40.out
          exact HL.out _ _ _ _ _ _ HN.out HNH.out HNR.out HNQ.out HNF.out HNP.out h1 h2 h3 h4 h5 h6 HP.out)
        go_wp2_with fail
        go_ret
        exact ⟨false, rfl, fun _ => HT.out, HU.out.below⟩
end Go.Proofs.Ytnhgmmjlhhgdoaa
