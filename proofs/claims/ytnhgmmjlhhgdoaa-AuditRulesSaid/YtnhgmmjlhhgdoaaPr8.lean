/- The program's Check of a view: the first rule that is broken. -/
import Derived.Test.YtnhgmmjlhhgdoaaPr7
namespace Go.Proofs.Ytnhgmmjlhhgdoaa
open Go Go.RowKit

def fnum (j : Nat) : Nat := [31, 32, 33, 34, 35, 36, 37].getD j 0
def Rn (v : Vw) : Nat → Prop
  | 0 => R1 v.os
  | 1 => R2 v.os v.used
  | 2 => R3 v.os v.rs v.hs
  | 3 => R4 v.os
  | 4 => R5 v.os v.qs
  | 5 => R6 v.os (v.fs ++ v.ps)
  | _ => R7 v.os v.clock v.serial v.runs
theorem seven {P : Nat → Prop} (h0 : P 0) (h1 : P 1) (h2 : P 2) (h3 : P 3) (h4 : P 4) (h5 : P 5) (h6 : P 6) : ∀ j, j < 7 → P j := fun j hj => by
  rcases (show j = 0 ∨ j = 1 ∨ j = 2 ∨ j = 3 ∨ j = 4 ∨ j = 5 ∨ j = 6 by omega) with rfl | rfl | rfl | rfl | rfl | rfl | rfl <;> assumption
theorem fnum_enters : ∀ j, j < 7 → ∀ (xs : Array Value) (W : World), (callFunc (fnum j) xs).run Try.prog W = .ok (.enter (fnum j) xs) W :=
  seven (fun _ _ => by kernel_rfl) (fun _ _ => by kernel_rfl) (fun _ _ => by kernel_rfl) (fun _ _ => by kernel_rfl) (fun _ _ => by kernel_rfl) (fun _ _ => by kernel_rfl) (fun _ _ => by kernel_rfl)
theorem check_hit {v : Vw} : ∀ j, j < 7 → (∀ m, m < j → Rn v m) → ¬ Rn v j → CheckIs v ((j : Int) + 1) := by
  refine seven ?_ ?_ ?_ ?_ ?_ ?_ ?_ <;> intro h hn <;> unfold CheckIs
  · exact .inl ⟨rfl, hn⟩
  · exact .inr (.inl ⟨rfl, h 0 (by omega), hn⟩)
  · exact .inr (.inr (.inl ⟨rfl, h 0 (by omega), h 1 (by omega), hn⟩))
  · exact .inr (.inr (.inr (.inl ⟨rfl, h 0 (by omega), h 1 (by omega), h 2 (by omega), hn⟩)))
  · exact .inr (.inr (.inr (.inr (.inl ⟨rfl, h 0 (by omega), h 1 (by omega), h 2 (by omega), h 3 (by omega), hn⟩))))
  · exact .inr (.inr (.inr (.inr (.inr (.inl ⟨rfl, h 0 (by omega), h 1 (by omega), h 2 (by omega), h 3 (by omega), h 4 (by omega), hn⟩)))))
  · exact .inr (.inr (.inr (.inr (.inr (.inr (.inl ⟨rfl, h 0 (by omega), h 1 (by omega), h 2 (by omega), h 3 (by omega), h 4 (by omega), h 5 (by omega), hn⟩))))))
theorem check_none {v : Vw} (h : ∀ m, m < 7 → Rn v m) : CheckIs v 0 :=
  .inr (.inr (.inr (.inr (.inr (.inr (.inr ⟨rfl, h 0 (by omega), h 1 (by omega), h 2 (by omega), h 3 (by omega), h 4 (by omega), h 5 (by omega), h 6 (by omega)⟩))))))
theorem rule_walk (v : Vw) (sh mb : Nat) (W : World) (H : ShAt W v sh mb) (L : Light v) (hrs : v.rs.length ≤ 4611686018427387903) : ∀ j, j < 7 → (∀ m, m < j → Rn v m) → Calls Try.prog (fnum j) #[.agg #[.pointer (some ⟨sh, 0, none⟩)]] W (Says (Rn v j) W) := by
  have l1 := L.nos
  have l2 := L.nhs
  have l3 := L.nqs
  have l4 := L.nfs
  have l5 := L.nps
  refine seven (fun _ => ?_) (fun h => ?_) (fun h => ?_) (fun h => ?_) (fun h => ?_) (fun h => ?_) (fun h => ?_)
  · exact heads_walk v sh mb W H (by omega)
  · exact blocks_walk v sh mb W H l1 (h 0 (by omega)) L.adr
  · exact holds_walk v sh mb W H (h 0 (by omega)) hrs (by omega)
  · exact leads_walk v sh mb W H (h 0 (by omega)) (by omega)
  · exact queues_walk v sh mb W H (h 0 (by omega)) (by omega) (fun q hq => by have := L.qs q hq; omega)
  · exact finals_walk v sh mb W H (h 0 (by omega)) (by omega) (by omega)
  · exact numbers_walk v sh mb W H (h 0 (by omega)) (by omega)
set_option maxRecDepth 100000 in
set_option maxHeartbeats 3200000 in
theorem check_walk (v : Vw) (w : World) (S : Sees w v) (L : Light v) (hrs : v.rs.length ≤ 4611686018427387903) : Calls Try.prog 16 #[v.val] w (SaysC v w) := by
  have HLI := Lib.hid L
  have HRS := Lib.hid hrs
  have HS := Lib.hid S
  have HO := Lib.hid S.obs
  have hl := L.nos
  have HCE : Hid (v.cells = [.slice v.oa v.os.length v.oc, .slice v.ha v.hs.length v.hc, .slice v.ra v.rs.length v.rc, .slice v.qa v.qs.length v.qc, .slice v.fa v.fs.length v.fc, .slice v.pa v.ps.length v.pc, .int .i64 v.clock, .int .i64 v.serial, .int .i64 v.used, .int .i64 v.runs]) := Lib.hid rfl
  clear L hrs S
  unfold Vw.val
  generalize v.oa = oa at *
  generalize v.oc = oc at *
  generalize hn : v.os.length = n at *
  generalize v.ha = ha at *
  generalize v.hc = hc at *
  generalize v.hs.length = nh at *
  generalize v.ra = ra at *
  generalize v.rc = rc at *
  have HRWK : Hid (∀ W sh mb, ShAt W v sh mb → ∀ j, j < 7 → (∀ m, m < j → Rn v m) → Calls Try.prog (fnum j) #[.agg #[.pointer (some ⟨sh, 0, none⟩)]] W (Says (Rn v j) W)) := Lib.hid (fun W sh mb H j => rule_walk v sh mb W H HLI.out HRS.out j)
  generalize v.rs.length = nr at *
  generalize v.qa = qa at *
  generalize v.qc = qc at *
  generalize v.qs.length = nqs at *
  generalize v.fa = fa at *
  generalize v.fc = fc at *
  generalize v.fs.length = nf at *
  generalize v.pa = pa at *
  generalize v.pc = pc at *
  generalize v.ps.length = np at *
  generalize v.clock = clock at *
  generalize v.serial = serial at *
  generalize v.used = used at *
  generalize v.runs = runs at *
  have HN := Lib.hid hn
  clear hn
  have hmm := @run_makeMap Try.prog
  go_enter Try.func16, Try.ntmps16
  go_upto_region 1 with fail
  generalize hW : World.alloc w (Obj.cells _ 30) = w1
  have HB : Hid (Blk w1 w.heap.size 30 _) := Lib.hid (by rw [← hW]; exact Blk.new _ _ _)
  have HU : Hid (Upd [] w w1) := Lib.hid (by rw [← hW]; exact (Upd.refl [] w).alloc _)
  clear hW
  generalize hq0 : w.heap.size = q at *
  have HQ0 := Lib.hid hq0
  clear hq0
  have d0 : w1.cell? ⟨q, 0, none⟩ = some (.slice oa n oc) := vw_cells HB.out (Upd.refl [] w1) rfl
  have d1 : w1.cell? ⟨q, 1, none⟩ = some (.slice ha nh hc) := vw_cells HB.out (Upd.refl [] w1) rfl
  have d2 : w1.cell? ⟨q, 2, none⟩ = some (.slice ra nr rc) := vw_cells HB.out (Upd.refl [] w1) rfl
  have d3 : w1.cell? ⟨q, 3, none⟩ = some (.slice qa nqs qc) := vw_cells HB.out (Upd.refl [] w1) rfl
  have d4 : w1.cell? ⟨q, 4, none⟩ = some (.slice fa nf fc) := vw_cells HB.out (Upd.refl [] w1) rfl
  have d5 : w1.cell? ⟨q, 5, none⟩ = some (.slice pa np pc) := vw_cells HB.out (Upd.refl [] w1) rfl
  have d6 : w1.cell? ⟨q, 6, none⟩ = some (.int .i64 clock) := vw_cells HB.out (Upd.refl [] w1) rfl
  have d7 : w1.cell? ⟨q, 7, none⟩ = some (.int .i64 serial) := vw_cells HB.out (Upd.refl [] w1) rfl
  have d8 : w1.cell? ⟨q, 8, none⟩ = some (.int .i64 used) := vw_cells HB.out (Upd.refl [] w1) rfl
  have d9 : w1.cell? ⟨q, 9, none⟩ = some (.int .i64 runs) := vw_cells HB.out (Upd.refl [] w1) rfl
  go_upto_region 2 with fail
  clear d0 d1 d2 d3 d4 d5 d6 d7 d8 d9 hmm
  generalize hW : World.alloc w1 (Obj.map _ _) = w2
  have HT2 : Hid (Tab w2 w1.heap.size 0 (mapK v.os 0)) := Lib.hid (by rw [← hW]; exact Tab.new w1)
  have H12 : Hid (Upd [] w1 w2) := Lib.hid (by rw [← hW]; exact (Upd.refl [] w1).alloc _)
  have hs2 : w2.heap.size = w1.heap.size + 1 := by rw [← hW]; simp
  clear hW
  rw [← hs2]
  have HNE : Hid (w2.heap.size ≠ w1.heap.size) := Lib.hid (by omega)
  have HM1 : Hid (w1.heap.size ≤ w1.heap.size) := Lib.hid (Nat.le_refl _)
  clear hs2
  generalize hW : World.alloc w2 (Obj.cells _ 60) = w3
  have HC3 : Hid (Blk w3 w2.heap.size 60 (v.cells ++ [Value.map (some w1.heap.size)]).toArray) := Lib.hid (by rw [← hW, HCE.out]; exact Blk.new _ _ _)
  have H23 : Hid (Upd [] w2 w3) := Lib.hid (by rw [← hW]; exact (Upd.refl [] w2).alloc _)
  have H13 : Hid (Upd [] w1 w3) := Lib.hid (H12.out.trans H23.out)
  have HT3 : Hid (Tab w3 w1.heap.size 0 (mapK v.os 0)) := Lib.hid (HT2.out.upd H23.out (by simp))
  clear hW
  generalize w2.heap.size = sh at *
  generalize hmb : w1.heap.size = mb at *
  have HMB := Lib.hid (Nat.le_of_eq hmb)
  clear hmb
  have d0 : w3.cell? ⟨q, 0, none⟩ = some (.slice oa n oc) := vw_cells HB.out H13.out rfl
  go_wp2_with fail
  clear d0
  go_loopg [16] n (fun gk i wr => ∃ j : Nat, gk = n - j ∧ j ≤ n ∧ i = .int .i64 j ∧ Hid (Upd [] w1 wr) ∧ Hid (Blk wr sh 60 (v.cells ++ [Value.map (some mb)]).toArray) ∧ Hid (Tab wr mb j (mapK v.os j)))
  case atStart => exact ⟨0, rfl, by omega, rfl, H13, HC3, HT3⟩
  case round =>
    obtain ⟨j, rfl, hj, rfl, HV, HC, HT⟩ := hrel
    by_cases hlt : j < n
    · obtain ⟨b, off, hoa, hb, ⟨c0, c1, c2, c3, c4, c5⟩, -⟩ := (HO.out.upd (HU.out.trans HV.out) (by simp)).at HN.out hlt
      subst hoa
      have HSTP : Hid ((fun y => if y = (v.os.getD j ob0).adr then some (v.os.getD j ob0).val else mapK v.os j y) = mapK v.os (j + 1)) := Lib.hid rfl
      simp only [Ob.val] at HSTP
      generalize (v.os.getD j ob0).adr = ad at *
      generalize (v.os.getD j ob0).kind = kd at *
      generalize (v.os.getD j ob0).cls = cl at *
      generalize (v.os.getD j ob0).len = ln at *
      generalize (v.os.getD j ob0).fin = fi at *
      generalize (v.os.getD j ob0).wa = wa at *
      generalize (v.os.getD j ob0).wc = wc at *
      generalize (v.os.getD j ob0).ws.length = zz at *
      go_upto_region 5 with fail
      generalize hW : World.alloc wr (Obj.cells _ 37) = wo
      have HBO : Hid (Blk wo wr.heap.size 37 _) := Lib.hid (by rw [← hW]; exact Blk.new _ _ _)
      have HX : Hid (Upd [] wr wo) := Lib.hid (by rw [← hW]; exact (Upd.refl [] wr).alloc _)
      clear hW c0 c1 c2 c3 c4 c5
      generalize hg : wr.heap.size = g at *
      have HG := Lib.hid hg
      clear hg
      have HCO : Hid (Blk wo sh 60 (v.cells ++ [Value.map (some mb)]).toArray) := Lib.hid (HC.out.upd HX.out (by simp))
      have HTO : Hid (Tab wo mb j (mapK v.os j)) := Lib.hid (HT.out.upd HX.out (by simp))
      have HDD : Hid (∀ W, Upd [] wo W → W.cell? ⟨sh, 10, none⟩ = some (.map (some mb)) ∧ W.cell? ⟨g, 0, none⟩ = some (.int .i64 ad) ∧ W.cell? ⟨g, 1, none⟩ = some (.int .i64 kd) ∧ W.cell? ⟨g, 2, none⟩ = some (.int .i64 cl) ∧ W.cell? ⟨g, 3, none⟩ = some (.int .i64 ln) ∧ W.cell? ⟨g, 4, none⟩ = some (.bool fi) ∧ W.cell? ⟨g, 5, none⟩ = some (.slice wa zz wc)) := Lib.hid (fun W u =>
        ⟨vw_cells HCO.out u (by rw [HCE.out]; rfl), vw_cells HBO.out u rfl, vw_cells HBO.out u rfl, vw_cells HBO.out u rfl, vw_cells HBO.out u rfl, vw_cells HBO.out u rfl, vw_cells HBO.out u rfl⟩)
      refine Plan.wp_plan_sink [.blk [0, 1, 2, 3, 4, 5, 6]] 7 (fun w' => w'.cell? ⟨sh, 10, none⟩ = some (.map (some mb)) ∧ w'.cell? ⟨g, 0, none⟩ = some (.int .i64 ad) ∧ w'.cell? ⟨g, 1, none⟩ = some (.int .i64 kd) ∧ w'.cell? ⟨g, 2, none⟩ = some (.int .i64 cl) ∧ w'.cell? ⟨g, 3, none⟩ = some (.int .i64 ln) ∧ w'.cell? ⟨g, 4, none⟩ = some (.bool fi) ∧ w'.cell? ⟨g, 5, none⟩ = some (.slice wa zz wc)) rfl rfl (by kernel_rfl) (by kernel_rfl) (by kernel_rfl) (by kernel_rfl) (by intro _ _ d _ _ h; cases d <;> exact h) (HDD.out _ (Upd.refl [] wo).drew) (fun hS => ?_)
      clear hS
      dsimp only [List.dropLast]
      apply Plan.blk_intro
      · intro w' hw Φ HΦ
        obtain ⟨s10, e0, e1, e2, e3, e4, e5⟩ := hw
        simp only [Plan.pick, List.map_cons, List.map_nil, List.getD_cons_zero, List.getD_cons_succ]
        repeat (first | go_values | go_skip | go_guarded | go_step | go_upon)
        exact ⟨rfl, HΦ.out⟩
      · kernel_rfl
      refine Plan.sink_done ?_
      refine wpList_put_tab rfl _ _ _ 58 3 37 rfl Try.underlying58 Try.underlying3 HTO.out.drew (by rfl) ad (.agg #[.int .i64 ad, .int .i64 kd, .int .i64 cl, .int .i64 ln, .bool fi, .slice wa zz wc]) (by rfl) (by rfl) ?_
      intro w6 hT6 hg6
      rw [HSTP.out] at hT6
      have HT6 := Lib.hid hT6
      have HU6 : Hid (Upd [] w1 w6) := Lib.hid ((HV.out.trans HX.out).drew.grown hg6 (fun i hi => .inr (by simp only [Option.some.injEq] at hi; rw [← hi]; exact HMB.out)))
      have HC6 : Hid (Blk w6 sh 60 (v.cells ++ [Value.map (some mb)]).toArray) := Lib.hid (HCO.out.drew.upd (Upd.grown (E := [mb]) (Upd.refl _ _) hg6 (fun i hi => .inl (by simp only [Option.some.injEq] at hi; simp [hi]))) (by simpa using HNE.out))
      clear hT6 hg6
      go_wp2_with fail
      go_roundg (n - (j + 1))
      case measure => omega
      case rel => exact ⟨j + 1, rfl, by omega, by go_num, HU6, HC6, HT6⟩
    · obtain rfl : j = n := by omega
      have HSH : Hid (ShAt wr v sh mb) := Lib.hid ⟨HC.out, by rw [HN.out]; exact HT.out, HS.out.upd (HU.out.trans HV.out) (by simp)⟩
      clear HT
      have HUW : Hid (Upd [] w wr) := Lib.hid (HU.out.trans HV.out)
      go_upto_region 8 with fail
      generalize hW : World.alloc wr (Obj.cells _ 62) = w7
      have HB7 : Hid (Blk w7 wr.heap.size 62 #[.pointer (some ⟨sh, 0, none⟩)]) := Lib.hid (by rw [← hW]; exact Blk.new _ _ _)
      have H7 : Hid (Upd [] wr w7) := Lib.hid (by rw [← hW]; exact (Upd.refl [] wr).alloc _)
      clear hW
      generalize wr.heap.size = rp at *
      have r0 : w7.cell? ⟨rp, 0, none⟩ = some (.pointer (some ⟨sh, 0, none⟩)) := HB7.out.one_of
      go_upto_block 2 with fail
      generalize hW : World.alloc w7 (Obj.cells _ 24) = w8
      have HB8 : Hid (Blk w8 w7.heap.size 24 _) := Lib.hid (by rw [← hW]; exact Blk.new _ _ _)
      have H8 : Hid (Upd [] wr w8) := Lib.hid (H7.out.trans (by rw [← hW]; exact (Upd.refl [] w7).alloc _))
      clear hW r0
      generalize w7.heap.size = fb at *
      have HFB : Hid (∀ j, j < 7 → ∀ W, Upd [] w8 W → W.cell? ⟨fb, j, none⟩ = some (.func (.func (fnum j)) #[.agg #[.pointer (some ⟨sh, 0, none⟩)]] #[])) := Lib.hid (seven (fun W u => vw_cells HB8.out u rfl) (fun W u => vw_cells HB8.out u rfl) (fun W u => vw_cells HB8.out u rfl) (fun W u => vw_cells HB8.out u rfl) (fun W u => vw_cells HB8.out u rfl) (fun W u => vw_cells HB8.out u rfl) (fun W u => vw_cells HB8.out u rfl))
      have HRW : Hid (∀ j, j < 7 → (∀ m, m < j → Rn v m) → ∀ W, Upd [] w8 W → Calls Try.prog (fnum j) #[.agg #[.pointer (some ⟨sh, 0, none⟩)]] W (Says (Rn v j) W)) := Lib.hid (fun j hj h W u => HRWK.out W sh mb (HSH.out.upd (H8.out.trans u) (by simp)) j hj h)
      go_wp2_with fail
      go_loopg [46] 7 (fun gk i wr => ∃ j : Nat, gk = 7 - j ∧ j ≤ 7 ∧ i = .int .i64 j ∧ Hid (Upd [] w8 wr) ∧ Hid (∀ m, m < j → Rn v m))
      case atStart => exact ⟨0, rfl, by omega, rfl, Lib.hid (Upd.refl _ _), Lib.hid (fun m h => by omega)⟩
      case round =>
        clear HV HC
        obtain ⟨j, rfl, hj, rfl, HV, HP⟩ := hrel
        have HUJ : Hid (Upd [] w wr) := Lib.hid ((HUW.out.trans H8.out).trans HV.out)
        by_cases hlt : j < 7
        · have hlt2 : (j : Int) < 7 := by omega
          have f0 := HFB.out j hlt _ HV.out
          have hen := fnum_enters j hlt
          have HCJ := Lib.hid (HRW.out j hlt HP.out _ HV.out)
          have HHIT := Lib.hid (check_hit j hlt HP.out)
          have HPN : Hid (Rn v j → ∀ m, m < j + 1 → Rn v m) := Lib.hid (fun h m hm => by
            rcases Nat.eq_or_lt_of_le (show m ≤ j by omega) with rfl | h3
            · exact h
            · exact HP.out m h3)
          generalize fnum j = K at *
          generalize Rn v j = RJ at *
          go_wp2_with fail
          refine HCJ.out.mono ?_
          rintro e w9 ⟨r, rfl, hr, hb9⟩
          have H9 : Hid (Upd [] wr w9) := Lib.hid (Upd.of_below hb9)
          have HRR := Lib.hid hr
          clear hr hb9 f0
          cases r with
          | false =>
            have HC := Lib.hid (HHIT.out (fun h => by have := HRR.out.2 h; cases this))
            go_wp2_with fail
            go_ret
            exact ⟨_, rfl, HC.out, (HUJ.out.trans H9.out).below⟩
          | true =>
            have HL := Lib.hid (HPN.out (HRR.out.1 rfl))
            go_wp2_with fail
            go_roundg (7 - (j + 1))
            case measure => omega
            case rel => exact ⟨j + 1, rfl, by omega, by go_num, Lib.hid (HV.out.trans H9.out), HL⟩
        · obtain rfl : j = 7 := by omega
          have HT := Lib.hid (check_none HP.out)
          go_wp2_with fail
          go_ret
          exact ⟨0, rfl, HT.out, HUJ.out.below⟩
end Go.Proofs.Ytnhgmmjlhhgdoaa
