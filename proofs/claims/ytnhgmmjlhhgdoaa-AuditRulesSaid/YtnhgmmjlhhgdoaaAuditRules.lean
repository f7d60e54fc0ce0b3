/- AuditRules: each rule that is broken is told by its number. -/
import Derived.Test.YtnhgmmjlhhgdoaaAuditRules1
namespace Go.Proofs.Ytnhgmmjlhhgdoaa
open Go Go.RowKit

theorem VS_vals (g : Nat) : (VS g).val = .agg #[.slice (some ⟨g + 8, 0, none⟩) 6 6, .slice (some ⟨g + 9, 0, none⟩) 1 1, .slice (some ⟨g + 1, 0, none⟩) 16 16, .slice (some ⟨g + 11, 0, none⟩) 2 2, .slice (some ⟨g + 12, 0, none⟩) 1 1, .slice (some ⟨g + 13, 0, none⟩) 1 1, .int .i64 9, .int .i64 4, .int .i64 32, .int .i64 1] := rfl
set_option maxRecDepth 100000 in
set_option maxHeartbeats 12800000 in
theorem auditRules_law (a : Int) (w : World) (ha : 0 ≤ a ∧ a ≤ 255) : Calls Try.prog 5 #[.int .u8 a] w fun e w' => e = .returned (.bool true) ∧ Below w.heap.size w w' := by
  obtain ⟨ha1, ha2⟩ := ha
  obtain ⟨k, hk⟩ : ∃ k : Nat, a % 28 = k := ⟨(a % 28).toNat, by omega⟩
  have hk28 : k < 28 := by omega
  have HK := Lib.hid hk
  clear hk
  go_enter Try.func5, Try.ntmps5
  go_wp2_with fail
  refine (sound_walk _).mono ?_
  rintro e w1 ⟨he, hB, hs, hU⟩
  rw [VS_vals] at he
  subst he
  have HB := Lib.hid hB
  have HU := Lib.hid hU
  clear hB hU
  generalize hg0 : w.heap.size = g at *
  have HG := Lib.hid hg0
  have HLG := Lib.hid (Nat.le_of_eq hg0)
  clear hg0
  go_upto_region 2 with fail
  generalize hW : World.alloc w1 (Obj.cells _ 30) = w2
  have HB2 : Hid (Blks w2 g (LS1 g)) := Lib.hid (by rw [← hW]; exact HB.out.alloc hs _ _)
  have HU2 : Hid (Upd [] w w2) := Lib.hid (HU.out.trans (by rw [← hW]; exact (Upd.refl [] w1).alloc _))
  have HS2 : Hid (w2.heap.size = g + 15) := Lib.hid (by rw [← hW]; simp [hs])
  clear hW hs
  have HV := Lib.hid (HB2.out 14 _ _ rfl)
  have d0 : w2.cell? ⟨g + 14, 0, none⟩ = some (.slice (some ⟨g + 8, 0, none⟩) 6 6) := HV.out.cell 0
  have d1 : w2.cell? ⟨g + 14, 1, none⟩ = some (.slice (some ⟨g + 9, 0, none⟩) 1 1) := HV.out.cell 1
  have d2 : w2.cell? ⟨g + 14, 2, none⟩ = some (.slice (some ⟨g + 1, 0, none⟩) 16 16) := HV.out.cell 2
  have d3 : w2.cell? ⟨g + 14, 3, none⟩ = some (.slice (some ⟨g + 11, 0, none⟩) 2 2) := HV.out.cell 3
  have d4 : w2.cell? ⟨g + 14, 4, none⟩ = some (.slice (some ⟨g + 12, 0, none⟩) 1 1) := HV.out.cell 4
  have d5 : w2.cell? ⟨g + 14, 5, none⟩ = some (.slice (some ⟨g + 13, 0, none⟩) 1 1) := HV.out.cell 5
  have d6 : w2.cell? ⟨g + 14, 6, none⟩ = some (.int .i64 9) := HV.out.cell 6
  have d7 : w2.cell? ⟨g + 14, 7, none⟩ = some (.int .i64 4) := HV.out.cell 7
  have d8 : w2.cell? ⟨g + 14, 8, none⟩ = some (.int .i64 32) := HV.out.cell 8
  have d9 : w2.cell? ⟨g + 14, 9, none⟩ = some (.int .i64 1) := HV.out.cell 9
  have hgs : Good w2 (VS g) 0 := good_S (g := g) (fun i t cs hi => HB2.out i t cs (by
    unfold LS1
    rw [List.getElem?_append_left (List.getElem?_eq_some_iff.1 hi).1]
    exact hi))
  have hck := hgs.check
  rw [VS_vals] at hck
  have HCK := Lib.hid hck
  clear hgs hck
  go_wp2_with fail
  refine HCK.out.mono ?_
  rintro e w3 ⟨rfl, hb3⟩
  have H23 : Hid (Upd [] w2 w3) := Lib.hid (Upd.of_below hb3)
  have HB3 : Hid (Blks w3 g (LS1 g)) := Lib.hid (HB2.out.upd H23.out)
  clear hb3 d0 d1 d2 d3 d4 d5 d6 d7 d8 d9
  go_upto_region 5 with fail
  generalize hW : World.alloc w3 (Obj.cells _ 3) = w5
  have HWB : Hid (Blk w5 w3.heap.size 3 (ints wants)) := Lib.hid (by rw [← hW]; exact Blk.new _ _ _)
  have H35 : Hid (Upd [] w3 w5) := Lib.hid (by rw [← hW]; exact (Upd.refl [] w3).alloc _)
  have HBK : Hid (Blks w5 g (LS1 g)) := Lib.hid (HB3.out.upd H35.out)
  have HGW : Hid (g + 15 ≤ w3.heap.size) := Lib.hid (by rw [← HS2.out]; exact H23.out.size)
  have HZ : Hid (g + 15 ≤ w5.heap.size) := Lib.hid (Nat.le_trans HGW.out H35.out.size)
  have HUW : Hid (Upd [] w w5) := Lib.hid ((HU2.out.trans H23.out).trans H35.out)
  clear hW
  generalize w3.heap.size = wb at *
  clear HB2 HB3 HB HV HCK H23 H35 HU HU2 HS2
  go_upto_block 0 with fail
  simp only [HK.out]
  go_cut [] (fun wx => Hid (AtEnd w g wb k wx))
  case first =>
    clear ha1 ha2
    rcases (show k = 0 ∨ k = 1 ∨ k = 2 ∨ k = 3 ∨ k = 4 ∨ k = 5 ∨ k = 6 ∨ k = 7 ∨ k = 8 ∨ k = 9 ∨ k = 10 ∨ k = 11 ∨ k = 12 ∨ k = 13 ∨ k = 14 ∨ k = 15 ∨ k = 16 ∨ k = 17 ∨ k = 18 ∨ k = 19 ∨ k = 20 ∨ k = 21 ∨ k = 22 ∨ k = 23 ∨ k = 24 ∨ k = 25 ∨ k = 26 ∨ k = 27 by omega) with rfl | rfl | rfl | rfl | rfl | rfl | rfl | rfl | rfl | rfl | rfl | rfl | rfl | rfl | rfl | rfl | rfl | rfl | rfl | rfl | rfl | rfl | rfl | rfl | rfl | rfl | rfl | rfl
    · as_aux_lemma =>
        have hz2 := HZ.out
        have d0 : w5.cell? ⟨g + 14, 0, none⟩ = some (.slice (some ⟨g + 8, 0, none⟩) 6 6) := (HBK.out 14 _ _ rfl).cell 0
        obtain ⟨u, t0⟩ : ∃ u, w5.cell? ⟨g + 8, 0, none⟩ = some u := ⟨_, (HBK.out 8 _ _ rfl).cell 0⟩
        have f0 : w5.frozen? ⟨g + 8, 0, none⟩ = false := (HBK.out 8 _ _ rfl).frozen 0
        go_wp2_with fail
        go_meet
        exact Lib.hid (sw0 HBK.out HWB.out HGW.out HUW.out HLG.out)
    · as_aux_lemma =>
        have hz2 := HZ.out
        have d0 : w5.cell? ⟨g + 14, 0, none⟩ = some (.slice (some ⟨g + 8, 0, none⟩) 6 6) := (HBK.out 14 _ _ rfl).cell 0
        obtain ⟨u, t0⟩ : ∃ u, w5.cell? ⟨g + 8, 6, none⟩ = some u := ⟨_, (HBK.out 8 _ _ rfl).cell 6⟩
        have f0 : w5.frozen? ⟨g + 8, 6, none⟩ = false := (HBK.out 8 _ _ rfl).frozen 6
        go_wp2_with fail
        go_meet
        exact Lib.hid (sw1 HBK.out HWB.out HGW.out HUW.out HLG.out)
    · as_aux_lemma =>
        have hz2 := HZ.out
        have d0 : w5.cell? ⟨g + 14, 0, none⟩ = some (.slice (some ⟨g + 8, 0, none⟩) 6 6) := (HBK.out 14 _ _ rfl).cell 0
        obtain ⟨u, t0⟩ : ∃ u, w5.cell? ⟨g + 8, 13, none⟩ = some u := ⟨_, (HBK.out 8 _ _ rfl).cell 13⟩
        have f0 : w5.frozen? ⟨g + 8, 13, none⟩ = false := (HBK.out 8 _ _ rfl).frozen 13
        go_wp2_with fail
        go_meet
        exact Lib.hid (sw2 HBK.out HWB.out HGW.out HUW.out HLG.out)
    · as_aux_lemma =>
        have hz2 := HZ.out
        have d0 : w5.cell? ⟨g + 14, 0, none⟩ = some (.slice (some ⟨g + 8, 0, none⟩) 6 6) := (HBK.out 14 _ _ rfl).cell 0
        obtain ⟨u1, t1⟩ : ∃ u, w5.cell? ⟨g + 8, 17, none⟩ = some u := ⟨_, (HBK.out 8 _ _ rfl).cell 17⟩
        have f1 : w5.frozen? ⟨g + 8, 17, none⟩ = false := (HBK.out 8 _ _ rfl).frozen 17
        obtain ⟨u2, t2⟩ : ∃ u, (World.alloc w5 (.cells #[.int .i64 (0), .int .i64 (0)] 3)).cell? ⟨g + 8, 17, none⟩ = some u := ⟨_, (Blks.upd HBK.out ((Upd.refl [] _).alloc _) 8 _ _ rfl).cell 17⟩
        have f2 : (World.alloc w5 (.cells #[.int .i64 (0), .int .i64 (0)] 3)).frozen? ⟨g + 8, 17, none⟩ = false := (Blks.upd HBK.out ((Upd.refl [] _).alloc _) 8 _ _ rfl).frozen 17
        go_wp2_with fail
        go_meet
        exact Lib.hid (sw3 HBK.out HWB.out HGW.out HUW.out HLG.out HZ.out _ rfl)
    · as_aux_lemma =>
        have hz2 := HZ.out
        have d0 : w5.cell? ⟨g + 14, 0, none⟩ = some (.slice (some ⟨g + 8, 0, none⟩) 6 6) := (HBK.out 14 _ _ rfl).cell 0
        obtain ⟨u, t0⟩ : ∃ u, w5.cell? ⟨g + 8, 21, none⟩ = some u := ⟨_, (HBK.out 8 _ _ rfl).cell 21⟩
        have f0 : w5.frozen? ⟨g + 8, 21, none⟩ = false := (HBK.out 8 _ _ rfl).frozen 21
        go_wp2_with fail
        go_meet
        exact Lib.hid (sw4 HBK.out HWB.out HGW.out HUW.out HLG.out)
    · as_aux_lemma =>
        have hz2 := HZ.out
        have d0 : w5.cell? ⟨g + 14, 0, none⟩ = some (.slice (some ⟨g + 8, 0, none⟩) 6 6) := (HBK.out 14 _ _ rfl).cell 0
        obtain ⟨u, t0⟩ : ∃ u, w5.cell? ⟨g + 8, 6, none⟩ = some u := ⟨_, (HBK.out 8 _ _ rfl).cell 6⟩
        have f0 : w5.frozen? ⟨g + 8, 6, none⟩ = false := (HBK.out 8 _ _ rfl).frozen 6
        obtain ⟨u1, t1⟩ : ∃ u, w5.cell? ⟨g + 14, 5, none⟩ = some u := ⟨_, (HBK.out 14 _ _ rfl).cell 5⟩
        have f1 : w5.frozen? ⟨g + 14, 5, none⟩ = false := (HBK.out 14 _ _ rfl).frozen 5
        obtain ⟨u2, t2⟩ : ∃ u, (World.alloc (w5.setCell ⟨g + 8, 6, none⟩ (.int .i64 (65))) (.cells #[.int .i64 (65)] 3)).cell? ⟨g + 14, 5, none⟩ = some u := ⟨_, (Blks.upd (Blks.set HBK.out (j := 8) rfl 6 (.int .i64 (65))) ((Upd.refl [] _).alloc _) 14 _ _ rfl).cell 5⟩
        have f2 : (World.alloc (w5.setCell ⟨g + 8, 6, none⟩ (.int .i64 (65))) (.cells #[.int .i64 (65)] 3)).frozen? ⟨g + 14, 5, none⟩ = false := (Blks.upd (Blks.set HBK.out (j := 8) rfl 6 (.int .i64 (65))) ((Upd.refl [] _).alloc _) 14 _ _ rfl).frozen 5
        go_wp2_with fail
        go_meet
        exact Lib.hid (sw5 HBK.out HWB.out HGW.out HUW.out HLG.out HZ.out _ rfl)
    · as_aux_lemma =>
        have hz2 := HZ.out
        obtain ⟨u, t0⟩ : ∃ u, w5.cell? ⟨g + 14, 8, none⟩ = some u := ⟨_, (HBK.out 14 _ _ rfl).cell 8⟩
        have f0 : w5.frozen? ⟨g + 14, 8, none⟩ = false := (HBK.out 14 _ _ rfl).frozen 8
        go_wp2_with fail
        go_meet
        exact Lib.hid (sw6 HBK.out HWB.out HGW.out HUW.out HLG.out)
    · as_aux_lemma =>
        have hz2 := HZ.out
        have d0 : w5.cell? ⟨g + 14, 2, none⟩ = some (.slice (some ⟨g + 1, 0, none⟩) 16 16) := (HBK.out 14 _ _ rfl).cell 2
        obtain ⟨u1, t1⟩ : ∃ u, w5.cell? ⟨g + 14, 2, none⟩ = some u := ⟨_, (HBK.out 14 _ _ rfl).cell 2⟩
        have f1 : w5.frozen? ⟨g + 14, 2, none⟩ = false := (HBK.out 14 _ _ rfl).frozen 2
        go_wp2_with fail
        go_meet
        exact Lib.hid (sw7 HBK.out HWB.out HGW.out HUW.out HLG.out)
    · as_aux_lemma =>
        have hz2 := HZ.out
        have d0 : w5.cell? ⟨g + 14, 2, none⟩ = some (.slice (some ⟨g + 1, 0, none⟩) 16 16) := (HBK.out 14 _ _ rfl).cell 2
        obtain ⟨u, t0⟩ : ∃ u, w5.cell? ⟨g + 1, 9, none⟩ = some u := ⟨_, (HBK.out 1 _ _ rfl).cell 9⟩
        have f0 : w5.frozen? ⟨g + 1, 9, none⟩ = false := (HBK.out 1 _ _ rfl).frozen 9
        go_wp2_with fail
        go_meet
        exact Lib.hid (sw8 HBK.out HWB.out HGW.out HUW.out HLG.out)
    · as_aux_lemma =>
        have hz2 := HZ.out
        have d0 : w5.cell? ⟨g + 14, 1, none⟩ = some (.slice (some ⟨g + 9, 0, none⟩) 1 1) := (HBK.out 14 _ _ rfl).cell 1
        obtain ⟨u, t0⟩ : ∃ u, w5.cell? ⟨g + 9, 1, none⟩ = some u := ⟨_, (HBK.out 9 _ _ rfl).cell 1⟩
        have f0 : w5.frozen? ⟨g + 9, 1, none⟩ = false := (HBK.out 9 _ _ rfl).frozen 1
        go_wp2_with fail
        go_meet
        exact Lib.hid (sw9 HBK.out HWB.out HGW.out HUW.out HLG.out)
    · as_aux_lemma =>
        have hz2 := HZ.out
        have d0 : w5.cell? ⟨g + 14, 0, none⟩ = some (.slice (some ⟨g + 8, 0, none⟩) 6 6) := (HBK.out 14 _ _ rfl).cell 0
        have d1 : w5.cell? ⟨g + 8, 17, none⟩ = some (.slice (some ⟨g + 4, 0, none⟩) 3 3) := (HBK.out 8 _ _ rfl).cell 17
        obtain ⟨u, t0⟩ : ∃ u, w5.cell? ⟨g + 4, 1, none⟩ = some u := ⟨_, (HBK.out 4 _ _ rfl).cell 1⟩
        have f0 : w5.frozen? ⟨g + 4, 1, none⟩ = false := (HBK.out 4 _ _ rfl).frozen 1
        go_wp2_with fail
        go_meet
        exact Lib.hid (sw10 HBK.out HWB.out HGW.out HUW.out HLG.out)
    · as_aux_lemma =>
        have hz2 := HZ.out
        have d0 : w5.cell? ⟨g + 14, 0, none⟩ = some (.slice (some ⟨g + 8, 0, none⟩) 6 6) := (HBK.out 14 _ _ rfl).cell 0
        have d1 : w5.cell? ⟨g + 8, 35, none⟩ = some (.slice (some ⟨g + 7, 0, none⟩) 5 5) := (HBK.out 8 _ _ rfl).cell 35
        obtain ⟨u, t0⟩ : ∃ u, w5.cell? ⟨g + 7, 0, none⟩ = some u := ⟨_, (HBK.out 7 _ _ rfl).cell 0⟩
        have f0 : w5.frozen? ⟨g + 7, 0, none⟩ = false := (HBK.out 7 _ _ rfl).frozen 0
        go_wp2_with fail
        go_meet
        exact Lib.hid (sw11 HBK.out HWB.out HGW.out HUW.out HLG.out)
    · as_aux_lemma =>
        have hz2 := HZ.out
        have d0 : w5.cell? ⟨g + 14, 0, none⟩ = some (.slice (some ⟨g + 8, 0, none⟩) 6 6) := (HBK.out 14 _ _ rfl).cell 0
        have d1 : w5.cell? ⟨g + 8, 35, none⟩ = some (.slice (some ⟨g + 7, 0, none⟩) 5 5) := (HBK.out 8 _ _ rfl).cell 35
        obtain ⟨u, t0⟩ : ∃ u, w5.cell? ⟨g + 7, 2, none⟩ = some u := ⟨_, (HBK.out 7 _ _ rfl).cell 2⟩
        have f0 : w5.frozen? ⟨g + 7, 2, none⟩ = false := (HBK.out 7 _ _ rfl).frozen 2
        go_wp2_with fail
        go_meet
        exact Lib.hid (sw12 HBK.out HWB.out HGW.out HUW.out HLG.out)
    · as_aux_lemma =>
        have hz2 := HZ.out
        have d0 : w5.cell? ⟨g + 14, 3, none⟩ = some (.slice (some ⟨g + 11, 0, none⟩) 2 2) := (HBK.out 14 _ _ rfl).cell 3
        obtain ⟨u1, t1⟩ : ∃ u, w5.cell? ⟨g + 11, 1, none⟩ = some u := ⟨_, (HBK.out 11 _ _ rfl).cell 1⟩
        have f1 : w5.frozen? ⟨g + 11, 1, none⟩ = false := (HBK.out 11 _ _ rfl).frozen 1
        obtain ⟨u2, t2⟩ : ∃ u, (World.alloc w5 (.cells #[.int .i64 (66)] 3)).cell? ⟨g + 11, 1, none⟩ = some u := ⟨_, (Blks.upd HBK.out ((Upd.refl [] _).alloc _) 11 _ _ rfl).cell 1⟩
        have f2 : (World.alloc w5 (.cells #[.int .i64 (66)] 3)).frozen? ⟨g + 11, 1, none⟩ = false := (Blks.upd HBK.out ((Upd.refl [] _).alloc _) 11 _ _ rfl).frozen 1
        go_wp2_with fail
        go_meet
        exact Lib.hid (sw13 HBK.out HWB.out HGW.out HUW.out HLG.out HZ.out _ rfl)
    · as_aux_lemma =>
        have hz2 := HZ.out
        have d0 : w5.cell? ⟨g + 14, 3, none⟩ = some (.slice (some ⟨g + 11, 0, none⟩) 2 2) := (HBK.out 14 _ _ rfl).cell 3
        obtain ⟨u1, t1⟩ : ∃ u, w5.cell? ⟨g + 11, 0, none⟩ = some u := ⟨_, (HBK.out 11 _ _ rfl).cell 0⟩
        have f1 : w5.frozen? ⟨g + 11, 0, none⟩ = false := (HBK.out 11 _ _ rfl).frozen 0
        obtain ⟨u2, t2⟩ : ∃ u, (World.alloc w5 (.cells #[.int .i64 (192)] 3)).cell? ⟨g + 11, 0, none⟩ = some u := ⟨_, (Blks.upd HBK.out ((Upd.refl [] _).alloc _) 11 _ _ rfl).cell 0⟩
        have f2 : (World.alloc w5 (.cells #[.int .i64 (192)] 3)).frozen? ⟨g + 11, 0, none⟩ = false := (Blks.upd HBK.out ((Upd.refl [] _).alloc _) 11 _ _ rfl).frozen 0
        go_wp2_with fail
        go_meet
        exact Lib.hid (sw14 HBK.out HWB.out HGW.out HUW.out HLG.out HZ.out _ rfl)
    · as_aux_lemma =>
        have hz2 := HZ.out
        have d0 : w5.cell? ⟨g + 14, 0, none⟩ = some (.slice (some ⟨g + 8, 0, none⟩) 6 6) := (HBK.out 14 _ _ rfl).cell 0
        have d1 : w5.cell? ⟨g + 8, 23, none⟩ = some (.slice (some ⟨g + 5, 0, none⟩) 5 5) := (HBK.out 8 _ _ rfl).cell 23
        obtain ⟨u, t0⟩ : ∃ u, w5.cell? ⟨g + 5, 1, none⟩ = some u := ⟨_, (HBK.out 5 _ _ rfl).cell 1⟩
        have f0 : w5.frozen? ⟨g + 5, 1, none⟩ = false := (HBK.out 5 _ _ rfl).frozen 1
        go_wp2_with fail
        go_meet
        exact Lib.hid (sw15 HBK.out HWB.out HGW.out HUW.out HLG.out)
    · as_aux_lemma =>
        have hz2 := HZ.out
        have d0 : w5.cell? ⟨g + 14, 0, none⟩ = some (.slice (some ⟨g + 8, 0, none⟩) 6 6) := (HBK.out 14 _ _ rfl).cell 0
        have d1 : w5.cell? ⟨g + 8, 29, none⟩ = some (.slice (some ⟨g + 6, 0, none⟩) 5 5) := (HBK.out 8 _ _ rfl).cell 29
        obtain ⟨u, t0⟩ : ∃ u, w5.cell? ⟨g + 6, 0, none⟩ = some u := ⟨_, (HBK.out 6 _ _ rfl).cell 0⟩
        have f0 : w5.frozen? ⟨g + 6, 0, none⟩ = false := (HBK.out 6 _ _ rfl).frozen 0
        go_wp2_with fail
        go_meet
        exact Lib.hid (sw16 HBK.out HWB.out HGW.out HUW.out HLG.out)
    · as_aux_lemma =>
        have hz2 := HZ.out
        have d0 : w5.cell? ⟨g + 14, 3, none⟩ = some (.slice (some ⟨g + 11, 0, none⟩) 2 2) := (HBK.out 14 _ _ rfl).cell 3
        obtain ⟨u1, t1⟩ : ∃ u, w5.cell? ⟨g + 11, 1, none⟩ = some u := ⟨_, (HBK.out 11 _ _ rfl).cell 1⟩
        have f1 : w5.frozen? ⟨g + 11, 1, none⟩ = false := (HBK.out 11 _ _ rfl).frozen 1
        obtain ⟨u2, t2⟩ : ∃ u, (World.alloc w5 (.cells #[.int .i64 (200)] 3)).cell? ⟨g + 11, 1, none⟩ = some u := ⟨_, (Blks.upd HBK.out ((Upd.refl [] _).alloc _) 11 _ _ rfl).cell 1⟩
        have f2 : (World.alloc w5 (.cells #[.int .i64 (200)] 3)).frozen? ⟨g + 11, 1, none⟩ = false := (Blks.upd HBK.out ((Upd.refl [] _).alloc _) 11 _ _ rfl).frozen 1
        go_wp2_with fail
        go_meet
        exact Lib.hid (sw17 HBK.out HWB.out HGW.out HUW.out HLG.out HZ.out _ rfl)
    · as_aux_lemma =>
        have hz2 := HZ.out
        obtain ⟨u1, t1⟩ : ∃ u, w5.cell? ⟨g + 14, 4, none⟩ = some u := ⟨_, (HBK.out 14 _ _ rfl).cell 4⟩
        have f1 : w5.frozen? ⟨g + 14, 4, none⟩ = false := (HBK.out 14 _ _ rfl).frozen 4
        obtain ⟨u2, t2⟩ : ∃ u, (World.alloc w5 (.cells #[.int .i64 (128)] 3)).cell? ⟨g + 14, 4, none⟩ = some u := ⟨_, (Blks.upd HBK.out ((Upd.refl [] _).alloc _) 14 _ _ rfl).cell 4⟩
        have f2 : (World.alloc w5 (.cells #[.int .i64 (128)] 3)).frozen? ⟨g + 14, 4, none⟩ = false := (Blks.upd HBK.out ((Upd.refl [] _).alloc _) 14 _ _ rfl).frozen 4
        go_wp2_with fail
        go_meet
        exact Lib.hid (sw18 HBK.out HWB.out HGW.out HUW.out HLG.out HZ.out _ rfl)
    · as_aux_lemma =>
        have hz2 := HZ.out
        obtain ⟨u1, t1⟩ : ∃ u, w5.cell? ⟨g + 14, 4, none⟩ = some u := ⟨_, (HBK.out 14 _ _ rfl).cell 4⟩
        have f1 : w5.frozen? ⟨g + 14, 4, none⟩ = false := (HBK.out 14 _ _ rfl).frozen 4
        obtain ⟨u2, t2⟩ : ∃ u, (World.alloc w5 (.cells #[.int .i64 (64), .int .i64 (66)] 3)).cell? ⟨g + 14, 4, none⟩ = some u := ⟨_, (Blks.upd HBK.out ((Upd.refl [] _).alloc _) 14 _ _ rfl).cell 4⟩
        have f2 : (World.alloc w5 (.cells #[.int .i64 (64), .int .i64 (66)] 3)).frozen? ⟨g + 14, 4, none⟩ = false := (Blks.upd HBK.out ((Upd.refl [] _).alloc _) 14 _ _ rfl).frozen 4
        go_wp2_with fail
        go_meet
        exact Lib.hid (sw19 HBK.out HWB.out HGW.out HUW.out HLG.out HZ.out _ rfl)
    · as_aux_lemma =>
        have hz2 := HZ.out
        obtain ⟨u1, t1⟩ : ∃ u, w5.cell? ⟨g + 14, 5, none⟩ = some u := ⟨_, (HBK.out 14 _ _ rfl).cell 5⟩
        have f1 : w5.frozen? ⟨g + 14, 5, none⟩ = false := (HBK.out 14 _ _ rfl).frozen 5
        obtain ⟨u2, t2⟩ : ∃ u, (World.alloc w5 (.cells #[.int .i64 (66), .int .i64 (66)] 3)).cell? ⟨g + 14, 5, none⟩ = some u := ⟨_, (Blks.upd HBK.out ((Upd.refl [] _).alloc _) 14 _ _ rfl).cell 5⟩
        have f2 : (World.alloc w5 (.cells #[.int .i64 (66), .int .i64 (66)] 3)).frozen? ⟨g + 14, 5, none⟩ = false := (Blks.upd HBK.out ((Upd.refl [] _).alloc _) 14 _ _ rfl).frozen 5
        go_wp2_with fail
        go_meet
        exact Lib.hid (sw20 HBK.out HWB.out HGW.out HUW.out HLG.out HZ.out _ rfl)
    · as_aux_lemma =>
        have hz2 := HZ.out
        obtain ⟨u1, t1⟩ : ∃ u, w5.cell? ⟨g + 14, 4, none⟩ = some u := ⟨_, (HBK.out 14 _ _ rfl).cell 4⟩
        have f1 : w5.frozen? ⟨g + 14, 4, none⟩ = false := (HBK.out 14 _ _ rfl).frozen 4
        obtain ⟨u2, t2⟩ : ∃ u, (World.alloc w5 (.cells #[.int .i64 (65)] 3)).cell? ⟨g + 14, 4, none⟩ = some u := ⟨_, (Blks.upd HBK.out ((Upd.refl [] _).alloc _) 14 _ _ rfl).cell 4⟩
        have f2 : (World.alloc w5 (.cells #[.int .i64 (65)] 3)).frozen? ⟨g + 14, 4, none⟩ = false := (Blks.upd HBK.out ((Upd.refl [] _).alloc _) 14 _ _ rfl).frozen 4
        go_wp2_with fail
        go_meet
        exact Lib.hid (sw21 HBK.out HWB.out HGW.out HUW.out HLG.out HZ.out _ rfl)
    · as_aux_lemma =>
        have hz2 := HZ.out
        have d0 : w5.cell? ⟨g + 14, 0, none⟩ = some (.slice (some ⟨g + 8, 0, none⟩) 6 6) := (HBK.out 14 _ _ rfl).cell 0
        have d1 : w5.cell? ⟨g + 8, 35, none⟩ = some (.slice (some ⟨g + 7, 0, none⟩) 5 5) := (HBK.out 8 _ _ rfl).cell 35
        obtain ⟨u, t0⟩ : ∃ u, w5.cell? ⟨g + 7, 4, none⟩ = some u := ⟨_, (HBK.out 7 _ _ rfl).cell 4⟩
        have f0 : w5.frozen? ⟨g + 7, 4, none⟩ = false := (HBK.out 7 _ _ rfl).frozen 4
        go_wp2_with fail
        go_meet
        exact Lib.hid (sw22 HBK.out HWB.out HGW.out HUW.out HLG.out)
    · as_aux_lemma =>
        have hz2 := HZ.out
        have d0 : w5.cell? ⟨g + 14, 0, none⟩ = some (.slice (some ⟨g + 8, 0, none⟩) 6 6) := (HBK.out 14 _ _ rfl).cell 0
        have d1 : w5.cell? ⟨g + 8, 35, none⟩ = some (.slice (some ⟨g + 7, 0, none⟩) 5 5) := (HBK.out 8 _ _ rfl).cell 35
        obtain ⟨u, t0⟩ : ∃ u, w5.cell? ⟨g + 7, 4, none⟩ = some u := ⟨_, (HBK.out 7 _ _ rfl).cell 4⟩
        have f0 : w5.frozen? ⟨g + 7, 4, none⟩ = false := (HBK.out 7 _ _ rfl).frozen 4
        go_wp2_with fail
        go_meet
        exact Lib.hid (sw23 HBK.out HWB.out HGW.out HUW.out HLG.out)
    · as_aux_lemma =>
        have hz2 := HZ.out
        have d0 : w5.cell? ⟨g + 14, 0, none⟩ = some (.slice (some ⟨g + 8, 0, none⟩) 6 6) := (HBK.out 14 _ _ rfl).cell 0
        have d1 : w5.cell? ⟨g + 8, 35, none⟩ = some (.slice (some ⟨g + 7, 0, none⟩) 5 5) := (HBK.out 8 _ _ rfl).cell 35
        obtain ⟨u, t0⟩ : ∃ u, w5.cell? ⟨g + 7, 4, none⟩ = some u := ⟨_, (HBK.out 7 _ _ rfl).cell 4⟩
        have f0 : w5.frozen? ⟨g + 7, 4, none⟩ = false := (HBK.out 7 _ _ rfl).frozen 4
        go_wp2_with fail
        go_meet
        exact Lib.hid (sw24 HBK.out HWB.out HGW.out HUW.out HLG.out)
    · as_aux_lemma =>
        have hz2 := HZ.out
        have d0 : w5.cell? ⟨g + 14, 0, none⟩ = some (.slice (some ⟨g + 8, 0, none⟩) 6 6) := (HBK.out 14 _ _ rfl).cell 0
        have d1 : w5.cell? ⟨g + 8, 29, none⟩ = some (.slice (some ⟨g + 6, 0, none⟩) 5 5) := (HBK.out 8 _ _ rfl).cell 29
        obtain ⟨u, t0⟩ : ∃ u, w5.cell? ⟨g + 6, 3, none⟩ = some u := ⟨_, (HBK.out 6 _ _ rfl).cell 3⟩
        have f0 : w5.frozen? ⟨g + 6, 3, none⟩ = false := (HBK.out 6 _ _ rfl).frozen 3
        go_wp2_with fail
        go_meet
        exact Lib.hid (sw25 HBK.out HWB.out HGW.out HUW.out HLG.out)
    · as_aux_lemma =>
        have hz2 := HZ.out
        have d0 : w5.cell? ⟨g + 14, 0, none⟩ = some (.slice (some ⟨g + 8, 0, none⟩) 6 6) := (HBK.out 14 _ _ rfl).cell 0
        have d1 : w5.cell? ⟨g + 8, 29, none⟩ = some (.slice (some ⟨g + 6, 0, none⟩) 5 5) := (HBK.out 8 _ _ rfl).cell 29
        obtain ⟨u, t0⟩ : ∃ u, w5.cell? ⟨g + 6, 3, none⟩ = some u := ⟨_, (HBK.out 6 _ _ rfl).cell 3⟩
        have f0 : w5.frozen? ⟨g + 6, 3, none⟩ = false := (HBK.out 6 _ _ rfl).frozen 3
        go_wp2_with fail
        go_meet
        exact Lib.hid (sw26 HBK.out HWB.out HGW.out HUW.out HLG.out)
    · as_aux_lemma =>
        have hz2 := HZ.out
        obtain ⟨u, t0⟩ : ∃ u, w5.cell? ⟨g + 14, 9, none⟩ = some u := ⟨_, (HBK.out 14 _ _ rfl).cell 9⟩
        have f0 : w5.frozen? ⟨g + 14, 9, none⟩ = false := (HBK.out 14 _ _ rfl).frozen 9
        go_wp2_with fail
        go_meet
        exact Lib.hid (sw27 HBK.out HWB.out HGW.out HUW.out HLG.out)
  case rest =>
      obtain ⟨V, hgood, hvb, hwant, huc⟩ := hcut.out
      have HWC : Hid (Upd [] w wc) := Lib.hid huc
      have HGD := Lib.hid hgood
      have hwk : ∀ W, Upd [] wc W → W.cell? ⟨wb, k, none⟩ = some (.int .i64 (wants.getD k 0)) := fun W u => (hwant.upd u (by simp)).int k hk28
      have hwv : (wants.getD k 0 == 0) = false ∧ 1 ≤ wants.getD k 0 ∧ wants.getD k 0 ≤ 7 := by
        have : ∀ k, k < 28 → ((wants.getD k 0 == 0) = false ∧ 1 ≤ wants.getD k 0 ∧ wants.getD k 0 ≤ 7) := by decide
        exact this k hk28
      have hck : ∀ W, Upd [] wc W → Calls Try.prog 16 #[V.val] W fun e w' => e = .returned (.int .i64 (wants.getD k 0)) ∧ Below W.heap.size W w' := fun W u => (hgood.upd u).check
      have HVC : Hid (∀ W, Upd [] wc W → ∀ i v, V.cells[i]? = some v → W.cell? ⟨g + 14, i, none⟩ = some v) := Lib.hid (fun W u i v h => by rw [(hvb.upd u (by simp)).cell i]; simpa using h)
      generalize wants.getD k 0 = m at *
      obtain ⟨hwv0, hwv1, hwv2⟩ := hwv
      obtain ⟨oa, oc, os, ha, hc, hs, ra, rc, rs, qa, qc, qs, fa, fc, fs, pa, pc, ps, clock, serial, used, runs⟩ := V
      have HCE : Hid ((⟨oa, oc, os, ha, hc, hs, ra, rc, rs, qa, qc, qs, fa, fc, fs, pa, pc, ps, clock, serial, used, runs⟩ : Vw).cells = [.slice oa os.length oc, .slice ha hs.length hc, .slice ra rs.length rc, .slice qa qs.length qc, .slice fa fs.length fc, .slice pa ps.length pc, .int .i64 clock, .int .i64 serial, .int .i64 used, .int .i64 runs]) := Lib.hid rfl
      have HGV : Hid (∀ W, Upd [] wc W → Good W ⟨oa, oc, os, ha, hc, hs, ra, rc, rs, qa, qc, qs, fa, fc, fs, pa, pc, ps, clock, serial, used, runs⟩ m) := Lib.hid (fun W u => hgood.upd u)
      generalize (⟨oa, oc, os, ha, hc, hs, ra, rc, rs, qa, qc, qs, fa, fc, fs, pa, pc, ps, clock, serial, used, runs⟩ : Vw) = V at HGV HCE
      have HD : Hid (∀ W, Upd [] wc W → (W.cell? ⟨g + 14, 0, none⟩ = some (.slice oa os.length oc) ∧ W.cell? ⟨g + 14, 1, none⟩ = some (.slice ha hs.length hc) ∧ W.cell? ⟨g + 14, 2, none⟩ = some (.slice ra rs.length rc) ∧ W.cell? ⟨g + 14, 3, none⟩ = some (.slice qa qs.length qc) ∧ W.cell? ⟨g + 14, 4, none⟩ = some (.slice fa fs.length fc) ∧ W.cell? ⟨g + 14, 5, none⟩ = some (.slice pa ps.length pc) ∧ W.cell? ⟨g + 14, 6, none⟩ = some (.int .i64 clock) ∧ W.cell? ⟨g + 14, 7, none⟩ = some (.int .i64 serial) ∧ W.cell? ⟨g + 14, 8, none⟩ = some (.int .i64 used) ∧ W.cell? ⟨g + 14, 9, none⟩ = some (.int .i64 runs)) ∧ W.cell? ⟨wb, k, none⟩ = some (.int .i64 m)) := Lib.hid (fun W u => ⟨⟨HVC.out W u 0 _ rfl, HVC.out W u 1 _ rfl, HVC.out W u 2 _ rfl, HVC.out W u 3 _ rfl, HVC.out W u 4 _ rfl, HVC.out W u 5 _ rfl, HVC.out W u 6 _ rfl, HVC.out W u 7 _ rfl, HVC.out W u 8 _ rfl, HVC.out W u 9 _ rfl⟩, hwk W u⟩)
      simp only [Vw.val] at hck
      clear hgood hvb hwant huc hwk HVC HGD hcut
      generalize os.length = no at *
      generalize hs.length = nh at *
      generalize rs.length = nr at *
      generalize qs.length = nqs at *
      generalize fs.length = nf at *
      generalize ps.length = np at *
      have HCK := Lib.hid hck
      clear hck
      have hk1 : (k : Int) < 28 := by omega
      go_upto_region 63 with fail
      refine Plan.wp_plan [.blk [0, 2, 3, 4, 5], .eff 1, .blk [6, 7, 9], .eff 8, .eff 10, .eff 11, .blk [12, 13, 14], .eff 15, .eff 16, .eff 17, .eff 18, .eff 19, .blk [20, 21], .eff 22, .blk [23, 24]] (fun w' => (w'.cell? ⟨g + 14, 0, none⟩ = some (.slice oa no oc) ∧ w'.cell? ⟨g + 14, 1, none⟩ = some (.slice ha nh hc) ∧ w'.cell? ⟨g + 14, 2, none⟩ = some (.slice ra nr rc) ∧ w'.cell? ⟨g + 14, 3, none⟩ = some (.slice qa nqs qc) ∧ w'.cell? ⟨g + 14, 4, none⟩ = some (.slice fa nf fc) ∧ w'.cell? ⟨g + 14, 5, none⟩ = some (.slice pa np pc) ∧ w'.cell? ⟨g + 14, 6, none⟩ = some (.int .i64 clock) ∧ w'.cell? ⟨g + 14, 7, none⟩ = some (.int .i64 serial) ∧ w'.cell? ⟨g + 14, 8, none⟩ = some (.int .i64 used) ∧ w'.cell? ⟨g + 14, 9, none⟩ = some (.int .i64 runs)) ∧ w'.cell? ⟨wb, k, none⟩ = some (.int .i64 m)) (by kernel_rfl) (by kernel_rfl) (by intro _ _ d _ _ h; cases d <;> exact h) (HD.out _ (Upd.refl [] wc).drew) (fun hS => ?_)
      clear hS
      apply Plan.blk_intro
      · intro w' hw Φ HΦ
        obtain ⟨⟨d0, d1, d2, d3, d4, d5, d6, d7, d8, d9⟩, k0⟩ := hw
        simp only [Plan.pick, List.map_cons, List.map_nil, List.getD_cons_zero, List.getD_cons_succ]
        repeat (first | go_values | go_skip | go_guarded | go_step | go_upon)
        exact ⟨rfl, HΦ.out⟩
      · kernel_rfl
      refine Plan.eff_intro (fun K hK hKp => ?_)
      have HK := Lib.hid hK
      clear hK hKp
      simp only [Plan.pick, List.map_cons, List.map_nil, List.getD_cons_zero, List.getD_cons_succ]
      repeat (first | go_values | go_skip | go_guarded | go_step | go_upon)
      refine (HCK.out _ (Upd.refl [] wc).drew).mono ?_
      rintro e w1 ⟨rfl, hb1⟩
      have H1 : Hid (Upd [] wc w1) := Lib.hid ((Upd.refl [] wc).drew.step (Upd.of_below hb1 : Upd [] _ _) (by simp))
      clear hb1
      try dsimp only
      repeat (first | go_values | go_skip | go_guarded | go_step | go_upon)
      refine HK.out _ _ (HD.out _ H1.out) ?_
      clear HK K
      apply Plan.blk_intro
      · intro w' hw Φ HΦ
        obtain ⟨⟨d0, d1, d2, d3, d4, d5, d6, d7, d8, d9⟩, k0⟩ := hw
        simp only [Plan.pick, List.map_cons, List.map_nil, List.getD_cons_zero, List.getD_cons_succ]
        repeat (first | go_values | go_skip | go_guarded | go_step | go_upon)
        exact ⟨rfl, HΦ.out⟩
      · kernel_rfl
      refine Plan.eff_intro (fun K hK hKp => ?_)
      have HK := Lib.hid hK
      clear hK hKp
      simp only [Plan.pick, List.map_cons, List.map_nil, List.getD_cons_zero, List.getD_cons_succ]
      repeat (first | go_values | go_skip | go_guarded | go_step | go_upon)
      refine (sound_walk _).mono ?_
      rintro e w2 ⟨he2, hB2, -, hU2⟩
      rw [VS_vals] at he2
      subst he2
      have H2 : Hid (Upd [] wc w2) := Lib.hid (H1.out.trans hU2)
      have HGS2 : Hid (Good w2 (VS w1.heap.size) 0) := Lib.hid (good_S hB2)
      clear hB2 hU2
      generalize w1.heap.size = g2 at *
      try dsimp only
      repeat (first | go_values | go_skip | go_guarded | go_step | go_upon)
      refine HK.out _ _ (HD.out _ H2.out) ?_
      clear HK K
      refine Plan.eff_intro (fun K hK hKp => ?_)
      have HK := Lib.hid hK
      clear hK hKp
      simp only [Plan.pick, List.map_cons, List.map_nil, List.getD_cons_zero, List.getD_cons_succ]
      repeat (first | go_values | go_skip | go_guarded | go_step | go_upon)
      generalize hW : World.alloc w2 (Obj.cells _ 30) = w10
      have HB10 : Hid (Blk w10 w2.heap.size 30 (viewCells [(VS g2, 0), (V, m)])) := Lib.hid (by
        have he : viewCells [(VS g2, 0), (V, m)] = ((VS g2).cells ++ (V.cells ++ [])).toArray := rfl
        rw [← hW, he, HCE.out]
        exact Blk.new _ _ _)
      have H2x : Hid (Upd [] w2 w10) := Lib.hid (by rw [← hW]; exact (Upd.refl [] w2).alloc _)
      have H10 : Hid (Upd [] wc w10) := Lib.hid (H2.out.trans H2x.out)
      clear hW
      generalize w2.heap.size = l2 at *
      try dsimp only
      repeat (first | go_values | go_skip | go_guarded | go_step | go_upon)
      refine HK.out _ _ (HD.out _ H10.out) ?_
      clear HK K
      have hsn := sounds_walk l2 0 2 2 [(VS g2, 0), (V, m)] w10 rfl (by decide) (vws_of HB10.out (fun v hv => by
        simp only [List.mem_cons, List.not_mem_nil, or_false] at hv
        rcases hv with rfl | rfl
        · exact HGS2.out.upd H2x.out
        · exact HGV.out _ H10.out)) HB10.out.lt
      have hall : ([(VS g2, (0 : Int)), (V, m)].all fun x => x.2 == 0) = false := by simp [hwv0]
      rw [hall] at hsn
      have HSN := Lib.hid hsn
      clear hsn hall
      refine Plan.eff_intro (fun K hK hKp => ?_)
      have HK := Lib.hid hK
      clear hK hKp
      simp only [Plan.pick, List.map_cons, List.map_nil, List.getD_cons_zero, List.getD_cons_succ]
      repeat (first | go_values | go_skip | go_guarded | go_step | go_upon)
      refine HSN.out.mono ?_
      rintro e w11 ⟨rfl, hb11⟩
      have H11 : Hid (Upd [] wc w11) := Lib.hid (H10.out.step (Upd.of_below hb11 : Upd [] _ _) (by simp))
      clear hb11
      try dsimp only
      repeat (first | go_values | go_skip | go_guarded | go_step | go_upon)
      refine HK.out _ _ (HD.out _ H11.out) ?_
      clear HK K
      apply Plan.blk_intro
      · intro w' hw Φ HΦ
        obtain ⟨⟨d0, d1, d2, d3, d4, d5, d6, d7, d8, d9⟩, k0⟩ := hw
        simp only [Plan.pick, List.map_cons, List.map_nil, List.getD_cons_zero, List.getD_cons_succ]
        repeat (first | go_values | go_skip | go_guarded | go_step | go_upon)
        exact ⟨rfl, HΦ.out⟩
      · kernel_rfl
      refine Plan.eff_intro (fun K hK hKp => ?_)
      have HK := Lib.hid hK
      clear hK hKp
      simp only [Plan.pick, List.map_cons, List.map_nil, List.getD_cons_zero, List.getD_cons_succ]
      repeat (first | go_values | go_skip | go_guarded | go_step | go_upon)
      refine (sound_walk _).mono ?_
      rintro e w15 ⟨he15, hB15, -, hU15⟩
      rw [VS_vals] at he15
      subst he15
      have H15 : Hid (Upd [] wc w15) := Lib.hid (H11.out.trans hU15)
      have HGS15 : Hid (Good w15 (VS w11.heap.size) 0) := Lib.hid (good_S hB15)
      clear hB15 hU15
      generalize w11.heap.size = g15 at *
      try dsimp only
      repeat (first | go_values | go_skip | go_guarded | go_step | go_upon)
      refine HK.out _ _ (HD.out _ H15.out) ?_
      clear HK K
      refine Plan.eff_intro (fun K hK hKp => ?_)
      have HK := Lib.hid hK
      clear hK hKp
      simp only [Plan.pick, List.map_cons, List.map_nil, List.getD_cons_zero, List.getD_cons_succ]
      repeat (first | go_values | go_skip | go_guarded | go_step | go_upon)
      refine (sound_walk _).mono ?_
      rintro e w16 ⟨he16, hB16, -, hU16⟩
      rw [VS_vals] at he16
      subst he16
      have H16 : Hid (Upd [] wc w16) := Lib.hid (H15.out.trans hU16)
      have H1516 : Hid (Upd [] w15 w16) := Lib.hid hU16
      have HGS16 : Hid (Good w16 (VS w15.heap.size) 0) := Lib.hid (good_S hB16)
      clear hB16 hU16
      generalize w15.heap.size = g16 at *
      try dsimp only
      repeat (first | go_values | go_skip | go_guarded | go_step | go_upon)
      refine HK.out _ _ (HD.out _ H16.out) ?_
      clear HK K
      refine Plan.eff_intro (fun K hK hKp => ?_)
      have HK := Lib.hid hK
      clear hK hKp
      simp only [Plan.pick, List.map_cons, List.map_nil, List.getD_cons_zero, List.getD_cons_succ]
      repeat (first | go_values | go_skip | go_guarded | go_step | go_upon)
      refine (sound_walk _).mono ?_
      rintro e w17 ⟨he17, hB17, -, hU17⟩
      rw [VS_vals] at he17
      subst he17
      have H17 : Hid (Upd [] wc w17) := Lib.hid (H16.out.trans hU17)
      have H1617 : Hid (Upd [] w16 w17) := Lib.hid hU17
      have HGS17 : Hid (Good w17 (VS w16.heap.size) 0) := Lib.hid (good_S hB17)
      clear hB17 hU17
      generalize w16.heap.size = g17 at *
      try dsimp only
      repeat (first | go_values | go_skip | go_guarded | go_step | go_upon)
      refine HK.out _ _ (HD.out _ H17.out) ?_
      clear HK K
      refine Plan.eff_intro (fun K hK hKp => ?_)
      have HK := Lib.hid hK
      clear hK hKp
      simp only [Plan.pick, List.map_cons, List.map_nil, List.getD_cons_zero, List.getD_cons_succ]
      repeat (first | go_values | go_skip | go_guarded | go_step | go_upon)
      generalize hW : World.alloc w17 (Obj.cells _ 30) = w18
      have HB18 : Hid (Blk w18 w17.heap.size 30 (viewCells [(VS g15, 0), (VS g16, 0), (VS g17, 0)])) := Lib.hid (by
        rw [← hW]
        exact Blk.new _ _ _)
      have H17x : Hid (Upd [] w17 w18) := Lib.hid (by rw [← hW]; exact (Upd.refl [] w17).alloc _)
      have H18 : Hid (Upd [] wc w18) := Lib.hid (H17.out.trans H17x.out)
      clear hW
      generalize w17.heap.size = l3 at *
      try dsimp only
      repeat (first | go_values | go_skip | go_guarded | go_step | go_upon)
      refine HK.out _ _ (HD.out _ H18.out) ?_
      clear HK K
      have hsn := sounds_walk l3 0 3 3 [(VS g15, 0), (VS g16, 0), (VS g17, 0)] w18 rfl (by decide) (vws_of HB18.out (fun v hv => by
        simp only [List.mem_cons, List.not_mem_nil, or_false] at hv
        rcases hv with rfl | rfl | rfl
        · exact HGS15.out.upd ((H1516.out.trans H1617.out).trans H17x.out)
        · exact HGS16.out.upd (H1617.out.trans H17x.out)
        · exact HGS17.out.upd H17x.out)) HB18.out.lt
      have hall : ([(VS g15, (0 : Int)), (VS g16, 0), (VS g17, 0)].all fun x => x.2 == 0) = true := by simp
      rw [hall] at hsn
      have HSM := Lib.hid hsn
      clear hsn hall
      refine Plan.eff_intro (fun K hK hKp => ?_)
      have HK := Lib.hid hK
      clear hK hKp
      simp only [Plan.pick, List.map_cons, List.map_nil, List.getD_cons_zero, List.getD_cons_succ]
      repeat (first | go_values | go_skip | go_guarded | go_step | go_upon)
      refine HSM.out.mono ?_
      rintro e w19 ⟨rfl, hb19⟩
      have H19 : Hid (Upd [] wc w19) := Lib.hid (H18.out.step (Upd.of_below hb19 : Upd [] _ _) (by simp))
      clear hb19
      try dsimp only
      repeat (first | go_values | go_skip | go_guarded | go_step | go_upon)
      refine HK.out _ _ (HD.out _ H19.out) ?_
      clear HK K
      apply Plan.blk_intro
      · intro w' hw Φ HΦ
        obtain ⟨⟨d0, d1, d2, d3, d4, d5, d6, d7, d8, d9⟩, k0⟩ := hw
        simp only [Plan.pick, List.map_cons, List.map_nil, List.getD_cons_zero, List.getD_cons_succ]
        repeat (first | go_values | go_skip | go_guarded | go_step | go_upon)
        exact ⟨rfl, HΦ.out⟩
      · kernel_rfl
      refine Plan.eff_intro (fun K hK hKp => ?_)
      have HK := Lib.hid hK
      clear hK hKp
      simp only [Plan.pick, List.map_cons, List.map_nil, List.getD_cons_zero, List.getD_cons_succ]
      repeat (first | go_values | go_skip | go_guarded | go_step | go_upon)
      refine (awake23_walk _).mono ?_
      rintro e w22 ⟨rfl, hb22⟩
      have H22 : Hid (Upd [] wc w22) := Lib.hid (H19.out.step (Upd.of_below hb22 : Upd [] _ _) (by simp))
      clear hb22
      try dsimp only
      repeat (first | go_values | go_skip | go_guarded | go_step | go_upon)
      refine HK.out _ _ (HD.out _ H22.out) ?_
      clear HK K
      apply Plan.blk_intro
      · intro w' hw Φ HΦ
        obtain ⟨⟨d0, d1, d2, d3, d4, d5, d6, d7, d8, d9⟩, k0⟩ := hw
        simp only [Plan.pick, List.map_cons, List.map_nil, List.getD_cons_zero, List.getD_cons_succ]
        repeat (first | go_values | go_skip | go_guarded | go_step | go_upon)
        exact ⟨rfl, HΦ.out⟩
      · kernel_rfl
      refine Plan.plan_done ?_
      go_wp2_with fail
      go_ret
      exact ⟨rfl, (HWC.out.trans H22.out).below⟩
end Go.Proofs.Ytnhgmmjlhhgdoaa
