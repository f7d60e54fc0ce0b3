/- The program's sixth rule of a view. -/
import Derived.Test.YtnhgmmjlhhgdoaaPr5
namespace Go.Proofs.Ytnhgmmjlhhgdoaa
open Go Go.RowKit

set_option maxRecDepth 100000 in
set_option maxHeartbeats 3200000 in
theorem finals_walk (v : Vw) (sh mb : Nat) (w : World) (H : ShAt w v sh mb) (h1 : R1 v.os) (hlf : v.fs.length ≤ 4611686018427387903) (hlp : v.ps.length ≤ 4611686018427387903) : Calls Try.prog 36 #[.agg #[.pointer (some ⟨sh, 0, none⟩)]] w (Says (R6 v.os (v.fs ++ v.ps)) w) := by
  have HO6 : Hid (∀ j, j < v.os.length → ∀ came a, (v.os.getD j ob0).adr = a → (Ok6 v.os came a ↔ (v.os.getD j ob0).fin = true ∧ a ∉ came)) := Lib.hid (fun j hj came a e => ok6_iff h1 hj e)
  have HTB : Hid (∀ W, Upd [] w W → Tab W mb v.os.length (mapK v.os v.os.length)) := Lib.hid (fun W u => (H.upd u (by simp)).tab)
  obtain ⟨all, hall⟩ : ∃ all, v.fs ++ v.ps = all := ⟨_, rfl⟩
  have hbase : ∃ base : Nat → Nat, base 0 = 0 ∧ (base 1 = base 0 + v.fs.length ∧ ∀ k, k < v.fs.length → base 0 + k < all.length ∧ all.getD (base 0 + k) 0 = v.fs.getD k 0) ∧ (base 2 = base 1 + v.ps.length ∧ ∀ k, k < v.ps.length → base 1 + k < all.length ∧ all.getD (base 1 + k) 0 = v.ps.getD k 0) ∧ base 2 = all.length := by
    refine ⟨fun j => if j = 0 then 0 else if j = 1 then v.fs.length else v.fs.length + v.ps.length, rfl, ⟨by simp, fun k hk => ?_⟩, ⟨by simp, fun k hk => ?_⟩, by rw [← hall, List.length_append]; rfl⟩
    · rw [← hall, List.length_append]
      refine ⟨by simp; omega, ?_⟩
      simp only [↓reduceIte, Nat.zero_add]
      rw [List.getD_eq_getElem?_getD, List.getD_eq_getElem?_getD, List.getElem?_append_left hk]
    · rw [← hall, List.length_append]
      refine ⟨by simp; omega, ?_⟩
      simp only [Nat.one_ne_zero, ↓reduceIte]
      rw [List.getD_eq_getElem?_getD, List.getD_eq_getElem?_getD, List.getElem?_append_right (by omega), Nat.add_sub_cancel_left]
  obtain ⟨base, hb0, hb1, hb2, hb3⟩ := hbase
  have HB0 := Lib.hid hb0
  have HB1 := Lib.hid hb1
  have HB2 := Lib.hid hb2
  have HB3 := Lib.hid hb3
  rw [hall]
  have HR : Hid ((∀ i, i < all.length → Ok6 v.os (all.take i) (all.getD i 0)) → R6 v.os all) := Lib.hid (fun h => h)
  have HN' : Hid (∀ i, i < all.length → ¬ Ok6 v.os (all.take i) (all.getD i 0) → ¬ R6 v.os all) := Lib.hid (fun i hi h1 h2 => h1 (h2 i hi))
  have HTS : Hid (∀ i, i < all.length → all.take (i + 1) = all.take i ++ [all.getD i 0]) := Lib.hid (fun i hi => by rw [List.take_succ_eq_append_getElem hi, getD_of hi])
  have HSH := Lib.hid H
  clear h1 hall hb0 hb1 hb2 hb3 H
  generalize R6 v.os all = R at *
  obtain ⟨nf, hnf⟩ : ∃ n, v.fs.length = n := ⟨_, rfl⟩
  obtain ⟨np, hnp⟩ : ∃ n, v.ps.length = n := ⟨_, rfl⟩
  rw [hnf] at hlf HB1
  rw [hnp] at hlp HB2
  have HNF := Lib.hid hnf
  have HNP := Lib.hid hnp
  clear hnf hnp
  have hmm := @run_makeMap Try.prog
  go_enter Try.func36, Try.ntmps36
  go_upto_region 1 with fail
  generalize hW : World.alloc w (Obj.cells _ 62) = w1
  have HB : Hid (Blk w1 w.heap.size 62 #[.pointer (some ⟨sh, 0, none⟩)]) := Lib.hid (by rw [← hW]; exact Blk.new _ _ _)
  have HU : Hid (Upd [] w w1) := Lib.hid (by rw [← hW]; exact (Upd.refl [] w).alloc _)
  have HS1 : Hid (ShAt w1 v sh mb) := Lib.hid (HSH.out.upd HU.out (by simp))
  clear hW
  generalize hq0 : w.heap.size = rb at *
  have hrw : rb < w1.heap.size := HB.out.lt
  have HQ0 := Lib.hid hq0
  clear hq0
  have HCS : Hid (∀ W, Upd [] w1 W → W.cell? ⟨rb, 0, none⟩ = some (.pointer (some ⟨sh, 0, none⟩)) ∧ W.cell? ⟨sh, 4, none⟩ = some (.slice v.fa nf v.fc) ∧ W.cell? ⟨sh, 5, none⟩ = some (.slice v.pa np v.pc) ∧ W.cell? ⟨sh, 10, none⟩ = some (.map (some mb))) := Lib.hid (fun W u => ⟨(HB.out.upd u (by simp)).one_of, by rw [← HNF.out]; exact HS1.out.cell u (by simp) rfl, by rw [← HNP.out]; exact HS1.out.cell u (by simp) rfl, HS1.out.cell u (by simp) rfl⟩)
  have HFI := Lib.hid HSH.out.sees.fins
  have HPE := Lib.hid HSH.out.sees.pend
  generalize v.fa = fa at *
  generalize v.fc = fc at *
  generalize v.pa = pa at *
  generalize v.pc = pc at *
  go_upto_region 2 with fail
  generalize hW : World.alloc w1 (Obj.map _ _) = w2
  have HT2 : Hid (Tab w2 w1.heap.size 0 (setF [])) := Lib.hid (by rw [← hW, setF_nil]; exact Tab.new w1)
  have H12 : Hid (Upd [] w1 w2) := Lib.hid (by rw [← hW]; exact (Upd.refl [] w1).alloc _)
  clear hW hmm
  generalize hhb : w1.heap.size = hb at *
  have HHB := Lib.hid (Nat.le_of_eq hhb)
  clear hhb
  have HC2 : Hid (∀ W, Upd [] w2 W → W.cell? ⟨rb, 0, none⟩ = some (.pointer (some ⟨sh, 0, none⟩)) ∧ W.cell? ⟨sh, 4, none⟩ = some (.slice fa nf fc) ∧ W.cell? ⟨sh, 5, none⟩ = some (.slice pa np pc)) := Lib.hid (fun W u => by
    obtain ⟨h1, h2, h3, _⟩ := HCS.out W (H12.out.trans u)
    exact ⟨h1, h2, h3⟩)
  refine Plan.wp_plan [.blk [0, 1, 2, 3, 4, 5, 6, 7, 8, 9, 10, 11, 14], .eff 12, .blk [13]] (fun w' => w'.cell? ⟨rb, 0, none⟩ = some (.pointer (some ⟨sh, 0, none⟩)) ∧ w'.cell? ⟨sh, 4, none⟩ = some (.slice fa nf fc) ∧ w'.cell? ⟨sh, 5, none⟩ = some (.slice pa np pc)) (by kernel_rfl) (by kernel_rfl) (by intro _ _ d _ _ h; cases d <;> exact h) (HC2.out _ (Upd.refl [] w2).drew) (fun hS => ?_)
  clear hS
  apply Plan.blk_intro
  · intro w' hw Φ HΦ
    obtain ⟨r0, s4, s5⟩ := hw
    simp only [Plan.pick, List.map_cons, List.map_nil, List.getD_cons_zero, List.getD_cons_succ]
    repeat (first | go_values | go_skip | go_guarded | go_step | go_upon)
    exact ⟨rfl, HΦ.out⟩
  · kernel_rfl
  refine Plan.eff_intro (fun K hK hKp => ?_)
  have HK := Lib.hid hK
  clear hK hKp
  simp only [Plan.pick, List.map_cons, List.map_nil, List.getD_cons_zero, List.getD_cons_succ]
  repeat (first | go_values | go_skip | go_guarded | go_step | go_upon)
  have H22 : Hid (Upd [] w2 (w2.alloc (.cells #[.slice fa nf fc, .slice pa np pc] 22)).drew) := Lib.hid (((Upd.refl [] w2).alloc _).drew)
  refine HK.out _ _ (HC2.out _ H22.out) ?_
  clear HK K
  apply Plan.blk_intro
  · intro w' hw Φ HΦ
    obtain ⟨r0, s4, s5⟩ := hw
    simp only [Plan.pick, List.map_cons, List.map_nil, List.getD_cons_zero, List.getD_cons_succ]
    repeat (first | go_values | go_skip | go_guarded | go_step | go_upon)
    exact ⟨rfl, HΦ.out⟩
  · kernel_rfl
  refine Plan.plan_done ?_
  have HBL : Hid (Blk (w2.alloc (.cells #[.slice fa nf fc, .slice pa np pc] 22)).drew w2.heap.size 22 #[.slice fa nf fc, .slice pa np pc]) := Lib.hid (Blk.drew (Blk.new _ _ _))
  generalize hW : (w2.alloc (.cells #[.slice fa nf fc, .slice pa np pc] 22)).drew = w3 at *
  have H13 : Hid (Upd [] w1 w3) := Lib.hid (H12.out.trans H22.out)
  have HT3 : Hid (Tab w3 hb 0 (setF [])) := Lib.hid (HT2.out.upd H22.out (by simp))
  clear hW
  generalize hlb : w2.heap.size = lb at *
  have HNE : Hid (¬ lb = hb) := Lib.hid (fun e => by
    have h := HT2.out.lt
    omega)
  clear hlb
  go_wp2_with fail
  go_loopg [25] 2 (fun gk i wr => ∃ (j kk : Nat), gk = 2 - j ∧ j ≤ 2 ∧ i = .int .i64 j ∧ Hid (Upd [] w1 wr) ∧ Hid (Blk wr lb 22 #[.slice fa nf fc, .slice pa np pc]) ∧ Hid (Tab wr hb kk (setF (all.take (base j)))) ∧ Hid (∀ m, m < base j → Ok6 v.os (all.take m) (all.getD m 0)))
  case atStart => exact ⟨0, 0, rfl, by omega, rfl, H13, HBL, by rw [HB0.out]; exact HT3, Lib.hid (fun m h => by rw [HB0.out] at h; omega)⟩
  case round =>
    obtain ⟨j, kk, rfl, hj, rfl, HV, HBW, HT, HP⟩ := hrel
    by_cases hlt : j < 2
    · have hrow : ∃ A n c l, wr.cell? ⟨lb, j, none⟩ = some (.slice A n c) ∧ IsInts w A l ∧ l.length = n ∧ n ≤ 4611686018427387903 ∧ base (j + 1) = base j + n ∧ ∀ k, k < n → base j + k < all.length ∧ all.getD (base j + k) 0 = l.getD k 0 := by
        rcases (show j = 0 ∨ j = 1 by omega) with rfl | rfl
        · exact ⟨fa, nf, fc, v.fs, vw_cells HBW.out (Upd.refl _ _) rfl, HFI.out, HNF.out, hlf, HB1.out.1, HB1.out.2⟩
        · exact ⟨pa, np, pc, v.ps, vw_cells HBW.out (Upd.refl _ _) rfl, HPE.out, HNP.out, hlp, HB2.out.1, HB2.out.2⟩
      obtain ⟨A, z, c, l, cq, hai, hlz, hz, hbj, hal⟩ := hrow
      have HAI := Lib.hid hai
      have HLZ := Lib.hid hlz
      have HBJ := Lib.hid hbj
      have HAL := Lib.hid hal
      clear hai hlz hbj hal
      have hj2 : (j : Int) < 2 := by omega
      go_wp2_with fail
      clear cq
      go_loopg [31] z (fun gk i wr => ∃ (k kk : Nat), gk = z - k ∧ k ≤ z ∧ i = .int .i64 k ∧ Hid (Upd [] w1 wr) ∧ Hid (Blk wr lb 22 #[.slice fa nf fc, .slice pa np pc]) ∧ Hid (Tab wr hb kk (setF (all.take (base j + k)))) ∧ Hid (∀ m, m < base j + k → Ok6 v.os (all.take m) (all.getD m 0)))
      case atStart => exact ⟨0, kk, rfl, by omega, rfl, HV, HBW, HT, HP⟩
      case round =>
        clear HV HT HP HBW
        obtain ⟨k, kk, rfl, hk, rfl, HV1, HBW, HT, HPI⟩ := hrel
        have HUI : Hid (Upd [] w wr) := Lib.hid (HU.out.trans HV1.out)
        by_cases hlk : k < z
        · obtain ⟨b, off, hA, hb0, c0⟩ := (Reads.upd HAI.out HUI.out (by simp)).at HLZ.out hlk
          subst hA
          obtain ⟨hlt2, hgk⟩ := HAL.out k hlk
          have HNO : Hid (¬ Ok6 v.os (all.take (base j + k)) (all.getD (base j + k) 0) → ¬ R) := Lib.hid (HN'.out _ hlt2)
          have HSO := Lib.hid (HTS.out _ hlt2)
          have HPN : Hid (Ok6 v.os (all.take (base j + k)) (all.getD (base j + k) 0) → ∀ m, m < base j + (k + 1) → Ok6 v.os (all.take m) (all.getD m 0)) := Lib.hid (fun h m hm => by
            rcases Nat.eq_or_lt_of_le (show m ≤ base j + k by omega) with rfl | h3
            · exact h
            · exact HPI.out m h3)
          rw [hgk] at HNO HPN HSO
          clear hlt2 hgk HPI
          obtain ⟨x, hx⟩ : ∃ x, l.getD k 0 = x := ⟨_, rfl⟩
          obtain ⟨L, hL⟩ : ∃ L, all.take (base j + k) = L := ⟨_, rfl⟩
          rw [hx] at HNO HPN HSO c0
          rw [hL] at HNO HPN HSO HT
          clear hx hL
          obtain ⟨r0, -, -, s10⟩ := HCS.out _ HV1.out
          have HTM := Lib.hid (HTB.out _ HUI.out)
          rcases mapK_full (os := v.os) x with ⟨h1, hob⟩ | ⟨jj, hjn, h1, hadr, -⟩
          · have H1 := Lib.hid h1
            have HFR := Lib.hid (HNO.out (fun h => hob (ok6_obj h)))
            clear h1 hob
            generalize v.os.length = no at *
            go_wp2_with (at_lookup; refine wpList_look_tab_ok rfl _ _ 58 3 37 rfl Try.underlying58 Try.underlying3 HTM.out (zObj _) (by rfl) x (by rfl) ?_; rw [H1.out]; simp only [Option.getD_none, Option.isSome_none])
            go_wp2_with fail
            go_ret
            exact ⟨false, rfl, by simp; exact HFR.out, (HUI.out.alloc _).below⟩
          · have H1 := Lib.hid h1
            have HKI := Lib.hid (HO6.out jj hjn L x hadr)
            clear h1 hjn hadr
            generalize v.os.length = no at *
            generalize v.os.getD jj ob0 = ob at *
            obtain ⟨ad, kd, cl, ln, fi, wa, wc, ws⟩ := ob
            simp only [Ob.val] at H1 HKI
            generalize ws.length = zz at *
            cases fi with
            | false =>
              have HFR := Lib.hid (HNO.out (fun h => by have := (HKI.out.1 h).1; cases this))
              go_wp2_with (at_lookup; refine wpList_look_tab_ok rfl _ _ 58 3 37 rfl Try.underlying58 Try.underlying3 HTM.out (zObj _) (by rfl) x (by rfl) ?_; rw [H1.out]; simp only [Option.getD_some, Option.isSome_some])
              go_wp2_with fail
              go_ret
              exact ⟨false, rfl, by simp; exact HFR.out, (HUI.out.alloc _).below⟩
            | true =>
              go_upto_region 9 with (at_lookup; refine wpList_look_tab_ok rfl _ _ 58 3 37 rfl Try.underlying58 Try.underlying3 HTM.out (zObj _) (by rfl) x (by rfl) ?_; rw [H1.out]; simp only [Option.getD_some, Option.isSome_some])
              generalize hW : World.alloc wr (Obj.cells _ 37) = w5
              have HBO : Hid (Blk w5 wr.heap.size 37 _) := Lib.hid (by rw [← hW]; exact Blk.new _ _ _)
              have HX : Hid (Upd [] wr w5) := Lib.hid (by rw [← hW]; exact (Upd.refl [] wr).alloc _)
              clear hW c0 r0 s10
              generalize hg : wr.heap.size = g at *
              have HG := Lib.hid hg
              clear hg
              have e4 : w5.cell? ⟨g, 4, none⟩ = some (.bool true) := vw_cells HBO.out (Upd.refl _ _) rfl
              have HT5 : Hid (Tab w5 hb kk (setF L)) := Lib.hid (HT.out.upd HX.out (by simp))
              have hlk := setF_look HT5.out x
              obtain ⟨b0, hb0⟩ : ∃ b, decide (x ∈ L) = b := ⟨_, rfl⟩
              rw [hb0] at hlk
              cases b0 with
              | true =>
                have hin : x ∈ L := by simpa using hb0
                have HFR := Lib.hid (HNO.out (fun h => (HKI.out.1 h).2 hin))
                clear hb0 hin
                go_wp2_with fail
                go_ret
                exact ⟨false, rfl, by simp; exact HFR.out, (HUI.out.trans HX.out).below⟩
              | false =>
                have hin : x ∉ L := by simpa using hb0
                have HL := Lib.hid (HKI.out.2 ⟨rfl, hin⟩)
                clear hb0 hin
                go_upto_region 11 with fail
                clear e4 hlk
                go_wp2_with (at_mapUpdate; refine wpList_put_tab rfl _ _ _ 76 3 4 rfl Try.underlying76 Try.underlying3 HT5.out (by rfl) x (.bool true) (by rfl) (by rfl) ?_)
                intro w6 hT6 hg6
                have HT6 : Hid (Tab w6 hb (kk + 1) (setF (all.take (base j + (k + 1))))) := Lib.hid (by rw [← Nat.add_assoc, HSO.out, ← setF_add]; exact hT6)
                have HU6 : Hid (Upd [] w1 w6) := Lib.hid ((HV1.out.trans HX.out).grown hg6 (fun i hi => .inr (by simp only [Option.some.injEq] at hi; rw [← hi]; exact HHB.out)))
                have HBW6 : Hid (Blk w6 lb 22 #[.slice fa nf fc, .slice pa np pc]) := Lib.hid ((HBW.out.upd HX.out (by simp)).upd (Upd.grown (E := [hb]) (Upd.refl _ _) hg6 (fun i hi => .inl (by simp only [Option.some.injEq] at hi; simp [hi]))) (by simpa using HNE.out))
                clear hT6 hg6
                go_wp2_with fail
                go_roundg (z - (k + 1))
                case measure => omega
                case rel => exact ⟨k + 1, kk + 1, rfl, by omega, by go_num, HU6, HBW6, HT6, Lib.hid (HPN.out HL.out)⟩
        · obtain rfl : k = z := by omega
          rw [← HBJ.out] at HT HPI
          go_wp2_with fail
          go_roundg (2 - (j + 1))
          case measure => omega
          case rel => exact ⟨j + 1, kk, rfl, by omega, by go_num, HV1, HBW, HT, HPI⟩
    · obtain rfl : j = 2 := by omega
      have HTR : Hid R := Lib.hid (HR.out (by rw [← HB3.out]; exact HP.out))
      go_wp2_with fail
      go_ret
      exact ⟨true, rfl, by simp; exact HTR.out, (HU.out.trans HV.out).below⟩
end Go.Proofs.Ytnhgmmjlhhgdoaa
