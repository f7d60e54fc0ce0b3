/- The document's sixth rule of a view. -/
import Derived.Test.YtnhgmmjlhhgdoaaRules5
namespace Go.Proofs.Ytnhgmmjlhhgdoaa
open Go Go.RowKit

theorem ok6_iff {os : List Ob} (h1 : R1 os) {came : List Int} {a : Int} {j : Nat} (hj : j < os.length) (e : (os.getD j ob0).adr = a) :
    Ok6 os came a ↔ (os.getD j ob0).fin = true ∧ a ∉ came := by
  unfold Ok6
  constructor
  · rintro ⟨⟨o, ho, h2, h3⟩, h7⟩
    obtain ⟨i, hi, rfl⟩ := List.mem_iff_getElem.1 ho
    have hij : i = j := h1.one hi hj (by rw [getD_of hi, h2, e])
    subst hij
    rw [getD_of hi]
    exact ⟨h3, h7⟩
  · rintro ⟨h3, h7⟩
    rw [getD_of hj] at h3 e
    exact ⟨⟨_, List.getElem_mem hj, e, h3⟩, h7⟩
theorem ok6_obj {os : List Ob} {came : List Int} {a : Int} (h : Ok6 os came a) : IsObj os a := by
  obtain ⟨⟨o, ho, h2, _⟩, _⟩ := h
  exact ⟨o, ho, h2⟩
/-- It is a slice of so many numbers that can be read; it has room for them. -/
theorem Own.form2 {w : World} {B : Nat} {v : Value} {xs : List Int} (h : Own w B v xs) : ∃ A cap, v = .slice A xs.length cap ∧ IsInts w A xs ∧ xs.length ≤ cap ∧ cap ≤ 9223372036854775807 := by
  obtain ⟨A, cap, rfl, h2, h3⟩ := h.form
  refine ⟨A, cap, rfl, h2, ?_⟩
  obtain ⟨h4, h5⟩ := h
  rcases h5 with ⟨e, h5⟩ | ⟨g, c, cur, e, _, _, h6, h7, _⟩
  · simp only [Value.slice.injEq] at e
    omega
  · simp only [Value.slice.injEq] at e
    unfold maxLen at h7
    omega
theorem IsInts.take {w : World} {A : Option Addr} {xs : List Int} (h : IsInts w A xs) (i : Nat) : IsInts w A (xs.take i) := by
  rcases h with rfl | ⟨b, off, h1, h2, h3⟩
  · exact .inl (by simp)
  · refine .inr ⟨b, off, h1, h2, fun k hk => ?_⟩
    rw [List.length_take] at hk
    rw [h3 k (by omega), List.getD_eq_getElem?_getD, List.getD_eq_getElem?_getD, List.getElem?_take_of_lt (by omega)]
set_option maxRecDepth 100000 in
set_option maxHeartbeats 3200000 in
theorem rule6_walk (v : Vw) (w : World) (S : Sees w v) (hl : v.os.length ≤ 40) (hlf : v.fs.length ≤ 40) (hlp : v.ps.length ≤ 40) (hfa : v.fa = none → v.fs.length = 0 ∧ v.fc = 0) (hpa : v.pa = none → v.ps.length = 0 ∧ v.pc = 0) (h1 : R1 v.os) : Calls Try.prog 43 #[v.val] w (Says (R6 v.os (v.fs ++ v.ps)) w) := by
  have HF : Hid (∀ a W, Upd [] w W → Calls Try.prog 65 #[v.val, .int .i64 a] W fun e w' => e = .returned (.int .i64 (findZ v.os a)) ∧ Below W.heap.size W w') := Lib.hid (fun a W u => find_walk v a W (S.upd u (by simp)) (by omega))
  have HO6 : Hid (∀ n j, v.os.length = n → j < n → ∀ came a, (v.os.getD j ob0).adr = a → (Ok6 v.os came a ↔ (v.os.getD j ob0).fin = true ∧ a ∉ came)) := Lib.hid (fun n j h hj came a e => ok6_iff h1 (by omega) e)
  clear h1
  obtain ⟨all, hall⟩ : ∃ all, v.fs ++ v.ps = all := ⟨_, rfl⟩
  have HLL : Hid (all.length ≤ 80) := Lib.hid (by rw [← hall, List.length_append]; omega)
  rw [hall]
  have HALL := Lib.hid hall
  have HFA := Lib.hid hfa
  have HPA := Lib.hid hpa
  clear hall hfa hpa
  have HR : Hid (∀ m, all.length = m → (∀ i, i < m → Ok6 v.os (all.take i) (all.getD i 0)) → R6 v.os all) := Lib.hid (fun _ h1 h2 i hi => h2 i (by omega))
  have HN' : Hid (∀ m i, all.length = m → i < m → ¬ Ok6 v.os (all.take i) (all.getD i 0) → ¬ R6 v.os all) := Lib.hid (fun n i h hi h1 h2 => h1 (h2 i (by omega)))
  generalize R6 v.os all = R at *
  have HO := Lib.hid S.obs
  have HHE := Lib.hid S.helds
  have HRO := Lib.hid S.roots
  have HQU := Lib.hid S.queues
  have HFI := Lib.hid S.fins
  have HPE := Lib.hid S.pend
  clear S
  obtain ⟨oa, oc, os, ha, hc, hs, ra, rc, rs, qa, qc, qs, fa, fc, fs, pa, pc, ps, clock, serial, used, runs⟩ := v
  simp only [Vw.val] at *
  obtain ⟨n, hn⟩ : ∃ n, os.length = n := ⟨_, rfl⟩
  rw [hn] at hl
  simp only [hn] at HF ⊢
  have HN := Lib.hid hn
  obtain ⟨nf, hnf⟩ : ∃ n, fs.length = n := ⟨_, rfl⟩
  obtain ⟨np, hnp⟩ : ∃ n, ps.length = n := ⟨_, rfl⟩
  rw [hnf] at hlf HFA
  rw [hnp] at hlp HPA
  simp only [hnf, hnp] at HF ⊢
  have HNF := Lib.hid hnf
  have HNP := Lib.hid hnp
  clear hn hnf hnp
  generalize hs.length = nh at *
  generalize rs.length = nr at *
  generalize qs.length = nqs at *
  go_enter Try.func43, Try.ntmps43
  go_upto_region 1 with fail
  generalize hW : World.alloc w (Obj.cells _ 30) = w1
  have HB : Hid (Blk w1 w.heap.size 30 _) := Lib.hid (by rw [← hW]; exact Blk.new _ _ _)
  have HU : Hid (Upd [] w w1) := Lib.hid (by rw [← hW]; exact (Upd.refl [] w).alloc _)
  have hq : w.heap.size < w1.heap.size := HB.out.lt
  clear hW
  generalize hq0 : w.heap.size = q at *
  have HQ0 := Lib.hid hq0
  clear hq0
  have HD0 : Hid (∀ W, Upd [] w1 W → W.cell? ⟨q, 4, none⟩ = some (.slice fa nf fc) ∧ W.cell? ⟨q, 5, none⟩ = some (.slice pa np pc)) := Lib.hid (fun W hu => ⟨vw_cells HB.out hu rfl, vw_cells HB.out hu rfl⟩)
  refine Plan.wp_plan [.blk [1, 2, 4, 5], .eff 0, .eff 3, .eff 6, .blk [7]] (fun w' => w'.cell? ⟨q, 4, none⟩ = some (.slice fa nf fc) ∧ w'.cell? ⟨q, 5, none⟩ = some (.slice pa np pc)) (by kernel_rfl) (by kernel_rfl) (by intro _ _ d _ _ h; cases d <;> exact h) (HD0.out _ (Upd.refl [] w1).drew) (fun hS => ?_)
  clear hS
  apply Plan.blk_intro
  · intro w' hw Φ HΦ
    obtain ⟨d4, d5⟩ := hw
    simp only [Plan.pick, List.map_cons, List.map_nil, List.getD_cons_zero, List.getD_cons_succ]
    repeat (first | go_values | go_skip | go_guarded | go_step | go_upon)
    exact ⟨rfl, HΦ.out⟩
  · kernel_rfl
  refine Plan.eff_intro (fun K hK hKp => ?_)
  have HK := Lib.hid hK
  clear hK hKp
  simp only [Plan.pick, List.map_cons, List.map_nil, List.getD_cons_zero]
  repeat (first | go_values | go_skip | go_guarded | go_step | go_upon)
  have HE0 : Hid (Own (w1.drew.alloc (.cells #[] 3)) w1.heap.size (.slice (some ⟨w1.heap.size, 0, none⟩) 0 0) []) := Lib.hid (Own.empty w1.drew (Nat.le_refl _))
  have HW0 : Hid (Upd [] w1 (w1.drew.alloc (.cells #[] 3))) := Lib.hid ((Upd.refl [] w1).drew.alloc _)
  refine HK.out _ _ (HD0.out _ HW0.out) ?_
  clear HK
  clear K
  refine Plan.eff_intro (fun K hK hKp => ?_)
  have HK := Lib.hid hK
  clear hK hKp
  simp only [Plan.pick, List.map_cons, List.map_nil, List.getD_cons_zero, List.getD_cons_succ]
  refine wpList_pushes w1 rfl _ _ rfl w1.heap.size _ [] rfl HE0.out fa fc fs nf HNF.out rfl (HFI.out.upd (HU.out.trans HW0.out) (.inr (by simp))) (fun h => by rw [HNF.out]; exact HFA.out h) (by rw [HNF.out]; simp; omega) (Nat.le_refl _) HW0.out (by simp) ?_
  intro v2 w2 hO2 hU2 hS2
  have HE2 : Hid (Own w2 w1.heap.size v2 fs) := Lib.hid (by simpa using hO2)
  have HU2 := Lib.hid hU2
  have HS2 := Lib.hid hS2
  clear hO2 hU2 hS2 HE0 HW0
  simp only [Act.put, List.setIfInBounds_toArray, List.set_cons_zero, List.set_cons_succ]
  refine HK.out _ _ (HD0.out _ HU2.out) ?_
  clear HK K
  refine Plan.eff_intro (fun K hK hKp => ?_)
  have HK := Lib.hid hK
  clear hK hKp
  simp only [Plan.pick, List.map_cons, List.map_nil, List.getD_cons_zero, List.getD_cons_succ]
  refine wpList_pushes w1 rfl _ _ rfl w1.heap.size v2 fs rfl HE2.out pa pc ps np HNP.out rfl (HPE.out.upd (HU.out.trans HU2.out) (.inr (by simp))) (fun h => by rw [HNP.out]; exact HPA.out h) (by rw [HNF.out, HNP.out]; omega) (Nat.le_refl _) HU2.out HS2.out ?_
  intro v3 w3 hO3 hU3 hS3
  rw [HALL.out] at hO3
  obtain ⟨aA, ac, rfl, hA, hac1, hac2⟩ := hO3.form2
  have HA := Lib.hid hA
  have HU3 := Lib.hid hU3
  clear hO3 hU3 hS3 HE2 HU2 HS2 hA
  have hl80 := HLL.out
  obtain ⟨na, hna⟩ : ∃ n, all.length = n := ⟨_, rfl⟩
  rw [hna] at hac1 hl80 ⊢
  have HNA := Lib.hid hna
  clear hna
  simp only [Act.put, List.setIfInBounds_toArray, List.set_cons_zero, List.set_cons_succ]
  refine HK.out _ _ (HD0.out _ HU3.out) ?_
  clear HK K
  apply Plan.blk_intro
  · intro w' hw Φ HΦ
    obtain ⟨d4, d5⟩ := hw
    simp only [Plan.pick, List.map_cons, List.map_nil, List.getD_cons_zero, List.getD_cons_succ]
    repeat (first | go_values | go_skip | go_guarded | go_step | go_upon)
    exact ⟨rfl, HΦ.out⟩
  · kernel_rfl
  refine Plan.plan_done ?_
  go_wp2_with fail
  go_loopg [4] na (fun gk i wr => ∃ j : Nat, gk = na - j ∧ j ≤ na ∧ i = .int .i64 j ∧ Hid (Upd [] w3 wr) ∧ Hid (∀ m, m < j → Ok6 os (all.take m) (all.getD m 0)))
  case atStart => exact ⟨0, rfl, by omega, rfl, Lib.hid (Upd.refl _ _), Lib.hid (fun m h => by omega)⟩
  case round =>
    obtain ⟨j, rfl, hj, rfl, HV, HP⟩ := hrel
    have HUI : Hid (Upd [] w wr) := Lib.hid ((HU.out.trans HU3.out).trans HV.out)
    have HV1 : Hid (Upd [] w1 wr) := Lib.hid (HU3.out.trans HV.out)
    by_cases hlt : j < na
    · obtain ⟨b, off, rfl, hb, c0⟩ := (Reads.upd HA.out HV.out (by simp)).at HNA.out hlt
      have HNO : Hid (¬ Ok6 os (all.take j) (all.getD j 0) → ¬ R) := Lib.hid (HN'.out na j HNA.out hlt)
      have HPN : Hid (Ok6 os (all.take j) (all.getD j 0) → ∀ m, m < j + 1 → Ok6 os (all.take m) (all.getD m 0)) := Lib.hid (fun h m hm => by
        rcases Nat.eq_or_lt_of_le (show m ≤ j by omega) with rfl | h3
        · exact h
        · exact HP.out m h3)
      have HTL : Hid ((all.take j).length = j) := Lib.hid (by rw [List.length_take, HNA.out]; omega)
      obtain ⟨x, hx⟩ : ∃ x, all.getD j 0 = x := ⟨_, rfl⟩
      rw [hx] at HNO HPN c0
      clear hx HP
      have hfk := fun W (hu : Upd [] wr W) => HF.out x W (HUI.out.trans hu)
      have HFX := Lib.hid hfk
      clear hfk
      have HD : Hid (∀ W, Upd [] wr W → W.cell? ⟨q, 0, none⟩ = some (.slice oa n oc) ∧ W.cell? ⟨q, 1, none⟩ = some (.slice ha nh hc) ∧ W.cell? ⟨q, 2, none⟩ = some (.slice ra nr rc) ∧ W.cell? ⟨q, 3, none⟩ = some (.slice qa nqs qc) ∧ W.cell? ⟨q, 4, none⟩ = some (.slice fa nf fc) ∧ W.cell? ⟨q, 5, none⟩ = some (.slice pa np pc) ∧ W.cell? ⟨q, 6, none⟩ = some (.int .i64 clock) ∧ W.cell? ⟨q, 7, none⟩ = some (.int .i64 serial) ∧ W.cell? ⟨q, 8, none⟩ = some (.int .i64 used) ∧ W.cell? ⟨q, 9, none⟩ = some (.int .i64 runs) ∧ W.cell? ⟨b, off + j, none⟩ = some (.int .i64 x)) := Lib.hid (fun W hu => ⟨vw_cells HB.out (HV1.out.trans hu) rfl, vw_cells HB.out (HV1.out.trans hu) rfl, vw_cells HB.out (HV1.out.trans hu) rfl, vw_cells HB.out (HV1.out.trans hu) rfl, vw_cells HB.out (HV1.out.trans hu) rfl, vw_cells HB.out (HV1.out.trans hu) rfl, vw_cells HB.out (HV1.out.trans hu) rfl, vw_cells HB.out (HV1.out.trans hu) rfl, vw_cells HB.out (HV1.out.trans hu) rfl, vw_cells HB.out (HV1.out.trans hu) rfl, (hu.cell (p := ⟨b, off + j, none⟩) hb (by simp)).trans c0⟩)
      have hjc : (j : Int) ≤ (ac : Int) := by omega
      by_cases hob : IsObj os x
      · obtain ⟨jj, hfz, hjn, hadr⟩ := find_at hob
        rw [hfz] at HFX
        rw [HN.out] at hjn
        have HKI := Lib.hid (HO6.out n jj HN.out hjn (all.take j) x hadr)
        clear hfz hob hadr
        have HIN : Hid (∀ W, Upd [] wr W → Calls Try.prog 66 #[.slice (some ⟨b, off, none⟩) j ac, .int .i64 x] W fun e w' => e = .returned (.bool (decide (x ∈ all.take j))) ∧ W = w') := Lib.hid (fun W hu => by
          have := in_walk (some ⟨b, off, none⟩) (all.take j) ac x W (((HA.out.take j).upd HV.out (.inr (by simp))).upd hu (.inr (by simp))) (by rw [HTL.out]; omega)
          rw [HTL.out] at this
          exact this.mono fun _ _ h => ⟨h.1, h.2.symm⟩)
        go_wp2_with fail
        refine Plan.wp_plan [.blk [0, 1, 2, 3, 4], .eff 5, .blk [6]] (fun w' => w'.cell? ⟨q, 0, none⟩ = some (.slice oa n oc) ∧ w'.cell? ⟨q, 1, none⟩ = some (.slice ha nh hc) ∧ w'.cell? ⟨q, 2, none⟩ = some (.slice ra nr rc) ∧ w'.cell? ⟨q, 3, none⟩ = some (.slice qa nqs qc) ∧ w'.cell? ⟨q, 4, none⟩ = some (.slice fa nf fc) ∧ w'.cell? ⟨q, 5, none⟩ = some (.slice pa np pc) ∧ w'.cell? ⟨q, 6, none⟩ = some (.int .i64 clock) ∧ w'.cell? ⟨q, 7, none⟩ = some (.int .i64 serial) ∧ w'.cell? ⟨q, 8, none⟩ = some (.int .i64 used) ∧ w'.cell? ⟨q, 9, none⟩ = some (.int .i64 runs) ∧ w'.cell? ⟨b, off + j, none⟩ = some (.int .i64 x)) (by kernel_rfl) (by kernel_rfl) (by intro _ _ d _ _ h; cases d <;> exact h) (HD.out _ (Upd.refl [] wr).drew) (fun hS => ?_)
        clear hS
        clear c0
        apply Plan.blk_intro
        · intro w' hw Φ HΦ
          obtain ⟨d0, d1, d2, d3, d4, d5, d6, d7, d8, d9, c0⟩ := hw
          simp only [Plan.pick, List.map_cons, List.map_nil, List.getD_cons_zero, List.getD_cons_succ]
          repeat (first | go_values | go_skip | go_guarded | go_step | go_upon)
          exact ⟨rfl, HΦ.out⟩
        · kernel_rfl
        refine Plan.eff_intro (fun K hK hKp => ?_)
        have HK := Lib.hid hK
        clear hK hKp
        simp only [Plan.pick, List.map_cons, List.map_nil, List.getD_cons_zero, List.getD_cons_succ]
        repeat (first | go_values | go_skip | go_guarded | go_step | go_upon)
        refine (HFX.out _ (Upd.refl [] wr).drew).mono ?_
        rintro e w5 ⟨rfl, hb5⟩
        have HX : Hid (Upd [] wr w5) := Lib.hid (((Upd.refl [] wr).drew).step (Upd.of_below hb5 : Upd [] _ _) (by simp))
        clear hb5
        try dsimp only
        repeat (first | go_values | go_skip | go_guarded | go_step | go_upon)
        refine HK.out _ _ (HD.out _ HX.out) ?_
        clear HK K
        apply Plan.blk_intro
        · intro w' hw Φ HΦ
          obtain ⟨d0, d1, d2, d3, d4, d5, d6, d7, d8, d9, c0⟩ := hw
          simp only [Plan.pick, List.map_cons, List.map_nil, List.getD_cons_zero, List.getD_cons_succ]
          repeat (first | go_values | go_skip | go_guarded | go_step | go_upon)
          exact ⟨rfl, HΦ.out⟩
        · kernel_rfl
        refine Plan.plan_done ?_
        go_wp2_with fail
        obtain ⟨bo, oo, hoa, hbo, ⟨-, -, -, -, c4, -⟩, -⟩ := (HO.out.upd (HUI.out.trans HX.out) (by simp)).at HN.out hjn
        subst hoa
        have c0 : w5.cell? ⟨b, off + j, none⟩ = some (.int .i64 x) := (HD.out _ HX.out).2.2.2.2.2.2.2.2.2.2
        have d0 : w5.cell? ⟨q, 0, none⟩ = some (.slice (some ⟨bo, oo, none⟩) n oc) := vw_cells HB.out (HV1.out.trans HX.out) rfl
        have hq5 : q < w5.heap.size := Nat.lt_of_lt_of_le hq (HV1.out.trans HX.out).size
        have hb5 : b < w5.heap.size := Nat.lt_of_lt_of_le hb HX.out.size
        generalize (os.getD jj ob0).fin = fi at *
        cases fi with
        | false =>
          have HFR := Lib.hid (HNO.out (fun h => by have := (HKI.out.1 h).1; cases this))
          have HDD : Hid (∀ W, Upd [] w5 W → W.cell? ⟨q, 0, none⟩ = some (.slice (some ⟨bo, oo, none⟩) n oc) ∧ W.cell? ⟨bo, oo + jj * 6 + 4, none⟩ = some (.bool false)) := Lib.hid (fun W hu => ⟨(hu.cell (p := ⟨q, 0, none⟩) hq5 (by simp)).trans d0, (hu.cell (p := ⟨bo, oo + jj * 6 + 4, none⟩) hbo (by simp)).trans c4⟩)
          refine Plan.wp_plan [.blk [0, 1, 2, 3, 4, 5, 6, 7, 8, 9, 10, 11, 12, 13, 14, 16, 17, 18, 19], .eff 15, .eff 20, .blk [21]] (fun w' => w'.cell? ⟨q, 0, none⟩ = some (.slice (some ⟨bo, oo, none⟩) n oc) ∧ w'.cell? ⟨bo, oo + jj * 6 + 4, none⟩ = some (.bool false)) (by kernel_rfl) (by kernel_rfl) (by intro _ _ d _ _ h; cases d <;> exact h) (HDD.out _ (Upd.refl [] w5).drew) (fun hS => ?_)
          clear hS
          clear d0 c4 c0
          apply Plan.blk_intro
          · intro w' hw Φ HΦ
            obtain ⟨d0, c4⟩ := hw
            simp only [Plan.pick, List.map_cons, List.map_nil, List.getD_cons_zero, List.getD_cons_succ]
            repeat (first | go_values | go_skip | go_guarded | go_step | go_upon)
            exact ⟨rfl, HΦ.out⟩
          · kernel_rfl
          refine Plan.eff_intro (fun K hK hKp => ?_)
          have HK := Lib.hid hK
          clear hK hKp
          simp only [Plan.pick, List.map_cons, List.map_nil, List.getD_cons_zero, List.getD_cons_succ]
          repeat (first | go_values | go_skip | go_guarded | go_step | go_upon)
          try dsimp only
          repeat (first | go_values | go_skip | go_guarded | go_step | go_upon)
          refine HK.out _ _ (HDD.out _ (Upd.refl [] w5).drew) ?_
          clear HK K
          refine Plan.eff_intro (fun K hK hKp => ?_)
          have HK := Lib.hid hK
          clear hK hKp
          simp only [Plan.pick, List.map_cons, List.map_nil, List.getD_cons_zero, List.getD_cons_succ]
          repeat (first | go_values | go_skip | go_guarded | go_step | go_upon)
          try dsimp only
          repeat (first | go_values | go_skip | go_guarded | go_step | go_upon)
          refine HK.out _ _ (HDD.out _ (Upd.refl [] w5).drew) ?_
          clear HK K
          apply Plan.blk_intro
          · intro w' hw Φ HΦ
            obtain ⟨d0, c4⟩ := hw
            simp only [Plan.pick, List.map_cons, List.map_nil, List.getD_cons_zero, List.getD_cons_succ]
            repeat (first | go_values | go_skip | go_guarded | go_step | go_upon)
            exact ⟨rfl, HΦ.out⟩
          · kernel_rfl
          refine Plan.plan_done ?_
          go_wp2_with fail
          go_ret
          exact ⟨false, rfl, by simp; exact HFR.out, ((HUI.out.trans HX.out).drew).below⟩
        | true =>
          have HDD : Hid (∀ W, Upd [] w5 W → W.cell? ⟨q, 0, none⟩ = some (.slice (some ⟨bo, oo, none⟩) n oc) ∧ W.cell? ⟨bo, oo + jj * 6 + 4, none⟩ = some (.bool true) ∧ W.cell? ⟨b, off + j, none⟩ = some (.int .i64 x)) := Lib.hid (fun W hu => ⟨(hu.cell (p := ⟨q, 0, none⟩) hq5 (by simp)).trans d0, (hu.cell (p := ⟨bo, oo + jj * 6 + 4, none⟩) hbo (by simp)).trans c4, (hu.cell (p := ⟨b, off + j, none⟩) hb5 (by simp)).trans c0⟩)
          by_cases hin : x ∈ all.take j
          · have HFR := Lib.hid (HNO.out (fun h => (HKI.out.1 h).2 hin))
            have hin2 : decide (x ∈ all.take j) = true := by simpa using hin
            rw [hin2] at HIN
            clear hin hin2
            refine Plan.wp_plan [.blk [0, 1, 2, 3, 4, 5, 6, 7, 8, 9, 10, 11, 12, 13, 14, 16, 17, 18, 19], .eff 15, .eff 20, .blk [21]] (fun w' => w'.cell? ⟨q, 0, none⟩ = some (.slice (some ⟨bo, oo, none⟩) n oc) ∧ w'.cell? ⟨bo, oo + jj * 6 + 4, none⟩ = some (.bool true) ∧ w'.cell? ⟨b, off + j, none⟩ = some (.int .i64 x)) (by kernel_rfl) (by kernel_rfl) (by intro _ _ d _ _ h; cases d <;> exact h) (HDD.out _ (Upd.refl [] w5).drew) (fun hS => ?_)
            clear hS
            clear d0 c4
            apply Plan.blk_intro
            · intro w' hw Φ HΦ
              obtain ⟨d0, c4, c0⟩ := hw
              simp only [Plan.pick, List.map_cons, List.map_nil, List.getD_cons_zero, List.getD_cons_succ]
              repeat (first | go_values | go_skip | go_guarded | go_step | go_upon)
              exact ⟨rfl, HΦ.out⟩
            · kernel_rfl
            refine Plan.eff_intro (fun K hK hKp => ?_)
            have HK := Lib.hid hK
            clear hK hKp
            simp only [Plan.pick, List.map_cons, List.map_nil, List.getD_cons_zero, List.getD_cons_succ]
            repeat (first | go_values | go_skip | go_guarded | go_step | go_upon)
            try dsimp only
            repeat (first | go_values | go_skip | go_guarded | go_step | go_upon)
            refine HK.out _ _ (HDD.out _ (Upd.refl [] w5).drew) ?_
            clear HK K
            refine Plan.eff_intro (fun K hK hKp => ?_)
            have HK := Lib.hid hK
            clear hK hKp
            simp only [Plan.pick, List.map_cons, List.map_nil, List.getD_cons_zero, List.getD_cons_succ]
            repeat (first | go_values | go_skip | go_guarded | go_step | go_upon)
            refine (HIN.out _ (HX.out.drew)).mono ?_
            rintro e w' ⟨rfl, rfl⟩
            try dsimp only
            repeat (first | go_values | go_skip | go_guarded | go_step | go_upon)
            refine HK.out _ _ (HDD.out _ (Upd.refl [] w5).drew) ?_
            clear HK K
            apply Plan.blk_intro
            · intro w' hw Φ HΦ
              obtain ⟨d0, c4, c0⟩ := hw
              simp only [Plan.pick, List.map_cons, List.map_nil, List.getD_cons_zero, List.getD_cons_succ]
              repeat (first | go_values | go_skip | go_guarded | go_step | go_upon)
              exact ⟨rfl, HΦ.out⟩
            · kernel_rfl
            refine Plan.plan_done ?_
            go_wp2_with fail
            go_ret
            exact ⟨false, rfl, by simp; exact HFR.out, ((HUI.out.trans HX.out).drew).below⟩
          · have HL := Lib.hid (HPN.out (HKI.out.2 ⟨rfl, hin⟩))
            have hin2 : decide (x ∈ all.take j) = false := by simpa using hin
            rw [hin2] at HIN
            clear hin hin2
            refine Plan.wp_plan [.blk [0, 1, 2, 3, 4, 5, 6, 7, 8, 9, 10, 11, 12, 13, 14, 16, 17, 18, 19], .eff 15, .eff 20, .blk [21]] (fun w' => w'.cell? ⟨q, 0, none⟩ = some (.slice (some ⟨bo, oo, none⟩) n oc) ∧ w'.cell? ⟨bo, oo + jj * 6 + 4, none⟩ = some (.bool true) ∧ w'.cell? ⟨b, off + j, none⟩ = some (.int .i64 x)) (by kernel_rfl) (by kernel_rfl) (by intro _ _ d _ _ h; cases d <;> exact h) (HDD.out _ (Upd.refl [] w5).drew) (fun hS => ?_)
            clear hS
            clear d0 c4
            apply Plan.blk_intro
            · intro w' hw Φ HΦ
              obtain ⟨d0, c4, c0⟩ := hw
              simp only [Plan.pick, List.map_cons, List.map_nil, List.getD_cons_zero, List.getD_cons_succ]
              repeat (first | go_values | go_skip | go_guarded | go_step | go_upon)
              exact ⟨rfl, HΦ.out⟩
            · kernel_rfl
            refine Plan.eff_intro (fun K hK hKp => ?_)
            have HK := Lib.hid hK
            clear hK hKp
            simp only [Plan.pick, List.map_cons, List.map_nil, List.getD_cons_zero, List.getD_cons_succ]
            repeat (first | go_values | go_skip | go_guarded | go_step | go_upon)
            try dsimp only
            repeat (first | go_values | go_skip | go_guarded | go_step | go_upon)
            refine HK.out _ _ (HDD.out _ (Upd.refl [] w5).drew) ?_
            clear HK K
            refine Plan.eff_intro (fun K hK hKp => ?_)
            have HK := Lib.hid hK
            clear hK hKp
            simp only [Plan.pick, List.map_cons, List.map_nil, List.getD_cons_zero, List.getD_cons_succ]
            repeat (first | go_values | go_skip | go_guarded | go_step | go_upon)
            refine (HIN.out _ (HX.out.drew)).mono ?_
            rintro e w' ⟨rfl, rfl⟩
            try dsimp only
            repeat (first | go_values | go_skip | go_guarded | go_step | go_upon)
            refine HK.out _ _ (HDD.out _ (Upd.refl [] w5).drew) ?_
            clear HK K
            apply Plan.blk_intro
            · intro w' hw Φ HΦ
              obtain ⟨d0, c4, c0⟩ := hw
              simp only [Plan.pick, List.map_cons, List.map_nil, List.getD_cons_zero, List.getD_cons_succ]
              repeat (first | go_values | go_skip | go_guarded | go_step | go_upon)
              exact ⟨rfl, HΦ.out⟩
            · kernel_rfl
            refine Plan.plan_done ?_
            go_wp2_with fail
            go_roundg (na - (j + 1))
            case measure => omega
            case rel => exact ⟨j + 1, rfl, by omega, by go_num, Lib.hid ((HV.out.trans HX.out).drew), HL⟩
      · have HFR := Lib.hid (HNO.out (fun h => hob (ok6_obj h)))
        have hfz := findZ_none hob
        rw [hfz] at HFX
        clear hfz hob
        go_wp2_with fail
        refine Plan.wp_plan [.blk [0, 1, 2, 3, 4], .eff 5, .blk [6]] (fun w' => w'.cell? ⟨q, 0, none⟩ = some (.slice oa n oc) ∧ w'.cell? ⟨q, 1, none⟩ = some (.slice ha nh hc) ∧ w'.cell? ⟨q, 2, none⟩ = some (.slice ra nr rc) ∧ w'.cell? ⟨q, 3, none⟩ = some (.slice qa nqs qc) ∧ w'.cell? ⟨q, 4, none⟩ = some (.slice fa nf fc) ∧ w'.cell? ⟨q, 5, none⟩ = some (.slice pa np pc) ∧ w'.cell? ⟨q, 6, none⟩ = some (.int .i64 clock) ∧ w'.cell? ⟨q, 7, none⟩ = some (.int .i64 serial) ∧ w'.cell? ⟨q, 8, none⟩ = some (.int .i64 used) ∧ w'.cell? ⟨q, 9, none⟩ = some (.int .i64 runs) ∧ w'.cell? ⟨b, off + j, none⟩ = some (.int .i64 x)) (by kernel_rfl) (by kernel_rfl) (by intro _ _ d _ _ h; cases d <;> exact h) (HD.out _ (Upd.refl [] wr).drew) (fun hS => ?_)
        clear hS
        clear c0
        apply Plan.blk_intro
        · intro w' hw Φ HΦ
          obtain ⟨d0, d1, d2, d3, d4, d5, d6, d7, d8, d9, c0⟩ := hw
          simp only [Plan.pick, List.map_cons, List.map_nil, List.getD_cons_zero, List.getD_cons_succ]
          repeat (first | go_values | go_skip | go_guarded | go_step | go_upon)
          exact ⟨rfl, HΦ.out⟩
        · kernel_rfl
        refine Plan.eff_intro (fun K hK hKp => ?_)
        have HK := Lib.hid hK
        clear hK hKp
        simp only [Plan.pick, List.map_cons, List.map_nil, List.getD_cons_zero, List.getD_cons_succ]
        repeat (first | go_values | go_skip | go_guarded | go_step | go_upon)
        refine (HFX.out _ (Upd.refl [] wr).drew).mono ?_
        rintro e w5 ⟨rfl, hb5⟩
        have HX : Hid (Upd [] wr w5) := Lib.hid (((Upd.refl [] wr).drew).step (Upd.of_below hb5 : Upd [] _ _) (by simp))
        clear hb5
        try dsimp only
        repeat (first | go_values | go_skip | go_guarded | go_step | go_upon)
        refine HK.out _ _ (HD.out _ HX.out) ?_
        clear HK K
        apply Plan.blk_intro
        · intro w' hw Φ HΦ
          obtain ⟨d0, d1, d2, d3, d4, d5, d6, d7, d8, d9, c0⟩ := hw
          simp only [Plan.pick, List.map_cons, List.map_nil, List.getD_cons_zero, List.getD_cons_succ]
          repeat (first | go_values | go_skip | go_guarded | go_step | go_upon)
          exact ⟨rfl, HΦ.out⟩
        · kernel_rfl
        refine Plan.plan_done ?_
        go_wp2_with fail
        refine Plan.wp_plan [.blk [0, 1, 2, 3, 4, 5, 6, 7, 8, 9, 10, 11, 12, 13, 14, 16, 17, 18, 19], .eff 15, .eff 20, .blk [21]] (fun w' => True) (by kernel_rfl) (by kernel_rfl) (by intro _ _ d _ _ h; cases d <;> exact h) (trivial) (fun hS => ?_)
        clear hS
        clear hjc
        apply Plan.blk_intro
        · intro w' hw Φ HΦ
          obtain _ := hw
          simp only [Plan.pick, List.map_cons, List.map_nil, List.getD_cons_zero, List.getD_cons_succ]
          repeat (first | go_values | go_skip | go_guarded | go_step | go_upon)
          exact ⟨rfl, HΦ.out⟩
        · kernel_rfl
        refine Plan.eff_intro (fun K hK hKp => ?_)
        have HK := Lib.hid hK
        clear hK hKp
        simp only [Plan.pick, List.map_cons, List.map_nil, List.getD_cons_zero, List.getD_cons_succ]
        repeat (first | go_values | go_skip | go_guarded | go_step | go_upon)
        try dsimp only
        repeat (first | go_values | go_skip | go_guarded | go_step | go_upon)
        refine HK.out _ _ (trivial) ?_
        clear HK K
        refine Plan.eff_intro (fun K hK hKp => ?_)
        have HK := Lib.hid hK
        clear hK hKp
        simp only [Plan.pick, List.map_cons, List.map_nil, List.getD_cons_zero, List.getD_cons_succ]
        repeat (first | go_values | go_skip | go_guarded | go_step | go_upon)
        try dsimp only
        repeat (first | go_values | go_skip | go_guarded | go_step | go_upon)
        refine HK.out _ _ (trivial) ?_
        clear HK K
        apply Plan.blk_intro
        · intro w' hw Φ HΦ
          obtain _ := hw
          simp only [Plan.pick, List.map_cons, List.map_nil, List.getD_cons_zero, List.getD_cons_succ]
          repeat (first | go_values | go_skip | go_guarded | go_step | go_upon)
          exact ⟨rfl, HΦ.out⟩
        · kernel_rfl
        refine Plan.plan_done ?_
        go_wp2_with fail
        go_ret
        exact ⟨false, rfl, by simp; exact HFR.out, ((HUI.out.trans HX.out).drew).below⟩
    · obtain rfl : j = na := by omega
      have HT := Lib.hid (HR.out _ HNA.out HP.out)
      go_wp2_with fail
      go_ret
      exact ⟨true, rfl, by simp; exact HT.out, HUI.out.below⟩
end Go.Proofs.Ytnhgmmjlhhgdoaa
