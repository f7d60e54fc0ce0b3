/- The document's references: Push. -/
import Derived.Test.YtpkbdmieelgdlaaGreatDq3
import Derived.StillTailTactics
import Derived.Test.YtpkbdmieelgdlaaGreatSink
namespace Go.Proofs.YtpkbdmieelgdlaaGreat
open Go Go.RowKit

/-- An empty slice of the call's own, just made. -/
theorem own_emptyAt (w : World) (g : Nat) {B : Nat} (hg : g = w.heap.size) (hB : B ≤ w.heap.size) : Own (w.alloc (.cells #[] 3)) B (.slice (some ⟨g, 0, none⟩) 0 0) [] := by
  subst hg
  exact Own.empty w hB
theorem ints_one (w : World) (g : Nat) {y : Int} (hb : Blk w g 3 #[.int .i64 y]) : IsInts w (some ⟨g, 0, none⟩) [y] := by
  refine .inr ⟨g, 0, rfl, hb.lt, fun i hi => ?_⟩
  have : i = 0 := by simpa using hi
  subst this
  exact hb.one
section
variable {w w' : World} {r h : Nat} {V V' : Value} {vs vs' : List Value} {np np' : List Pst} {l l' : List Int} {F F' : Int → Ob} {rows rows' : List (List Int)} {n n' : Int} {O Oh Oh' : Nat → Prop}
theorem dpush_none (r h : Nat) (np : List Pst) (i a : Int) (w : World) (H : DqO w r h np l F rows n O) (hi : i < 0 ∨ rows.length ≤ i) : Calls Tryz.prog 29 #[.pointer (some ⟨r, 0, none⟩), .int .i64 i, .int .i64 a] w fun e w' => e = .returned (.int .i64 2) ∧ w = w' := by
  have HQ := Lib.hid (dhas r h np i false w H (by rw [eq_comm, decide_eq_false_iff_not]; omega))
  clear H hi
  go_enter Tryz.func29, Tryz.ntmps29
  go_wp2_with fail
  refine (HQ.out).mono ?_
  rintro e w' ⟨rfl, rfl⟩
  go_wp2_with fail
  go_ret
  exact ⟨rfl, rfl⟩
theorem dpush_kind (r h : Nat) (np : List Pst) (i a : Int) (w : World) (H : DqO w r h np l F rows n O) (hi : 0 ≤ i ∧ i < rows.length) (ha : a ∉ l ∨ a ∈ l ∧ (F a).k ≠ 4) : Calls Tryz.prog 29 #[.pointer (some ⟨r, 0, none⟩), .int .i64 i, .int .i64 a] w fun e w' => e = .returned (.int .i64 5) ∧ Upd [] w w' := by
  have HQ := Lib.hid (dhas r h np i true w H (by rw [eq_comm, decide_eq_true_eq]; exact hi))
  have HI := Lib.hid (dis_no r h np a w H ha)
  clear H hi ha
  go_enter Tryz.func29, Tryz.ntmps29
  go_wp2_with fail
  refine (HQ.out).mono ?_
  rintro e w' ⟨rfl, rfl⟩
  go_wp2_with fail
  refine (HI.out).mono ?_
  rintro e w1 ⟨rfl, hu⟩
  have HU := Lib.hid hu
  clear hu
  go_wp2_with fail
  go_ret
  exact ⟨rfl, HU.out⟩
set_option maxRecDepth 100000 in
set_option maxHeartbeats 3200000 in
theorem dpush_yes (r h : Nat) (np : List Pst) (i a : Int) (j : Nat) (w : World) (H : DqO w r h np l F rows n O) (hi : i = j) (hj : j < rows.length) (ha : a ∈ l) (hk : (F a).k = 4) (h5 : 2 < (F a).ws.length)
    (hrow : ∀ x ∈ rows.getD j [], x ∈ l ∧ 2 < (F x).ws.length) (hsm : (rows.getD j []).length ≤ 16384) :
    Calls Tryz.prog 29 #[.pointer (some ⟨r, 0, none⟩), .int .i64 i, .int .i64 a] w fun e w' =>
      e = .returned (.int .i64 0) ∧ ∃ O', DqO w' r h np l (pushF F (rows.getD j []) a) (rows.set j (rows.getD j [] ++ [a])) n O' ∧ StepO O w O' w' := by
  subst hi
  have HQ := Lib.hid (dhas r h np j true w H (by rw [eq_comm, decide_eq_true_eq]; omega))
  have HI := Lib.hid (dis_yes r h np a w H ha hk)
  obtain ⟨V, vs, Oh, H, rfl⟩ := H
  have HH := Lib.hid H
  obtain ⟨g, c, A, c2, rfl, hvs, _⟩ := H.at hj
  obtain ⟨row, hrw⟩ : ∃ row, rows.getD j [] = row := ⟨_, rfl⟩
  rw [hrw] at hrow hsm hvs ⊢
  have HRW := Lib.hid hrw
  have HVS := Lib.hid hvs
  have HROW := Lib.hid hrow
  have HPUT := Lib.hid (fun W (hu : Upd [] w W) => dput_yes h np a 2 2 0 W ((H.upd0 hu).heap) ha rfl h5)
  have HJ := Lib.hid hj
  have HA := Lib.hid ha
  clear H hrw hvs hrow ha hk h5
  obtain ⟨N, hN⟩ : ∃ N, rows.length = N := ⟨_, rfl⟩
  have HN := Lib.hid hN
  obtain ⟨m, hm⟩ : ∃ m, row.length = m := ⟨_, rfl⟩
  have HM := Lib.hid hm
  rw [hN] at hj
  rw [hm] at hsm
  clear hN hm
  go_enter Tryz.func29, Tryz.ntmps29
  go_wp2_with fail
  refine (HQ.out).mono ?_
  rintro e w' ⟨rfl, rfl⟩
  go_wp2_with fail
  refine (HI.out).mono ?_
  rintro e w1 ⟨rfl, hu⟩
  have HU1 := Lib.hid hu
  have HH1 := Lib.hid (HH.out.upd0 hu)
  obtain ⟨c0, _, _, _, _⟩ := HH1.out.cells
  clear hu
  go_wp2_with fail
  refine (HPUT.out _ HU1.out).mono ?_
  rintro e w2 ⟨rfl, Oh2, hh2, hs2⟩
  obtain ⟨hd2, hs2⟩ := HH1.out.heaped hh2 hs2
  have HH2 := Lib.hid hd2
  have HS2 := Lib.hid (StepO.behind HU1.out hs2)
  clear c0 hh2 hd2 hs2
  have hcell : ∀ (W : World) (F' : Int → Ob) (Oh' : Nat → Prop), DqL W r h (.slice (some ⟨g, 0, none⟩) rows.length c) vs np l F' rows n Oh' → ∀ W', Upd [] W W' → W'.cell? ⟨r, 0, none⟩ = some (.pointer (some ⟨h, 0, none⟩)) ∧ W'.cell? ⟨r, 1, none⟩ = some (.slice (some ⟨g, 0, none⟩) N c) ∧
      W'.cell? ⟨g, j, none⟩ = some (.slice A m c2) ∧ W'.frozen? ⟨g, j, none⟩ = false ∧ IsInts W' A row ∧ (A = none → row.length = 0 ∧ c2 = 0) := fun W F' Oh' hd W' hu => by
    obtain ⟨k0, k1, _, _, _⟩ := (hd.upd0 hu).cells
    obtain ⟨g', c', A', c2', e1, e2, e3, e4, e5, e6⟩ := (hd.upd0 hu).at HJ.out
    simp only [Value.slice.injEq, Option.some.injEq, Addr.mk.injEq, and_true, true_and] at e1
    obtain ⟨rfl, rfl⟩ := e1
    rw [HRW.out, HVS.out] at e2
    simp only [Value.slice.injEq, true_and] at e2
    obtain ⟨rfl, rfl⟩ := e2
    rw [HRW.out, HM.out] at e3
    rw [HRW.out] at e5 e6
    rw [HN.out] at k1
    exact ⟨k0, k1, e3, e4, e5, e6⟩
  have HC := Lib.hid hcell
  clear hcell
  obtain ⟨d0, d1, d2, _, d4, d5⟩ := HC.out w2 _ _ HH2.out w2 (Upd.refl _ _)
  have HI4 := Lib.hid d4
  clear d4 d5
  go_upto_if 31 with fail
  go_cut [] (fun wx => ∃ Oh3, Hid (DqL wx r h (.slice (some ⟨g, 0, none⟩) rows.length c) vs np l (pushF F row a) rows n Oh3) ∧ Hid (StepO (OwnsDq r (.slice (some ⟨g, 0, none⟩) rows.length c) vs Oh) w (OwnsDq r (.slice (some ⟨g, 0, none⟩) rows.length c) vs Oh3) wx))
  case first =>
    by_cases h0 : m = 0
    · subst h0
      go_wp2_with fail
      go_meet
      have e : row = [] := List.eq_nil_of_length_eq_zero HM.out
      exact ⟨Oh2, by rw [e]; exact HH2, HS2⟩
    · obtain ⟨k, rfl⟩ : ∃ k, m = k + 1 := ⟨m - 1, by omega⟩
      have hw : IntKind.i64.wrap (k : Int) = (k : Int) := IntWalk.i64_in _ (by omega)
      have hw2 : (0 : Int) ≤ (k : Int) := by omega
      obtain ⟨b, off, rfl, _, d6⟩ := Reads.at (k := .i64) HI4.out HM.out (show k < k + 1 by omega)
      obtain ⟨x, hx⟩ : ∃ x, row.getD k 0 = x := ⟨_, rfl⟩
      rw [hx] at d6
      have hxm : x ∈ row := by rw [← hx, List.getD_eq_getElem?_getD, List.getElem?_eq_getElem (by rw [HM.out]; omega)]; exact List.getElem_mem _
      obtain ⟨hx1, hx2⟩ := HROW.out x hxm
      have hxl : row.getLastD 0 = x := by
        rw [← hx, List.getLastD_eq_getLast?, List.getLast?_eq_getElem?, HM.out, List.getD_eq_getElem?_getD]; rfl
      have HPUT2 := Lib.hid (fun W (hu : Upd [] w2 W) => dput_yes h np x 2 2 a W ((HH2.out.upd0 hu).heap) hx1 rfl (by rw [putF_len]; exact hx2))
      have HXL : Hid (pushF F row a = putF (putF F a 2 0) x 2 a) := Lib.hid (by
        unfold pushF nextF
        rw [if_neg (fun e => by rw [e] at hxm; cases hxm), hxl])
      have h1 : (k : Int) < ((k + 1 : Nat) : Int) := by omega
      have h2 : (k : Int) < (k : Int) + 1 := by omega
      clear hx hxm hx1 hx2 hxl
      go_upto_region 8 with fail
      go_still_tail 16, (by kernel_rfl)
      change wpList _ _ _ _ _ w2.drew
      go_wp2_with fail
      refine (HPUT2.out w2.drew ((Upd.refl [] w2).drew)).mono ?_
      rintro e w3 ⟨rfl, Oh3, hh3, hs3⟩
      obtain ⟨hd3, hs3⟩ := (HH2.out.upd0 ((Upd.refl [] w2).drew)).heaped hh3 hs3
      have HH3 := Lib.hid hd3
      have HS3 := Lib.hid (HS2.out.trans (StepO.behind ((Upd.refl [] w2).drew) hs3))
      clear hh3 hd3 hs3
      go_wp2_with fail
      go_meet
      exact ⟨Oh3, by rw [HXL.out]; exact HH3, HS3⟩
  case rest =>
    obtain ⟨Oh3, HH3, HS3⟩ := hcut
    clear HH2 HS2 HH1 HU1 HI4 d0 d1 d2
    have HF : Hid (∀ W, Upd [] wc W → W.cell? ⟨r, 1, none⟩ = some (.slice (some ⟨g, 0, none⟩) N c) ∧ W.cell? ⟨g, j, none⟩ = some (.slice A m c2)) := Lib.hid fun W hu => by
      obtain ⟨_, k1, k2, _, _, _⟩ := HC.out wc _ _ HH3.out W hu
      exact ⟨k1, k2⟩
    have HSRC : Hid (∀ W, Upd [] wc W → IsInts W A row ∧ (A = none → row.length = 0 ∧ c2 = 0) ∧ W.frozen? ⟨g, j, none⟩ = false) := Lib.hid fun W hu => by
      obtain ⟨_, _, _, k3, k4, k5⟩ := HC.out wc _ _ HH3.out W hu
      exact ⟨k4, k5, k3⟩
    have hj1 : (j : Int) < (N : Int) := by omega
    have hj0 : (0 : Int) ≤ (j : Int) := by omega
    go_upto_region 9 with fail
    refine Sink.wp_sinkH 18 (fun w' => w'.cell? ⟨r, 1, none⟩ = some (.slice (some ⟨g, 0, none⟩) N c) ∧ w'.cell? ⟨g, j, none⟩ = some (.slice A m c2)) rfl (by kernel_rfl) (by kernel_rfl) (by kernel_rfl) (by kernel_rfl) (HF.out _ (Upd.refl [] wc).drew) (fun hHeld => ?_)
    simp only [List.dropLast]
    refine wpAnyH_take (i := 0) (oi := _) (v := ?_) rfl (by kernel_rfl) (by kernel_rfl) (by kernel_rfl) (fun _ _ _ h => h) (Or.inl ⟨by rfl, ?_⟩) hHeld ?_
    rotate_left
    · (intro w' hSw; (try dsimp only at hSw); go_simp; (try with_reducible rfl))
    refine wpAnyH_take (i := 1) (oi := _) (v := ?_) rfl (by kernel_rfl) (by kernel_rfl) (by kernel_rfl) (fun _ _ _ h => h) (Or.inl ⟨by rfl, ?_⟩) hHeld ?_
    rotate_left
    · (intro w' hSw; (try dsimp only at hSw); go_simp; (try with_reducible rfl))
    refine wpAnyH_take (i := 2) (oi := _) (v := ?_) rfl (by kernel_rfl) (by kernel_rfl) (by kernel_rfl) (fun _ _ _ h => h) (Or.inl ⟨by rfl, ?_⟩) hHeld ?_
    rotate_left
    · (intro w' hSw; (try dsimp only at hSw); go_simp; (try with_reducible rfl))
    refine wpAnyH_take (i := 3) (oi := _) (v := ?_) rfl (by kernel_rfl) (by kernel_rfl) (by kernel_rfl) (fun _ _ _ h => h) (Or.inl ⟨by rfl, ?_⟩) hHeld ?_
    rotate_left
    · (intro w' hSw; (try dsimp only at hSw); go_simp; (try with_reducible rfl))
    refine wpAnyH_take (i := 4) (oi := _) (v := ?_) rfl (by kernel_rfl) (by kernel_rfl) (by kernel_rfl) (fun _ _ _ h => h) (Or.inl ⟨by rfl, ?_⟩) hHeld ?_
    rotate_left
    · (intro w' hSw; (try dsimp only at hSw); go_simp; (try with_reducible rfl))
    refine wpAnyH_take (i := 6) (oi := _) (v := ?_) rfl (by kernel_rfl) (by kernel_rfl) (by kernel_rfl) (fun _ _ _ h => h) (Or.inl ⟨by rfl, ?_⟩) hHeld ?_
    rotate_left
    · (intro w' hSw; (try dsimp only at hSw); go_simp; (try with_reducible rfl))
    refine wpAnyH_take (i := 7) (oi := _) (v := ?_) rfl (by kernel_rfl) (by kernel_rfl) (by kernel_rfl) (fun _ _ _ h => h) (Or.inl ⟨by rfl, ?_⟩) hHeld ?_
    rotate_left
    · (intro w' hSw; (try dsimp only at hSw); go_simp; (try with_reducible rfl))
    refine wpAnyH_take (i := 8) (oi := _) (v := ?_) rfl (by kernel_rfl) (by kernel_rfl) (by kernel_rfl) (fun _ _ _ h => h) (Or.inl ⟨by rfl, ?_⟩) hHeld ?_
    rotate_left
    · (intro w' hSw; (try dsimp only at hSw); go_simp; (try with_reducible rfl))
    refine wpAnyH_take (i := 9) (oi := _) (v := ?_) rfl (by kernel_rfl) (by kernel_rfl) (by kernel_rfl) (fun _ _ _ h => h) (Or.inl ⟨by rfl, ?_⟩) hHeld ?_
    rotate_left
    · (intro w' hSw; (try dsimp only at hSw); go_simp; (try with_reducible rfl))
    refine wpAnyH_take (i := 10) (oi := _) (v := ?_) rfl (by kernel_rfl) (by kernel_rfl) (by kernel_rfl) (fun _ _ _ h => h) (Or.inl ⟨by rfl, ?_⟩) hHeld ?_
    rotate_left
    · (intro w' hSw; (try dsimp only at hSw); go_simp; (try with_reducible rfl))
    refine wpAnyH_take (i := 11) (oi := _) (v := ?_) rfl (by kernel_rfl) (by kernel_rfl) (by kernel_rfl) (fun _ _ _ h => h) (Or.inl ⟨by rfl, ?_⟩) hHeld ?_
    rotate_left
    · (intro w' hSw; (try dsimp only at hSw); go_simp; (try with_reducible rfl))
    refine wpAnyH_take (i := 12) (oi := _) (v := ?_) rfl (by kernel_rfl) (by kernel_rfl) (by kernel_rfl) (fun _ _ _ h => h) (Or.inl ⟨by rfl, ?_⟩) hHeld ?_
    rotate_left
    · (intro w' hSw; (try dsimp only at hSw); go_simp; (try with_reducible rfl))
    refine wpAnyH_take (i := 14) (oi := _) (v := ?_) rfl (by kernel_rfl) (by kernel_rfl) (by kernel_rfl) (fun _ _ _ h => h) (Or.inl ⟨by rfl, ?_⟩) hHeld ?_
    rotate_left
    · (intro w' hSw; (try dsimp only at hSw); go_simp; (try with_reducible rfl))
    refine wpAnyH_ready (rs := [5, 15]) (by kernel_rfl) (by simp) ?_
    refine AllReadyH.cons (o := _) rfl (fun K hK => ?_) ?_
    · go_simp
      refine hK.out _ _ (HF.out _ ((Upd.refl [] wc).alloc _).drew) (fun hHeld => ?_)
      clear hK K
      refine wpAnyH_ready (rs := [13, 15]) (by kernel_rfl) (by simp) ?_
      refine AllReadyH.cons (o := _) rfl (fun K hK => ?_) ?_
      · refine step_pushes wc rfl _ _ rfl wc.heap.size (.slice (some ⟨wc.heap.size, 0, none⟩) 0 0) [] rfl (own_emptyAt wc _ rfl (Nat.le_refl _)) A c2 row m HM.out rfl (HSRC.out _ (((Upd.refl [] wc).alloc _).drew)).1 (HSRC.out _ (Upd.refl [] wc)).2.1 (by rw [HM.out]; simp; omega) (Nat.le_refl _) (((Upd.refl [] wc).alloc _).drew) (by simp) ?_
        intro v5 w5 h1 h2 h3 h4
        rw [List.nil_append] at h1
        have HO5 := Lib.hid h1
        have HU5 := Lib.hid h2
        have HV5 := Lib.hid h4
        clear h1 h2 h3 h4
        refine hK.out _ _ (HF.out _ HU5.out) (fun hHeld => ?_)
        clear hK K
        refine wpAnyH_ready (rs := [15]) (by kernel_rfl) (by simp) ?_
        refine AllReadyH.cons (o := _) rfl (fun K hK => ?_) ?_
        · go_simp
          refine hK.out _ _ (HF.out _ (HU5.out.alloc _)) (fun hHeld => ?_)
          clear hK K
          refine wpAnyH_ready (rs := [16]) (by kernel_rfl) (by simp) ?_
          refine AllReadyH.cons (o := _) rfl (fun K hK => ?_) ?_
          · refine step_pushes wc rfl _ _ rfl wc.heap.size v5 row rfl (HO5.out.alloc _) (some ⟨w5.heap.size, 0, none⟩) 1 [a] 1 rfl rfl (ints_one _ _ (Blk.new _ _ _)) (fun e => by cases e) (by rw [HM.out]; simp; omega) (Nat.le_refl _) (HU5.out.alloc _) (by have := HU5.out.size; simp; omega) ?_
            intro v6 w6 h1 h2 h3 h4
            obtain ⟨A6, c6, hv6, _, _⟩ := h1.form
            obtain ⟨m6, hm6⟩ : ∃ m6, (row ++ [a]).length = m6 := ⟨_, rfl⟩
            rw [hm6] at hv6
            subst hv6
            clear hm6
            have HO6 := Lib.hid h1
            have HU6 := Lib.hid h2
            clear h1 h2 h3 h4
            refine hK.out _ _ (HF.out _ HU6.out) (fun hHeld => ?_)
            clear hK K
            refine wpAnyH_take (i := 17) (oi := _) (v := ?_) rfl (by kernel_rfl) (by kernel_rfl) (by kernel_rfl) (fun _ _ _ h => h) (Or.inl ⟨by rfl, ?_⟩) hHeld ?_
            rotate_left
            · (intro w' hSw; (try dsimp only at hSw); go_simp; (try with_reducible rfl))
            refine wpAnyH_done (by kernel_rfl) ?_ _
            obtain ⟨k1, k2⟩ := HF.out _ HU6.out
            have k3 := (HSRC.out _ HU6.out).2.2
            obtain ⟨hd, hs⟩ := HH3.out.put HU6.out HJ.out HO6.out
            have HD := Lib.hid hd
            have HS := Lib.hid (HS3.out.trans hs)
            clear hHeld hd hs
            change wpList _ _ _ _ _ _
            go_wp2_with fail
            go_ret
            exact ⟨rfl, _, ⟨_, _, _, HD.out, rfl⟩, HS.out⟩
          · exact AllReadyH.nil
        · exact AllReadyH.nil
      · refine AllReadyH.cons (o := _) rfl (fun K hK => ?_) ?_
        · go_simp
          refine hK.out _ _ (HF.out _ (((Upd.refl [] wc).alloc _).alloc _).drew) (fun hHeld => ?_)
          clear hK K
          refine wpAnyH_ready (rs := [13]) (by kernel_rfl) (by simp) ?_
          refine AllReadyH.cons (o := _) rfl (fun K hK => ?_) ?_
          · refine step_pushes wc rfl _ _ rfl wc.heap.size (.slice (some ⟨wc.heap.size, 0, none⟩) 0 0) [] rfl ((own_emptyAt wc _ rfl (Nat.le_refl _)).alloc _) A c2 row m HM.out rfl (HSRC.out _ ((((Upd.refl [] wc).alloc _).alloc _).drew)).1 (HSRC.out _ (Upd.refl [] wc)).2.1 (by rw [HM.out]; simp; omega) (Nat.le_refl _) ((((Upd.refl [] wc).alloc _).alloc _).drew) (by simp; omega) ?_
            intro v5 w5 h1 h2 h3 h4
            rw [List.nil_append] at h1
            have HO5 := Lib.hid h1
            have HU5 := Lib.hid h2
            have HV5 := Lib.hid h4
            clear h1 h2 h3 h4
            have HX5 := Lib.hid ((Blk.newAt (wc.alloc (.cells #[] 3)) (wc.heap.size + 1) 3 #[.int .i64 a] (by simp)).drew.upd HV5.out (by simp [Value.ownBlock]))
            refine hK.out _ _ (HF.out _ HU5.out) (fun hHeld => ?_)
            clear hK K
            refine wpAnyH_ready (rs := [16]) (by kernel_rfl) (by simp) ?_
            refine AllReadyH.cons (o := _) rfl (fun K hK => ?_) ?_
            · refine step_pushes wc rfl _ _ rfl wc.heap.size v5 row rfl HO5.out (some ⟨(wc.heap.size + 1), 0, none⟩) 1 [a] 1 rfl rfl (ints_one _ _ HX5.out) (fun e => by cases e) (by rw [HM.out]; simp; omega) (Nat.le_refl _) HU5.out (by have := HU5.out.size; omega) ?_
              intro v6 w6 h1 h2 h3 h4
              obtain ⟨A6, c6, hv6, _, _⟩ := h1.form
              obtain ⟨m6, hm6⟩ : ∃ m6, (row ++ [a]).length = m6 := ⟨_, rfl⟩
              rw [hm6] at hv6
              subst hv6
              clear hm6
              have HO6 := Lib.hid h1
              have HU6 := Lib.hid h2
              clear h1 h2 h3 h4
              refine hK.out _ _ (HF.out _ HU6.out) (fun hHeld => ?_)
              clear hK K
              refine wpAnyH_take (i := 17) (oi := _) (v := ?_) rfl (by kernel_rfl) (by kernel_rfl) (by kernel_rfl) (fun _ _ _ h => h) (Or.inl ⟨by rfl, ?_⟩) hHeld ?_
              rotate_left
              · (intro w' hSw; (try dsimp only at hSw); go_simp; (try with_reducible rfl))
              refine wpAnyH_done (by kernel_rfl) ?_ _
              obtain ⟨k1, k2⟩ := HF.out _ HU6.out
              have k3 := (HSRC.out _ HU6.out).2.2
              obtain ⟨hd, hs⟩ := HH3.out.put HU6.out HJ.out HO6.out
              have HD := Lib.hid hd
              have HS := Lib.hid (HS3.out.trans hs)
              clear hHeld hd hs
              change wpList _ _ _ _ _ _
              go_wp2_with fail
              go_ret
              exact ⟨rfl, _, ⟨_, _, _, HD.out, rfl⟩, HS.out⟩
            · exact AllReadyH.nil
          · exact AllReadyH.nil
        · exact AllReadyH.nil
    · refine AllReadyH.cons (o := _) rfl (fun K hK => ?_) ?_
      · go_simp
        refine hK.out _ _ (HF.out _ ((Upd.refl [] wc).alloc _).drew) (fun hHeld => ?_)
        clear hK K
        refine wpAnyH_ready (rs := [5]) (by kernel_rfl) (by simp) ?_
        refine AllReadyH.cons (o := _) rfl (fun K hK => ?_) ?_
        · go_simp
          refine hK.out _ _ (HF.out _ (((Upd.refl [] wc).alloc _).alloc _).drew) (fun hHeld => ?_)
          clear hK K
          refine wpAnyH_ready (rs := [13]) (by kernel_rfl) (by simp) ?_
          refine AllReadyH.cons (o := _) rfl (fun K hK => ?_) ?_
          · refine step_pushes wc rfl _ _ rfl wc.heap.size (.slice (some ⟨(wc.heap.size + 1), 0, none⟩) 0 0) [] rfl (own_emptyAt (wc.alloc _) _ (by simp) (by simp)) A c2 row m HM.out rfl (HSRC.out _ ((((Upd.refl [] wc).alloc _).alloc _).drew)).1 (HSRC.out _ (Upd.refl [] wc)).2.1 (by rw [HM.out]; simp; omega) (Nat.le_refl _) ((((Upd.refl [] wc).alloc _).alloc _).drew) (by simp; omega) ?_
            intro v5 w5 h1 h2 h3 h4
            rw [List.nil_append] at h1
            have HO5 := Lib.hid h1
            have HU5 := Lib.hid h2
            have HV5 := Lib.hid h4
            clear h1 h2 h3 h4
            have HX5 := Lib.hid (((Blk.new wc 3 #[.int .i64 a]).alloc (.cells #[] 3)).drew.upd HV5.out (by simp [Value.ownBlock]))
            refine hK.out _ _ (HF.out _ HU5.out) (fun hHeld => ?_)
            clear hK K
            refine wpAnyH_ready (rs := [16]) (by kernel_rfl) (by simp) ?_
            refine AllReadyH.cons (o := _) rfl (fun K hK => ?_) ?_
            · refine step_pushes wc rfl _ _ rfl wc.heap.size v5 row rfl HO5.out (some ⟨wc.heap.size, 0, none⟩) 1 [a] 1 rfl rfl (ints_one _ _ HX5.out) (fun e => by cases e) (by rw [HM.out]; simp; omega) (Nat.le_refl _) HU5.out (by have := HU5.out.size; omega) ?_
              intro v6 w6 h1 h2 h3 h4
              obtain ⟨A6, c6, hv6, _, _⟩ := h1.form
              obtain ⟨m6, hm6⟩ : ∃ m6, (row ++ [a]).length = m6 := ⟨_, rfl⟩
              rw [hm6] at hv6
              subst hv6
              clear hm6
              have HO6 := Lib.hid h1
              have HU6 := Lib.hid h2
              clear h1 h2 h3 h4
              refine hK.out _ _ (HF.out _ HU6.out) (fun hHeld => ?_)
              clear hK K
              refine wpAnyH_take (i := 17) (oi := _) (v := ?_) rfl (by kernel_rfl) (by kernel_rfl) (by kernel_rfl) (fun _ _ _ h => h) (Or.inl ⟨by rfl, ?_⟩) hHeld ?_
              rotate_left
              · (intro w' hSw; (try dsimp only at hSw); go_simp; (try with_reducible rfl))
              refine wpAnyH_done (by kernel_rfl) ?_ _
              obtain ⟨k1, k2⟩ := HF.out _ HU6.out
              have k3 := (HSRC.out _ HU6.out).2.2
              obtain ⟨hd, hs⟩ := HH3.out.put HU6.out HJ.out HO6.out
              have HD := Lib.hid hd
              have HS := Lib.hid (HS3.out.trans hs)
              clear hHeld hd hs
              change wpList _ _ _ _ _ _
              go_wp2_with fail
              go_ret
              exact ⟨rfl, _, ⟨_, _, _, HD.out, rfl⟩, HS.out⟩
            · exact AllReadyH.nil
          · exact AllReadyH.nil
        · exact AllReadyH.nil
      · exact AllReadyH.nil
end
end Go.Proofs.YtpkbdmieelgdlaaGreat
