/- The document's references: Poll. -/
import Derived.Test.YtpkbdmieelgdlaaGreatDq4
namespace Go.Proofs.YtpkbdmieelgdlaaGreat
open Go Go.RowKit

section
variable {w w' : World} {r h : Nat} {V V' : Value} {vs vs' : List Value} {np np' : List Pst} {l l' : List Int} {F F' : Int → Ob} {rows rows' : List (List Int)} {n n' : Int} {O Oh Oh' : Nat → Prop}
theorem dpoll_none (r h : Nat) (np : List Pst) (i : Int) (w : World) (H : DqO w r h np l F rows n O) (hi : i < 0 ∨ rows.length ≤ i) : Calls Tryz.prog 32 #[.pointer (some ⟨r, 0, none⟩), .int .i64 i] w fun e w' => e = .returned (.agg #[.int .i64 0, .int .i64 2]) ∧ Upd [] w w' := by
  have HG : Hid (Blk (w.alloc (.cells #[.int .i64 0, .int .i64 0] 34)) w.heap.size 34 #[.int .i64 0, .int .i64 0]) := Lib.hid (Blk.new _ _ _)
  have HUA : Hid (Upd [] w (w.alloc (.cells #[.int .i64 0, .int .i64 0] 34))) := Lib.hid ((Upd.refl [] w).alloc _)
  have z0 := HG.out.cell 0
  have z1 := HG.out.cell 1
  have z2 := HG.out.frozen 0
  have z3 := HG.out.frozen 1
  simp only [List.getElem?_toArray, List.getElem?_cons_zero, List.getElem?_cons_succ] at z0 z1
  have HQ := Lib.hid (dhas r h np i false _ (H.upd0 HUA.out) (by rw [eq_comm, decide_eq_false_iff_not]; omega))
  clear H hi
  go_enter Tryz.func32, Tryz.ntmps32
  go_wp2_with fail
  refine (HQ.out).mono ?_
  rintro e w' ⟨rfl, rfl⟩
  go_wp2_with fail
  exact cell_ret rfl (Blk.new _ _ _) rfl rfl Tryz.underlying34 (by kernel_rfl) ⟨rfl, (Upd.refl [] w).alloc _⟩
theorem dpoll_empty (r h : Nat) (np : List Pst) (i : Int) (j : Nat) (w : World) (H : DqO w r h np l F rows n O) (hi : i = j) (hj : j < rows.length) (hr : rows.getD j [] = []) : Calls Tryz.prog 32 #[.pointer (some ⟨r, 0, none⟩), .int .i64 i] w fun e w' => e = .returned (.agg #[.int .i64 0, .int .i64 0]) ∧ Upd [] w w' := by
  subst hi
  have HG : Hid (Blk (w.alloc (.cells #[.int .i64 0, .int .i64 0] 34)) w.heap.size 34 #[.int .i64 0, .int .i64 0]) := Lib.hid (Blk.new _ _ _)
  have HUA : Hid (Upd [] w (w.alloc (.cells #[.int .i64 0, .int .i64 0] 34))) := Lib.hid ((Upd.refl [] w).alloc _)
  have z0 := HG.out.cell 0
  have z1 := HG.out.cell 1
  have z2 := HG.out.frozen 0
  have z3 := HG.out.frozen 1
  simp only [List.getElem?_toArray, List.getElem?_cons_zero, List.getElem?_cons_succ] at z0 z1
  have HQ := Lib.hid (dhas r h np j true _ (H.upd0 HUA.out) (by rw [eq_comm, decide_eq_true_eq]; omega))
  obtain ⟨V, vs, Oh, H, rfl⟩ := H
  obtain ⟨_, c1, _, _, _⟩ := (H.upd0 HUA.out).cells
  obtain ⟨g, c, A, c2, rfl, _, d1, _, _, _⟩ := (H.upd0 HUA.out).at hj
  rw [hr] at d1
  generalize rows.length = N at *
  clear H hr
  go_enter Tryz.func32, Tryz.ntmps32
  go_wp2_with fail
  refine (HQ.out).mono ?_
  rintro e w' ⟨rfl, rfl⟩
  go_wp2_with fail
  exact cell_ret rfl (Blk.new _ _ _) rfl rfl Tryz.underlying34 (by kernel_rfl) ⟨rfl, (Upd.refl [] w).alloc _⟩
theorem own_cap {w : World} {B k c : Nat} {A : Option Addr} {xs : List Int} (h : Own w B (.slice A k c) xs) : k ≤ c := by
  rcases h.2 with ⟨e, h2⟩ | ⟨g, cap, cur, e, _, _, h3, _⟩
  · simp only [Value.slice.injEq] at e; omega
  · simp only [Value.slice.injEq] at e; omega
set_option maxRecDepth 100000 in
set_option maxHeartbeats 3200000 in
theorem dpoll_yes (r h : Nat) (np : List Pst) (i a : Int) (t : List Int) (j : Nat) (w : World) (H : DqO w r h np l F rows n O) (hi : i = j) (hj : j < rows.length) (hr : rows.getD j [] = a :: t) (ha : a ∈ l) (h5 : 2 < (F a).ws.length) (hsm : t.length ≤ 16384) :
    Calls Tryz.prog 32 #[.pointer (some ⟨r, 0, none⟩), .int .i64 i] w fun e w' =>
      e = .returned (.agg #[.int .i64 a, .int .i64 0]) ∧ ∃ O', DqO w' r h np l (nextF F a 0) (rows.set j t) n O' ∧ StepO O w O' w' := by
  subst hi
  have HG : Hid (Blk (w.alloc (.cells #[.int .i64 0, .int .i64 0] 34)) w.heap.size 34 #[.int .i64 0, .int .i64 0]) := Lib.hid (Blk.new _ _ _)
  have HUA : Hid (Upd [] w (w.alloc (.cells #[.int .i64 0, .int .i64 0] 34))) := Lib.hid ((Upd.refl [] w).alloc _)
  have z0 := HG.out.cell 0
  have z1 := HG.out.cell 1
  have z2 := HG.out.frozen 0
  have z3 := HG.out.frozen 1
  simp only [List.getElem?_toArray, List.getElem?_cons_zero, List.getElem?_cons_succ] at z0 z1
  have HQ := Lib.hid (dhas r h np j true _ (H.upd0 HUA.out) (by rw [eq_comm, decide_eq_true_eq]; omega))
  obtain ⟨V, vs, Oh, H, rfl⟩ := H
  have HH := Lib.hid H
  have HH1 := Lib.hid (H.upd0 HUA.out)
  obtain ⟨_, c1, _, _, _⟩ := HH1.out.cells
  obtain ⟨g, c, A, c2, rfl, _, d1, dfz, d4, _⟩ := HH1.out.at hj
  have HFZ0 := Lib.hid dfz
  clear dfz
  obtain ⟨b, off, rfl, _, d5⟩ := Reads.at (k := .i64) d4 rfl (show 0 < (rows.getD j []).length by rw [hr]; simp)
  rw [hr] at d1 d5 d4
  obtain ⟨m, hm⟩ : ∃ m, t.length = m := ⟨_, rfl⟩
  have HM := Lib.hid hm
  rw [List.length_cons, hm] at d1
  rw [Nat.add_zero] at d5
  change _ = some (Value.int .i64 a) at d5
  have hz0 : ((m : Int) + 1 == 0) = false := by simp; omega
  have hcap : m + 1 ≤ c2 := by
    have h1 := HH1.out.own j hj
    obtain ⟨g', c', A', c2', e1, e2, e3, _, _, _⟩ := HH1.out.at hj
    simp only [Value.slice.injEq, Option.some.injEq, Addr.mk.injEq, and_true, true_and] at e1
    obtain ⟨rfl, rfl⟩ := e1
    rw [hr, List.length_cons, hm] at e3 e2
    rw [d1] at e3
    simp only [Option.some.injEq, Value.slice.injEq, true_and] at e3
    rw [e2] at h1
    have := own_cap h1
    omega
  have HD4 := Lib.hid d4
  rw [hm] at hsm
  have HJ := Lib.hid hj
  have HR := Lib.hid hr
  have HA := Lib.hid (And.intro ha h5)
  obtain ⟨N, hN⟩ : ∃ N, rows.length = N := ⟨_, rfl⟩
  rw [hN] at hj c1
  have HN := Lib.hid hN
  clear H hr hm d4 ha h5 hN
  go_enter Tryz.func32, Tryz.ntmps32
  go_wp2_with fail
  refine (HQ.out).mono ?_
  rintro e w' ⟨rfl, rfl⟩
  go_upto_region 6 with fail
  have HNG : Hid (w.heap.size ≠ g) := Lib.hid (fun e => by have := (World.ownsRow.lt HH.out.row g rfl).2; omega)
  have HNO : Hid (¬ Oh w.heap.size) := Lib.hid (fun e => by have := HH.out.heap.owned e; omega)
  obtain ⟨wc, hwc⟩ : ∃ wc, w.alloc (.cells #[.int .i64 0, .int .i64 0] 34) = wc := ⟨_, rfl⟩
  rw [hwc] at HG HUA HH1 z0 z1 z2 z3 c1 d1 d5 HD4 HFZ0 ⊢
  clear hwc HQ
  have HF : Hid (∀ W, Upd [] wc W → W.cell? ⟨r, 1, none⟩ = some (.slice (some ⟨g, 0, none⟩) N c) ∧ W.cell? ⟨g, j, none⟩ = some (.slice (some ⟨b, off, none⟩) (m + 1) c2)) := Lib.hid fun W hu => ⟨(hu.cell (World.block_lt_of_cell? _ _ c1) (by simp)).trans c1, (hu.cell (World.block_lt_of_cell? _ _ d1) (by simp)).trans d1⟩
  have HFZ : Hid (∀ W, Upd [] wc W → W.frozen? ⟨g, j, none⟩ = false) := Lib.hid fun W hu => by
    have h1 := (HH1.out.upd0 hu).row
    exact World.ownsRow.frozenAt h1 j
  have hj1 : (j : Int) < (N : Int) := by omega
  by_cases hc1 : c2 = 1
  · subst hc1
    have h0 : m = 0 := by omega
    subst h0
    have ht : t = [] := List.eq_nil_of_length_eq_zero HM.out
    have HSRC : Hid (∀ W, Upd [] wc W → IsInts W (some ⟨b, off, none⟩) t) := Lib.hid fun W hu => .inl ht
    clear ht
    refine Sink.wp_sinkH 16 (fun w' => w'.cell? ⟨r, 1, none⟩ = some (.slice (some ⟨g, 0, none⟩) N c) ∧ w'.cell? ⟨g, j, none⟩ = some (.slice (some ⟨b, off, none⟩) (0 + 1) 1)) rfl (by kernel_rfl) (by kernel_rfl) (by kernel_rfl) (by kernel_rfl) (HF.out _ (Upd.refl [] wc).drew) (fun hHeld => ?_)
    simp only [List.dropLast]
    refine wpAnyH_take (i := 0) (oi := _) (v := ?_) rfl (by kernel_rfl) (by kernel_rfl) (by kernel_rfl) (fun _ _ _ h => h) (Or.inl ⟨by rfl, ?_⟩) hHeld ?_
    rotate_left
    · (intro w' hSw; (try dsimp only at hSw); go_simp; (try with_reducible rfl))
    refine wpAnyH_take (i := 1) (oi := _) (v := ?_) rfl (by kernel_rfl) (by kernel_rfl) (by kernel_rfl) (fun _ _ _ h => h) (Or.inl ⟨by rfl, ?_⟩) hHeld ?_
    rotate_left
    · (intro w' hSw; (try dsimp only at hSw); go_simp; (try with_reducible rfl))
    refine wpAnyH_take (i := 2) (oi := _) (v := ?_) rfl (by kernel_rfl) (by kernel_rfl) (by kernel_rfl) (fun _ _ _ h => h) (Or.inl ⟨by rfl, ?_⟩) hHeld ?_
    rotate_left
    · (intro w' hSw; (try dsimp only at hSw); go_simp; (try with_reducible rfl))
    refine wpAnyH_take (i := 3) (oi := _) (v := ?_) rfl (by kernel_rfl) (by kernel_rfl) (by kernel_rfl) (fun _ _ _ h => h) (Or.inl ⟨by rfl, ?_⟩) hHeld ?_
    rotate_left
    · (intro w' hSw; (try dsimp only at hSw); go_simp; (try with_reducible rfl))
    refine wpAnyH_take (i := 4) (oi := _) (v := ?_) rfl (by kernel_rfl) (by kernel_rfl) (by kernel_rfl) (fun _ _ _ h => h) (Or.inl ⟨by rfl, ?_⟩) hHeld ?_
    rotate_left
    · (intro w' hSw; (try dsimp only at hSw); go_simp; (try with_reducible rfl))
    refine wpAnyH_take (i := 6) (oi := _) (v := ?_) rfl (by kernel_rfl) (by kernel_rfl) (by kernel_rfl) (fun _ _ _ h => h) (Or.inl ⟨by rfl, ?_⟩) hHeld ?_
    rotate_left
    · (intro w' hSw; (try dsimp only at hSw); go_simp; (try with_reducible rfl))
    refine wpAnyH_take (i := 7) (oi := _) (v := ?_) rfl (by kernel_rfl) (by kernel_rfl) (by kernel_rfl) (fun _ _ _ h => h) (Or.inl ⟨by rfl, ?_⟩) hHeld ?_
    rotate_left
    · (intro w' hSw; (try dsimp only at hSw); go_simp; (try with_reducible rfl))
    refine wpAnyH_take (i := 8) (oi := _) (v := ?_) rfl (by kernel_rfl) (by kernel_rfl) (by kernel_rfl) (fun _ _ _ h => h) (Or.inl ⟨by rfl, ?_⟩) hHeld ?_
    rotate_left
    · (intro w' hSw; (try dsimp only at hSw); go_simp; (try with_reducible rfl))
    refine wpAnyH_take (i := 9) (oi := _) (v := ?_) rfl (by kernel_rfl) (by kernel_rfl) (by kernel_rfl) (fun _ _ _ h => h) (Or.inl ⟨by rfl, ?_⟩) hHeld ?_
    rotate_left
    · (intro w' hSw; (try dsimp only at hSw); go_simp; (try with_reducible rfl))
    refine wpAnyH_take (i := 10) (oi := _) (v := ?_) rfl (by kernel_rfl) (by kernel_rfl) (by kernel_rfl) (fun _ _ _ h => h) (Or.inl ⟨by rfl, ?_⟩) hHeld ?_
    rotate_left
    · (intro w' hSw; (try dsimp only at hSw); go_simp; (try with_reducible rfl))
    refine wpAnyH_take (i := 11) (oi := _) (v := ?_) rfl (by kernel_rfl) (by kernel_rfl) (by kernel_rfl) (fun _ _ _ h => h) (Or.inl ⟨by rfl, ?_⟩) hHeld ?_
    rotate_left
    · (intro w' hSw; (try dsimp only at hSw); go_simp; (try with_reducible rfl))
    refine wpAnyH_take (i := 12) (oi := _) (v := ?_) rfl (by kernel_rfl) (by kernel_rfl) (by kernel_rfl) (fun _ _ _ h => h) (Or.inl ⟨by rfl, ?_⟩) hHeld ?_
    rotate_left
    · (intro w' hSw; (try dsimp only at hSw); go_simp; (try with_reducible rfl))
    refine wpAnyH_take (i := 13) (oi := _) (v := ?_) rfl (by kernel_rfl) (by kernel_rfl) (by kernel_rfl) (fun _ _ _ h => h) (Or.inl ⟨by rfl, ?_⟩) hHeld ?_
    rotate_left
    · (intro w' hSw; (try dsimp only at hSw); go_simp; (try with_reducible rfl))
    refine wpAnyH_ready (rs := [5]) (by kernel_rfl) (by simp) ?_
    refine AllReadyH.cons (o := _) rfl (fun K hK => ?_) ?_
    · go_simp
      refine hK.out _ _ (HF.out _ ((Upd.refl [] wc).alloc _).drew) (fun hHeld => ?_)
      clear hK K
      refine wpAnyH_ready (rs := [14]) (by kernel_rfl) (by simp) ?_
      refine AllReadyH.cons (o := _) rfl (fun K hK => ?_) ?_
      · refine step_pushes wc rfl _ _ rfl wc.heap.size (.slice (some ⟨wc.heap.size, 0, none⟩) 0 0) [] rfl (own_emptyAt wc _ rfl (Nat.le_refl _)) (some ⟨b, off, none⟩) _ t 0 HM.out rfl (HSRC.out _ (((Upd.refl [] wc).alloc _).drew)) (fun e => by cases e) (by rw [HM.out]; first | (simp; done) | (simp; omega)) (Nat.le_refl _) (((Upd.refl [] wc).alloc _).drew) (by simp) ?_
        intro v6 w6 h1 h2 h3 h4
        rw [List.nil_append] at h1
        obtain ⟨A6, c6, hv6, _, _⟩ := h1.form
        rw [HM.out] at hv6
        subst hv6
        have HO6 := Lib.hid h1
        have HU6 := Lib.hid h2
        clear h1 h2 h3 h4
        refine hK.out _ _ (HF.out _ HU6.out) (fun hHeld => ?_)
        clear hK K
        refine wpAnyH_take (i := 15) (oi := _) (v := ?_) rfl (by kernel_rfl) (by kernel_rfl) (by kernel_rfl) (fun _ _ _ h => h) (Or.inl ⟨by rfl, ?_⟩) hHeld ?_
        rotate_left
        · (intro w' hSw; (try dsimp only at hSw); go_simp; (try with_reducible rfl))
        refine wpAnyH_done (by kernel_rfl) ?_ _
        obtain ⟨k1, k2⟩ := HF.out _ HU6.out
        have k3 := HFZ.out _ HU6.out
        obtain ⟨hd, hs⟩ := HH1.out.put HU6.out HJ.out HO6.out
        have HD := Lib.hid hd
        have HS := Lib.hid hs
        have hg0 := (HG.out.upd HU6.out (by simp)).far (p := ⟨g, j, none⟩) HNG.out (.slice A6 0 c6)
        have HG6 := Lib.hid hg0
        obtain ⟨e0, _, _, _, _⟩ := hd.cells
        clear hHeld hd hs hg0 z0 z1 z2 z3 c1 d1 d5
        change wpList _ _ _ _ _ _
        go_wp2_with fail
        refine ((dput_yes h np a 2 2 0 _ HD.out.heap HA.out.1 rfl HA.out.2)).mono ?_
        rintro e w8 ⟨rfl, Oh8, hh8, hs8⟩
        obtain ⟨hd8, hs8'⟩ := HD.out.heaped hh8 hs8
        have hg8 := HG6.out.moved (hs8.block _ HG6.out.lt HNO.out)
        have HD8 := Lib.hid hd8
        have HS8 := Lib.hid (HS.out.trans hs8')
        have hnb : ∀ k, OwnsDq r (.slice (some ⟨g, 0, none⟩) (rows.set j t).length c) (vs.set j (.slice A6 0 c6)) Oh8 k → k ≠ w.heap.size := fun k hk e => by
          rcases (HS.out.trans hs8').own k hk with h1 | h1
          · have := HH.out.owned h1; omega
          · have := HG.out.lt; omega
        have HNB := Lib.hid hnb
        clear hnb
        have HG8 := Lib.hid hg8
        have z0 := hg8.cell 0
        have z1 := hg8.cell 1
        have z2 := hg8.frozen 0
        have z3 := hg8.frozen 1
        simp only [List.getElem?_toArray, List.getElem?_cons_zero, List.getElem?_cons_succ] at z0 z1
        clear hh8 hs8 hd8 hs8' hg8 e0 k1 k2 k3
        go_wp2_with fail
        exact cell_ret rfl ((HG8.out.set_ 0 _).set_ 1 _) rfl rfl Tryz.underlying34 (by kernel_rfl) ⟨rfl, _, ⟨_, _, _, HD8.out.moved fun k hk => (Below.heap_setCell _ _ _ _ (HNB.out k hk)).trans (Below.heap_setCell _ _ _ _ (HNB.out k hk)), rfl⟩, ((StepO.behind HUA.out HS8.out).newCell (Nat.le_refl _) _).newCell (Nat.le_refl _) _⟩
      · exact AllReadyH.nil
    · exact AllReadyH.nil
  · have HSRC : Hid (∀ W, Upd [] wc W → IsInts W (some ⟨b, off + 1, none⟩) t) := Lib.hid fun W hu => by
      rcases HD4.out.upd hu (.inr (by simp)) with h | ⟨b', off', e, hb, hx⟩
      · cases h
      · simp only [Option.some.injEq, Addr.mk.injEq, and_true] at e
        obtain ⟨rfl, rfl⟩ := e
        refine .inr ⟨b, off + 1, rfl, hb, fun i hi => ?_⟩
        have := hx (i + 1) (by simp; omega)
        rw [show off + 1 + i = off + (i + 1) by omega, this]
        rfl
    have hm1 : m + 1 - 1 = m := by omega
    have hm2 : (1 : Int) ≤ (m : Int) + 1 := by omega
    refine Sink.wp_sinkH 16 (fun w' => w'.cell? ⟨r, 1, none⟩ = some (.slice (some ⟨g, 0, none⟩) N c) ∧ w'.cell? ⟨g, j, none⟩ = some (.slice (some ⟨b, off, none⟩) (m + 1) c2)) rfl (by kernel_rfl) (by kernel_rfl) (by kernel_rfl) (by kernel_rfl) (HF.out _ (Upd.refl [] wc).drew) (fun hHeld => ?_)
    simp only [List.dropLast]
    refine wpAnyH_take (i := 0) (oi := _) (v := ?_) rfl (by kernel_rfl) (by kernel_rfl) (by kernel_rfl) (fun _ _ _ h => h) (Or.inl ⟨by rfl, ?_⟩) hHeld ?_
    rotate_left
    · (intro w' hSw; (try dsimp only at hSw); go_simp; (try with_reducible rfl))
    refine wpAnyH_take (i := 1) (oi := _) (v := ?_) rfl (by kernel_rfl) (by kernel_rfl) (by kernel_rfl) (fun _ _ _ h => h) (Or.inl ⟨by rfl, ?_⟩) hHeld ?_
    rotate_left
    · (intro w' hSw; (try dsimp only at hSw); go_simp; (try with_reducible rfl))
    refine wpAnyH_take (i := 2) (oi := _) (v := ?_) rfl (by kernel_rfl) (by kernel_rfl) (by kernel_rfl) (fun _ _ _ h => h) (Or.inl ⟨by rfl, ?_⟩) hHeld ?_
    rotate_left
    · (intro w' hSw; (try dsimp only at hSw); go_simp; (try with_reducible rfl))
    refine wpAnyH_take (i := 3) (oi := _) (v := ?_) rfl (by kernel_rfl) (by kernel_rfl) (by kernel_rfl) (fun _ _ _ h => h) (Or.inl ⟨by rfl, ?_⟩) hHeld ?_
    rotate_left
    · (intro w' hSw; (try dsimp only at hSw); go_simp; (try with_reducible rfl))
    refine wpAnyH_take (i := 4) (oi := _) (v := ?_) rfl (by kernel_rfl) (by kernel_rfl) (by kernel_rfl) (fun _ _ _ h => h) (Or.inl ⟨by rfl, ?_⟩) hHeld ?_
    rotate_left
    · (intro w' hSw; (try dsimp only at hSw); go_simp; (try with_reducible rfl))
    refine wpAnyH_take (i := 6) (oi := _) (v := ?_) rfl (by kernel_rfl) (by kernel_rfl) (by kernel_rfl) (fun _ _ _ h => h) (Or.inl ⟨by rfl, ?_⟩) hHeld ?_
    rotate_left
    · (intro w' hSw; (try dsimp only at hSw); go_simp; (try with_reducible rfl))
    refine wpAnyH_take (i := 7) (oi := _) (v := ?_) rfl (by kernel_rfl) (by kernel_rfl) (by kernel_rfl) (fun _ _ _ h => h) (Or.inl ⟨by rfl, ?_⟩) hHeld ?_
    rotate_left
    · (intro w' hSw; (try dsimp only at hSw); go_simp; (try with_reducible rfl))
    refine wpAnyH_take (i := 8) (oi := _) (v := ?_) rfl (by kernel_rfl) (by kernel_rfl) (by kernel_rfl) (fun _ _ _ h => h) (Or.inl ⟨by rfl, ?_⟩) hHeld ?_
    rotate_left
    · (intro w' hSw; (try dsimp only at hSw); go_simp; (try with_reducible rfl))
    refine wpAnyH_take (i := 9) (oi := _) (v := ?_) rfl (by kernel_rfl) (by kernel_rfl) (by kernel_rfl) (fun _ _ _ h => h) (Or.inl ⟨by rfl, ?_⟩) hHeld ?_
    rotate_left
    · (intro w' hSw; (try dsimp only at hSw); go_simp; (try with_reducible rfl))
    refine wpAnyH_take (i := 10) (oi := _) (v := ?_) rfl (by kernel_rfl) (by kernel_rfl) (by kernel_rfl) (fun _ _ _ h => h) (Or.inl ⟨by rfl, ?_⟩) hHeld ?_
    rotate_left
    · (intro w' hSw; (try dsimp only at hSw); go_simp; (try with_reducible rfl))
    refine wpAnyH_take (i := 11) (oi := _) (v := ?_) rfl (by kernel_rfl) (by kernel_rfl) (by kernel_rfl) (fun _ _ _ h => h) (Or.inl ⟨by rfl, ?_⟩) hHeld ?_
    rotate_left
    · (intro w' hSw; (try dsimp only at hSw); go_simp; (try with_reducible rfl))
    refine wpAnyH_take (i := 12) (oi := _) (v := ?_) rfl (by kernel_rfl) (by kernel_rfl) (by kernel_rfl) (fun _ _ _ h => h) (Or.inl ⟨by rfl, ?_⟩) hHeld ?_
    rotate_left
    · (intro w' hSw; (try dsimp only at hSw); go_simp; (try with_reducible rfl))
    refine wpAnyH_take (i := 13) (oi := _) (v := ?_) rfl (by kernel_rfl) (by kernel_rfl) (by kernel_rfl) (fun _ _ _ h => h) (Or.inl ⟨by rfl, ?_⟩) hHeld ?_
    rotate_left
    · (intro w' hSw; (try dsimp only at hSw); go_simp; (try with_reducible rfl))
    refine wpAnyH_ready (rs := [5]) (by kernel_rfl) (by simp) ?_
    refine AllReadyH.cons (o := _) rfl (fun K hK => ?_) ?_
    · go_simp
      refine hK.out _ _ (HF.out _ ((Upd.refl [] wc).alloc _).drew) (fun hHeld => ?_)
      clear hK K
      refine wpAnyH_ready (rs := [14]) (by kernel_rfl) (by simp) ?_
      refine AllReadyH.cons (o := _) rfl (fun K hK => ?_) ?_
      · refine step_pushes wc rfl _ _ rfl wc.heap.size (.slice (some ⟨wc.heap.size, 0, none⟩) 0 0) [] rfl (own_emptyAt wc _ rfl (Nat.le_refl _)) (some ⟨b, off + 1, none⟩) _ t m HM.out rfl (HSRC.out _ (((Upd.refl [] wc).alloc _).drew)) (fun e => by cases e) (by rw [HM.out]; first | (simp; done) | (simp; omega)) (Nat.le_refl _) (((Upd.refl [] wc).alloc _).drew) (by simp) ?_
        intro v6 w6 h1 h2 h3 h4
        rw [List.nil_append] at h1
        obtain ⟨A6, c6, hv6, _, _⟩ := h1.form
        rw [HM.out] at hv6
        subst hv6
        have HO6 := Lib.hid h1
        have HU6 := Lib.hid h2
        clear h1 h2 h3 h4
        refine hK.out _ _ (HF.out _ HU6.out) (fun hHeld => ?_)
        clear hK K
        refine wpAnyH_take (i := 15) (oi := _) (v := ?_) rfl (by kernel_rfl) (by kernel_rfl) (by kernel_rfl) (fun _ _ _ h => h) (Or.inl ⟨by rfl, ?_⟩) hHeld ?_
        rotate_left
        · (intro w' hSw; (try dsimp only at hSw); go_simp; (try with_reducible rfl))
        refine wpAnyH_done (by kernel_rfl) ?_ _
        obtain ⟨k1, k2⟩ := HF.out _ HU6.out
        have k3 := HFZ.out _ HU6.out
        obtain ⟨hd, hs⟩ := HH1.out.put HU6.out HJ.out HO6.out
        have HD := Lib.hid hd
        have HS := Lib.hid hs
        have hg0 := (HG.out.upd HU6.out (by simp)).far (p := ⟨g, j, none⟩) HNG.out (.slice A6 m c6)
        have HG6 := Lib.hid hg0
        obtain ⟨e0, _, _, _, _⟩ := hd.cells
        clear hHeld hd hs hg0 z0 z1 z2 z3 c1 d1 d5
        change wpList _ _ _ _ _ _
        go_wp2_with fail
        refine ((dput_yes h np a 2 2 0 _ HD.out.heap HA.out.1 rfl HA.out.2)).mono ?_
        rintro e w8 ⟨rfl, Oh8, hh8, hs8⟩
        obtain ⟨hd8, hs8'⟩ := HD.out.heaped hh8 hs8
        have hg8 := HG6.out.moved (hs8.block _ HG6.out.lt HNO.out)
        have HD8 := Lib.hid hd8
        have HS8 := Lib.hid (HS.out.trans hs8')
        have hnb : ∀ k, OwnsDq r (.slice (some ⟨g, 0, none⟩) (rows.set j t).length c) (vs.set j (.slice A6 m c6)) Oh8 k → k ≠ w.heap.size := fun k hk e => by
          rcases (HS.out.trans hs8').own k hk with h1 | h1
          · have := HH.out.owned h1; omega
          · have := HG.out.lt; omega
        have HNB := Lib.hid hnb
        clear hnb
        have HG8 := Lib.hid hg8
        have z0 := hg8.cell 0
        have z1 := hg8.cell 1
        have z2 := hg8.frozen 0
        have z3 := hg8.frozen 1
        simp only [List.getElem?_toArray, List.getElem?_cons_zero, List.getElem?_cons_succ] at z0 z1
        clear hh8 hs8 hd8 hs8' hg8 e0 k1 k2 k3
        go_wp2_with fail
        exact cell_ret rfl ((HG8.out.set_ 0 _).set_ 1 _) rfl rfl Tryz.underlying34 (by kernel_rfl) ⟨rfl, _, ⟨_, _, _, HD8.out.moved fun k hk => (Below.heap_setCell _ _ _ _ (HNB.out k hk)).trans (Below.heap_setCell _ _ _ _ (HNB.out k hk)), rfl⟩, ((StepO.behind HUA.out HS8.out).newCell (Nat.le_refl _) _).newCell (Nat.le_refl _) _⟩
      · exact AllReadyH.nil
    · exact AllReadyH.nil
end
end Go.Proofs.YtpkbdmieelgdlaaGreat
