/- The contracts of queues: Push. -/
import Derived.Test.YtpkbdmieelgdlaaGreatQue2P
namespace Go.Proofs.YtpkbdmieelgdlaaGreat
open Go Go.RowKit

section
variable {O Oh : Nat → Prop} {l : List Int} {F : Int → Ob} {rows : List (List Int)} {v : Value} {cs : List Value}
theorem push_none (q h : Nat) (np : List Pst) (i a : Int) (w : World) (H : QueO w q h np l F rows O) (hi : i < 0 ∨ rows.length ≤ i) : Calls Tryz.prog 30 #[.pointer (some ⟨q, 0, none⟩), .int .i64 i, .int .i64 a] w fun e w' => e = .returned (.int .i64 2) ∧ w = w' := by
  obtain ⟨v, Oh, ⟨H, _, _⟩, rfl⟩ := H
  have HQ := Lib.hid (qhas q h np rows.length i false w H (by rw [eq_comm, decide_eq_false_iff_not]; omega))
  clear H hi
  go_enter Tryz.func30, Tryz.ntmps30
  go_wp2_with fail
  refine (HQ.out).mono ?_
  rintro e w' ⟨rfl, rfl⟩
  go_wp2_with fail
  go_ret
  exact ⟨rfl, rfl⟩
theorem push_kind (q h : Nat) (np : List Pst) (i a : Int) (w : World) (H : QueO w q h np l F rows O) (hi : 0 ≤ i ∧ i < rows.length) (ha : a ∉ l ∨ a ∈ l ∧ (F a).k ≠ 4) : Calls Tryz.prog 30 #[.pointer (some ⟨q, 0, none⟩), .int .i64 i, .int .i64 a] w fun e w' => e = .returned (.int .i64 5) ∧ Upd [] w w' := by
  obtain ⟨v, Oh, ⟨H, _, _⟩, rfl⟩ := H
  have HQ := Lib.hid (qhas q h np rows.length i true w H (by rw [eq_comm, decide_eq_true_eq]; exact hi))
  obtain ⟨c0, c1, _⟩ := H.cells
  rcases ha with ha | ⟨ha, hk⟩
  · have HH := Lib.hid (head_no h np a w H.heap ha)
    clear H hi ha
    go_enter Tryz.func30, Tryz.ntmps30
    go_wp2_with fail
    refine (HQ.out).mono ?_
    rintro e w' ⟨rfl, rfl⟩
    go_wp2_with fail
    refine (HH.out).mono ?_
    rintro e w1 ⟨rfl, hu⟩
    have HU := Lib.hid hu
    clear hu
    go_wp2_with fail
    go_ret
    exact ⟨rfl, HU.out.alloc _⟩
  · have hq := head_yes h np a (F a).k (F a).c (F a).ws.length (F a).f w H.heap ha rfl
    generalize (F a).k = k at *
    generalize (F a).c = c at *
    generalize (F a).f = f at *
    generalize (F a).ws.length = n at *
    have HH := Lib.hid hq
    clear H hi ha hq
    go_enter Tryz.func30, Tryz.ntmps30
    go_wp2_with fail
    refine (HQ.out).mono ?_
    rintro e w' ⟨rfl, rfl⟩
    go_wp2_with fail
    refine (HH.out).mono ?_
    rintro e w1 ⟨rfl, hu⟩
    have HU := Lib.hid hu
    clear hu
    go_wp2_with fail
    go_ret
    exact ⟨rfl, HU.out.alloc _⟩

set_option maxRecDepth 100000 in
set_option maxHeartbeats 1600000 in
theorem push_yes (q h : Nat) (np : List Pst) (i a : Int) (j : Nat) (w : World) (H : QueO w q h np l F rows O) (hi : i = j) (hj : j < rows.length) (ha : a ∈ l) (hk : (F a).k = 4) (hn : ∀ i, a ∉ rows.getD i []) :
    Calls Tryz.prog 30 #[.pointer (some ⟨q, 0, none⟩), .int .i64 i, .int .i64 a] w fun e w' =>
      e = .returned (.int .i64 0) ∧ ∃ O', QueO w' q h np l (pushF F (rows.getD j []) a) (rows.set j (rows.getD j [] ++ [a])) O' ∧ StepO O w O' w' := by
  subst hi
  obtain ⟨v, Oh, ⟨H, hl, hf⟩, rfl⟩ := H
  have hpos := H.heap.pos ha
  have hlen : (F a).ws.length = 5 := by
    have := H.heap.may ha
    unfold mayB at this
    rw [hk] at this
    simp only [Int.reduceEq, if_false, or_self, if_true] at this
    split at this
    · cases this
    · simp only [Bool.and_eq_true, decide_eq_true_eq] at this
      omega
  have hnew := hl.push hj ha (by omega) hk hlen hn
  have HQ := Lib.hid (qhas q h np rows.length j true w H (by rw [eq_comm, decide_eq_true_eq]; omega))
  have hq := head_yes h np a (F a).k (F a).c (F a).ws.length (F a).f w H.heap ha rfl
  rw [hk] at hq
  have HP := Lib.hid (fun (W : World) (hu : Upd [] w W) => put_yes h np a 2 2 0 W (H.heap.upd0 hu) ha rfl (by omega))
  obtain ⟨c0, c1, _⟩ := H.cells
  generalize (F a).c = c at *
  generalize (F a).f = f at *
  generalize hnl : (F a).ws.length = n at *
  have HH := Lib.hid hq
  have HR := Lib.hid H
  have HL := Lib.hid hl
  have HNEW := Lib.hid hnew
  have HFEW := Lib.hid hf
  have HJ := Lib.hid hj
  have hends := endsV_at rows j hj
  obtain ⟨N, hN⟩ : ∃ N, rows.length = N := ⟨_, rfl⟩
  have HN := Lib.hid hN
  have hjN : j < N := by omega
  have hN8 : N ≤ 8 := by omega
  clear hq hnew hf hj hN
  by_cases hr : rows.getD j [] = []
  · have hE := endsV_first rows j a HJ.out hr
    have hpf : pushF F (rows.getD j []) a = putF F a 2 0 := by unfold pushF; rw [if_pos hr]; rfl
    rw [hr] at hends
    have HE := Lib.hid hE
    have HPF := Lib.hid hpf
    have HEN := Lib.hid hends
    clear H hl hE hpf hends ha hk hn hlen hnl
    go_enter Tryz.func30, Tryz.ntmps30
    go_wp2_with fail
    refine (HQ.out).mono ?_
    rintro e w' ⟨rfl, rfl⟩
    go_wp2_with fail
    refine (HH.out).mono ?_
    rintro e w1 ⟨rfl, hu⟩
    have HU : Hid (Upd [] w (w1.alloc (.cells #[.int .i64 4, .int .i64 c, .int .i64 n, .bool f] 37))) := Lib.hid (hu.alloc _)
    have HU1 := Lib.hid hu
    obtain ⟨d0, d1, _⟩ := (HR.out.upd0 HU.out).cells
    clear hu
    go_wp2_with fail
    refine (HP.out _ HU.out).mono ?_
    rintro e w2 ⟨rfl, O2, hh, hs⟩
    have hR2 := (HR.out.upd0 HU.out).heaped hh hs
    obtain ⟨g, cap, rfl, hg1, hg2, hg3, hg4, hg5⟩ := hR2.ends HJ.out
    obtain ⟨e0, e1, e2⟩ := hR2.cells
    rw [HEN.out.1] at hg3
    rw [HEN.out.2] at hg4
    have hg3' : w2.cell? ⟨g, j * 2, none⟩ = some (.int .i64 0) := hg3
    have hg4' : w2.cell? ⟨g, j * 2 + 1, none⟩ = some (.int .i64 0) := hg4
    rw [HN.out] at e1
    have hf1 := hg5 (j * 2)
    have hf2 := hg5 (j * 2 + 1)
    have HR2 := Lib.hid hR2
    have HS2 := Lib.hid hs
    have HG := Lib.hid (And.intro hg1 hg2)
    clear hh hs hR2 hg1 hg2 hg3 hg4 hg5 d0 d1 c0 c1
    go_wp2_with fail
    go_ret
    refine ⟨rfl, OwnsQ q _ O2, ⟨_, O2, ⟨?_, HNEW.out, by simpa using HFEW.out⟩, rfl⟩, ((StepO.behind HU.out HS2.out.queued).setCell (.inr (.inr rfl)) _).setCell (.inr (.inr rfl)) _⟩
    rw [List.length_set, HE.out, HPF.out]
    exact (HR2.out.set HG.out.2 (j * 2) a).set HG.out.2 (j * 2 + 1) a
  · have hE := endsV_next rows j a HJ.out hr
    have hpf : pushF F (rows.getD j []) a = putF (putF F a 2 0) ((rows.getD j []).getLastD 0) 2 a := by unfold pushF; rw [if_neg hr]; rfl
    have hpl := List.length_pos_iff.2 hr
    have hym : (rows.getD j []).getLastD 0 ∈ rows.getD j [] := by rw [lastD_get hr]; exact getD_mem (by omega)
    have hxm : (rows.getD j []).headD 0 ∈ rows.getD j [] := by
      cases hx : rows.getD j [] with
      | nil => exact absurd hx hr
      | cons x t => simp
    obtain ⟨y1, y2, y3, y4⟩ := hl.ref j _ hym
    obtain ⟨x1, x2, x3, x4⟩ := hl.ref j _ hxm
    generalize (rows.getD j []).getLastD 0 = y at *
    generalize (rows.getD j []).headD 0 = x at *
    have hxp := (H.heap.pos x1).1
    have hyl : 2 < (putF F a 2 0 y).ws.length := by rw [putF_len]; omega
    have HE := Lib.hid hE
    have HPF := Lib.hid hpf
    have HEN := Lib.hid hends
    have HY := Lib.hid (And.intro y1 hyl)
    clear H hl hE hpf hends ha hk hn hlen hnl hym hxm y1 y2 y3 y4 x1 x2 x3 x4 hyl hpl hr
    go_enter Tryz.func30, Tryz.ntmps30
    go_wp2_with fail
    refine (HQ.out).mono ?_
    rintro e w' ⟨rfl, rfl⟩
    go_wp2_with fail
    refine (HH.out).mono ?_
    rintro e w1 ⟨rfl, hu⟩
    have HU : Hid (Upd [] w (w1.alloc (.cells #[.int .i64 4, .int .i64 c, .int .i64 n, .bool f] 37))) := Lib.hid (hu.alloc _)
    obtain ⟨d0, d1, _⟩ := (HR.out.upd0 HU.out).cells
    clear hu
    go_wp2_with fail
    refine (HP.out _ HU.out).mono ?_
    rintro e w2 ⟨rfl, O2, hh, hs⟩
    have hR2 := (HR.out.upd0 HU.out).heaped hh hs
    obtain ⟨g, cap, rfl, hg1, hg2, hg3, hg4, hg5⟩ := hR2.ends HJ.out
    obtain ⟨e0, e1, e2⟩ := hR2.cells
    rw [HEN.out.1] at hg3
    rw [HEN.out.2] at hg4
    have hg3' : w2.cell? ⟨g, j * 2, none⟩ = some (.int .i64 x) := hg3
    have hg4' : w2.cell? ⟨g, j * 2 + 1, none⟩ = some (.int .i64 y) := hg4
    rw [HN.out] at e1
    have hf1 := hg5 (j * 2)
    have hf2 := hg5 (j * 2 + 1)
    have hR3 := hR2.set hg2 (j * 2 + 1) a
    obtain ⟨z0, z1, _⟩ := hR3.cells
    have HR3 := Lib.hid hR3
    have HS2 := Lib.hid hs
    have HG := Lib.hid (And.intro hg1 hg2)
    clear hh hs hR2 hR3 hg1 hg2 hg3 hg4 hg5 d0 d1 c0 c1
    go_wp2_with fail
    refine (put_yes h np y 2 2 a _ HR3.out.heap HY.out.1 rfl HY.out.2).mono ?_
    rintro e w3 ⟨rfl, O3, hh, hs⟩
    have HR4 := Lib.hid (HR3.out.heaped hh hs)
    have HS3 := Lib.hid hs
    clear hh hs
    go_wp2_with fail
    go_ret
    refine ⟨rfl, OwnsQ q _ O3, ⟨_, O3, ⟨?_, HNEW.out, by simpa using HFEW.out⟩, rfl⟩, ((StepO.behind HU.out HS2.out.queued).setCell (.inr (.inr rfl)) _).trans HS3.out.queued⟩
    rw [List.length_set, HE.out, HPF.out]
    exact HR4.out
end
end Go.Proofs.YtpkbdmieelgdlaaGreat
