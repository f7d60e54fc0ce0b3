/- The contracts of queues: Poll, List. -/
import Derived.Test.YtpkbdmieelgdlaaGreatQue3P
namespace Go.Proofs.YtpkbdmieelgdlaaGreat
open Go Go.RowKit

theorem poll_nil (i : Int) (w : World) : Calls Tryz.prog 31 #[.pointer none, .int .i64 i] w fun e w' => e = .returned (.tuple #[.int .i64 0, .int .i64 2]) ∧ w = w' := by
  have hh : Calls Tryz.prog 70 #[.pointer none, .int .i64 i] w fun e w' => e = .returned (.bool false) ∧ w = w' := by
    by_cases h1 : i < 0
    · go_enter Tryz.func70, Tryz.ntmps70
      go_wp2_with fail
      go_ret
      exact ⟨rfl, rfl⟩
    · go_enter Tryz.func70, Tryz.ntmps70
      go_wp2_with fail
      refine (queues_nil _).mono ?_
      rintro e w' ⟨rfl, rfl⟩
      go_wp2_with fail
      go_ret
      exact ⟨by first | rfl | (simp; done) | (simp; omega), rfl⟩
  have HH := Lib.hid hh
  clear hh
  go_enter Tryz.func31, Tryz.ntmps31
  go_wp2_with fail
  refine (HH.out).mono ?_
  rintro e w' ⟨rfl, rfl⟩
  go_wp2_with fail
  go_ret2
  exact ⟨rfl, rfl⟩
theorem push_nil (i a : Int) (w : World) : Calls Tryz.prog 30 #[.pointer none, .int .i64 i, .int .i64 a] w fun e w' => e = .returned (.int .i64 2) ∧ w = w' := by
  have hh : Calls Tryz.prog 70 #[.pointer none, .int .i64 i] w fun e w' => e = .returned (.bool false) ∧ w = w' := by
    by_cases h1 : i < 0
    · go_enter Tryz.func70, Tryz.ntmps70
      go_wp2_with fail
      go_ret
      exact ⟨rfl, rfl⟩
    · go_enter Tryz.func70, Tryz.ntmps70
      go_wp2_with fail
      refine (queues_nil _).mono ?_
      rintro e w' ⟨rfl, rfl⟩
      go_wp2_with fail
      go_ret
      exact ⟨by first | rfl | (simp; done) | (simp; omega), rfl⟩
  have HH := Lib.hid hh
  clear hh
  go_enter Tryz.func30, Tryz.ntmps30
  go_wp2_with fail
  refine (HH.out).mono ?_
  rintro e w' ⟨rfl, rfl⟩
  go_wp2_with fail
  go_ret
  exact ⟨rfl, rfl⟩
theorem HeapO.few {w : World} {h : Nat} {np : List Pst} {l : List Int} {F : Int → Ob} {O : Nat → Prop} (H : HeapO w h np l F O) : l.length ≤ 16384 := by
  obtain ⟨t, s, L, S, H, _, rfl⟩ := H
  have h1 := nodup_sub l S.each H.objs.nodup fun x hx => by
    obtain ⟨m, hm, _⟩ := H.objs.ob x hx
    exact (each_iff H.space.wf).2 ⟨m, hm⟩
  have := each_length H.space.wf
  omega
section
variable {O Oh : Nat → Prop} {l : List Int} {F : Int → Ob} {rows : List (List Int)} {v : Value} {cs : List Value}
theorem poll_none (q h : Nat) (np : List Pst) (i : Int) (w : World) (H : QueO w q h np l F rows O) (hi : i < 0 ∨ rows.length ≤ i) : Calls Tryz.prog 31 #[.pointer (some ⟨q, 0, none⟩), .int .i64 i] w fun e w' => e = .returned (.tuple #[.int .i64 0, .int .i64 2]) ∧ w = w' := by
  obtain ⟨v, Oh, ⟨H, _, _⟩, rfl⟩ := H
  have HQ := Lib.hid (qhas q h np rows.length i false w H (by rw [eq_comm, decide_eq_false_iff_not]; omega))
  clear H hi
  go_enter Tryz.func31, Tryz.ntmps31
  go_wp2_with fail
  refine (HQ.out).mono ?_
  rintro e w' ⟨rfl, rfl⟩
  go_wp2_with fail
  go_ret2
  exact ⟨rfl, rfl⟩
theorem list_none (q h : Nat) (np : List Pst) (i : Int) (w : World) (H : QueO w q h np l F rows O) (hi : i < 0 ∨ rows.length ≤ i) : Calls Tryz.prog 34 #[.pointer (some ⟨q, 0, none⟩), .int .i64 i] w fun e w' => e = .returned (.tuple #[.slice none 0 0, .int .i64 2]) ∧ w = w' := by
  obtain ⟨v, Oh, ⟨H, _, _⟩, rfl⟩ := H
  have HQ := Lib.hid (qhas q h np rows.length i false w H (by rw [eq_comm, decide_eq_false_iff_not]; omega))
  clear H hi
  go_enter Tryz.func34, Tryz.ntmps34
  go_wp2_with fail
  refine (HQ.out).mono ?_
  rintro e w' ⟨rfl, rfl⟩
  go_wp2_with fail
  go_ret2
  exact ⟨rfl, rfl⟩
theorem poll_empty (q h : Nat) (np : List Pst) (i : Int) (j : Nat) (w : World) (H : QueO w q h np l F rows O) (hi : i = j) (hj : j < rows.length) (hr : rows.getD j [] = []) : Calls Tryz.prog 31 #[.pointer (some ⟨q, 0, none⟩), .int .i64 i] w fun e w' => e = .returned (.tuple #[.int .i64 0, .int .i64 0]) ∧ w = w' := by
  subst hi
  obtain ⟨v, Oh, ⟨H, hl, hf⟩, rfl⟩ := H
  have HQ := Lib.hid (qhas q h np rows.length j true w H (by rw [eq_comm, decide_eq_true_eq]; omega))
  obtain ⟨g, cap, rfl, hg1, hg2, hg3, hg4, hg5⟩ := H.ends hj
  obtain ⟨c0, c1, c2⟩ := H.cells
  rw [(endsV_at rows j hj).1] at hg3
  rw [(endsV_at rows j hj).2] at hg4
  have hf1 := hg5 (j * 2)
  have hf2 := hg5 (j * 2 + 1)
  obtain ⟨N, hN⟩ : ∃ N, rows.length = N := ⟨_, rfl⟩
  rw [hN] at c1
  have hjN : j < N := by omega
  have hN8 : N ≤ 8 := by omega
  rw [hr] at hg3 hg4
  have hg3' : w.cell? ⟨g, j * 2, none⟩ = some (.int .i64 0) := hg3
  have hg4' : w.cell? ⟨g, j * 2 + 1, none⟩ = some (.int .i64 0) := hg4
  clear H hl hf hg3 hg4 hg5 hN hj hr
  go_enter Tryz.func31, Tryz.ntmps31
  go_wp2_with fail
  refine (HQ.out).mono ?_
  rintro e w' ⟨rfl, rfl⟩
  go_wp2_with fail
  go_ret2
  exact ⟨rfl, rfl⟩
set_option maxRecDepth 100000 in
set_option maxHeartbeats 1600000 in
theorem poll_yes (q h : Nat) (np : List Pst) (i a : Int) (t : List Int) (j : Nat) (w : World) (H : QueO w q h np l F rows O) (hi : i = j) (hj : j < rows.length) (hr : rows.getD j [] = a :: t) :
    Calls Tryz.prog 31 #[.pointer (some ⟨q, 0, none⟩), .int .i64 i] w fun e w' =>
      e = .returned (.tuple #[.int .i64 a, .int .i64 0]) ∧ ∃ O', QueO w' q h np l (nextF F a 0) (rows.set j t) O' ∧ StepO O w O' w' := by
  subst hi
  obtain ⟨v, Oh, ⟨H, hl, hf⟩, rfl⟩ := H
  have HQ := Lib.hid (qhas q h np rows.length j true w H (by rw [eq_comm, decide_eq_true_eq]; omega))
  obtain ⟨g, cap, rfl, hg1, hg2, hg3, hg4, hg5⟩ := H.ends hj
  obtain ⟨c0, c1, c2⟩ := H.cells
  rw [(endsV_at rows j hj).1] at hg3
  rw [(endsV_at rows j hj).2] at hg4
  have hf1 := hg5 (j * 2)
  have hf2 := hg5 (j * 2 + 1)
  obtain ⟨N, hN⟩ : ∃ N, rows.length = N := ⟨_, rfl⟩
  rw [hN] at c1
  have hjN : j < N := by omega
  have hN8 : N ≤ 8 := by omega
  have hnew := hl.poll hj hr
  have har := hl.ref j a (by rw [hr]; simp)
  have hpos := H.heap.pos har.1
  have hlink := hl.link j 0 (by rw [hr]; simp)
  rw [hr] at hlink hg3 hg4
  have hlink' : (F a).ws.getD 2 0 = (a :: t).getD 1 0 := hlink
  have hg3' : w.cell? ⟨g, j * 2, none⟩ = some (.int .i64 a) := hg3
  have HG := Lib.hid (get_yes h np a 2 2 _ w H.heap har.1 rfl (by omega) hlink')
  have HNEW := Lib.hid hnew
  have HFEW := Lib.hid hf
  have HA := Lib.hid (And.intro har.1 (show 2 < (F a).ws.length by omega))
  have HGQ := Lib.hid hg2
  have HR := Lib.hid H
  have HJ := Lib.hid hj
  have HC := Lib.hid (endsV_at rows j hj)
  rw [hr] at HC
  cases t with
  | nil =>
    have HE := Lib.hid (endsV_last rows j hj)
    have hg4' : w.cell? ⟨g, j * 2 + 1, none⟩ = some (.int .i64 a) := hg4
    have HG : Hid (Calls Tryz.prog 64 #[.pointer (some ⟨h, 0, none⟩), .int .i64 a, .int .i64 2] w fun e w' => e = .returned (.tuple #[.int .i64 0, .int .i64 0]) ∧ Upd [] w w') := HG
    clear H hl hf hg1 hg2 hg3 hg4 hg5 hN hj hr hnew har hlink hlink'
    go_enter Tryz.func31, Tryz.ntmps31
    go_wp2_with fail
    refine (HQ.out).mono ?_
    rintro e w' ⟨rfl, rfl⟩
    go_wp2_with fail
    refine (HG.out).mono ?_
    rintro e w1 ⟨rfl, hu⟩
    have hR1 := HR.out.upd0 hu
    obtain ⟨d0, d1, d2⟩ := hR1.cells
    obtain ⟨g3, g4, g5, g6⟩ := hR1.at HJ.out
    rw [HC.out.1] at g3
    rw [HC.out.2] at g4
    have HU := Lib.hid hu
    have hR2 := (hR1.set HGQ.out (j * 2) 0).set HGQ.out (j * 2 + 1) 0
    have HR2 := Lib.hid hR2
    obtain ⟨z0, z1, _⟩ := hR2.cells
    clear hu hR1 hR2 c0 c1 c2
    go_wp2_with fail
    refine (put_yes h np a 2 2 0 _ HR2.out.heap HA.out.1 rfl HA.out.2).mono ?_
    rintro e w3 ⟨rfl, O3, hh, hs⟩
    have HR4 := Lib.hid (HR2.out.heaped hh hs)
    have HS3 := Lib.hid hs
    clear hh hs
    go_wp2_with fail
    go_ret2
    refine ⟨rfl, OwnsQ q _ O3, ⟨_, O3, ⟨?_, HNEW.out, by simpa using HFEW.out⟩, rfl⟩, ((((StepO.refl _ w).then HU.out).setCell (.inr (.inr rfl)) _).setCell (.inr (.inr rfl)) _).trans HS3.out.queued⟩
    rw [List.length_set, HE.out]
    exact HR4.out
  | cons b t =>
    have HE := Lib.hid (endsV_poll rows j a b t hj hr)
    have hb0 : b ≠ 0 := (hl.ref j b (by rw [hr]; simp)).2.1
    have HG : Hid (Calls Tryz.prog 64 #[.pointer (some ⟨h, 0, none⟩), .int .i64 a, .int .i64 2] w fun e w' => e = .returned (.tuple #[.int .i64 b, .int .i64 0]) ∧ Upd [] w w') := HG
    clear H hl hf hg1 hg2 hg3 hg4 hg5 hN hj hr hnew har hlink hlink'
    go_enter Tryz.func31, Tryz.ntmps31
    go_wp2_with fail
    refine (HQ.out).mono ?_
    rintro e w' ⟨rfl, rfl⟩
    go_wp2_with fail
    refine (HG.out).mono ?_
    rintro e w1 ⟨rfl, hu⟩
    have hR1 := HR.out.upd0 hu
    obtain ⟨d0, d1, d2⟩ := hR1.cells
    obtain ⟨g3, g4, g5, g6⟩ := hR1.at HJ.out
    rw [HC.out.1] at g3
    have HU := Lib.hid hu
    have hR2 := hR1.set HGQ.out (j * 2) b
    have HR2 := Lib.hid hR2
    obtain ⟨z0, z1, _⟩ := hR2.cells
    clear hu hR1 hR2 c0 c1 c2 g4
    go_wp2_with fail
    refine (put_yes h np a 2 2 0 _ HR2.out.heap HA.out.1 rfl HA.out.2).mono ?_
    rintro e w3 ⟨rfl, O3, hh, hs⟩
    have HR4 := Lib.hid (HR2.out.heaped hh hs)
    have HS3 := Lib.hid hs
    clear hh hs
    go_wp2_with fail
    go_ret2
    refine ⟨rfl, OwnsQ q _ O3, ⟨_, O3, ⟨?_, HNEW.out, by simpa using HFEW.out⟩, rfl⟩, (((StepO.refl _ w).then HU.out).setCell (.inr (.inr rfl)) _).trans HS3.out.queued⟩
    rw [List.length_set, HE.out]
    exact HR4.out
set_option maxRecDepth 100000 in
set_option maxHeartbeats 1600000 in
theorem list_yes (q h : Nat) (np : List Pst) (i : Int) (j : Nat) (w : World) (H : QueO w q h np l F rows O) (hi : i = j) (hj : j < rows.length) :
    Calls Tryz.prog 34 #[.pointer (some ⟨q, 0, none⟩), .int .i64 i] w fun e w' => ∃ v, e = .returned (.tuple #[v, .int .i64 0]) ∧ Own w' w.heap.size v (rows.getD j []) ∧ Upd [] w w' := by
  subst hi
  obtain ⟨v, Oh, ⟨H, hl, hf⟩, rfl⟩ := H
  have HQ := Lib.hid (qhas q h np rows.length j true w H (by rw [eq_comm, decide_eq_true_eq]; omega))
  obtain ⟨g, cap, rfl, hg1, hg2, hg3, hg4, hg5⟩ := H.ends hj
  obtain ⟨c0, c1, c2⟩ := H.cells
  rw [(endsV_at rows j hj).1] at hg3
  rw [(endsV_at rows j hj).2] at hg4
  have hf1 := hg5 (j * 2)
  have hf2 := hg5 (j * 2 + 1)
  obtain ⟨N, hN⟩ : ∃ N, rows.length = N := ⟨_, rfl⟩
  rw [hN] at c1
  have hjN : j < N := by omega
  have hN8 : N ≤ 8 := by omega
  obtain ⟨r, hr⟩ : ∃ r, rows.getD j [] = r := ⟨_, rfl⟩
  have href := hl.ref j
  have hlink := hl.link j
  have hnd := hl.nodup j
  rw [hr] at href hlink hg3 hg4 hnd ⊢
  obtain ⟨M, hM⟩ : ∃ M, r.length = M := ⟨_, rfl⟩
  have hM40 : M ≤ 16384 := by
    have h1 := nodup_sub r l hnd fun x hx => (href x hx).1
    have h2 := H.heap.few
    omega
  have HM := Lib.hid hM
  have HGET : Hid (∀ k W, k < M → Upd [] w W → Calls Tryz.prog 64 #[.pointer (some ⟨h, 0, none⟩), .int .i64 (r.getD k 0), .int .i64 2] W fun e w' => e = .returned (.tuple #[.int .i64 (r.getD (k + 1) 0), .int .i64 0]) ∧ Upd [] W w') := Lib.hid fun k W hk hu => by
    have h1 := href _ (getD_mem (by omega : k < r.length))
    exact get_yes h np _ 2 2 _ W (H.heap.upd0 hu) h1.1 rfl (by omega) (hlink k (by omega))
  have HNZ : Hid (∀ k, k < M → r.getD k 0 ≠ 0) := Lib.hid fun k hk => (href _ (getD_mem (by omega : k < r.length))).2.1
  have HEND : Hid (r.getD M 0 = 0) := Lib.hid (by rw [List.getD_eq_getElem?_getD, List.getElem?_eq_none (by omega)]; rfl)
  have HTK : Hid (∀ k, k < M → r.take k ++ [r.getD k 0] = r.take (k + 1)) := Lib.hid fun k hk => by
    rw [List.take_succ_eq_append_getElem (by omega : k < r.length), List.getD_eq_getElem?_getD, List.getElem?_eq_getElem (by omega : k < r.length)]; rfl
  have HTL : Hid (∀ k, (r.take k).length ≤ 16384) := Lib.hid fun k => by rw [List.length_take]; omega
  have HR := Lib.hid H
  have hg3' : w.cell? ⟨g, j * 2, none⟩ = some (.int .i64 (r.getD 0 0)) := by rw [hg3]; cases r <;> rfl
  clear H hl hf hg1 hg2 hg3 hg4 hg5 hN hj hr href hlink hnd hM
  go_enter Tryz.func34, Tryz.ntmps34
  go_wp2_with fail
  refine (HQ.out).mono ?_
  rintro e w' ⟨rfl, rfl⟩
  go_wp2_with fail
  go_loopg [6, 7] M (fun gk o z wr => ∃ k : Nat, gk = M - k ∧ k ≤ M ∧ z = .int .i64 (r.getD k 0) ∧ Hid (Own wr w.heap.size o (r.take k)) ∧ Hid (Upd [] w wr))
  case atStart => exact ⟨0, rfl, by omega, rfl, Lib.hid (by simpa using Own.nil _ _), Lib.hid (Upd.refl _ _)⟩
  case round =>
    obtain ⟨k, rfl, hk, rfl, HO, HU⟩ := hrel
    by_cases hlt : k < M
    · have hz := HNZ.out k hlt
      have HG := Lib.hid (fun W hu => HGET.out k W hlt hu)
      have HT := Lib.hid (HTK.out k hlt)
      obtain ⟨z2, hz2⟩ : ∃ z2, r.getD (k + 1) 0 = z2 := ⟨_, rfl⟩
      rw [hz2] at HG
      have HZ2 := Lib.hid hz2
      clear hz2
      generalize r.getD k 0 = z at *
      go_wp2_with (at_builtin; refine wpList_push w rfl _ _ rfl w.heap.size _ (r.take k) rfl (HO.out.alloc _) wr.heap.size z rfl (Blk.new _ _ _) (by have := HTL.out k; omega) (Nat.le_refl _) (HU.out.alloc _) (by have := HU.out.size; simp; omega) ?_)
      intro v' w2 ho hu hs
      obtain ⟨d0, _, _⟩ := (HR.out.upd0 hu).cells
      have HO2 := Lib.hid ho
      have HU2 := Lib.hid hu
      clear ho hu hs
      go_wp2_with fail
      refine (HG.out _ HU2.out).mono ?_
      rintro e w3 ⟨rfl, hu⟩
      have HU3 := Lib.hid hu
      clear hu
      go_wp2_with fail
      go_roundg (M - (k + 1))
      case measure => omega
      case rel => exact ⟨k + 1, rfl, by omega, by rw [HZ2.out], Lib.hid (by rw [← HT.out]; exact HO2.out.upd HU3.out (by simp)), Lib.hid (HU2.out.trans HU3.out)⟩
    · obtain rfl : k = M := by omega
      have hend := HEND.out
      generalize r.getD k 0 = z at *
      subst hend
      go_wp2_with fail
      go_ret2
      refine ⟨_, rfl, ?_, HU.out⟩
      have := HO.out
      rw [List.take_of_length_le (by rw [HM.out]; exact Nat.le_refl _)] at this
      exact this
end
end Go.Proofs.YtpkbdmieelgdlaaGreat
