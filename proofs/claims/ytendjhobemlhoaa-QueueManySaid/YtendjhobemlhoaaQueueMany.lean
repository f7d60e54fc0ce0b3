/- The walk of QueueMany: at every input the law returns true, and nothing that was there has turned. -/
import Derived.Test.YtendjhobemlhoaaQueueMany0
namespace Go.Proofs.Ytendjhobemlhoaa
open Go Go.RowKit

set_option maxRecDepth 100000 in
set_option maxHeartbeats 12800000 in
theorem many12_walk (n : Nat) (z : Int) (w : World) (hn : n ≤ 255) : Calls Try.prog 6 #[.int .u8 n, .int .i64 z] w fun e w' => e = .returned (.bool true) ∧ Below w.heap.size w w' := by
  obtain ⟨k, hK⟩ : ∃ k : Nat, (n : Int) % 8 = k := ⟨n % 8, by omega⟩
  have hK8 : k < 8 := by omega
  have HK := Lib.hid hK
  clear hK
  go_enter Try.func6, Try.ntmps6
  go_wp2_with fail
  refine (heap12 2 _ (by omega)).mono ?_
  rintro e w1 ⟨h, v, l, F, O, rfl, hh, ho, he, hr⟩
  have HH := Lib.hid hh
  have HO := Lib.hid ho
  have HE := Lib.hid he
  have HR := Lib.hid hr
  clear hh ho he hr
  go_wp2_with fail
  refine (queue_new h 40 _ HH.out).mono ?_
  rintro e w2 ⟨q, O2, rfl, hq, hs⟩
  have HQ2 := Lib.hid hq
  have HE2 := Lib.hid (HE.out.step hs)
  have HO2 := Lib.hid (HO.out.step hs)
  clear hq hs
  go_wp2_with fail
  go_loopg [8] 8 (fun gk i wr => ∃ (j : Nat) (O : Nat → Prop), gk = 8 - j ∧ j ≤ 8 ∧ i = .int .i64 j ∧ Hid (QueO wr q h 40 l F (List.replicate j []) O) ∧ Hid (OwnA wr w.heap.size v l O) ∧ Hid (Env w wr O))
  case atStart => exact ⟨0, O2, rfl, by omega, rfl, HQ2, HO2, HE2⟩
  case round =>
    clear HH HO HE HQ2 HE2 HO2
    obtain ⟨j, O, rfl, hj, rfl, HQ, HO, HE⟩ := hrel
    by_cases hlt : j < 8
    · have hq := qopen_yes q h 40 _ HQ.out (by rw [List.length_replicate]; omega)
      rw [List.length_replicate] at hq
      have HP := Lib.hid hq
      clear hq
      go_wp2_with fail
      refine (HP.out).mono ?_
      rintro e w3 ⟨rfl, O3, hq, hs⟩
      rw [← List.replicate_succ'] at hq
      have HQ3 := Lib.hid hq
      have HE3 := Lib.hid (HE.out.step hs)
      have HO3 := Lib.hid (HO.out.step hs)
      clear hq hs
      go_wp2_with fail
      refine (err_calls 0 _ (by omega)).mono ?_
      rintro e w' ⟨rfl, rfl⟩
      go_wp2_with fail
      go_roundg (8 - (j + 1))
      case measure => omega
      case rel => exact ⟨j + 1, O3, rfl, by omega, by go_num, HQ3, HO3, HE3⟩
    · obtain rfl : j = 8 := by omega
      go_wp2_with fail
      refine (qopen_full q h 40 _ HQ.out (by rw [List.length_replicate])).mono ?_
      rintro e w' ⟨rfl, rfl⟩
      go_wp2_with fail
      refine (que_make q h 40 3 0 3 _ HQ.out (by decide) (by omega) (by omega) (by rw [HR.out.len]; omega)).mono ?_
      rintro e w4 ⟨d, O4, rfl, hd1, hd2, hd3, hq, hs⟩
      obtain ⟨A, cap, hv, hI, _⟩ := (HO.out.step hs).own.form
      rw [HR.out.len] at hv
      subst hv
      obtain ⟨b, off, rfl, hb, hc0⟩ := Reads.at (k := .i64) hI HR.out.len (by omega : 0 < 2)
      obtain ⟨b1, off1, hbb, _, hc1⟩ := Reads.at (k := .i64) hI HR.out.len (by omega : 1 < 2)
      simp only [Option.some.injEq, Addr.mk.injEq, and_true] at hbb
      obtain ⟨rfl, rfl⟩ := hbb
      have hx : l.getD 0 0 ∈ l := getD_mem (by rw [HR.out.len]; omega)
      have hmem : ∀ y, y ≠ l.getD 0 0 → y ≠ l.getD 1 0 → y ∉ l := fun y h1 h2 hy => by
        obtain ⟨i, hi, e⟩ := List.mem_iff_getElem.1 hy
        have hl := HR.out.len
        have : i = 0 ∨ i = 1 := by omega
        rcases this with rfl | rfl
        · exact h1 (by rw [List.getD_eq_getElem?_getD, List.getElem?_eq_getElem hi, e]; rfl)
        · exact h2 (by rw [List.getD_eq_getElem?_getD, List.getElem?_eq_getElem hi, e]; rfl)
      have hfx := HR.out.ref _ hx
      generalize l.getD 0 0 = x at *
      generalize l.getD 1 0 = y at *
      have hc0' : w4.cell? ⟨b, off, none⟩ = some (.int .i64 x) := hc0
      have hdm : d ∈ l ++ [d] := by simp
      have HD : Hid (d ∉ l ++ [d] ∨ d ∈ l ++ [d] ∧ (fset F d ⟨3, 0, false, List.replicate 3 0⟩ d).k ≠ 4) := Lib.hid (.inr ⟨hdm, by rw [fset_same]; simp⟩)
      have HX : Hid (x ∈ l ++ [d] ∧ (fset F d ⟨3, 0, false, List.replicate 3 0⟩ x).k = 4) := Lib.hid ⟨List.mem_append_left _ hx, by rw [fset_ne _ (fun e => hd3 (by rw [← e]; exact hx))]; exact hfx⟩
      have HMEM : Hid (z ≠ x → z ≠ y → z ∉ l ++ [d] ∨ z ∈ l ++ [d] ∧ (fset F d ⟨3, 0, false, List.replicate 3 0⟩ z).k ≠ 4) := Lib.hid fun h1 h2 => by
        by_cases e : z = d
        · rw [e]; exact HD.out
        · refine .inl fun hm => ?_
          rcases List.mem_append.1 hm with hm | hm
          · exact hmem z h1 h2 hm
          · exact e (List.mem_singleton.1 hm)
      have HQ4 := Lib.hid hq
      have HE4 := Lib.hid (HE.out.step hs)
      clear HQ HE HO HR hq hs hI hc0 hx hmem hfx hdm hd3
      have HQ := HQ4
      have HE := HE4
      have hc0 := hc0'
      clear HQ4 HE4 hc0'
      rcases Classical.em (z = x) with e1 | e1
      · obtain rfl : x = z := e1.symm
        go_wp2_with fail
        all_goals (try simp only [HK.out])
        refine (poll_nil 0 _).mono ?_
        rintro e w' ⟨rfl, rfl⟩
        go_wp2_with fail
        refine (err_calls 3 _ (by omega)).mono ?_
        rintro e w' ⟨rfl, rfl⟩
        go_wp2_with fail
        refine (push_kind q h 40 k d _ HQ.out (by rw [List.length_replicate]; omega) HD.out).mono ?_
        rintro e w5 ⟨rfl, hu⟩
        have HQ5 := Lib.hid (HQ.out.upd0 hu)
        have HE5 := Lib.hid (HE.out.upd0 hu)
        have k1 : w5.cell? ⟨b, off, none⟩ = some (.int .i64 x) := by rw [hu.cell (p := ⟨b, off, none⟩) hb (by simp)]; exact hc0
        have hb5 : b < w5.heap.size := Nat.lt_of_lt_of_le hb hu.size
        clear hu
        go_wp2_with fail
        refine (err_calls 5 _ (by omega)).mono ?_
        rintro e w' ⟨rfl, rfl⟩
        go_wp2_with fail
        refine (push_kind q h 40 k d _ HQ5.out (by rw [List.length_replicate]; omega) HD.out).mono ?_
        rintro e w6 ⟨rfl, hu⟩
        have HQ6 := Lib.hid (HQ5.out.upd0 hu)
        have HE6 := Lib.hid (HE5.out.upd0 hu)
        have k2 : w6.cell? ⟨b, off, none⟩ = some (.int .i64 x) := by rw [hu.cell (p := ⟨b, off, none⟩) hb5 (by simp)]; exact k1
        clear hu
        go_wp2_with fail
        refine (err_calls 5 _ (by omega)).mono ?_
        rintro e w' ⟨rfl, rfl⟩
        go_wp2_with fail
        refine (push_none q h 40 8 x _ HQ6.out (by rw [List.length_replicate]; omega)).mono ?_
        rintro e w' ⟨rfl, rfl⟩
        go_wp2_with fail
        refine (err_calls 2 _ (by omega)).mono ?_
        rintro e w' ⟨rfl, rfl⟩
        go_wp2_with fail
        refine (push_yes q h 40 k x k _ HQ6.out rfl (by rw [List.length_replicate]; omega) HX.out.1 HX.out.2 (fun i => by rw [rep_rows]; simp)).mono ?_
        rintro e w7 ⟨rfl, O7, hq, hs⟩
        have HQ7 := Lib.hid hq
        have HE7 := Lib.hid (HE6.out.step hs)
        clear hq hs
        go_wp2_with fail
        refine (err_calls 0 _ (by omega)).mono ?_
        rintro e w' ⟨rfl, rfl⟩
        obtain ⟨v5, O5, H5, rfl⟩ := HQ7.out
        have H6 := H5.raw
        rw [List.length_set, List.length_replicate] at H6
        have HQQ := Lib.hid H6
        clear H5 H6
        go_wp2_with fail
        refine (queues_len q h 40 _ _ HQQ.out).mono ?_
        rintro e w' ⟨rfl, rfl⟩
        go_wp2_with fail
        refine (err_calls 2 _ (by omega)).mono ?_
        rintro e w' ⟨rfl, rfl⟩
        go_wp2_with fail
        refine (push_nil 0 64 _).mono ?_
        rintro e w' ⟨rfl, rfl⟩
        go_wp2_with fail
        refine (err_calls 2 _ (by omega)).mono ?_
        rintro e w' ⟨rfl, rfl⟩
        go_wp2_with fail
        refine (queues_nil _).mono ?_
        rintro e w' ⟨rfl, rfl⟩
        go_wp2_with fail
        refine (awake12 _).mono ?_
        rintro e w9 ⟨rfl, hu⟩
        have HU9 := Lib.hid hu
        clear hu
        go_wp2_with fail
        go_ret
        exact ⟨rfl, (HE7.out.upd.trans HU9.out).below⟩
      · rcases Classical.em (z = y) with e2 | e2
        · obtain rfl : y = z := e2.symm
          go_wp2_with fail
          all_goals (try simp only [HK.out])
          refine (poll_nil 0 _).mono ?_
          rintro e w' ⟨rfl, rfl⟩
          go_wp2_with fail
          refine (err_calls 3 _ (by omega)).mono ?_
          rintro e w' ⟨rfl, rfl⟩
          go_wp2_with fail
          refine (push_kind q h 40 k d _ HQ.out (by rw [List.length_replicate]; omega) HD.out).mono ?_
          rintro e w5 ⟨rfl, hu⟩
          have HQ5 := Lib.hid (HQ.out.upd0 hu)
          have HE5 := Lib.hid (HE.out.upd0 hu)
          have k1 : w5.cell? ⟨b, off, none⟩ = some (.int .i64 x) := by rw [hu.cell (p := ⟨b, off, none⟩) hb (by simp)]; exact hc0
          have hb5 : b < w5.heap.size := Nat.lt_of_lt_of_le hb hu.size
          clear hu
          go_wp2_with fail
          refine (err_calls 5 _ (by omega)).mono ?_
          rintro e w' ⟨rfl, rfl⟩
          go_wp2_with fail
          refine (push_kind q h 40 k d _ HQ5.out (by rw [List.length_replicate]; omega) HD.out).mono ?_
          rintro e w6 ⟨rfl, hu⟩
          have HQ6 := Lib.hid (HQ5.out.upd0 hu)
          have HE6 := Lib.hid (HE5.out.upd0 hu)
          have k2 : w6.cell? ⟨b, off, none⟩ = some (.int .i64 x) := by rw [hu.cell (p := ⟨b, off, none⟩) hb5 (by simp)]; exact k1
          clear hu
          go_wp2_with fail
          refine (err_calls 5 _ (by omega)).mono ?_
          rintro e w' ⟨rfl, rfl⟩
          go_wp2_with fail
          refine (push_none q h 40 8 x _ HQ6.out (by rw [List.length_replicate]; omega)).mono ?_
          rintro e w' ⟨rfl, rfl⟩
          go_wp2_with fail
          refine (err_calls 2 _ (by omega)).mono ?_
          rintro e w' ⟨rfl, rfl⟩
          go_wp2_with fail
          refine (push_yes q h 40 k x k _ HQ6.out rfl (by rw [List.length_replicate]; omega) HX.out.1 HX.out.2 (fun i => by rw [rep_rows]; simp)).mono ?_
          rintro e w7 ⟨rfl, O7, hq, hs⟩
          have HQ7 := Lib.hid hq
          have HE7 := Lib.hid (HE6.out.step hs)
          clear hq hs
          go_wp2_with fail
          refine (err_calls 0 _ (by omega)).mono ?_
          rintro e w' ⟨rfl, rfl⟩
          obtain ⟨v5, O5, H5, rfl⟩ := HQ7.out
          have H6 := H5.raw
          rw [List.length_set, List.length_replicate] at H6
          have HQQ := Lib.hid H6
          clear H5 H6
          go_wp2_with fail
          refine (queues_len q h 40 _ _ HQQ.out).mono ?_
          rintro e w' ⟨rfl, rfl⟩
          go_wp2_with fail
          refine (err_calls 2 _ (by omega)).mono ?_
          rintro e w' ⟨rfl, rfl⟩
          go_wp2_with fail
          refine (push_nil 0 64 _).mono ?_
          rintro e w' ⟨rfl, rfl⟩
          go_wp2_with fail
          refine (err_calls 2 _ (by omega)).mono ?_
          rintro e w' ⟨rfl, rfl⟩
          go_wp2_with fail
          refine (queues_nil _).mono ?_
          rintro e w' ⟨rfl, rfl⟩
          go_wp2_with fail
          refine (awake12 _).mono ?_
          rintro e w9 ⟨rfl, hu⟩
          have HU9 := Lib.hid hu
          clear hu
          go_wp2_with fail
          go_ret
          exact ⟨rfl, (HE7.out.upd.trans HU9.out).below⟩
        · have HZ := Lib.hid (HMEM.out e1 e2)
          go_wp2_with fail
          all_goals (try simp only [HK.out])
          · have hh : (z == x) = true ∨ (z == y) = true := by assumption
            rcases hh with hh | hh
            · exact absurd (eq_of_beq hh) e1
            · exact absurd (eq_of_beq hh) e2
          refine (poll_nil 0 _).mono ?_
          rintro e w' ⟨rfl, rfl⟩
          go_wp2_with fail
          refine (err_calls 3 _ (by omega)).mono ?_
          rintro e w' ⟨rfl, rfl⟩
          go_wp2_with fail
          refine (push_kind q h 40 k d _ HQ.out (by rw [List.length_replicate]; omega) HD.out).mono ?_
          rintro e w5 ⟨rfl, hu⟩
          have HQ5 := Lib.hid (HQ.out.upd0 hu)
          have HE5 := Lib.hid (HE.out.upd0 hu)
          have k1 : w5.cell? ⟨b, off, none⟩ = some (.int .i64 x) := by rw [hu.cell (p := ⟨b, off, none⟩) hb (by simp)]; exact hc0
          have hb5 : b < w5.heap.size := Nat.lt_of_lt_of_le hb hu.size
          clear hu
          go_wp2_with fail
          refine (err_calls 5 _ (by omega)).mono ?_
          rintro e w' ⟨rfl, rfl⟩
          go_wp2_with fail
          refine (push_kind q h 40 k z _ HQ5.out (by rw [List.length_replicate]; omega) HZ.out).mono ?_
          rintro e w6 ⟨rfl, hu⟩
          have HQ6 := Lib.hid (HQ5.out.upd0 hu)
          have HE6 := Lib.hid (HE5.out.upd0 hu)
          have k2 : w6.cell? ⟨b, off, none⟩ = some (.int .i64 x) := by rw [hu.cell (p := ⟨b, off, none⟩) hb5 (by simp)]; exact k1
          clear hu
          go_wp2_with fail
          refine (err_calls 5 _ (by omega)).mono ?_
          rintro e w' ⟨rfl, rfl⟩
          go_wp2_with fail
          refine (push_none q h 40 8 x _ HQ6.out (by rw [List.length_replicate]; omega)).mono ?_
          rintro e w' ⟨rfl, rfl⟩
          go_wp2_with fail
          refine (err_calls 2 _ (by omega)).mono ?_
          rintro e w' ⟨rfl, rfl⟩
          go_wp2_with fail
          refine (push_yes q h 40 k x k _ HQ6.out rfl (by rw [List.length_replicate]; omega) HX.out.1 HX.out.2 (fun i => by rw [rep_rows]; simp)).mono ?_
          rintro e w7 ⟨rfl, O7, hq, hs⟩
          have HQ7 := Lib.hid hq
          have HE7 := Lib.hid (HE6.out.step hs)
          clear hq hs
          go_wp2_with fail
          refine (err_calls 0 _ (by omega)).mono ?_
          rintro e w' ⟨rfl, rfl⟩
          obtain ⟨v5, O5, H5, rfl⟩ := HQ7.out
          have H6 := H5.raw
          rw [List.length_set, List.length_replicate] at H6
          have HQQ := Lib.hid H6
          clear H5 H6
          go_wp2_with fail
          refine (queues_len q h 40 _ _ HQQ.out).mono ?_
          rintro e w' ⟨rfl, rfl⟩
          go_wp2_with fail
          refine (err_calls 2 _ (by omega)).mono ?_
          rintro e w' ⟨rfl, rfl⟩
          go_wp2_with fail
          refine (push_nil 0 64 _).mono ?_
          rintro e w' ⟨rfl, rfl⟩
          go_wp2_with fail
          refine (err_calls 2 _ (by omega)).mono ?_
          rintro e w' ⟨rfl, rfl⟩
          go_wp2_with fail
          refine (queues_nil _).mono ?_
          rintro e w' ⟨rfl, rfl⟩
          go_wp2_with fail
          refine (awake12 _).mono ?_
          rintro e w9 ⟨rfl, hu⟩
          have HU9 := Lib.hid hu
          clear hu
          go_wp2_with fail
          go_ret
          exact ⟨rfl, (HE7.out.upd.trans HU9.out).below⟩
end Go.Proofs.Ytendjhobemlhoaa
