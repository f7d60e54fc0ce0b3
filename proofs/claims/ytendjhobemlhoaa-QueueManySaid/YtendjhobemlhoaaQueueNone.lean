/- The walk of QueueNone: at every input the law returns true, and nothing that was there has turned. -/
import Derived.Test.YtendjhobemlhoaaQLaw
namespace Go.Proofs.Ytendjhobemlhoaa
open Go Go.RowKit

theorem rep_rows (K j : Nat) : (List.replicate K ([] : List Int)).getD j [] = [] := by
  rw [List.getD_eq_getElem?_getD, List.getElem?_replicate]; split <;> rfl
set_option maxRecDepth 100000 in
set_option maxHeartbeats 3200000 in
theorem none12_walk (n : Nat) (odd : Int) (w : World) (hn : n ≤ 255) : Calls Try.prog 9 #[.int .u8 n, .int .i64 odd] w fun e w' => e = .returned (.bool true) ∧ Below w.heap.size w w' := by
  obtain ⟨K, hK⟩ : ∃ K : Nat, (n : Int) % 5 = K := ⟨n % 5, by omega⟩
  have hK5 : K < 5 := by omega
  have HK := Lib.hid hK
  clear hK
  go_enter Try.func9, Try.ntmps9
  go_wp2_with fail
  refine (heap12 1 _ (by omega)).mono ?_
  rintro e w1 ⟨h, v, l, F, O, rfl, hh, ho, he, hr⟩
  obtain ⟨a, rfl⟩ : ∃ a, l = [a] := List.length_eq_one_iff.1 hr.len
  have HH := Lib.hid hh
  have HO := Lib.hid ho
  have HE := Lib.hid he
  clear hh ho he hr
  go_wp2_with fail
  refine (queue_new h 40 _ HH.out).mono ?_
  rintro e w2 ⟨q, O2, rfl, hq, hs⟩
  have HQ2 := Lib.hid hq
  have HE2 := Lib.hid (HE.out.step hs)
  have HO2 := Lib.hid (HO.out.step hs)
  clear hq hs
  go_wp2_with fail
  simp only [HK.out]
  go_loopg [9] K (fun gk i wr => ∃ (j : Nat) (O : Nat → Prop), gk = K - j ∧ j ≤ K ∧ i = .int .i64 j ∧ Hid (QueO wr q h 40 [a] F (List.replicate j []) O) ∧ Hid (OwnA wr w.heap.size v [a] O) ∧ Hid (Env w wr O))
  case atStart => exact ⟨0, O2, rfl, by omega, rfl, HQ2, HO2, HE2⟩
  case round =>
    clear HH HO HE HQ2 HE2 HO2
    obtain ⟨j, O, rfl, hj, rfl, HQ, HO, HE⟩ := hrel
    by_cases hlt : j < K
    · go_wp2_with fail
      refine (qopen_yes q h 40 _ HQ.out (by rw [List.length_replicate]; omega)).mono ?_
      rintro e w3 ⟨rfl, O3, hq, hs⟩
      rw [← List.replicate_succ'] at hq
      have HQ3 := Lib.hid hq
      have HE3 := Lib.hid (HE.out.step hs)
      have HO3 := Lib.hid (HO.out.step hs)
      clear hq hs
      go_wp2_with fail
      go_roundg (K - (j + 1))
      case measure => omega
      case rel => exact ⟨j + 1, O3, rfl, by omega, by go_num, HQ3, HO3, HE3⟩
    · obtain rfl : j = K := by omega
      obtain ⟨A, cap, hv, hI, _⟩ := HO.out.own.form
      have hv' : v = .slice A 1 cap := hv
      subst hv'
      obtain ⟨b, off, rfl, hb, hc⟩ := Reads.at (k := .i64) hI (rfl : [a].length = 1) (by omega : 0 < 1)
      have hc' : wr.cell? ⟨b, off, none⟩ = some (.int .i64 a) := hc
      clear hI hv hc
      obtain ⟨K, rfl⟩ : ∃ K, K = j := ⟨_, rfl⟩
      have hz : True := trivial
      generalize hl : [a] = l at *
      rcases (show odd < 0 ∨ (0 ≤ odd ∧ odd < K) ∨ (0 ≤ odd ∧ (K : Int) ≤ odd) by omega) with h1 | ⟨h1, h2⟩ | ⟨h1, h2⟩
      · go_wp2_with fail
        refine (poll_none q h 40 _ _ HQ.out (by rw [List.length_replicate]; omega)).mono ?_
        rintro e w' ⟨rfl, rfl⟩
        go_wp2_with fail
        refine (list_none q h 40 _ _ HQ.out (by rw [List.length_replicate]; omega)).mono ?_
        rintro e w' ⟨rfl, rfl⟩
        go_wp2_with fail
        refine (push_none q h 40 _ _ _ HQ.out (by rw [List.length_replicate]; omega)).mono ?_
        rintro e w' ⟨rfl, rfl⟩
        go_wp2_with fail
        obtain ⟨wo, rfl⟩ : ∃ wo : World, wo = wr := ⟨_, rfl⟩
        clear hz
        go_loopg [15] K (fun gk i wr => ∃ j : Nat, gk = K - j ∧ j ≤ K ∧ i = .int .i64 j ∧ Hid (QueO wr q h 40 l F (List.replicate K []) O) ∧ Hid (Upd [] w wr))
        case atStart => exact ⟨0, rfl, by omega, rfl, HQ, Lib.hid HE.out.upd⟩
        case round =>
          clear HQ HE
          obtain ⟨j, rfl, hj, rfl, HQ, HU⟩ := hrel
          by_cases hlt : j < K
          · go_wp2_with fail
            refine (list_yes q h 40 _ j _ HQ.out rfl (by rw [List.length_replicate]; omega)).mono ?_
            rintro e w5 ⟨v, rfl, ho, hu⟩
            rw [rep_rows] at ho
            obtain ⟨A, cap, hv, _, _⟩ := ho.form
            have hv' : v = .slice A 0 cap := hv
            subst hv'
            have HQ5 := Lib.hid (HQ.out.upd0 hu)
            have HU5 := Lib.hid (HU.out.trans hu)
            clear ho hv hu
            go_wp2_with fail
            refine (poll_empty q h 40 _ j _ HQ5.out rfl (by rw [List.length_replicate]; omega) (rep_rows _ _)).mono ?_
            rintro e w' ⟨rfl, rfl⟩
            go_wp2_with fail
            refine (err_calls 0 _ (by omega)).mono ?_
            rintro e w' ⟨rfl, rfl⟩
            go_wp2_with fail
            refine (err_calls 0 _ (by omega)).mono ?_
            rintro e w' ⟨rfl, rfl⟩
            go_wp2_with fail
            go_roundg (K - (j + 1))
            case measure => omega
            case rel => exact ⟨j + 1, rfl, by omega, by go_num, HQ5, HU5⟩
          · obtain rfl : j = K := by omega
            go_wp2_with fail
            refine (err_calls 2 _ (by omega)).mono ?_
            rintro e w' ⟨rfl, rfl⟩
            go_wp2_with fail
            refine (err_calls 2 _ (by omega)).mono ?_
            rintro e w' ⟨rfl, rfl⟩
            go_wp2_with fail
            refine (err_calls 2 _ (by omega)).mono ?_
            rintro e w' ⟨rfl, rfl⟩
            obtain ⟨v5, O5, H5, rfl⟩ := HQ.out
            have H6 := H5.raw
            rw [List.length_replicate] at H6
            have HQQ := Lib.hid H6
            clear H5 H6
            go_wp2_with fail
            refine (queues_len q h 40 _ _ HQQ.out).mono ?_
            rintro e w' ⟨rfl, rfl⟩
            go_wp2_with fail
            refine (awake12 _).mono ?_
            rintro e w9 ⟨rfl, hu⟩
            have HU9 := Lib.hid hu
            clear hu
            go_wp2_with fail
            go_ret
            exact ⟨rfl, (HU.out.trans HU9.out).below⟩
      · go_wp2_with fail
        refine (poll_none q h 40 _ _ HQ.out (by rw [List.length_replicate]; omega)).mono ?_
        rintro e w' ⟨rfl, rfl⟩
        go_wp2_with fail
        refine (list_none q h 40 _ _ HQ.out (by rw [List.length_replicate]; omega)).mono ?_
        rintro e w' ⟨rfl, rfl⟩
        go_wp2_with fail
        refine (push_none q h 40 _ _ _ HQ.out (by rw [List.length_replicate]; omega)).mono ?_
        rintro e w' ⟨rfl, rfl⟩
        go_wp2_with fail
        obtain ⟨wo, rfl⟩ : ∃ wo : World, wo = wr := ⟨_, rfl⟩
        clear hz
        go_loopg [15] K (fun gk i wr => ∃ j : Nat, gk = K - j ∧ j ≤ K ∧ i = .int .i64 j ∧ Hid (QueO wr q h 40 l F (List.replicate K []) O) ∧ Hid (Upd [] w wr))
        case atStart => exact ⟨0, rfl, by omega, rfl, HQ, Lib.hid HE.out.upd⟩
        case round =>
          clear HQ HE
          obtain ⟨j, rfl, hj, rfl, HQ, HU⟩ := hrel
          by_cases hlt : j < K
          · go_wp2_with fail
            refine (list_yes q h 40 _ j _ HQ.out rfl (by rw [List.length_replicate]; omega)).mono ?_
            rintro e w5 ⟨v, rfl, ho, hu⟩
            rw [rep_rows] at ho
            obtain ⟨A, cap, hv, _, _⟩ := ho.form
            have hv' : v = .slice A 0 cap := hv
            subst hv'
            have HQ5 := Lib.hid (HQ.out.upd0 hu)
            have HU5 := Lib.hid (HU.out.trans hu)
            clear ho hv hu
            go_wp2_with fail
            refine (poll_empty q h 40 _ j _ HQ5.out rfl (by rw [List.length_replicate]; omega) (rep_rows _ _)).mono ?_
            rintro e w' ⟨rfl, rfl⟩
            go_wp2_with fail
            refine (err_calls 0 _ (by omega)).mono ?_
            rintro e w' ⟨rfl, rfl⟩
            go_wp2_with fail
            refine (err_calls 0 _ (by omega)).mono ?_
            rintro e w' ⟨rfl, rfl⟩
            go_wp2_with fail
            go_roundg (K - (j + 1))
            case measure => omega
            case rel => exact ⟨j + 1, rfl, by omega, by go_num, HQ5, HU5⟩
          · obtain rfl : j = K := by omega
            go_wp2_with fail
            refine (err_calls 2 _ (by omega)).mono ?_
            rintro e w' ⟨rfl, rfl⟩
            go_wp2_with fail
            refine (err_calls 2 _ (by omega)).mono ?_
            rintro e w' ⟨rfl, rfl⟩
            go_wp2_with fail
            refine (err_calls 2 _ (by omega)).mono ?_
            rintro e w' ⟨rfl, rfl⟩
            obtain ⟨v5, O5, H5, rfl⟩ := HQ.out
            have H6 := H5.raw
            rw [List.length_replicate] at H6
            have HQQ := Lib.hid H6
            clear H5 H6
            go_wp2_with fail
            refine (queues_len q h 40 _ _ HQQ.out).mono ?_
            rintro e w' ⟨rfl, rfl⟩
            go_wp2_with fail
            refine (awake12 _).mono ?_
            rintro e w9 ⟨rfl, hu⟩
            have HU9 := Lib.hid hu
            clear hu
            go_wp2_with fail
            go_ret
            exact ⟨rfl, (HU.out.trans HU9.out).below⟩
      · go_wp2_with fail
        refine (poll_none q h 40 _ _ HQ.out (by rw [List.length_replicate]; omega)).mono ?_
        rintro e w' ⟨rfl, rfl⟩
        go_wp2_with fail
        refine (list_none q h 40 _ _ HQ.out (by rw [List.length_replicate]; omega)).mono ?_
        rintro e w' ⟨rfl, rfl⟩
        go_wp2_with fail
        refine (push_none q h 40 _ _ _ HQ.out (by rw [List.length_replicate]; omega)).mono ?_
        rintro e w' ⟨rfl, rfl⟩
        go_wp2_with fail
        obtain ⟨wo, rfl⟩ : ∃ wo : World, wo = wr := ⟨_, rfl⟩
        clear hz
        go_loopg [15] K (fun gk i wr => ∃ j : Nat, gk = K - j ∧ j ≤ K ∧ i = .int .i64 j ∧ Hid (QueO wr q h 40 l F (List.replicate K []) O) ∧ Hid (Upd [] w wr))
        case atStart => exact ⟨0, rfl, by omega, rfl, HQ, Lib.hid HE.out.upd⟩
        case round =>
          clear HQ HE
          obtain ⟨j, rfl, hj, rfl, HQ, HU⟩ := hrel
          by_cases hlt : j < K
          · go_wp2_with fail
            refine (list_yes q h 40 _ j _ HQ.out rfl (by rw [List.length_replicate]; omega)).mono ?_
            rintro e w5 ⟨v, rfl, ho, hu⟩
            rw [rep_rows] at ho
            obtain ⟨A, cap, hv, _, _⟩ := ho.form
            have hv' : v = .slice A 0 cap := hv
            subst hv'
            have HQ5 := Lib.hid (HQ.out.upd0 hu)
            have HU5 := Lib.hid (HU.out.trans hu)
            clear ho hv hu
            go_wp2_with fail
            refine (poll_empty q h 40 _ j _ HQ5.out rfl (by rw [List.length_replicate]; omega) (rep_rows _ _)).mono ?_
            rintro e w' ⟨rfl, rfl⟩
            go_wp2_with fail
            refine (err_calls 0 _ (by omega)).mono ?_
            rintro e w' ⟨rfl, rfl⟩
            go_wp2_with fail
            refine (err_calls 0 _ (by omega)).mono ?_
            rintro e w' ⟨rfl, rfl⟩
            go_wp2_with fail
            go_roundg (K - (j + 1))
            case measure => omega
            case rel => exact ⟨j + 1, rfl, by omega, by go_num, HQ5, HU5⟩
          · obtain rfl : j = K := by omega
            go_wp2_with fail
            refine (err_calls 2 _ (by omega)).mono ?_
            rintro e w' ⟨rfl, rfl⟩
            go_wp2_with fail
            refine (err_calls 2 _ (by omega)).mono ?_
            rintro e w' ⟨rfl, rfl⟩
            go_wp2_with fail
            refine (err_calls 2 _ (by omega)).mono ?_
            rintro e w' ⟨rfl, rfl⟩
            obtain ⟨v5, O5, H5, rfl⟩ := HQ.out
            have H6 := H5.raw
            rw [List.length_replicate] at H6
            have HQQ := Lib.hid H6
            clear H5 H6
            go_wp2_with fail
            refine (queues_len q h 40 _ _ HQQ.out).mono ?_
            rintro e w' ⟨rfl, rfl⟩
            go_wp2_with fail
            refine (awake12 _).mono ?_
            rintro e w9 ⟨rfl, hu⟩
            have HU9 := Lib.hid hu
            clear hu
            go_wp2_with fail
            go_ret
            exact ⟨rfl, (HU.out.trans HU9.out).below⟩
end Go.Proofs.Ytendjhobemlhoaa
