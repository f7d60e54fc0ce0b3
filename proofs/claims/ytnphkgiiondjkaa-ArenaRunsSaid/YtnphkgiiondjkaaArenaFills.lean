/- The walk of ArenaFills: at every two uint8 and every int the law returns true, and nothing that was there has turned. -/
import Derived.Test.YtnphkgiiondjkaaArenaTwo
import Derived.Outline
namespace Go.Proofs.Ytnphkgiiondjkaa
open Go Go.RowKit

/-- n words of which the first k are x, the others 0. -/
def filled (n k : Nat) (x : Int) : List Int := List.replicate k x ++ List.replicate (n - k) 0
theorem filled_length (n k : Nat) (x : Int) (h : k ≤ n) : (filled n k x).length = n := by unfold filled; simp; omega
theorem filled_set (k n : Nat) (x : Int) (h : k < n) : (filled n k x).set k x = filled n (k + 1) x := by
  unfold filled
  obtain ⟨m, rfl⟩ : ∃ m, n = k + 1 + m := ⟨n - (k + 1), by omega⟩
  rw [show k + 1 + m - k = m + 1 from by omega, show k + 1 + m - (k + 1) = m from by omega, List.set_append_right _ _ (by simp), List.length_replicate, Nat.sub_self, List.replicate_succ, List.set_cons_zero, List.replicate_succ', List.append_assoc]
  rfl
theorem filled_get (n j : Nat) (x : Int) (h : j < n) : (filled n n x).getD j 0 = x := by
  unfold filled
  rw [List.getD_eq_getElem?_getD, List.getElem?_append_left (by simpa using h), List.getElem?_replicate_of_lt h]
  rfl



set_option maxRecDepth 100000 in
set_option maxHeartbeats 8000000 in
theorem fills_walk (k m : Nat) (x : Int) (w : World) (h0 : k ≤ 255) (h1 : m ≤ 255) : Calls Try.prog 5 #[.int .u8 k, .int .u8 m, .int .i64 x] w fun e w' => e = .returned (.bool true) ∧ Below w.heap.size w w' := by
  go_enter Try.func5, Try.ntmps5
  go_wp2_with fail
  refine (arena_new_yes 2 _ (by omega) (by omega)).mono ?_
  rintro e w1 ⟨p, g, rfl, ha, hp, hg, hb⟩
  have H : Hid (IsArena w1 p g (filled 128 0 x)) := Lib.hid ha
  have HU := Lib.hid (Upd.of_below hb : Upd [] w w1)
  clear ha hb
  go_wp2_with fail
  refine (err0 _).mono ?_
  rintro e w' ⟨rfl, rfl⟩
  go_wp2_with fail
  go_loopw [9] (fun i wr => ∃ k : Nat, k ≤ 128 ∧ i = .int .i64 k ∧ Hid (IsArena wr p g (filled 128 k x)) ∧ Hid (Upd [] w wr)) (fun i _ => 128 - (intOf i).toNat)
  case atStart => exact ⟨0, Nat.zero_le _, rfl, H, HU⟩
  case round =>
    obtain ⟨q, hq, rfl, HA, HW⟩ := hrel
    by_cases hlt : q < 128
    · go_wp2_with fail
      refine (store_yes p g _ q x _ HA.out (by omega) (by have := filled_length 128 q x hq; omega)).mono ?_
      rintro e w3 ⟨rfl, ha, hu⟩
      have HW2 := Lib.hid (HW.out.step hu (by simp; omega))
      have HA2 : Hid (IsArena w3 p g (filled 128 (q + 1) x)) := Lib.hid (by
        rw [← filled_set q 128 x hlt]
        simpa using ha)
      clear ha hu
      go_wp2_with fail
      go_roundw
      case rel => exact ⟨q + 1, by omega, by go_num, HA2, HW2⟩
      case measure => simp [intOf]; omega
    · have hk128 : q = 128 := by omega
      subst hk128
      have hlen := filled_length 128 128 x (by omega)
      have HLEN := Lib.hid hlen
      clear hlen
      have hk0 : (0 : Int) ≤ (k : Int) % 140 := by omega
      have hm0 : (0 : Int) ≤ (m : Int) % 140 := by omega
      have hk1 : (k : Int) % 140 < 140 := by omega
      have hm1 : (m : Int) % 140 < 140 := by omega
      rcases (show ((m : Int) % 140 < 1) ∨ (1 ≤ (m : Int) % 140 ∧ (m : Int) % 140 ≤ 128 - (k : Int) % 140) ∨ (1 ≤ (m : Int) % 140 ∧ 128 - (k : Int) % 140 < (m : Int) % 140) by omega) with c | ⟨c, c'⟩ | ⟨c, c'⟩
      · have c2 : (m : Int) % 140 = 0 := by omega
        have C2 := Lib.hid c2
        clear c2
        by_cases hk8 : (k : Int) % 140 ≤ 128
        all_goals
          go_wp2_with fail
          rw [C2.out]
          refine (fill_zero p g _ _ _ HA.out (by have := HLEN.out; omega) (by omega) (by omega)).mono ?_
          rintro e w' ⟨rfl, rfl⟩
          obtain ⟨w2, rfl⟩ : ∃ w2, w2 = wr := ⟨_, rfl⟩
          obtain ⟨L, hL⟩ : ∃ L, L = filled 128 128 x := ⟨_, rfl⟩
          have H2 : Hid (IsArena w2 p g L) := Lib.hid (by rw [hL]; exact HA.out)
          have HU2 := HW
          have HL2 : Hid (L.length = 128) := Lib.hid (by rw [hL]; exact HLEN.out)
          have HV : Hid (∀ j, j < 128 → L.getD j 0 = if (k : Int) % 140 ≤ j ∧ (j : Int) < (k : Int) % 140 + (m : Int) % 140 then 0 else x) := Lib.hid (by
            intro j hj
            rw [hL, filled_get 128 j x hj, if_neg (by omega)])
          clear hL
          go_wp2_with fail
          refine (err0 _).mono ?_
          rintro e w' ⟨rfl, rfl⟩
          go_wp2_with fail
          go_loopw [14] (fun i wr => ∃ j : Nat, j ≤ 128 ∧ i = .int .i64 j ∧ w2 = wr) (fun i _ => 128 - (intOf i).toNat)
          case atStart => exact ⟨0, Nat.zero_le _, rfl, rfl⟩
          case round =>
            obtain ⟨j, hj, rfl, rfl⟩ := hrel
            by_cases hlt : j < 128
            · rcases (show ((j : Int) < (k : Int) % 140) ∨ ((k : Int) % 140 ≤ j ∧ (j : Int) < (k : Int) % 140 + (m : Int) % 140) ∨ ((k : Int) % 140 ≤ j ∧ (k : Int) % 140 + (m : Int) % 140 ≤ j) by omega) with d | ⟨d, d'⟩ | ⟨d, d'⟩
              all_goals
                first | (exfalso; omega) | skip
              all_goals
                have hv := HV.out j hlt
                obtain ⟨v, hv'⟩ : ∃ v, L.getD j 0 = v := ⟨_, rfl⟩
                have HVV := Lib.hid hv'
                rw [hv'] at hv
                first
                  | (rw [if_pos (by omega)] at hv)
                  | (rw [if_neg (by omega)] at hv)
                subst hv
                clear hv'
                go_wp2_with fail
                refine (load_yes p g L j _ H2.out (by omega) (by have := HL2.out; omega)).mono ?_
                rintro e w' ⟨rfl, rfl⟩
                rw [Int.toNat_natCast, HVV.out]
                go_wp2_with fail
                refine (err0 _).mono ?_
                rintro e w' ⟨rfl, rfl⟩
                go_wp2_with fail
                go_roundw
                case rel => exact ⟨j + 1, by omega, by go_num, trivial⟩
                case measure => simp [intOf]; omega
            · have hj2 : j = 128 := by omega
              subst hj2
              go_wp2_with fail
              refine (awake1_calls _).mono ?_
              rintro e w5 ⟨rfl, hb⟩
              have HF := Lib.hid (HU2.out.step (Upd.of_below hb : Upd [] _ _) (by simp))
              clear hb
              go_wp2_with fail
              go_ret
              exact ⟨rfl, HF.out.below⟩
      · go_wp2_with fail
        refine (fill_at p g _ _ _ _ HA.out (by have := HLEN.out; omega) (by omega) (by omega) (by have := HLEN.out; omega)).mono ?_
        rintro e w2 ⟨rfl, ha, hu⟩
        obtain ⟨L, hL⟩ : ∃ L, L = filledAt (filled 128 128 x) ((k : Int) % 140).toNat ((m : Int) % 140).toNat := ⟨_, rfl⟩
        rw [← hL] at ha
        have H2 := Lib.hid ha
        have HU2 := Lib.hid (HW.out.step hu (by simp; omega))
        have HL2 : Hid (L.length = 128) := Lib.hid (by rw [hL, filledAt_length _ _ _ (by have := HLEN.out; omega)]; exact HLEN.out)
        have HV : Hid (∀ j, j < 128 → L.getD j 0 = if (k : Int) % 140 ≤ j ∧ (j : Int) < (k : Int) % 140 + (m : Int) % 140 then 0 else x) := Lib.hid (by
          intro j hj
          rw [hL, filledAt_get _ _ _ _ (by have := HLEN.out; omega), filled_get 128 j x hj]
          by_cases hh : (k : Int) % 140 ≤ j ∧ (j : Int) < (k : Int) % 140 + (m : Int) % 140
          · rw [if_pos hh, if_pos (by omega)]
          · rw [if_neg hh, if_neg (by omega)])
        clear ha hu hL
        go_wp2_with fail
        refine (err0 _).mono ?_
        rintro e w' ⟨rfl, rfl⟩
        go_wp2_with fail
        go_loopw [14] (fun i wr => ∃ j : Nat, j ≤ 128 ∧ i = .int .i64 j ∧ w2 = wr) (fun i _ => 128 - (intOf i).toNat)
        case atStart => exact ⟨0, Nat.zero_le _, rfl, rfl⟩
        case round =>
          obtain ⟨j, hj, rfl, rfl⟩ := hrel
          by_cases hlt : j < 128
          · rcases (show ((j : Int) < (k : Int) % 140) ∨ ((k : Int) % 140 ≤ j ∧ (j : Int) < (k : Int) % 140 + (m : Int) % 140) ∨ ((k : Int) % 140 ≤ j ∧ (k : Int) % 140 + (m : Int) % 140 ≤ j) by omega) with d | ⟨d, d'⟩ | ⟨d, d'⟩
            all_goals
              first | (exfalso; omega) | skip
            all_goals
              have hv := HV.out j hlt
              obtain ⟨v, hv'⟩ : ∃ v, L.getD j 0 = v := ⟨_, rfl⟩
              have HVV := Lib.hid hv'
              rw [hv'] at hv
              first
                | (rw [if_pos (by omega)] at hv)
                | (rw [if_neg (by omega)] at hv)
              subst hv
              clear hv'
              go_wp2_with fail
              refine (load_yes p g L j _ H2.out (by omega) (by have := HL2.out; omega)).mono ?_
              rintro e w' ⟨rfl, rfl⟩
              rw [Int.toNat_natCast, HVV.out]
              go_wp2_with fail
              refine (err0 _).mono ?_
              rintro e w' ⟨rfl, rfl⟩
              go_wp2_with fail
              go_roundw
              case rel => exact ⟨j + 1, by omega, by go_num, trivial⟩
              case measure => simp [intOf]; omega
          · have hj2 : j = 128 := by omega
            subst hj2
            go_wp2_with fail
            refine (awake1_calls _).mono ?_
            rintro e w5 ⟨rfl, hb⟩
            have HF := Lib.hid (HU2.out.step (Upd.of_below hb : Upd [] _ _) (by simp))
            clear hb
            go_wp2_with fail
            go_ret
            exact ⟨rfl, HF.out.below⟩
      · have hb1 : decide ((m : Int) % 140 ≤ 128 - (k : Int) % 140) = false := by simp; omega
        have hb2 : ((m : Int) % 140 == 0) = false := by rw [beq_eq_false_iff_ne]; omega
        go_wp2_with fail
        refine (fill_no p g _ _ _ _ HA.out (by have := HLEN.out; omega) (by omega) (by omega) (by have := HLEN.out; omega) (by omega)).mono ?_
        rintro e w' ⟨rfl, rfl⟩
        obtain ⟨w2, rfl⟩ : ∃ w2, w2 = wr := ⟨_, rfl⟩
        obtain ⟨L, hL⟩ : ∃ L, L = filled 128 128 x := ⟨_, rfl⟩
        have H2 : Hid (IsArena w2 p g L) := Lib.hid (by rw [hL]; exact HA.out)
        have HU2 := HW
        have HL2 : Hid (L.length = 128) := Lib.hid (by rw [hL]; exact HLEN.out)
        have HV : Hid (∀ j, j < 128 → L.getD j 0 = x) := Lib.hid (by
          intro j hj
          rw [hL, filled_get 128 j x hj])
        clear hL
        go_wp2_with fail
        refine (err2 _).mono ?_
        rintro e w' ⟨rfl, rfl⟩
        go_wp2_with fail
        go_loopw [14] (fun i wr => ∃ j : Nat, j ≤ 128 ∧ i = .int .i64 j ∧ w2 = wr) (fun i _ => 128 - (intOf i).toNat)
        case atStart => exact ⟨0, Nat.zero_le _, rfl, rfl⟩
        case round =>
          obtain ⟨j, hj, rfl, rfl⟩ := hrel
          by_cases hlt : j < 128
          · skip
            all_goals
              first | (exfalso; omega) | skip
            all_goals
              have hv := HV.out j hlt
              obtain ⟨v, hv'⟩ : ∃ v, L.getD j 0 = v := ⟨_, rfl⟩
              have HVV := Lib.hid hv'
              rw [hv'] at hv
              subst hv
              clear hv'
              go_wp2_with fail
              refine (load_yes p g L j _ H2.out (by omega) (by have := HL2.out; omega)).mono ?_
              rintro e w' ⟨rfl, rfl⟩
              rw [Int.toNat_natCast, HVV.out]
              go_wp2_with fail
              refine (err0 _).mono ?_
              rintro e w' ⟨rfl, rfl⟩
              go_wp2_with fail
              go_roundw
              case rel => exact ⟨j + 1, by omega, by go_num, trivial⟩
              case measure => simp [intOf]; omega
          · have hj2 : j = 128 := by omega
            subst hj2
            go_wp2_with fail
            refine (awake1_calls _).mono ?_
            rintro e w5 ⟨rfl, hb⟩
            have HF := Lib.hid (HU2.out.step (Upd.of_below hb : Upd [] _ _) (by simp))
            clear hb
            go_wp2_with fail
            go_ret
            exact ⟨rfl, HF.out.below⟩
end Go.Proofs.Ytnphkgiiondjkaa
