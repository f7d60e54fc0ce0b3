/- The walk of BlockRefuses: at every input the law returns true, and nothing that was there has turned. -/
import Derived.Test.YtnphkgiiondjkaaBlock
import Derived.Deep.LoopGhost
import Derived.Deep.CutBlock
import Derived.Deep.DeepCutAuto
namespace Go.Proofs.Ytnphkgiiondjkaa
open Go Go.RowKit

theorem hasB_rep (m : Nat) (i : Int) : hasB (List.replicate m false) i = false := by
  by_cases h : i < 0 ∨ ((List.replicate m false).length : Int) ≤ i
  · exact hasB_no h
  · rw [hasB_yes (by omega), rep_get]

theorem countB_none (k : Nat) : countB (List.replicate k false) = 0 := by
  unfold countB
  rw [List.count_replicate]
  simp

set_option maxRecDepth 100000 in
set_option maxHeartbeats 8000000 in
theorem refuses5_walk (c i : Int) (w : World) : Calls Try.prog 12 #[.int .i64 c, .int .i64 i] w fun e w' => e = .returned (.bool true) ∧ Below w.heap.size w w' := by
  go_enter Try.func12, Try.ntmps12
  go_upto_region 1 with fail
  go_cut [14] (fun b wx => ∃ t : Bool, b = .bool t ∧ wx = w ∧ Hid (t = false → c < 0 ∨ 5 ≤ c))
  case first =>
    by_cases h1 : c < 0
    · go_wp2_with fail
      go_meet
      exact ⟨_, rfl, rfl, Lib.hid (fun _ => .inl h1)⟩
    · by_cases h2 : c < 5
      · go_wp2_with fail
        go_meet
        exact ⟨_, rfl, rfl, Lib.hid (fun h => by simp at h)⟩
      · go_wp2_with fail
        go_meet
        exact ⟨_, rfl, rfl, Lib.hid (fun _ => .inr (by omega))⟩
  case rest =>
    obtain ⟨t, rfl, rfl, HT⟩ := hcut
    go_upto_if 14 with fail
    go_cut [0] (fun o wx => ∃ d : Int, o = .int .i64 d ∧ wx = wc ∧ Hid (d < 0 ∨ 5 ≤ d))
    case first =>
      cases t with
      | true =>
        go_wp2_with fail
        go_meet
        exact ⟨5, rfl, rfl, Lib.hid (.inr (by omega))⟩
      | false =>
        go_wp2_with fail
        go_meet
        exact ⟨c, rfl, rfl, Lib.hid (HT.out (by simp))⟩
    case rest =>
      obtain ⟨d, rfl, rfl, HD⟩ := hcut
      clear HT
      go_wp2_with fail
      refine (block_new_no d _ HD.out).mono ?_
      rintro e w1 ⟨rfl, hb⟩
      have HU1 : Hid (Upd [] wc w1) := Lib.hid (Upd.of_below hb)
      clear hb
      go_wp2_with fail
      refine (block_new_yes 0 _ (by omega)).mono ?_
      rintro e w2 ⟨q, p, g, rfl, ha, hq, hp, hg, hb⟩
      have ha : IsPage w2 q p g 2 (List.replicate 32 false) := ha
      have c0 : w2.cell? ⟨q, 0, none⟩ = some (.pointer (some ⟨p, 0, none⟩)) := ha.1.cell 0
      have H := Lib.hid ha
      have HU2 : Hid (Upd [] wc w2) := Lib.hid (HU1.out.step (Upd.of_below hb : Upd [] _ _) (by simp))
      clear ha hb hq hp hg
      go_wp2_with fail
      refine (err0 _).mono ?_
      rintro e w' ⟨rfl, rfl⟩
      go_upto_region 7 with fail
      go_cut [43] (fun b wx => ∃ t : Bool, b = .bool t ∧ wx = w2)
      case first =>
        by_cases h1 : i < 0
        · go_wp2_with fail
          go_meet
          exact ⟨_, rfl, rfl⟩
        · by_cases h2 : i < 32
          · go_wp2_with fail
            go_meet
            exact ⟨_, rfl, rfl⟩
          · go_wp2_with fail
            go_meet
            exact ⟨_, rfl, rfl⟩
      case rest =>
        obtain ⟨t, rfl, rfl⟩ := hcut
        go_upto_if 43 with fail
        go_cut [1] (fun o wx => ∃ j : Int, o = .int .i64 j ∧ wx = wc)
        case first =>
          cases t with
          | true =>
            go_wp2_with fail
            go_meet
            exact ⟨32, rfl, rfl⟩
          | false =>
            go_wp2_with fail
            go_meet
            exact ⟨i, rfl, rfl⟩
        case rest =>
          obtain ⟨j, rfl, rfl⟩ := hcut
          go_wp2_with fail
          refine (err1 _).mono ?_
          rintro e w' ⟨rfl, rfl⟩
          go_wp2_with fail
          refine (give_no q p g 2 _ j _ H.out (hasB_rep 32 j)).mono ?_
          rintro e w' ⟨rfl, rfl⟩
          go_wp2_with fail
          refine (err2 _).mono ?_
          rintro e w' ⟨rfl, rfl⟩
          go_wp2_with fail
          refine (give_no q p g 2 _ 3 _ H.out (hasB_rep 32 3)).mono ?_
          rintro e w' ⟨rfl, rfl⟩
          go_wp2_with fail
          refine (err2 _).mono ?_
          rintro e w' ⟨rfl, rfl⟩
          go_wp2_with fail
          have hq := empty_any q p g 2 _ _ H.out (by simp)
          rw [countB_none 32] at hq
          refine hq.mono ?_
          rintro e w' ⟨rfl, rfl⟩
          clear hq
          go_wp2_with fail
          refine (words_any q p g 2 _ _ H.out).mono ?_
          rintro e w' ⟨rfl, rfl⟩
          go_wp2_with fail
          refine (awake5_calls _).mono ?_
          rintro e w6 ⟨rfl, hb⟩
          have HF := Lib.hid (HU2.out.step (Upd.of_below hb : Upd [] _ _) (by simp))
          clear hb
          go_wp2_with fail
          go_ret
          exact ⟨rfl, HF.out.below⟩
end Go.Proofs.Ytnphkgiiondjkaa
