/- The walk of ArenaSizes: at every uint8 and every int the law returns true, and nothing that was there has turned. -/
import Derived.Test.YtnphkgiiondjkaaArenaTwo
namespace Go.Proofs.Ytnphkgiiondjkaa
open Go Go.RowKit

set_option maxHeartbeats 4000000 in
theorem sizes_walk (n : Nat) (bad : Int) (w : World) (h1 : n ≤ 255) : Calls Try.prog 6 #[.int .u8 n, .int .i64 bad] w fun e w' => e = .returned (.bool true) ∧ Below w.heap.size w w' := by
  rcases (show (bad < 1) ∨ (1 ≤ bad ∧ bad ≤ 256) ∨ 256 < bad by omega) with hb0 | ⟨hb0, hb1⟩ | hb0
  all_goals
    have hn : (0 : Int) ≤ n := by omega
    go_enter Try.func6, Try.ntmps6
    go_wp2_with fail
    rw [show (1 : Int) + (n : Int) = ((n + 1 : Nat) : Int) from by omega]
    refine (arena_new_yes (n + 1) _ (by omega) (by omega)).mono ?_
    rintro e w1 ⟨p, g, rfl, ha, hp, hg, hb⟩
    obtain ⟨l, hl⟩ : ∃ l, l = List.replicate ((n + 1) * 64) (0 : Int) := ⟨_, rfl⟩
    rw [← hl] at ha
    have hlen : l.length = (n + 1) * 64 := by rw [hl]; exact List.length_replicate
    have HL := Lib.hid hlen
    have H := Lib.hid ha
    have HU := Lib.hid (Upd.of_below hb : Upd [] w w1)
    clear ha hb hl hlen
    go_wp2_with fail
    refine (err0 _).mono ?_
    rintro e w' ⟨rfl, rfl⟩
    go_wp2_with fail
    refine (arena_len p g _ _ H.out).mono ?_
    rintro e w' ⟨rfl, rfl⟩
    rw [HL.out]
    go_wp2_with fail
    refine (arena_len p g _ _ H.out).mono ?_
    rintro e w' ⟨rfl, rfl⟩
    rw [HL.out]
    go_wp2_with fail
    refine (store_yes p g _ _ 7 _ H.out (by omega) (by have := HL.out; omega)).mono ?_
    rintro e w3 ⟨rfl, ha, hu⟩
    have HU2 := Lib.hid (HU.out.step hu (by simp; omega))
    have H2 := Lib.hid ha
    clear ha hu H HU
    go_wp2_with fail
    refine (arena_len p g _ _ H2.out).mono ?_
    rintro e w' ⟨rfl, rfl⟩
    rw [List.length_set, HL.out]
    go_wp2_with fail
    refine (load_yes p g _ _ _ H2.out (by omega) (by have := HL.out; simp only [List.length_set]; omega)).mono ?_
    rintro e w' ⟨rfl, rfl⟩
    rw [List.getD_eq_getElem?_getD, List.getElem?_set_self (by have := HL.out; omega), Option.getD_some]
    go_wp2_with fail
    refine (arena_len p g _ _ H2.out).mono ?_
    rintro e w' ⟨rfl, rfl⟩
    rw [List.length_set, HL.out]
    go_wp2_with fail
    refine (store_no p g _ _ 7 _ H2.out (.inr (by have := HL.out; simp only [List.length_set]; omega))).mono ?_
    rintro e w' ⟨rfl, rfl⟩
    go_wp2_with fail
    refine (load_no p g _ (-1) _ H2.out (.inl (by omega))).mono ?_
    rintro e w' ⟨rfl, rfl⟩
    go_wp2_with fail
    refine (arena_new_no _ _ (by omega)).mono ?_
    rintro e w' ⟨rfl, rfl⟩
    go_wp2_with fail
    refine (err0 _).mono ?_
    rintro e w' ⟨rfl, rfl⟩
    go_wp2_with fail
    refine (err0 _).mono ?_
    rintro e w' ⟨rfl, rfl⟩
    go_wp2_with fail
    refine (err2 _).mono ?_
    rintro e w' ⟨rfl, rfl⟩
    go_wp2_with fail
    refine (err2 _).mono ?_
    rintro e w' ⟨rfl, rfl⟩
    go_wp2_with fail
    refine (err1 _).mono ?_
    rintro e w' ⟨rfl, rfl⟩
    go_wp2_with fail
    refine (fill_arg p 0 (-1) _ (by omega)).mono ?_
    rintro e w' ⟨rfl, rfl⟩
    go_wp2_with fail
    refine (err1 _).mono ?_
    rintro e w' ⟨rfl, rfl⟩
    go_wp2_with fail
    refine (awake1_calls _).mono ?_
    rintro e w5 ⟨rfl, hb⟩
    have HF := Lib.hid (HU2.out.step (Upd.of_below hb : Upd [] _ _) (by simp))
    clear hb
    go_wp2_with fail
    go_ret
    exact ⟨rfl, HF.out.below⟩
end Go.Proofs.Ytnphkgiiondjkaa
