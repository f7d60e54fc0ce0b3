/- The walk of ArenaTwo: at every place and every two numbers the law returns true, and nothing that was there has turned. -/
import Derived.Test.YtnphkgiiondjkaaArena
namespace Go.Proofs.Ytnphkgiiondjkaa
open Go Go.RowKit

theorem err0 (w : World) : Calls Try.prog 22 #[.int .i64 0] w fun e w' => e = .returned (.int .i64 0) ∧ w = w' := err_calls 0 w (by omega)
theorem err1 (w : World) : Calls Try.prog 22 #[.int .i64 1] w fun e w' => e = .returned (.int .i64 1) ∧ w = w' := err_calls 1 w (by omega)
theorem err2 (w : World) : Calls Try.prog 22 #[.int .i64 2] w fun e w' => e = .returned (.int .i64 2) ∧ w = w' := err_calls 2 w (by omega)
theorem err3 (w : World) : Calls Try.prog 22 #[.int .i64 3] w fun e w' => e = .returned (.int .i64 3) ∧ w = w' := err_calls 3 w (by omega)

set_option maxHeartbeats 800000 in
theorem awake1_calls (w : World) : Calls Try.prog 26 #[] w fun e w' => e = .returned (.bool true) ∧ Below w.heap.size w w' := by
  go_enter Try.func26, Try.ntmps26
  go_wp2_with fail
  refine (arena_new_yes 1 _ (by omega) (by omega)).mono ?_
  rintro e w1 ⟨p, g, rfl, ha, hp, hg, hb⟩
  have H := Lib.hid ha
  have HB := Lib.hid hb
  clear ha hb
  go_wp2_with fail
  refine (load_yes p g _ 63 _ H.out (by omega) (by simp)).mono ?_
  rintro e w2 ⟨rfl, rfl⟩
  rw [show (List.replicate (1 * 64) (0 : Int)).getD (63 : Int).toNat 0 = 0 from by decide]
  go_wp2_with fail
  refine (load_no p g _ 64 _ H.out (.inr (by simp))).mono ?_
  rintro e w2 ⟨rfl, rfl⟩
  go_wp2_with fail
  refine (err0 _).mono ?_
  rintro e w2 ⟨rfl, rfl⟩
  go_wp2_with fail
  refine (err0 _).mono ?_
  rintro e w2 ⟨rfl, rfl⟩
  go_wp2_with fail
  refine (arena_len p g _ _ H.out).mono ?_
  rintro e w2 ⟨rfl, rfl⟩
  rw [show (((List.replicate (1 * 64) (0 : Int)).length : Nat) : Int) = 64 from by decide]
  go_wp2_with fail
  refine (err2 _).mono ?_
  rintro e w2 ⟨rfl, rfl⟩
  go_wp2_with fail
  go_ret
  exact ⟨rfl, HB.out⟩

set_option maxHeartbeats 800000 in
theorem two_walk (i x y : Int) (w : World) (h0 : 0 ≤ i) (h1 : i ≤ 255) : Calls Try.prog 3 #[.int .u8 i, .int .i64 x, .int .i64 y] w fun e w' => e = .returned (.bool true) ∧ Below w.heap.size w w' := by
  go_enter Try.func3, Try.ntmps3
  go_wp2_with fail
  refine (arena_new_yes 4 _ (by omega) (by omega)).mono ?_
  rintro e w1 ⟨p, g, rfl, ha, hp, hg, hb⟩
  have H := Lib.hid ha
  have HB := Lib.hid hb
  clear ha hb
  go_wp2_with fail
  refine (arena_new_yes 4 _ (by omega) (by omega)).mono ?_
  rintro e w2 ⟨q, k, rfl, ha, hq, hk, hb⟩
  have hu := (Upd.of_below hb : Upd [] w1 w2)
  have H1 := Lib.hid (H.out.upd hu (by simp) (by simp))
  have H2 := Lib.hid ha
  have hpq : p ≠ q ∧ p ≠ k ∧ g ≠ q ∧ g ≠ k ∧ w.heap.size ≤ k := by
    have := H.out.1.lt
    have := H.out.2.lt
    have := HB.out.size
    omega
  have HN := Lib.hid hpq
  have HU := Lib.hid ((Upd.of_below HB.out : Upd [] w w1).trans (Upd.step (Upd.refl [] w1) hu (by simp)))
  clear ha hb hu hpq HB H
  obtain ⟨l, hl⟩ : ∃ l, l = List.replicate (4 * 64) (0 : Int) := ⟨_, rfl⟩
  rw [← hl] at H1 H2
  have hlen : l.length = 256 := by rw [hl]; exact List.length_replicate
  have HL := Lib.hid hlen
  clear hl hlen
  go_wp2_with fail
  refine (err0 _).mono ?_
  rintro e w3 ⟨rfl, rfl⟩
  go_wp2_with fail
  refine (err0 _).mono ?_
  rintro e w3 ⟨rfl, rfl⟩
  go_wp2_with fail
  refine (store_yes p g _ i x _ H1.out h0 (by have := HL.out; (try simp only [List.length_set]); omega)).mono ?_
  rintro e w3 ⟨rfl, ha, hu⟩
  have HU2 := Lib.hid (HU.out.step hu (by simp; omega))
  have H3 := Lib.hid ha
  have H4 := Lib.hid (H2.out.upd hu (by simp; exact HN.out.2.2.1.symm) (by simp; exact HN.out.2.2.2.1.symm))
  clear ha hu H1 H2 HU
  go_wp2_with fail
  refine (store_yes q k _ i y _ H4.out h0 (by have := HL.out; (try simp only [List.length_set]); omega)).mono ?_
  rintro e w4 ⟨rfl, ha, hu⟩
  have HU3 := Lib.hid (HU2.out.step hu (by simp; have := HN.out; omega))
  have H5 := Lib.hid ha
  have H6 := Lib.hid (H3.out.upd hu (by simp; exact HN.out.2.1) (by simp; exact HN.out.2.2.2.1))
  clear ha hu H3 H4 HU2
  go_wp2_with fail
  refine (load_yes p g _ i _ H6.out h0 (by have := HL.out; (try simp only [List.length_set]); omega)).mono ?_
  rintro e w5 ⟨rfl, rfl⟩
  rw [show (l.set i.toNat x).getD i.toNat 0 = x from by
    rw [List.getD_eq_getElem?_getD, List.getElem?_set_self (by have := HL.out; omega)]; rfl]
  go_wp2_with fail
  refine (load_yes q k _ i _ H5.out h0 (by have := HL.out; (try simp only [List.length_set]); omega)).mono ?_
  rintro e w5 ⟨rfl, rfl⟩
  rw [show (l.set i.toNat y).getD i.toNat 0 = y from by
    rw [List.getD_eq_getElem?_getD, List.getElem?_set_self (by have := HL.out; omega)]; rfl]
  go_wp2_with fail
  refine (load_nil 0 _).mono ?_
  rintro e w5 ⟨rfl, rfl⟩
  go_wp2_with fail
  refine (err2 _).mono ?_
  rintro e w5 ⟨rfl, rfl⟩
  go_wp2_with fail
  refine (store_nil 0 1 _).mono ?_
  rintro e w5 ⟨rfl, rfl⟩
  go_wp2_with fail
  refine (err2 _).mono ?_
  rintro e w5 ⟨rfl, rfl⟩
  go_wp2_with fail
  refine (arena_len_nil _).mono ?_
  rintro e w5 ⟨rfl, rfl⟩
  go_wp2_with fail
  refine (awake1_calls _).mono ?_
  rintro e w5 ⟨rfl, hb⟩
  have HF := Lib.hid (HU3.out.step (Upd.of_below hb : Upd [] _ _) (by simp))
  clear hb
  go_wp2_with fail
  go_ret
  exact ⟨rfl, HF.out.below⟩
end Go.Proofs.Ytnphkgiiondjkaa
