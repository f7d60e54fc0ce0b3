/- The walk of BlockFills: at every input the law returns true, and nothing that was there has turned. -/
import Derived.Test.YtnphkgiiondjkaaBlock
import Derived.Test.YtnphkgiiondjkaaFill
import Derived.Deep.LoopGhost
import Derived.Deep.CutBlock
import Derived.Deep.DeepCutAuto
namespace Go.Proofs.Ytnphkgiiondjkaa
open Go Go.RowKit

/-- A class's words and room. -/
theorem room_of (c : Nat) (h : c < 5) : ∃ W m : Nat, wordsOf c = W ∧ roomOf c = m ∧ 2 ≤ W ∧ W ≤ 32 ∧ 2 ≤ m ∧ m ≤ 32 ∧ (64 : Int) / (W : Int) = (m : Int) ∧ W * m = 64 := by
  have hc : c = 0 ∨ c = 1 ∨ c = 2 ∨ c = 3 ∨ c = 4 := by omega
  rcases hc with rfl | rfl | rfl | rfl | rfl
  · exact ⟨2, 32, rfl, rfl, by decide⟩
  · exact ⟨4, 16, rfl, rfl, by decide⟩
  · exact ⟨8, 8, rfl, rfl, by decide⟩
  · exact ⟨16, 4, rfl, rfl, by decide⟩
  · exact ⟨32, 2, rfl, rfl, by decide⟩

set_option maxRecDepth 100000 in
set_option maxHeartbeats 8000000 in
theorem fills5_walk (C a b : Nat) (w : World) (hC : C ≤ 255) (ha : a ≤ 255) (hb : b ≤ 255) : Calls Try.prog 14 #[.int .u8 C, .int .u8 a, .int .u8 b] w fun e w' => e = .returned (.bool true) ∧ Below w.heap.size w w' := by
  obtain ⟨c, hc⟩ : ∃ c : Nat, (C : Int) % 5 = c := ⟨C % 5, by omega⟩
  obtain ⟨W, m, hW, hm, hW1, hW2, hm1, hm2, hdiv, _⟩ := room_of c (by omega)
  obtain ⟨x, hx⟩ : ∃ x : Nat, (a : Int) % (m : Int) = x := ⟨a % m, by omega⟩
  obtain ⟨y, hy⟩ : ∃ y : Nat, (b : Int) % (m : Int) = y := ⟨b % m, by omega⟩
  have hxm : x < m := by
    have := Int.emod_lt_of_pos (a : Int) (show (0 : Int) < m by omega)
    omega
  have hym : y < m := by
    have := Int.emod_lt_of_pos (b : Int) (show (0 : Int) < m by omega)
    omega
  have HX := Lib.hid hx
  have HY := Lib.hid hy
  have HD := Lib.hid hdiv
  have HNEW : Hid (∀ w, Calls Try.prog 41 #[.int .i64 c] w fun e w' => ∃ q p g, e = .returned (.tuple #[.pointer (some ⟨q, 0, none⟩), .int .i64 0]) ∧ IsPage w' q p g W (fillB m 0) ∧
    w.heap.size ≤ q ∧ w.heap.size ≤ p ∧ w.heap.size ≤ g ∧ Below w.heap.size w w') := Lib.hid (fun w => by
      rw [fillB_zero]
      have := block_new_yes c w (by omega)
      unfold NewPage at this
      rw [hW, hm] at this
      exact this)
  clear hx hy hdiv hW hm
  go_enter Try.func14, Try.ntmps14
  go_wp2_with fail
  refine (HNEW.out _).mono ?_
  rintro e w1 ⟨q, p, g, rfl, hA, hq, hp, hg, hbl⟩
  clear HNEW hc
  have c0 : w1.cell? ⟨q, 0, none⟩ = some (.pointer (some ⟨p, 0, none⟩)) := hA.1.cell 0
  have H := Lib.hid hA
  have HB := Lib.hid hbl
  have HG := Lib.hid hg
  clear hA hbl hq hp hg
  go_wp2_with fail
  refine (err0 _).mono ?_
  rintro e w' ⟨rfl, rfl⟩
  go_wp2_with fail
  refine (words_any q p g W _ _ H.out).mono ?_
  rintro e w' ⟨rfl, rfl⟩
  go_wp2_with fail
  refine (words_any q p g W _ _ H.out).mono ?_
  rintro e w' ⟨rfl, rfl⟩
  go_upto_block 0 with fail
  simp only [HD.out]
  clear c0
  go_cut [10] (fun v wx => Hid (IsPage wx q p g W (fillB m m)) ∧ Hid (Upd [] w wx))
  case first =>
    go_wp2_with fail
    go_loopg [10] m (fun gk i wr => ∃ j : Nat, gk = m - j ∧ j ≤ m ∧ i = .int .i64 j ∧ Hid (IsPage wr q p g W (fillB m j)) ∧ Hid (Upd [] w wr))
    case atStart => exact ⟨0, rfl, by omega, rfl, H, Lib.hid (Upd.of_below HB.out)⟩
    case round =>
      obtain ⟨j, rfl, hj, rfl, HP, HU⟩ := hrel
      by_cases hlt : j < m
      · go_wp2_with fail
        refine (take_yes q p g W (fillB m j) j _ HP.out (by rw [fillB_length hj]; omega) (fillB_next hlt)).mono ?_
        rintro e w2 ⟨rfl, h2, u2⟩
        rw [fillB_set hlt] at h2
        have HP2 := Lib.hid h2
        have HU2 := Lib.hid (HU.out.step u2 (by have := HG.out; simp; omega))
        clear h2 u2
        go_wp2_with fail
        refine (err0 _).mono ?_
        rintro e w' ⟨rfl, rfl⟩
        go_wp2_with fail
        go_roundg (m - (j + 1))
        case measure => omega
        case rel => exact ⟨j + 1, rfl, by omega, by go_num, HP2, HU2⟩
      · obtain rfl : j = m := by omega
        go_wp2_with fail
        go_meet
        exact ⟨HP, HU⟩
  case rest =>
    obtain ⟨HP, HU⟩ := hcut
    have HLF : Hid ((fillB m m).length = m) := Lib.hid (fillB_length (Nat.le_refl _))
    go_wp2_with fail
    refine (take_no q p g W _ _ HP.out (by rw [HLF.out]; omega) (fillB_none m)).mono ?_
    rintro e w' ⟨rfl, rfl⟩
    go_wp2_with fail
    refine (full_any q p g W _ _ HP.out (by rw [HLF.out]; omega)).mono ?_
    rintro e w' ⟨rfl, n1, rfl⟩
    rw [fillB_count, HLF.out]
    go_upto_region 13 with fail
    have hP3 : IsPage (wc.drewN n1) q p g W (fillB m m) := HP.out
    have hU3 : Upd [] w (wc.drewN n1) := HU.out.drewN n1
    obtain ⟨w3, hw3⟩ : ∃ w3, wc.drewN n1 = w3 := ⟨_, rfl⟩
    rw [hw3] at hP3 hU3 ⊢
    have HP3 := Lib.hid hP3
    have HU3 := Lib.hid hU3
    clear hP3 hU3 hw3 HP HU
    go_quiet (fail)
    go_wp2_with fail
    simp only [HX.out, HY.out]
    have hP3 : IsPage (w3.drewN nq) q p g W (fillB m m) := HP3.out
    have hU3 : Upd [] w (w3.drewN nq) := HU3.out.drewN nq
    obtain ⟨w4, hw4⟩ : ∃ w4, w3.drewN nq = w4 := ⟨_, rfl⟩
    rw [hw4] at hP3 hU3 ⊢
    have HP4 := Lib.hid hP3
    have HU4 := Lib.hid hU3
    clear hP3 hU3 hw4 HP3 HU3
    refine (give_yes q p g W _ x _ HP4.out (hasB_fill hxm) (by rw [HLF.out]; exact hxm)).mono ?_
    rintro e w5 ⟨rfl, hp5, hu5⟩
    have HP5 := Lib.hid hp5
    have HU5 := Lib.hid (HU4.out.step hu5 (by have := HG.out; simp; omega))
    clear hp5 hu5
    have HNX := Lib.hid (two_next hxm hym)
    by_cases hxy : x = y
    · subst hxy
      rw [same_set, Nat.min_self] at HNX
      go_wp2_with fail
      refine (give_no q p g W _ x _ HP5.out (by rw [hasB_nat, getD_set, if_pos ⟨rfl, by rw [HLF.out]; exact hxm⟩])).mono ?_
      rintro e w' ⟨rfl, rfl⟩
      have HP6 := HP5
      have HU6 := HU5
      have HL6 : Hid (((fillB m m).set x false).length ≤ 16384) := Lib.hid (by rw [List.length_set, HLF.out]; omega)
      go_wp2_with fail
      refine (take_yes q p g W _ x _ HP6.out HL6.out HNX.out).mono ?_
      rintro e w7 ⟨rfl, _, hu7⟩
      have HU7 := Lib.hid (HU6.out.step hu7 (by have := HG.out; simp; omega))
      clear hu7 HL6 HP6 HU6 HNX HP5 HU5 HP4 HU4
      skip
      go_wp2_with fail
      refine (take_nil _).mono ?_
      rintro e w' ⟨rfl, rfl⟩
      go_wp2_with fail
      refine (err3 _).mono ?_
      rintro e w' ⟨rfl, rfl⟩
      go_wp2_with fail
      refine (err0 _).mono ?_
      rintro e w' ⟨rfl, rfl⟩
      go_wp2_with fail
      refine (err0 _).mono ?_
      rintro e w' ⟨rfl, rfl⟩
      go_wp2_with fail
      refine (err2 _).mono ?_
      rintro e w' ⟨rfl, rfl⟩
      go_wp2_with fail
      refine (give_nil 0 _).mono ?_
      rintro e w' ⟨rfl, rfl⟩
      go_wp2_with fail
      refine (err2 _).mono ?_
      rintro e w' ⟨rfl, rfl⟩
      go_wp2_with fail
      refine (empty_nil _).mono ?_
      rintro e w' ⟨rfl, rfl⟩
      go_wp2_with fail
      refine (full_nil _).mono ?_
      rintro e w8 ⟨rfl, n8, rfl⟩
      go_wp2_with fail
      refine (words_nil _).mono ?_
      rintro e w' ⟨rfl, rfl⟩
      go_wp2_with fail
      refine (awake5_calls _).mono ?_
      rintro e w9 ⟨rfl, hb⟩
      have HF := Lib.hid ((HU7.out.drewN n8).step (Upd.of_below hb : Upd [] _ _) (by simp))
      clear hb
      go_wp2_with fail
      go_ret
      exact ⟨rfl, HF.out.below⟩
    · go_wp2_with fail
      refine (give_yes q p g W _ y _ HP5.out (by rw [hasB_nat, getD_set, if_neg (fun h => hxy h.1), fillB_get]; simp [hym]) (by rw [List.length_set, HLF.out]; exact hym)).mono ?_
      rintro e w6 ⟨rfl, hp6, hu6⟩
      have HP6 := Lib.hid hp6
      have HU6 := Lib.hid (HU5.out.step hu6 (by have := HG.out; simp; omega))
      clear hp6 hu6
      have HL6 : Hid ((((fillB m m).set x false).set y false).length ≤ 16384) := Lib.hid (by rw [List.length_set, List.length_set, HLF.out]; omega)
      rcases Nat.lt_or_gt_of_ne hxy with h | h
      · have hlt : ¬ y < x := by omega
        rw [Nat.min_eq_left (by omega)] at HNX
        clear hxy h
        go_wp2_with fail
        refine (take_yes q p g W _ x _ HP6.out HL6.out HNX.out).mono ?_
        rintro e w7 ⟨rfl, _, hu7⟩
        have HU7 := Lib.hid (HU6.out.step hu7 (by have := HG.out; simp; omega))
        clear hu7 HL6 HP6 HU6 HNX HP5 HU5 HP4 HU4
        skip
        go_wp2_with fail
        refine (take_nil _).mono ?_
        rintro e w' ⟨rfl, rfl⟩
        go_wp2_with fail
        refine (err3 _).mono ?_
        rintro e w' ⟨rfl, rfl⟩
        go_wp2_with fail
        refine (err0 _).mono ?_
        rintro e w' ⟨rfl, rfl⟩
        go_wp2_with fail
        refine (err0 _).mono ?_
        rintro e w' ⟨rfl, rfl⟩
        go_wp2_with fail
        refine (err2 _).mono ?_
        rintro e w' ⟨rfl, rfl⟩
        go_wp2_with fail
        refine (give_nil 0 _).mono ?_
        rintro e w' ⟨rfl, rfl⟩
        go_wp2_with fail
        refine (err2 _).mono ?_
        rintro e w' ⟨rfl, rfl⟩
        go_wp2_with fail
        refine (empty_nil _).mono ?_
        rintro e w' ⟨rfl, rfl⟩
        go_wp2_with fail
        refine (full_nil _).mono ?_
        rintro e w8 ⟨rfl, n8, rfl⟩
        go_wp2_with fail
        refine (words_nil _).mono ?_
        rintro e w' ⟨rfl, rfl⟩
        go_wp2_with fail
        refine (awake5_calls _).mono ?_
        rintro e w9 ⟨rfl, hb⟩
        have HF := Lib.hid ((HU7.out.drewN n8).step (Upd.of_below hb : Upd [] _ _) (by simp))
        clear hb
        go_wp2_with fail
        go_ret
        exact ⟨rfl, HF.out.below⟩
      · rw [Nat.min_eq_right (by omega)] at HNX
        clear hxy
        go_wp2_with fail
        refine (take_yes q p g W _ y _ HP6.out HL6.out HNX.out).mono ?_
        rintro e w7 ⟨rfl, _, hu7⟩
        have HU7 := Lib.hid (HU6.out.step hu7 (by have := HG.out; simp; omega))
        clear hu7 HL6 HP6 HU6 HNX HP5 HU5 HP4 HU4
        skip
        go_wp2_with fail
        refine (take_nil _).mono ?_
        rintro e w' ⟨rfl, rfl⟩
        go_wp2_with fail
        refine (err3 _).mono ?_
        rintro e w' ⟨rfl, rfl⟩
        go_wp2_with fail
        refine (err0 _).mono ?_
        rintro e w' ⟨rfl, rfl⟩
        go_wp2_with fail
        refine (err0 _).mono ?_
        rintro e w' ⟨rfl, rfl⟩
        go_wp2_with fail
        refine (err2 _).mono ?_
        rintro e w' ⟨rfl, rfl⟩
        go_wp2_with fail
        refine (give_nil 0 _).mono ?_
        rintro e w' ⟨rfl, rfl⟩
        go_wp2_with fail
        refine (err2 _).mono ?_
        rintro e w' ⟨rfl, rfl⟩
        go_wp2_with fail
        refine (empty_nil _).mono ?_
        rintro e w' ⟨rfl, rfl⟩
        go_wp2_with fail
        refine (full_nil _).mono ?_
        rintro e w8 ⟨rfl, n8, rfl⟩
        go_wp2_with fail
        refine (words_nil _).mono ?_
        rintro e w' ⟨rfl, rfl⟩
        go_wp2_with fail
        refine (awake5_calls _).mono ?_
        rintro e w9 ⟨rfl, hb⟩
        have HF := Lib.hid ((HU7.out.drewN n8).step (Upd.of_below hb : Upd [] _ _) (by simp))
        clear hb
        go_wp2_with fail
        go_ret
        exact ⟨rfl, HF.out.below⟩
end Go.Proofs.Ytnphkgiiondjkaa
