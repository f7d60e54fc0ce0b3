/- The document's sizes of blocks are the program's. -/
import Derived.Test.YtnhgmmjlhhgdoaaSize
import Derived.Deep.LoopGhost
namespace Go.Proofs.Ytnhgmmjlhhgdoaa
open Go Go.RowKit

theorem sizes1_walk (w : World) : Calls Try.prog 73 #[] w fun e w' => ∃ h, e = .returned (.slice (some ⟨h, 0, none⟩) 5 5) ∧ Blk w' h 3 (ints sizesL) ∧ w.heap.size ≤ h ∧ Below w.heap.size w w' := by
  go_enter Try.func73, Try.ntmps73
  go_wp2_with fail
  go_ret
  exact ⟨w.heap.size, rfl, Blk.new _ _ _, by omega, (Below.refl _ _).alloc (Nat.le_refl _) _⟩

theorem class1_walk (n : Int) (w : World) : Calls Try.prog 72 #[.int .i64 n] w fun e w' => e = .returned (.int .i64 (classZ n)) ∧ Below w.heap.size w w' := by
  by_cases hn : n < 1
  · have h1 : classZ n = -1 := if_pos hn
    rw [h1]
    clear h1
    go_enter Try.func72, Try.ntmps72
    go_wp2_with fail
    refine (sizes1_walk _).mono ?_
    rintro e w1 ⟨h, rfl, hB, hh, hb⟩
    have HU := Lib.hid hb
    clear hB hb hh
    go_wp2_with fail
    go_loopg [4] 1 (fun gk i wr => gk = 1 ∧ i = .int .i64 0 ∧ w1 = wr)
    case atStart => exact ⟨rfl, rfl, rfl⟩
    case round =>
      obtain ⟨rfl, rfl, rfl⟩ := hrel
      go_wp2_with fail
      go_ret
      exact ⟨rfl, HU.out⟩
  · have HC : Hid (∀ j : Nat, j < 5 → (∀ m, m < j → sizesL.getD m 0 < n) → n ≤ sizesL.getD j 0 → classZ n = j) := Lib.hid (fun j hj h h2 => class_hit (by omega) hj h h2)
    have HM : Hid ((∀ m, m < 5 → sizesL.getD m 0 < n) → classZ n = -1) := Lib.hid class_miss
    go_enter Try.func72, Try.ntmps72
    go_wp2_with fail
    refine (sizes1_walk _).mono ?_
    rintro e w1 ⟨h, rfl, hB, hh, hb⟩
    have HB := Lib.hid hB
    have HU := Lib.hid hb
    clear hB hb hh
    go_wp2_with fail
    go_loopg [4] 5 (fun gk i wr => ∃ j : Nat, gk = 5 - j ∧ j ≤ 5 ∧ i = .int .i64 j ∧ w1 = wr ∧ Hid (∀ m, m < j → sizesL.getD m 0 < n))
    case atStart => exact ⟨0, rfl, by omega, rfl, rfl, Lib.hid (fun m h => by omega)⟩
    case round =>
      obtain ⟨j, rfl, hj, rfl, rfl, HP⟩ := hrel
      by_cases hlt : j < 5
      · have c1 := HB.out.int j hlt
        obtain ⟨v, hv⟩ : ∃ v, sizesL.getD j 0 = v := ⟨_, rfl⟩
        rw [hv] at c1
        have HV := Lib.hid hv
        clear hv
        by_cases hnv : n ≤ v
        · have hc := HC.out j hlt HP.out (by rw [HV.out]; exact hnv)
          have HCJ := Lib.hid hc
          clear hc
          go_wp2_with fail
          go_ret
          exact ⟨by rw [HCJ.out]; rfl, HU.out⟩
        · go_wp2_with fail
          go_roundg (5 - (j + 1))
          case measure => omega
          case rel =>
            refine ⟨j + 1, rfl, by omega, by go_num, rfl, Lib.hid (fun m hm => ?_)⟩
            rcases Nat.eq_or_lt_of_le (show m ≤ j by omega) with rfl | h3
            · rw [HV.out]; omega
            · exact HP.out m h3
      · obtain rfl : j = 5 := by omega
        have hc := HM.out HP.out
        have HCJ := Lib.hid hc
        clear hc
        go_wp2_with fail
        go_ret
        exact ⟨by rw [HCJ.out]; rfl, HU.out⟩

theorem block1_walk (n : Int) (w : World) : Calls Try.prog 63 #[.int .i64 n] w fun e w' => e = .returned (.int .i64 (blockZ n)) ∧ Below w.heap.size w w' := by
  have hcr := class_range n
  obtain ⟨c, hc⟩ : ∃ c, classZ n = c := ⟨_, rfl⟩
  have hbz : blockZ n = if 0 ≤ c then sizesL.getD c.toNat 0 else if n < 1 ∨ 1024 < n then 0 else (n + 64 - 1) / 64 * 64 := by
    unfold blockZ pagesZ
    rw [hc]
    by_cases h0 : 0 ≤ c
    · rw [if_pos h0, if_pos h0]
    · rw [if_neg h0, if_neg h0]
      by_cases h1 : n < 1 ∨ 1024 < n
      · rw [if_pos h1, if_pos (by omega)]; rfl
      · rw [if_neg h1, if_neg (by omega)]
  have hcc := fun w => class1_walk n w
  rw [hc] at hcr hcc
  have HCC := Lib.hid hcc
  clear hc hcc
  by_cases h0 : 0 ≤ c
  · rw [if_pos h0] at hbz
    rw [hbz]
    obtain ⟨j, rfl⟩ := Int.eq_ofNat_of_zero_le h0
    have hj : j < 5 := by omega
    clear hbz h0
    go_enter Try.func63, Try.ntmps63
    go_wp2_with fail
    refine (HCC.out _).mono ?_
    rintro e w1 ⟨rfl, hb⟩
    have HU1 : Hid (Upd [] w w1) := Lib.hid (Upd.of_below hb)
    clear hb
    go_wp2_with fail
    refine (sizes1_walk _).mono ?_
    rintro e w2 ⟨h, rfl, hB, hh, hb⟩
    have HU2 := Lib.hid (HU1.out.step (Upd.of_below hb : Upd [] _ _) (by simp))
    have c1 := hB.int j hj
    clear hb hB hh
    go_wp2_with fail
    go_ret
    exact ⟨rfl, HU2.out.below⟩
  · rw [if_neg h0] at hbz
    rw [hbz]
    clear hbz
    rcases (show n < 1 ∨ (1 ≤ n ∧ 1024 < n) ∨ (1 ≤ n ∧ n ≤ 1024) by omega) with h1 | ⟨h1, h2⟩ | ⟨h1, h2⟩
    · rw [if_pos (.inl h1)]
      go_enter Try.func63, Try.ntmps63
      go_wp2_with fail
      refine (HCC.out _).mono ?_
      rintro e w1 ⟨rfl, hb⟩
      have HU1 : Hid (Upd [] w w1) := Lib.hid (Upd.of_below hb)
      clear hb
      go_wp2_with fail
      go_ret
      exact ⟨rfl, HU1.out.below⟩
    · rw [if_pos (.inr h2)]
      go_enter Try.func63, Try.ntmps63
      go_wp2_with fail
      refine (HCC.out _).mono ?_
      rintro e w1 ⟨rfl, hb⟩
      have HU1 : Hid (Upd [] w w1) := Lib.hid (Upd.of_below hb)
      clear hb
      go_wp2_with fail
      go_ret
      exact ⟨rfl, HU1.out.below⟩
    · rw [if_neg (by omega)]
      go_enter Try.func63, Try.ntmps63
      go_wp2_with fail
      refine (HCC.out _).mono ?_
      rintro e w1 ⟨rfl, hb⟩
      have HU1 : Hid (Upd [] w w1) := Lib.hid (Upd.of_below hb)
      clear hb
      go_wp2_with fail
      go_ret
      exact ⟨rfl, HU1.out.below⟩
end Go.Proofs.Ytnhgmmjlhhgdoaa
