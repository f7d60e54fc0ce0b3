/- The contracts of package size: Sizes, Class, Pages, Block; layer 4's example. -/
import Derived.Test.YtnhgmmjlhhgdoaaChecked
import Derived.Test.YtnhgmmjlhhgdoaaBase
import Derived.Deep.LoopGhost
import Derived.Deep.CutBlock
import Derived.Deep.DeepCutAuto
import Derived.Deep.RegionHeld3
namespace Go.Proofs.Ytnhgmmjlhhgdoaa
open Go Go.RowKit

def sizesL : List Int := [2, 4, 8, 16, 32]
def classZ (n : Int) : Int := if n < 1 then -1 else if n ≤ 2 then 0 else if n ≤ 4 then 1 else if n ≤ 8 then 2 else if n ≤ 16 then 3 else if n ≤ 32 then 4 else -1
def pagesZ (n : Int) : Int := if n < 1 ∨ 1024 < n ∨ 0 ≤ classZ n then 0 else (n + 64 - 1) / 64
def blockZ (n : Int) : Int := if 0 ≤ classZ n then sizesL.getD (classZ n).toNat 0 else pagesZ n * 64

theorem sizes_calls (w : World) : Calls Try.prog 30 #[] w fun e w' => ∃ h, e = .returned (.slice (some ⟨h, 0, none⟩) 5 5) ∧ Blk w' h 3 (ints sizesL) ∧ w.heap.size ≤ h ∧ Below w.heap.size w w' := by
  go_enter Try.func30, Try.ntmps30
  go_wp2_with fail
  go_ret
  exact ⟨w.heap.size, rfl, Blk.new _ _ _, by omega, (Below.refl _ _).alloc (Nat.le_refl _) _⟩

theorem class_hit {n : Int} {j : Nat} (h1 : 1 ≤ n) (hj : j < 5) (h : ∀ m, m < j → sizesL.getD m 0 < n) (hn : n ≤ sizesL.getD j 0) : classZ n = j := by
  have hc : j = 0 ∨ j = 1 ∨ j = 2 ∨ j = 3 ∨ j = 4 := by omega
  unfold classZ
  rcases hc with rfl | rfl | rfl | rfl | rfl
  · have h2 : n ≤ 2 := hn
    rw [if_neg (by omega), if_pos h2]; rfl
  · have h2 : n ≤ 4 := hn
    have h3 : (2 : Int) < n := h 0 (by omega)
    rw [if_neg (by omega), if_neg (by omega), if_pos h2]; rfl
  · have h2 : n ≤ 8 := hn
    have h3 : (4 : Int) < n := h 1 (by omega)
    rw [if_neg (by omega), if_neg (by omega), if_neg (by omega), if_pos h2]; rfl
  · have h2 : n ≤ 16 := hn
    have h3 : (8 : Int) < n := h 2 (by omega)
    rw [if_neg (by omega), if_neg (by omega), if_neg (by omega), if_neg (by omega), if_pos h2]; rfl
  · have h2 : n ≤ 32 := hn
    have h3 : (16 : Int) < n := h 3 (by omega)
    rw [if_neg (by omega), if_neg (by omega), if_neg (by omega), if_neg (by omega), if_neg (by omega), if_pos h2]; rfl
theorem class_miss {n : Int} (h : ∀ m, m < 5 → sizesL.getD m 0 < n) : classZ n = -1 := by
  have h3 : (32 : Int) < n := h 4 (by omega)
  unfold classZ
  rw [if_neg (by omega), if_neg (by omega), if_neg (by omega), if_neg (by omega), if_neg (by omega), if_neg (by omega)]
theorem class_range (n : Int) : -1 ≤ classZ n ∧ classZ n ≤ 4 := by
  unfold classZ
  repeat' split
  all_goals omega

theorem class_calls (n : Int) (w : World) : Calls Try.prog 12 #[.int .i64 n] w fun e w' => e = .returned (.int .i64 (classZ n)) ∧ Below w.heap.size w w' := by
  by_cases hn : n < 1
  · have h1 : classZ n = -1 := if_pos hn
    rw [h1]
    go_enter Try.func12, Try.ntmps12
    go_wp2_with fail
    go_ret
    exact ⟨rfl, Below.refl _ _⟩
  · have HC : Hid (∀ j : Nat, j < 5 → (∀ m, m < j → sizesL.getD m 0 < n) → n ≤ sizesL.getD j 0 → classZ n = j) := Lib.hid (fun j hj h h2 => class_hit (by omega) hj h h2)
    have HM : Hid ((∀ m, m < 5 → sizesL.getD m 0 < n) → classZ n = -1) := Lib.hid class_miss
    go_enter Try.func12, Try.ntmps12
    go_wp2_with fail
    refine (sizes_calls _).mono ?_
    rintro e w1 ⟨h, rfl, hB, hh, hb⟩
    have HB := Lib.hid hB
    have HU := Lib.hid hb
    clear hB hb hh
    go_wp2_with fail
    go_loopg [9] 5 (fun gk i wr => ∃ j : Nat, gk = 5 - j ∧ j ≤ 5 ∧ i = .int .i64 j ∧ w1 = wr ∧ Hid (∀ m, m < j → sizesL.getD m 0 < n))
    case atStart => exact ⟨0, rfl, by omega, rfl, rfl, Lib.hid (fun m h => by omega)⟩
    case round =>
      obtain ⟨j, rfl, hj, rfl, rfl, HP⟩ := hrel
      by_cases hlt : j < 5
      · have c1 := HB.out.int j hlt
        obtain ⟨v, hv⟩ : ∃ v, sizesL.getD j 0 = v := ⟨_, rfl⟩
        rw [hv] at c1
        have HV := Lib.hid hv
        clear hv
        by_cases hnv : n ≤ v
        · have hc := HC.out j hlt HP.out (by rw [HV.out]; exact hnv)
          have HCJ := Lib.hid hc
          clear hc
          go_wp2_with fail
          go_ret
          exact ⟨by rw [HCJ.out]; rfl, HU.out⟩
        · go_wp2_with fail
          go_roundg (5 - (j + 1))
          case measure => omega
          case rel =>
            refine ⟨j + 1, rfl, by omega, by go_num, rfl, Lib.hid (fun m hm => ?_)⟩
            rcases Nat.eq_or_lt_of_le (show m ≤ j by omega) with rfl | h3
            · rw [HV.out]; omega
            · exact HP.out m h3
      · obtain rfl : j = 5 := by omega
        have hc := HM.out HP.out
        have HCJ := Lib.hid hc
        clear hc
        go_wp2_with fail
        go_ret
        exact ⟨by rw [HCJ.out]; rfl, HU.out⟩

theorem pages_calls (n : Int) (w : World) : Calls Try.prog 13 #[.int .i64 n] w fun e w' => e = .returned (.int .i64 (pagesZ n)) ∧ Below w.heap.size w w' := by
  by_cases h1 : n < 1
  · have hp : pagesZ n = 0 := if_pos (.inl h1)
    rw [hp]
    go_enter Try.func13, Try.ntmps13
    go_wp2_with fail
    go_ret
    exact ⟨rfl, Below.refl _ _⟩
  · by_cases h2 : 1024 < n
    · have hp : pagesZ n = 0 := if_pos (.inr (.inl h2))
      rw [hp]
      go_enter Try.func13, Try.ntmps13
      go_wp2_with fail
      go_ret
      exact ⟨rfl, Below.refl _ _⟩
    · have hcc := class_calls n
      have hcr := class_range n
      obtain ⟨c, hc⟩ : ∃ c, classZ n = c := ⟨_, rfl⟩
      have hpz : pagesZ n = if n < 1 ∨ 1024 < n ∨ 0 ≤ c then 0 else (n + 64 - 1) / 64 := by unfold pagesZ; rw [hc]
      rw [hc] at hcr
      have HCC : Hid (∀ w, Calls Try.prog 12 #[.int .i64 n] w fun e w' => e = .returned (.int .i64 c) ∧ Below w.heap.size w w') := Lib.hid (fun w => by have := hcc w; rw [hc] at this; exact this)
      clear hcc hc
      by_cases h3 : 0 ≤ c
      · rw [if_pos (.inr (.inr h3))] at hpz
        rw [hpz]
        clear hpz
        go_enter Try.func13, Try.ntmps13
        go_wp2_with fail
        refine (HCC.out _).mono ?_
        rintro e w1 ⟨rfl, hb⟩
        have HB := Lib.hid hb
        clear hb
        go_wp2_with fail
        go_ret
        exact ⟨rfl, HB.out⟩
      · rw [if_neg (by omega)] at hpz
        rw [hpz]
        clear hpz
        go_enter Try.func13, Try.ntmps13
        go_wp2_with fail
        refine (HCC.out _).mono ?_
        rintro e w1 ⟨rfl, hb⟩
        have HB := Lib.hid hb
        clear hb
        go_wp2_with fail
        go_ret
        exact ⟨rfl, HB.out⟩

theorem block_calls (n : Int) (w : World) : Calls Try.prog 11 #[.int .i64 n] w fun e w' => e = .returned (.int .i64 (blockZ n)) ∧ Below w.heap.size w w' := by
  have hcr := class_range n
  obtain ⟨c, hc⟩ : ∃ c, classZ n = c := ⟨_, rfl⟩
  obtain ⟨k, hk⟩ : ∃ k, pagesZ n = k := ⟨_, rfl⟩
  have hkr : 0 ≤ k ∧ k ≤ 17 := by rw [← hk]; unfold pagesZ; split <;> omega
  have hbz : blockZ n = if 0 ≤ c then sizesL.getD c.toNat 0 else k * 64 := by unfold blockZ; rw [hc, hk]
  have hcc := fun w => class_calls n w
  have hpp := fun w => pages_calls n w
  rw [hc] at hcr hcc
  rw [hk] at hpp
  have HCC := Lib.hid hcc
  have HPP := Lib.hid hpp
  clear hc hk hcc hpp
  by_cases h0 : 0 ≤ c
  · rw [if_pos h0] at hbz
    rw [hbz]
    obtain ⟨j, rfl⟩ := Int.eq_ofNat_of_zero_le h0
    have hj : j < 5 := by omega
    clear hbz h0 hkr
    go_enter Try.func11, Try.ntmps11
    go_wp2_with fail
    refine (HCC.out _).mono ?_
    rintro e w1 ⟨rfl, hb⟩
    have HU1 : Hid (Upd [] w w1) := Lib.hid (Upd.of_below hb)
    clear hb
    go_wp2_with fail
    refine (sizes_calls _).mono ?_
    rintro e w2 ⟨h, rfl, hB, hh, hb⟩
    have HU2 := Lib.hid (HU1.out.step (Upd.of_below hb : Upd [] _ _) (by simp))
    have c1 := hB.int j hj
    clear hb hB hh
    go_wp2_with fail
    go_ret
    exact ⟨rfl, HU2.out.below⟩
  · rw [if_neg h0] at hbz
    rw [hbz]
    clear hbz
    obtain ⟨hk1, hk2⟩ := hkr
    go_enter Try.func11, Try.ntmps11
    go_wp2_with fail
    refine (HCC.out _).mono ?_
    rintro e w1 ⟨rfl, hb⟩
    have HU1 : Hid (Upd [] w w1) := Lib.hid (Upd.of_below hb)
    clear hb
    go_wp2_with fail
    refine (HPP.out _).mono ?_
    rintro e w2 ⟨rfl, hb⟩
    have HU2 := Lib.hid (HU1.out.step (Upd.of_below hb : Upd [] _ _) (by simp))
    clear hb
    go_wp2_with fail
    go_ret
    exact ⟨rfl, HU2.out.below⟩

set_option maxHeartbeats 800000 in
theorem awake4_calls (w : World) : Calls Try.prog 14 #[] w fun e w' => e = .returned (.bool true) ∧ Below w.heap.size w w' := by
  have e1 : blockZ 5 = 8 := by decide
  have e2 : classZ 5 = 2 := by decide
  have e3 : pagesZ 65 = 2 := by decide
  have h1 := fun w => block_calls 5 w
  have h2 := fun w => class_calls 5 w
  have h3 := fun w => pages_calls 65 w
  rw [e1] at h1
  rw [e2] at h2
  rw [e3] at h3
  have H1 := Lib.hid h1
  have H2 := Lib.hid h2
  have H3 := Lib.hid h3
  clear h1 h2 h3 e1 e2 e3
  go_enter Try.func14, Try.ntmps14
  go_wp2_with fail
  refine (H1.out _).mono ?_
  rintro e w1 ⟨rfl, hb⟩
  have HU1 : Hid (Upd [] w w1) := Lib.hid (Upd.of_below hb)
  clear hb
  go_wp2_with fail
  refine (H2.out _).mono ?_
  rintro e w2 ⟨rfl, hb⟩
  have HU2 := Lib.hid (HU1.out.step (Upd.of_below hb : Upd [] _ _) (by simp))
  clear hb
  go_wp2_with fail
  refine (sizes_calls _).mono ?_
  rintro e w3 ⟨h, rfl, _, _, hb⟩
  have HU3 := Lib.hid (HU2.out.step (Upd.of_below hb : Upd [] _ _) (by simp))
  clear hb
  go_wp2_with fail
  refine (H3.out _).mono ?_
  rintro e w4 ⟨rfl, hb⟩
  have HU4 := Lib.hid (HU3.out.step (Upd.of_below hb : Upd [] _ _) (by simp))
  clear hb
  go_wp2_with fail
  go_ret
  exact ⟨rfl, HU4.out.below⟩
end Go.Proofs.Ytnhgmmjlhhgdoaa
