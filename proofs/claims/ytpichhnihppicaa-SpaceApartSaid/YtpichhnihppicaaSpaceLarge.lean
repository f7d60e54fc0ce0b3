/- The walk of SpaceLarge: at every input the law returns true, and nothing that was there has turned. -/
import Derived.Test.YtpichhnihppicaaSpaceZeros
namespace Go.Proofs.Ytpichhnihppicaa
open Go Go.RowKit

/-- A larger block, at the first pages side by side that are free. -/
theorem alloc_large_at {S : Sp} {n : Int} {p k : Nat} (hk : 1 ≤ k) (hk2 : k ≤ 16) (hlo : 32 < n) (hn : (k : Int) * 64 - 64 < n) (hn2 : n ≤ (k : Int) * 64) (hpk : p + k ≤ S.pg.length) (hf : ∀ j, p ≤ j → j < p + k → atP S.pg j = .free) (hno : ∀ b, b < p → ∃ j, b ≤ j ∧ j < b + k ∧ atP S.pg j ≠ .free) :
    S.alloc n = (⟨filledAt S.W (p * 64) (k * 64), putLarge S.pg p k⟩, (p : Int) * 64, 0) := by
  have hc : classZ n = -1 := by
    unfold classZ
    rw [if_neg (by omega), if_neg (by omega), if_neg (by omega), if_neg (by omega), if_neg (by omega), if_neg (by omega)]
  have hp : pagesZ n = k := by
    unfold pagesZ
    rw [if_neg (by omega)]; omega
  have hb : blockZ n ≠ 0 := by
    unfold blockZ
    rw [if_neg (by omega), hp]; omega
  exact alloc_pages (by omega) hb hp (run_first hk hpk hf hno)

set_option maxRecDepth 100000 in
set_option maxHeartbeats 3200000 in
theorem large6_walk (a b c : Nat) (w : World) (ha : a ≤ 255) (hb : b ≤ 255) (hc : c ≤ 255) : Calls Try.prog 5 #[.int .u8 a, .int .u8 b, .int .u8 c] w fun e w' => e = .returned (.bool true) ∧ Below w.heap.size w w' := by
  obtain ⟨x, hx⟩ : ∃ x : Nat, (a : Int) % 16 = x := ⟨a % 16, by omega⟩
  obtain ⟨y, hy⟩ : ∃ y : Nat, (b : Int) % 16 = y := ⟨b % 16, by omega⟩
  obtain ⟨z, hz⟩ : ∃ z : Nat, (c : Int) % 16 = z := ⟨c % 16, by omega⟩
  have hx2 : x < 16 := by omega
  have hy2 : y < 16 := by omega
  have hz2 : z < 16 := by omega
  have f0 : (newSp 80).WF := newSp_wf (by omega) (by omega)
  have p0 : ∀ j, atP (newSp 80).pg j = if j = 0 then .zero else .free := fun j => new_at 80 j (by omega)
  have l0 : (newSp 80).pg.length = 80 := by simp [newSp]
  -- the first one
  have g1 : ∀ n : Int, n = 64 * (1 + (x : Int)) - 30 → (newSp 80).alloc n = _ := fun n hn => alloc_large_at (n := n) (p := 1) (k := 1 + x) (by omega) (by omega) (by omega) (by omega) (by omega) (by rw [l0]; omega) (fun j h1 h2 => by rw [p0, if_neg (by omega)]) (fun b hb => ⟨0, by omega, by omega, by rw [p0, if_pos rfl]; simp⟩)
  have f1 := (made_large f0 (p := 1) (k := 1 + x) (by omega) (by rw [l0]; omega) (fun j h1 h2 => by rw [p0, if_neg (by omega)])).wf
  have p1 : ∀ j, atP (putLarge (newSp 80).pg 1 (1 + x)) j = if j = 1 then .first (1 + x) else if 1 < j ∧ j < 1 + (1 + x) then .rest 1 else atP (newSp 80).pg j := fun j => atP_large (by rw [l0]; omega) (by omega)
  have l1 : (putLarge (newSp 80).pg 1 (1 + x)).length = 80 := by rw [putLarge_length, l0]
  generalize hS1 : (Sp.mk (filledAt (newSp 80).W (1 * 64) ((1 + x) * 64)) (putLarge (newSp 80).pg 1 (1 + x))) = S1 at *
  have e1 : putLarge (newSp 80).pg 1 (1 + x) = S1.pg := by rw [← hS1]
  rw [e1] at p1 l1
  clear hS1 e1
  have t1 : ∀ j, j < 2 + x → atP S1.pg j ≠ .free := fun j hj => by
    rw [p1]
    split
    · simp
    · split
      · simp
      · rw [p0, if_pos (by omega)]; simp
  have u1 : ∀ j, 2 + x ≤ j → atP S1.pg j = .free := fun j hj => by rw [p1, if_neg (by omega), if_neg (by omega), p0, if_neg (by omega)]
  -- the second one
  have g2 : ∀ n : Int, n = 64 * (1 + (y : Int)) - 20 → S1.alloc n = _ := fun n hn => alloc_large_at (n := n) (p := 2 + x) (k := 1 + y) (by omega) (by omega) (by omega) (by omega) (by omega) (by rw [l1]; omega) (fun j h1 h2 => u1 j h1) (fun b hb => ⟨b, by omega, by omega, t1 b hb⟩)
  have f2 := (made_large f1 (p := 2 + x) (k := 1 + y) (by omega) (by rw [l1]; omega) (fun j h1 h2 => u1 j h1)).wf
  have p2 : ∀ j, atP (putLarge S1.pg (2 + x) (1 + y)) j = if j = 2 + x then .first (1 + y) else if 2 + x < j ∧ j < 2 + x + (1 + y) then .rest (2 + x) else atP S1.pg j := fun j => atP_large (by rw [l1]; omega) (by omega)
  have l2 : (putLarge S1.pg (2 + x) (1 + y)).length = 80 := by rw [putLarge_length, l1]
  generalize hS2 : (Sp.mk (filledAt S1.W ((2 + x) * 64) ((1 + y) * 64)) (putLarge S1.pg (2 + x) (1 + y))) = S2 at *
  have e2 : putLarge S1.pg (2 + x) (1 + y) = S2.pg := by rw [← hS2]
  rw [e2] at p2 l2
  clear hS2 e2
  have t2 : ∀ j, j < 3 + x + y → atP S2.pg j ≠ .free := fun j hj => by
    rw [p2]
    split
    · simp
    · split
      · simp
      · exact t1 j (by omega)
  have u2 : ∀ j, 3 + x + y ≤ j → atP S2.pg j = .free := fun j hj => by rw [p2, if_neg (by omega), if_neg (by omega), u1 j (by omega)]
  -- the third one
  have g3 : ∀ n : Int, n = 64 * (1 + (z : Int)) → S2.alloc n = _ := fun n hn => alloc_large_at (n := n) (p := 3 + x + y) (k := 1 + z) (by omega) (by omega) (by omega) (by omega) (by omega) (by rw [l2]; omega) (fun j h1 h2 => u2 j h1) (fun b hb => ⟨b, by omega, by omega, t2 b hb⟩)
  have f3 := (made_large f2 (p := 3 + x + y) (k := 1 + z) (by omega) (by rw [l2]; omega) (fun j h1 h2 => u2 j h1)).wf
  have p3 : ∀ j, atP (putLarge S2.pg (3 + x + y) (1 + z)) j = if j = 3 + x + y then .first (1 + z) else if 3 + x + y < j ∧ j < 3 + x + y + (1 + z) then .rest (3 + x + y) else atP S2.pg j := fun j => atP_large (by rw [l2]; omega) (by omega)
  have l3 : (putLarge S2.pg (3 + x + y) (1 + z)).length = 80 := by rw [putLarge_length, l2]
  generalize hS3 : (Sp.mk (filledAt S2.W ((3 + x + y) * 64) ((1 + z) * 64)) (putLarge S2.pg (3 + x + y) (1 + z))) = S3 at *
  have e3 : putLarge S2.pg (3 + x + y) (1 + z) = S3.pg := by rw [← hS3]
  rw [e3] at p3 l3
  clear hS3 e3
  -- the first one is given up
  have at1 : atP S3.pg 1 = .first (1 + x) := by rw [p3, if_neg (by omega), if_neg (by omega), p2, if_neg (by omega), if_neg (by omega), p1, if_pos rfl]
  have hlen3 := f3.len
  have hfd : S3.find 64 = (64, ((1 + x : Nat) : Int) * 64, true) := by rw [find_in (by omega) (by omega), show ((64 : Int) / 64).toNat = 1 from by decide, at1]; rfl
  have hdr : S3.drop 64 = (⟨S3.W, clearPg S3.pg 1 (1 + x)⟩, 0) := by
    unfold Sp.drop
    rw [hfd, if_neg (by simp), show ((64 : Int) / 64).toNat = 1 from by decide, at1]
  have f4 := f3.clear at1
  have p4 : ∀ j, atP (clearPg S3.pg 1 (1 + x)) j = if 1 ≤ j ∧ j < 1 + (1 + x) then .free else atP S3.pg j := fun j => atP_clear (by rw [l3]; omega)
  have l4 : (clearPg S3.pg 1 (1 + x)).length = 80 := by rw [clearPg_length, l3]
  generalize hS4 : (Sp.mk S3.W (clearPg S3.pg 1 (1 + x))) = S4 at *
  have e4 : clearPg S3.pg 1 (1 + x) = S4.pg := by rw [← hS4]
  rw [e4] at p4 l4
  clear hS4 e4
  have t4 : ∀ j, 2 + x ≤ j → j < 4 + x + y + z → atP S4.pg j ≠ .free := fun j h1 h2 => by
    rw [p4, if_neg (by omega), p3]
    split
    · simp
    · split
      · simp
      · exact t2 j (by omega)
  have z4 : atP S4.pg 0 ≠ .free := by rw [p4, if_neg (by omega), p3, if_neg (by omega), if_neg (by omega)]; exact t2 0 (by omega)
  have u4 : ∀ j, 4 + x + y + z ≤ j → atP S4.pg j = .free := fun j hj => by rw [p4, if_neg (by omega), p3, if_neg (by omega), if_neg (by omega), u2 j (by omega)]
  have v4 : ∀ j, 1 ≤ j → j < 2 + x → atP S4.pg j = .free := fun j h1 h2 => by rw [p4, if_pos (by omega)]
  have HX := Lib.hid hx
  have HY := Lib.hid hy
  have HZ := Lib.hid hz
  have G1 := Lib.hid g1
  have G2 : Hid (∀ n : Int, n = 64 * (1 + (y : Int)) - 20 → S1.alloc n = (S2, 64 * (1 + (1 + (x : Int))), 0)) := Lib.hid fun n hn => by
    rw [g2 n hn, show ((2 + x : Nat) : Int) * 64 = 64 * (1 + (1 + (x : Int))) from by omega]
  have G3 : Hid (∀ n : Int, n = 64 * (1 + (z : Int)) → S2.alloc n = (S3, 64 * (1 + (1 + (x : Int)) + (1 + (y : Int))), 0)) := Lib.hid fun n hn => by
    rw [g3 n hn, show ((3 + x + y : Nat) : Int) * 64 = 64 * (1 + (1 + (x : Int)) + (1 + (y : Int))) from by omega]
  have G4 := Lib.hid hdr
  obtain ⟨v, hv, G5⟩ : ∃ v : Int, v = (if z ≤ x then 64 else 64 * (1 + (1 + (x : Int)) + (1 + (y : Int)) + (1 + (z : Int)))) ∧ ∃ S5, Hid (∀ n : Int, n = 64 * (1 + (z : Int)) → S4.alloc n = (S5, v, 0)) := by
    refine ⟨_, rfl, ?_⟩
    by_cases hzx : z ≤ x
    · rw [if_pos hzx]
      exact ⟨_, Lib.hid fun n hn => alloc_large_at (n := n) (p := 1) (k := 1 + z) (by omega) (by omega) (by omega) (by omega) (by omega) (by rw [l4]; omega) (fun j h1 h2 => v4 j h1 (by omega)) (fun b hb => ⟨0, by omega, by omega, z4⟩)⟩
    · rw [if_neg hzx]
      refine ⟨⟨filledAt S4.W ((4 + x + y + z) * 64) ((1 + z) * 64), putLarge S4.pg (4 + x + y + z) (1 + z)⟩, Lib.hid fun n hn => ?_⟩
      have := alloc_large_at (n := n) (p := 4 + x + y + z) (k := 1 + z) (by omega) (by omega) (by omega) (by omega) (by omega) (by rw [l4]; omega) (fun j h1 h2 => u4 j h1) (fun b hb => by
        by_cases h0 : b = 0
        · exact ⟨0, by omega, by omega, z4⟩
        · by_cases h1 : b < 2 + x
          · exact ⟨2 + x, by omega, by omega, t4 _ (by omega) (by omega)⟩
          · exact ⟨b, by omega, by omega, t4 b (by omega) (by omega)⟩)
      rw [this]
      congr 2
      omega
  obtain ⟨S5, G5⟩ := G5
  clear f0 p0 l0 g1 f1 p1 l1 t1 u1 g2 f2 p2 l2 t2 u2 g3 f3 p3 l3 at1 hlen3 hfd hdr f4 p4 l4 t4 z4 u4 v4 hx hy hz
  have hend : Hid (v = 64 ∧ z ≤ x ∨ v = 64 * (1 + (1 + (x : Int)) + (1 + (y : Int)) + (1 + (z : Int))) ∧ x < z) := Lib.hid (by rw [hv]; split <;> omega)
  clear hv
  go_enter Try.func5, Try.ntmps5
  go_wp2_with fail
  refine (mine_new 80 w _ (by omega) (by omega) (Upd.refl [] w)).mono ?_
  rintro e w1 ⟨s, rfl, hm⟩
  obtain ⟨L, hm⟩ := hm
  have HM0 := Lib.hid (Exists.intro L hm : Mine w w1 s (newSp 80))
  have c0 := hm.c0
  have c1 := hm.c1
  clear hm
  go_wp2_with fail
  refine (err0 _).mono ?_
  rintro e w' ⟨rfl, rfl⟩
  go_wp2_with fail
  simp only [HX.out, HY.out, HZ.out]
  refine (mine_alloc w s (newSp 80) S1 _ _ 0 _ HM0.out (G1.out _ (by omega))).mono ?_
  rintro e w2 ⟨rfl, hm⟩
  have HM1 := Lib.hid hm
  clear hm c0 c1
  go_wp2_with fail
  refine (mine_alloc w s S1 S2 _ _ 0 _ HM1.out (G2.out _ (by omega))).mono ?_
  rintro e w3 ⟨rfl, hm⟩
  have HM2 := Lib.hid hm
  clear hm
  go_wp2_with fail
  refine (err0 _).mono ?_
  rintro e w' ⟨rfl, rfl⟩
  go_wp2_with fail
  refine (err0 _).mono ?_
  rintro e w' ⟨rfl, rfl⟩
  go_wp2_with fail
  refine (mine_alloc w s S2 S3 _ _ 0 _ HM2.out (G3.out _ (by omega))).mono ?_
  rintro e w4 ⟨rfl, hm⟩
  have HM3 := Lib.hid hm
  clear hm
  go_wp2_with fail
  refine (mine_free w s S3 S4 _ 0 _ HM3.out (by exact G4.out)).mono ?_
  rintro e w5 ⟨rfl, hm⟩
  have HM4 := Lib.hid hm
  clear hm
  go_wp2_with fail
  refine (mine_alloc w s S4 S5 _ _ 0 _ HM4.out (G5.out _ (by omega))).mono ?_
  rintro e w6 ⟨rfl, hm⟩
  have HM5 := Lib.hid hm
  clear hm
  have hfin : ∀ W, Mine w W s S5 → Upd [] w W := fun W h => h.world
  have HFIN := Lib.hid hfin
  clear hfin
  rcases hend.out with ⟨hv, hzx⟩ | ⟨hv, hzx⟩
  · have hle : (1 : Int) + z ≤ 1 + x := by omega
    subst hv
    clear hend G5 hzx
    go_wp2_with fail
    refine (err0 _).mono ?_
    rintro e w' ⟨rfl, rfl⟩
    go_wp2_with fail
    refine (err0 _).mono ?_
    rintro e w' ⟨rfl, rfl⟩
    go_wp2_with fail
    refine (err0 _).mono ?_
    rintro e w' ⟨rfl, rfl⟩
    go_wp2_with fail
    refine (awake6_calls _).mono ?_
    rintro e w8 ⟨rfl, hb⟩
    have HM7 : Hid (Upd [] w w8) := Lib.hid ((HFIN.out _ HM5.out).step (Upd.of_below hb : Upd [] _ _) (by simp))
    clear hb
    go_wp2_with fail
    go_ret
    exact ⟨rfl, HM7.out.below⟩
  · have hle : (1 : Int) + x < 1 + z := by omega
    subst hv
    clear hend G5 hzx
    go_wp2_with fail
    refine (err0 _).mono ?_
    rintro e w' ⟨rfl, rfl⟩
    go_wp2_with fail
    refine (err0 _).mono ?_
    rintro e w' ⟨rfl, rfl⟩
    go_wp2_with fail
    refine (err0 _).mono ?_
    rintro e w' ⟨rfl, rfl⟩
    go_wp2_with fail
    refine (awake6_calls _).mono ?_
    rintro e w8 ⟨rfl, hb⟩
    have HM7 : Hid (Upd [] w w8) := Lib.hid ((HFIN.out _ HM5.out).step (Upd.of_below hb : Upd [] _ _) (by simp))
    clear hb
    go_wp2_with fail
    go_ret
    exact ⟨rfl, HM7.out.below⟩
end Go.Proofs.Ytpichhnihppicaa
