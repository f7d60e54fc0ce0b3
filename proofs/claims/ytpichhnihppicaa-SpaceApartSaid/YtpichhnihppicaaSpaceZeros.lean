/- The walk of SpaceZeros: at every input the law returns true, and nothing that was there has turned. -/
import Derived.Test.YtpichhnihppicaaMine
import Derived.Test.YtpichhnihppicaaSpFind2
import Derived.Test.YtpichhnihppicaaSizes1
namespace Go.Proofs.Ytpichhnihppicaa
open Go Go.RowKit

theorem getD_setI (l : List Int) (i j : Nat) (x : Int) : (l.set i x).getD j 0 = if i = j ∧ j < l.length then x else l.getD j 0 := by
  rw [List.getD_eq_getElem?_getD, List.getD_eq_getElem?_getD, List.getElem?_set]
  by_cases h : i = j
  · subst h
    by_cases h2 : i < l.length
    · rw [if_pos rfl, if_pos h2, if_pos ⟨rfl, h2⟩]; rfl
    · rw [if_pos rfl, if_neg h2, if_neg (fun e => h2 e.2), List.getElem?_eq_none (by omega)]
  · rw [if_neg h, if_neg (fun e => h e.1)]
theorem block_nat {n : Int} (h1 : 1 ≤ n) (h2 : n ≤ 1024) : ∃ M : Nat, blockZ n = M ∧ blockZ n ≠ 0 ∧ 2 ≤ M ∧ M ≤ 1024 := by
  have hb : blockZ n ≠ 0 := by
    unfold blockZ pagesZ
    have := class_range n
    by_cases hc : 0 ≤ classZ n
    · rw [if_pos hc]
      obtain ⟨c, hcc, hc5, _⟩ := class_small (show ¬ classZ n < 0 by omega)
      rw [hcc, Int.toNat_natCast, sizes_at hc5]
      have := words_pos hc5
      omega
    · rw [if_neg hc, if_neg (by omega)]; omega
  have := block_bd hb
  exact ⟨(blockZ n).toNat, by omega, hb, by omega, by omega⟩
theorem need_le {n : Int} (hb : blockZ n ≠ 0) {k : Int} (hk : 1 ≤ k) (h : n ≤ k * 64) : needZ n ≤ k := by
  unfold needZ
  split
  · rename_i hc
    obtain ⟨p, hp, _, _, _, h1, h2⟩ := pages_nat hb hc
    have : pagesZ n = (n + 64 - 1) / 64 := by
      unfold pagesZ
      rw [if_neg (by omega)]
    omega
  · exact hk
/-- The same pages over other words: the same is found. -/
theorem words_find {S : Sp} {W : List Int} (hl : W.length = S.W.length) (z : Int) : (Sp.mk W S.pg).find z = S.find z := find_same hl rfl fun _ _ => rfl

set_option maxRecDepth 100000 in
set_option maxHeartbeats 3200000 in
theorem zeros6_walk (n m : Nat) (x : Int) (w : World) (hn : n ≤ 65535) (hm : m ≤ 65535) : Calls Try.prog 10 #[.int .u16 n, .int .u16 m, .int .i64 x] w fun e w' => e = .returned (.bool true) ∧ Below w.heap.size w w' := by
  obtain ⟨p, hp⟩ : ∃ p : Nat, (n : Int) % 200 = p := ⟨n % 200, by omega⟩
  obtain ⟨q, hq⟩ : ∃ q : Nat, (m : Int) % 200 = q := ⟨m % 200, by omega⟩
  have hp2 : p < 200 := by omega
  have hq2 : q < 200 := by omega
  obtain ⟨M, hM, hMb, hM2, hM3⟩ := block_nat (n := 1 + (p : Int)) (by omega) (by omega)
  obtain ⟨K, hK, hKb, hK2, hK3⟩ := block_nat (n := 1 + (q : Int)) (by omega) (by omega)
  obtain ⟨S1, hal, hmd⟩ := alloc_fresh (newSp_wf (by omega) (by omega)) (np := 24) rfl (1 + (p : Int)) hMb (by have := need_le hMb (k := 4) (by omega) (by omega); omega)
  rw [hM] at hmd
  have hB1 := fun w => block1_walk (1 + (p : Int)) w
  rw [hM] at hB1
  have hB2 := fun w => block1_walk (1 + (q : Int)) w
  rw [hK] at hB2
  have HP := Lib.hid hp
  have HQ := Lib.hid hq
  have HAL := Lib.hid hal
  have HMD := Lib.hid hmd
  have HB1 := Lib.hid hB1
  have HB2 := Lib.hid hB2
  have HMB := Lib.hid hMb
  have HKB := Lib.hid (And.intro hK hKb)
  have hL1 : S1.W.length = 1536 := by have h1 := hmd.wf.len; have h2 := hmd.pg; rw [h1, h2]; simp [newSp]
  have HL1 := Lib.hid hL1
  have hMW : 64 + M ≤ 1536 := by have := hmd.hi; simp [newSp] at this; omega
  clear hp hq hal hmd hB1 hB2 hMb hK hKb hL1 hM
  go_enter Try.func10, Try.ntmps10
  go_wp2_with fail
  refine (mine_new 24 w _ (by omega) (by omega) (Upd.refl [] w)).mono ?_
  rintro e w1 ⟨s, rfl, hm⟩
  obtain ⟨L, hm⟩ := hm
  have HM0 := Lib.hid (Exists.intro L hm : Mine w w1 s (newSp 24))
  have c0 := hm.c0
  have c1 := hm.c1
  clear hm
  go_wp2_with fail
  refine (err0 _).mono ?_
  rintro e w' ⟨rfl, rfl⟩
  go_wp2_with fail
  simp only [HP.out, HQ.out]
  refine (mine_alloc w s (newSp 24) S1 _ 64 0 _ HM0.out HAL.out).mono ?_
  rintro e w2 ⟨rfl, hm⟩
  have HM1 := Lib.hid hm
  clear hm c0 c1
  go_wp2_with fail
  refine (HB1.out _).mono ?_
  rintro e w3 ⟨rfl, hb⟩
  have HM2 : Hid (Mine w w3 s S1) := Lib.hid (HM1.out.upd (Upd.of_below hb))
  clear hb
  go_wp2_with fail
  go_loopg [14] M (fun gk i wr => ∃ (j : Nat) (W : List Int), gk = M - j ∧ j ≤ M ∧ i = .int .i64 j ∧ Hid (Mine w wr s ⟨W, S1.pg⟩) ∧ Hid (W.length = 1536 ∧ ∀ i, i < j → W.getD (64 + i) 0 = x))
  case atStart => exact ⟨0, S1.W, rfl, by omega, rfl, HM2, Lib.hid ⟨HL1.out, fun i h => by omega⟩⟩
  case round =>
    obtain ⟨j, W, rfl, hj, rfl, HM, HW⟩ := hrel
    by_cases hlt : j < M
    · obtain ⟨L2, hm2⟩ := HM.out
      have c0 := hm2.c0
      have HL2 := Lib.hid hm2
      clear hm2
      go_wp2_with fail
      refine (mine_storeI w s L2 ⟨W, S1.pg⟩ _ (64 + j) x _ HL2.out (by omega) (by show 64 + j < W.length; have := HW.out.1; omega)).mono ?_
      rintro e w4 ⟨rfl, hm⟩
      have HM4 := Lib.hid hm
      clear hm
      go_wp2_with fail
      go_roundg (M - (j + 1))
      case measure => omega
      case rel =>
        refine ⟨j + 1, W.set (64 + j) x, rfl, by omega, by go_num, HM4, Lib.hid ⟨by rw [List.length_set]; exact HW.out.1, fun i hi => ?_⟩⟩
        rw [getD_setI]
        by_cases e : i = j
        · subst e; rw [if_pos ⟨rfl, by have := HW.out.1; omega⟩]
        · rw [if_neg (by omega)]; exact HW.out.2 i (by omega)
    · obtain rfl : j = M := by omega
      -- the block is given up: all is as new
      have hwl : W.length = S1.W.length := by rw [HW.out.1, HL1.out]
      have hf2 : ∀ z, (Sp.mk W S1.pg).find z = if 64 ≤ z ∧ z < 64 + (j : Int) then (64, (j : Int), true) else (0, 0, false) := fun z => by
        rw [words_find hwl, HMD.out.find]
        split
        · rfl
        · exact eta_find (S := newSp 24) (by omega) rfl z
      obtain ⟨S3, hdr, hgo⟩ := drop_some HM.out.wf (a := 64) (m := j) (by rw [hf2, if_pos (by omega)])
      have hne1 : S1.NE := HMD.out.ne (newSp_ne 24 (by omega))
      have hpg3 : S3.pg = (newSp 24).pg := by
        have hl3 : S3.pg.length = 24 := by rw [hgo.pg]; show S1.pg.length = 24; rw [HMD.out.pg]; simp [newSp]
        rw [← hl3]
        refine all_free hgo.wf (hgo.ne fun p c l h => hne1 p c l h) fun z => ?_
        rw [hgo.find, hf2]
        split <;> rfl
      obtain ⟨S4, hal4, hmd4⟩ := alloc_fresh hgo.wf hpg3 (1 + (q : Int)) HKB.out.2 (by have := need_le HKB.out.2 (k := 4) (by omega) (by omega); omega)
      rw [HKB.out.1] at hmd4
      have hW3 : S3.W = W := hgo.W
      have HDR := Lib.hid hdr
      have HAL4 := Lib.hid hal4
      have HX : Hid (S3.W.getD 64 0 = x ∧ 64 < S3.W.length) := Lib.hid (by rw [hW3]; exact ⟨HW.out.2 0 (by omega), by rw [HW.out.1]; omega⟩)
      have HZ : Hid (∀ i, i < K → S4.W.getD (64 + i) 0 = 0 ∧ 64 + i < S4.W.length) := Lib.hid (fun i hi => by
        have h1 := hmd4.hi
        have h2 := hmd4.W
        rw [hW3, HW.out.1] at h1
        rw [h2, hW3]
        refine ⟨?_, ?_⟩
        · rw [filledAt_get _ _ _ _ (by rw [HW.out.1]; omega), if_pos (by omega)]
        · rw [filledAt_length _ _ _ (by rw [HW.out.1]; omega), HW.out.1]; omega)
      clear hwl hf2 hdr hgo hne1 hpg3 hal4 hmd4 hW3
      go_wp2_with fail
      refine (mine_free w s ⟨W, S1.pg⟩ S3 64 0 _ HM.out HDR.out).mono ?_
      rintro e w4 ⟨rfl, hm⟩
      obtain ⟨L4, hm4⟩ := hm
      have d0 := hm4.c0
      have HM4 := Lib.hid hm4
      clear hm4
      go_wp2_with fail
      refine (mine_loadI w s L4 S3 _ 64 x _ HM4.out rfl HX.out.2 HX.out.1).mono ?_
      rintro e w' ⟨rfl, rfl⟩
      go_wp2_with fail
      refine (mine_alloc w s S3 S4 _ 64 0 _ ⟨L4, HM4.out⟩ HAL4.out).mono ?_
      rintro e w5 ⟨rfl, hm⟩
      have HM5 := Lib.hid hm
      clear hm d0
      go_wp2_with fail
      refine (err0 _).mono ?_
      rintro e w' ⟨rfl, rfl⟩
      go_wp2_with fail
      refine (err0 _).mono ?_
      rintro e w' ⟨rfl, rfl⟩
      go_wp2_with fail
      refine (err0 _).mono ?_
      rintro e w' ⟨rfl, rfl⟩
      go_wp2_with fail
      go_loopg [20] K (fun gk i wr => ∃ k : Nat, gk = K - k ∧ k ≤ K ∧ i = .int .i64 k ∧ Hid (Mine w wr s S4))
      case atStart => exact ⟨0, rfl, by omega, rfl, HM5⟩
      case round =>
        obtain ⟨k, rfl, hk, rfl, HMk⟩ := hrel
        by_cases hkl : k < K
        · go_wp2_with fail
          refine (HB2.out _).mono ?_
          rintro e w6 ⟨rfl, hb⟩
          obtain ⟨L6, hm6⟩ := HMk.out.upd (Upd.of_below hb : Upd [] _ _)
          have f0 := hm6.c0
          have HM6 := Lib.hid hm6
          clear hm6 hb
          go_wp2_with fail
          refine (mine_loadI w s L6 S4 _ (64 + k) 0 _ HM6.out (by omega) (HZ.out k hkl).2 (HZ.out k hkl).1).mono ?_
          rintro e w' ⟨rfl, rfl⟩
          go_wp2_with fail
          refine (err0 _).mono ?_
          rintro e w' ⟨rfl, rfl⟩
          go_wp2_with fail
          go_roundg (K - (k + 1))
          case measure => omega
          case rel => exact ⟨k + 1, rfl, by omega, by go_num, Lib.hid ⟨L6, HM6.out⟩⟩
        · obtain rfl : k = K := by omega
          go_wp2_with fail
          refine (HB2.out _).mono ?_
          rintro e w6 ⟨rfl, hb⟩
          have HM6 : Hid (Mine w w6 s S4) := Lib.hid (HMk.out.upd (Upd.of_below hb : Upd [] _ _))
          clear hb
          go_wp2_with fail
          refine (mine_awake w _ s S4 HM6.out).mono ?_
          rintro e w8 ⟨rfl, hm⟩
          have HM7 := Lib.hid hm
          clear hm
          go_wp2_with fail
          go_ret
          exact ⟨rfl, HM7.out.world.below⟩
end Go.Proofs.Ytpichhnihppicaa
