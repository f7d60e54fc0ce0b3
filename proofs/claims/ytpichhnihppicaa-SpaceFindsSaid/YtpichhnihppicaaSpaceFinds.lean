/- The walk of SpaceFinds: at every input the law returns true, and nothing that was there has turned. -/
import Derived.Test.YtpichhnihppicaaSpaceZeros
namespace Go.Proofs.Ytpichhnihppicaa
open Go Go.RowKit

set_option maxRecDepth 100000 in
set_option maxHeartbeats 6400000 in
theorem finds6_walk (n m : Nat) (w : World) (hn : n ≤ 65535) (hm : m ≤ 65535) : Calls Try.prog 4 #[.int .u16 n, .int .u16 m] w fun e w' => e = .returned (.bool true) ∧ Below w.heap.size w w' := by
  obtain ⟨p, hp⟩ : ∃ p : Nat, (n : Int) % 300 = p := ⟨n % 300, by omega⟩
  obtain ⟨q, hq⟩ : ∃ q : Nat, (m : Int) % 300 = q := ⟨m % 300, by omega⟩
  have hp2 : p < 300 := by omega
  have hq2 : q < 300 := by omega
  obtain ⟨M, hM, hMb, hM2, hM3⟩ := block_nat (n := 1 + (p : Int)) (by omega) (by omega)
  obtain ⟨K, hK, hKb, hK2, hK3⟩ := block_nat (n := 1 + (q : Int)) (by omega) (by omega)
  have hnM := need_le hMb (k := 5) (by omega) (by omega)
  have hnK := need_le hKb (k := 5) (by omega) (by omega)
  have hbdM := block_bd hMb
  have hbdK := block_bd hKb
  obtain ⟨S1, hal, hmd⟩ := alloc_fresh (newSp_wf (by omega) (by omega)) (np := 30) rfl (1 + (p : Int)) hMb (by omega)
  have hf1 : ∀ z, S1.find z = if 64 ≤ z ∧ z < 64 + (M : Int) then (64, (M : Int), true) else (0, 0, false) := fun z => by
    rw [hmd.find, hM]
    split
    · rfl
    · exact eta_find (S := newSp 30) (by omega) rfl z
  have hl1 : S1.pg.length = 30 := by rw [hmd.pg]; simp [newSp]
  obtain ⟨S2, b, hal2, hmd2⟩ := alloc_room hmd.wf (1 + (q : Int)) hKb (t := 6) (fun j hj => page_free hmd.wf (hmd.ne (newSp_ne 30 (by omega))) (by omega) fun z h1 h2 => by rw [hf1, if_neg (by omega)]) (by rw [hl1]; omega)
  rw [hK] at hmd2 hbdK
  rw [hM] at hbdM
  have hf2 : ∀ z, S2.find z = if b ≤ z ∧ z < b + (K : Int) then (b, (K : Int), true) else S1.find z := hmd2.find
  have hdis : ∀ z, b ≤ z → z < b + (K : Int) → ¬ (64 ≤ z ∧ z < 64 + (M : Int)) := fun z h1 h2 h3 => by
    have := hmd2.was z h1 h2
    rw [hf1, if_pos h3] at this
    cases this
  have hb1 := hmd2.lo
  have hb2 : b + K ≤ 1920 := by have h1 := hmd2.hi; have h2 := hmd.wf.len; omega
  have hfa : S2.find 64 = (64, (M : Int), true) := by rw [hf2, if_neg (fun e => hdis 64 e.1 e.2 (by omega)), hf1, if_pos (by omega)]
  have hfb : S2.find b = (b, (K : Int), true) := by rw [hf2, if_pos (by omega)]
  have hpM : 1 + (p : Int) ≤ M := hbdM.1
  have hqK : 1 + (q : Int) ≤ K := hbdK.1
  have hpM' : 1 + (n : Int) % 300 ≤ M := by rw [hp]; exact hpM
  have hqK' : 1 + (m : Int) % 300 ≤ K := by rw [hq]; exact hqK
  have HP := Lib.hid hp
  have HQ := Lib.hid hq
  have HAL := Lib.hid hal
  have HAL2 := Lib.hid hal2
  have HF1 := Lib.hid hf1
  have HF2 := Lib.hid hf2
  have HDIS := Lib.hid hdis
  have HFA := Lib.hid hfa
  have HFB := Lib.hid hfb
  clear hp hq hM hMb hK hKb hnM hnK hbdM hbdK hal hal2 hf1 hl1 hmd hmd2 hf2 hdis hfa hfb
  go_enter Try.func4, Try.ntmps4
  go_wp2_with fail
  refine (mine_new 30 w _ (by omega) (by omega) (Upd.refl [] w)).mono ?_
  rintro e w1 ⟨s, rfl, hm⟩
  obtain ⟨L, hm⟩ := hm
  have HM0 := Lib.hid (Exists.intro L hm : Mine w w1 s (newSp 30))
  have c0 := hm.c0
  have c1 := hm.c1
  clear hm
  go_wp2_with fail
  refine (err0 _).mono ?_
  rintro e w' ⟨rfl, rfl⟩
  go_wp2_with fail
  simp only [HP.out]
  refine (mine_alloc w s (newSp 30) S1 _ 64 0 _ HM0.out HAL.out).mono ?_
  rintro e w2 ⟨rfl, hm⟩
  have HM1 := Lib.hid hm
  clear hm c0 c1
  go_wp2_with fail
  simp only [HQ.out]
  refine (mine_alloc w s S1 S2 _ b 0 _ HM1.out HAL2.out).mono ?_
  rintro e w3 ⟨rfl, hm⟩
  have HM2 := Lib.hid hm
  clear hm
  go_wp2_with fail
  refine (err0 _).mono ?_
  rintro e w' ⟨rfl, rfl⟩
  go_wp2_with fail
  refine (err0 _).mono ?_
  rintro e w' ⟨rfl, rfl⟩
  go_wp2_with fail
  refine (mine_find w s S2 64 _ _ _ _ HM2.out HFA.out).mono ?_
  rintro e w4 ⟨rfl, hm⟩
  have HM3 := Lib.hid hm
  clear hm
  go_wp2_with fail
  refine (mine_find w s S2 b _ _ _ _ HM3.out HFB.out).mono ?_
  rintro e w5 ⟨rfl, hm⟩
  have HM4 := Lib.hid hm
  clear hm
  go_wp2_with fail
  go_loopg [17] 1922 (fun gk i wr => ∃ z : Int, gk = (1921 - z).toNat ∧ -1 ≤ z ∧ z ≤ 1921 ∧ i = .int .i64 z ∧ Hid (Mine w wr s S2))
  case atStart => exact ⟨-1, rfl, by omega, by omega, rfl, HM4⟩
  case round =>
    obtain ⟨z, rfl, hz1, hz2, rfl, HMk⟩ := hrel
    by_cases hlt : z ≤ 1920
    · by_cases hA : 64 ≤ z ∧ z < 64 + (M : Int)
      · have HFZ : Hid (S2.find z = (64, (M : Int), true)) := Lib.hid (by rw [HF2.out, if_neg (fun e => HDIS.out z e.1 e.2 hA), HF1.out, if_pos hA])
        have hnb : z < b ∨ (b ≤ z ∧ b + (K : Int) ≤ z) := by have := HDIS.out z; omega
        obtain ⟨h1, h2⟩ := hA
        rcases hnb with h3 | ⟨h3, h4⟩
        · go_wp2_with fail
          refine (mine_find w s S2 z _ _ _ _ HMk.out HFZ.out).mono ?_
          rintro e w6 ⟨rfl, hm⟩
          have HM6 := Lib.hid hm
          clear hm
          go_wp2_with fail
          go_roundg ((1921 - (z + 1)).toNat)
          case measure => omega
          case rel => exact ⟨z + 1, rfl, by omega, by omega, rfl, HM6⟩
        · go_wp2_with fail
          refine (mine_find w s S2 z _ _ _ _ HMk.out HFZ.out).mono ?_
          rintro e w6 ⟨rfl, hm⟩
          have HM6 := Lib.hid hm
          clear hm
          go_wp2_with fail
          go_roundg ((1921 - (z + 1)).toNat)
          case measure => omega
          case rel => exact ⟨z + 1, rfl, by omega, by omega, rfl, HM6⟩
      · by_cases hB : b ≤ z ∧ z < b + (K : Int)
        · have HFZ : Hid (S2.find z = (b, (K : Int), true)) := Lib.hid (by rw [HF2.out, if_pos hB])
          have h3 : 64 ≤ z := by omega
          have h4 : 64 + (M : Int) ≤ z := by omega
          obtain ⟨h1, h2⟩ := hB
          clear hA
          go_wp2_with fail
          refine (mine_find w s S2 z _ _ _ _ HMk.out HFZ.out).mono ?_
          rintro e w6 ⟨rfl, hm⟩
          have HM6 := Lib.hid hm
          clear hm
          go_wp2_with fail
          go_roundg ((1921 - (z + 1)).toNat)
          case measure => omega
          case rel => exact ⟨z + 1, rfl, by omega, by omega, rfl, HM6⟩
        · have HFZ : Hid (S2.find z = (0, 0, false)) := Lib.hid (by rw [HF2.out, if_neg hB, HF1.out, if_neg hA])
          have hcs : (z < 64 ∧ z < b) ∨ (64 ≤ z ∧ 64 + (M : Int) ≤ z ∧ z < b) ∨ (64 ≤ z ∧ 64 + (M : Int) ≤ z ∧ b ≤ z ∧ b + (K : Int) ≤ z) := by omega
          clear hA hB
          rcases hcs with ⟨h3, h4⟩ | ⟨h3, h4, h5⟩ | ⟨h3, h4, h5, h6⟩
          · go_wp2_with fail
            refine (mine_find w s S2 z _ _ _ _ HMk.out HFZ.out).mono ?_
            rintro e w6 ⟨rfl, hm⟩
            have HM6 := Lib.hid hm
            clear hm
            go_wp2_with fail
            go_roundg ((1921 - (z + 1)).toNat)
            case measure => omega
            case rel => exact ⟨z + 1, rfl, by omega, by omega, rfl, HM6⟩
          · go_wp2_with fail
            refine (mine_find w s S2 z _ _ _ _ HMk.out HFZ.out).mono ?_
            rintro e w6 ⟨rfl, hm⟩
            have HM6 := Lib.hid hm
            clear hm
            go_wp2_with fail
            go_roundg ((1921 - (z + 1)).toNat)
            case measure => omega
            case rel => exact ⟨z + 1, rfl, by omega, by omega, rfl, HM6⟩
          · go_wp2_with fail
            refine (mine_find w s S2 z _ _ _ _ HMk.out HFZ.out).mono ?_
            rintro e w6 ⟨rfl, hm⟩
            have HM6 := Lib.hid hm
            clear hm
            go_wp2_with fail
            go_roundg ((1921 - (z + 1)).toNat)
            case measure => omega
            case rel => exact ⟨z + 1, rfl, by omega, by omega, rfl, HM6⟩
    · obtain rfl : z = 1921 := by omega
      go_wp2_with fail
      refine (mine_awake w _ s S2 HMk.out).mono ?_
      rintro e w8 ⟨rfl, hm⟩
      have HM7 := Lib.hid hm
      clear hm
      go_wp2_with fail
      go_ret
      exact ⟨rfl, HM7.out.world.below⟩
end Go.Proofs.Ytpichhnihppicaa
