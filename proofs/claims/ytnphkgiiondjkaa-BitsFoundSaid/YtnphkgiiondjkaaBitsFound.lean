/- The walk of BitsFound: at every input the law returns true, and nothing that was there has turned. -/
import Derived.Test.YtnphkgiiondjkaaBits3
import Derived.Test.YtnphkgiiondjkaaOwn
import Derived.Test.YtnphkgiiondjkaaRef1
import Derived.Deep.LoopGhost
import Derived.Deep.CutBlock
import Derived.Deep.DeepCutAuto
namespace Go.Proofs.Ytnphkgiiondjkaa
open Go Go.RowKit

/-- The first place from s on that is so, or 256. -/
def Least (L : List Bool) (s x : Nat) : Prop := (x = 256 ∧ ∀ j, s ≤ j → j < 256 → L.getD j false = false) ∨ (x < 256 ∧ s ≤ x ∧ L.getD x false = true ∧ ∀ j, s ≤ j → j < x → L.getD j false = false)
theorem least_end (L : List Bool) : Least L 256 256 := .inl ⟨rfl, fun j h1 h2 => by omega⟩
theorem least_hit {L : List Bool} {s : Nat} (hs : s < 256) (h : L.getD s false = true) : Least L s s := .inr ⟨hs, Nat.le_refl _, h, fun j h1 h2 => by omega⟩
theorem least_miss {L : List Bool} {s x : Nat} (hl : Least L (s + 1) x) (h : L.getD s false = false) : Least L s x := by
  have key : ∀ j, s ≤ j → j = s ∨ s + 1 ≤ j := fun j h1 => by omega
  rcases hl with ⟨h1, h2⟩ | ⟨h1, h2, h3, h4⟩
  · refine .inl ⟨h1, fun j hj hl => ?_⟩
    rcases key j hj with rfl | hk
    · exact h
    · exact h2 j hk hl
  · refine .inr ⟨h1, by omega, h3, fun j hj hl => ?_⟩
    rcases key j hj with rfl | hk
    · exact h
    · exact h4 j hk hl
theorem least_next {L : List Bool} {f x : Nat} (hL : L.length = 256) (h : Least L f x) : nextZ L true f = if x = 256 then -1 else (x : Int) := by
  rcases h with ⟨rfl, h2⟩ | ⟨h1, h2, h3, h4⟩
  · rw [if_pos rfl]
    exact nextZ_eq (.inl ⟨rfl, fun j h3 h4 => by rw [h2 j (by omega) (by omega)]; simp⟩)
  · rw [if_neg (by omega)]
    exact nextZ_eq (.inr ⟨x, rfl, by omega, by omega, h3, fun j h5 h6 => by rw [h4 j (by omega) h6]; simp⟩)
theorem isNext_end (L : List Bool) (hL : L.length = 256) (is : Bool) : IsNext L is 256 (-1) := .inl ⟨rfl, fun j h1 h2 => by omega⟩
theorem isNext_hit {L : List Bool} {is : Bool} {s : Nat} (hs : s < L.length) (h : L.getD s false = is) : IsNext L is s s := .inr ⟨s, rfl, Nat.le_refl _, hs, h, fun j h1 h2 => by omega⟩
theorem isNext_miss {L : List Bool} {is : Bool} {s : Nat} {r : Int} (hl : IsNext L is (s + 1) r) (h : L.getD s false ≠ is) : IsNext L is s r := by
  have key : ∀ j, s ≤ j → j = s ∨ s + 1 ≤ j := fun j h1 => by omega
  rcases hl with ⟨h1, h2⟩ | ⟨k, h0, h1, h2, h3, h4⟩
  · refine .inl ⟨h1, fun j hj hl => ?_⟩
    rcases key j hj with rfl | hk
    · exact h
    · exact h2 j hk hl
  · refine .inr ⟨k, h0, by omega, h2, h3, fun j hj hl => ?_⟩
    rcases key j hj with rfl | hk
    · exact h
    · exact h4 j hk hl

set_option maxRecDepth 100000 in
set_option maxHeartbeats 8000000 in
theorem found_walk (n cap F N : Nat) (A : Option Addr) (xs : List Int) (w : World) (hn : xs.length = n) (hl : n ≤ 9223372036854775807) (hF : F ≤ 255) (hN : N ≤ 255) (hA : Reads w .u8 A xs) (hx : ∀ v ∈ xs, 0 ≤ v ∧ v ≤ 255) :
    Calls Try.prog 10 #[.slice A n cap, .int .u8 F, .int .u8 N] w fun e w' => e = .returned (.bool true) ∧ Below w.heap.size w w' := by
  obtain ⟨K, hK⟩ : ∃ K : Nat, 1 + (N : Int) % 20 = K := ⟨1 + N % 20, by omega⟩
  have hK1 : 1 ≤ K := by omega
  have hK2 : K ≤ 20 := by omega
  have HK := Lib.hid hK
  have HN := Lib.hid hn
  have HA := Lib.hid hA
  have HX := Lib.hid hx
  clear hn hA hx hK
  go_enter Try.func10, Try.ntmps10
  go_wp2_with fail
  refine (bits_new_yes 256 _ (by omega)).mono ?_
  rintro e w1 ⟨p, g, rfl, hA, hp, hg, hb⟩
  have H := Lib.hid hA
  have HB := Lib.hid hb
  have HP := Lib.hid (And.intro hp hg)
  clear hA hb hp hg
  go_wp2_with fail
  refine (err0 _).mono ?_
  rintro e w' ⟨rfl, rfl⟩
  go_upto_block 0 with fail
  go_cut [9] (fun v wc => ∃ L : List Bool, Hid (L.length = 256) ∧ Hid (IsBits wc p g L) ∧ Hid (Upd [] w wc))
  case first =>
    go_wp2_with fail
    go_loopg [9] n (fun gk i wr => ∃ (j : Nat) (L : List Bool), gk = n - j ∧ j ≤ n ∧ i = .int .i64 j ∧ Hid (L.length = 256) ∧ Hid (IsBits wr p g L) ∧ Hid (Upd [] w wr))
    case atStart => exact ⟨0, _, by omega, Nat.zero_le _, rfl, Lib.hid (by simp), H, Lib.hid (Upd.of_below HB.out)⟩
    case round =>
      obtain ⟨j, L, rfl, hj, rfl, HL, HH, HU⟩ := hrel
      by_cases hlt : j < n
      · obtain ⟨b, off, rfl, hb, hcell⟩ := HA.out.at HN.out hlt
        have hcr := (HU.out.cell (p := ⟨b, off + j, none⟩) hb (by simp)).trans hcell
        have hv := HX.out _ (getD_mem (by rw [HN.out]; exact hlt))
        obtain ⟨v, hv'⟩ := Int.eq_ofNat_of_zero_le hv.1
        rw [hv'] at hcr hv
        have hv2 : v ≤ 255 := by omega
        clear hcell hb hv' hv
        go_wp2_with fail
        refine (set_yes p g L true _ 1 [(v : Int)] _ (HH.out.alloc _) (isInts_one wr 3 (v : Int)) (by simp) (fun x hx => by rw [List.mem_singleton] at hx; subst hx; exact placeB_yes (by omega) (by rw [HL.out]; omega))).mono ?_
        rintro e w2 ⟨rfl, hset, hu⟩
        rw [setAll_one] at hset
        have HS := Lib.hid hset
        have HU2 : Hid (Upd [] w w2) := Lib.hid ((HU.out.alloc _).step hu (by have := HP.out; simp; omega))
        clear hset hu
        go_wp2_with fail
        go_roundg (n - (j + 1))
        case measure => omega
        case rel => exact ⟨j + 1, L.set v true, rfl, by omega, by go_num, Lib.hid (by rw [List.length_set, HL.out]), HS, HU2⟩
      · obtain rfl : j = n := by omega
        go_wp2_with fail
        go_meet
        exact ⟨L, HL, HH, HU⟩
  case rest =>
    obtain ⟨L, HL, HH, HU⟩ := hcut
    clear HA HN HX
    have HL4 : Hid (L.length ≤ 16384) := Lib.hid (by rw [HL.out]; omega)
    go_wp2_with fail
    refine (next_any p g L F true _ HH.out (by omega) HL4.out).mono ?_
    rintro e w' ⟨rfl, rfl⟩
    go_wp2_with fail
    refine (next_any p g L F false _ HH.out (by omega) HL4.out).mono ?_
    rintro e w' ⟨rfl, rfl⟩
    obtain ⟨r1, hr1⟩ : ∃ r, nextZ L true F = r := ⟨_, rfl⟩
    obtain ⟨r2, hr2⟩ : ∃ r, nextZ L false F = r := ⟨_, rfl⟩
    rw [hr1, hr2]
    have HR1 := Lib.hid hr1
    have HR2 := Lib.hid hr2
    clear hr1 hr2
    go_upto_block 2 with fail
    go_cut [12] (fun v wx => ∃ x : Nat, v = .int .i64 x ∧ x ≤ 256 ∧ wx = wc ∧ Hid (Least L F x))
    case first =>
      go_wp2_with fail
      go_loopg [12, 13] 256 (fun gk la i wr => ∃ s x : Nat, s = gk ∧ la = .int .i64 x ∧ i = .int .i64 ((s : Int) - 1) ∧ F ≤ s ∧ s ≤ 256 ∧ x ≤ 256 ∧ wr = wc ∧ Hid (Least L s x))
      case atStart => exact ⟨256, 256, rfl, rfl, rfl, by omega, by omega, by omega, rfl, Lib.hid (least_end L)⟩
      case round =>
        obtain ⟨s, x, rfl, rfl, rfl, hs1, hs2, hx, rfl, HLE⟩ := hrel
        by_cases hlt : F < s
        · obtain ⟨t, rfl⟩ : ∃ t, s = t + 1 := ⟨s - 1, by omega⟩
          have hst : ((t + 1 : Nat) : Int) - 1 = t := by omega
          rw [hst]
          clear hst
          obtain ⟨v, hv⟩ : ∃ v, L.getD t false = v := ⟨_, rfl⟩
          have HV := Lib.hid hv
          clear hv
          go_wp2_with fail
          have hq := bits_has p g L t _ HH.out
          rw [(hasB_nat L t).trans HV.out] at hq
          refine hq.mono ?_
          rintro e w' ⟨rfl, rfl⟩
          clear hq
          cases v with
          | true =>
            go_wp2_with fail
            go_roundg t
            case measure => omega
            case rel => exact ⟨t, t, rfl, by go_num, by go_num, by omega, by omega, by omega, rfl, Lib.hid (least_hit (by omega) HV.out)⟩
          | false =>
            go_wp2_with fail
            go_roundg t
            case measure => omega
            case rel => exact ⟨t, x, rfl, by go_num, by go_num, by omega, by omega, by omega, rfl, Lib.hid (least_miss HLE.out HV.out)⟩
        · obtain rfl : s = F := by omega
          go_wp2_with fail
          go_meet
          exact ⟨x, rfl, hx, rfl, HLE⟩
    case rest =>
      obtain ⟨x, rfl, hx, rfl, HLE⟩ := hcut
      have HX1 : Hid (r1 = if x = 256 then -1 else (x : Int)) := Lib.hid (by rw [← HR1.out]; exact least_next HL.out HLE.out)
      clear HLE
      go_upto_if 67 with fail
      go_cut [12] (fun v wx => v = .int .i64 r1 ∧ wx = wc)
      case first =>
        by_cases h256 : x = 256
        · subst h256
          have hr := HX1.out
          rw [if_pos rfl] at hr
          subst hr
          go_wp2_with fail
          go_meet
          exact ⟨rfl, rfl⟩
        · have hr := HX1.out
          rw [if_neg h256] at hr
          subst hr
          go_wp2_with fail
          go_meet
          exact ⟨rfl, rfl⟩
      case rest =>
        obtain ⟨rfl, rfl⟩ := hcut
        clear HX1 hx
        go_upto_block 4 with fail
        go_cut [14] (fun v wx => v = .int .i64 r2 ∧ wx = wc)
        case first =>
          go_wp2_with fail
          go_loopg [14, 15] 256 (fun gk la i wr => ∃ (s : Nat) (r : Int), s = gk ∧ la = .int .i64 r ∧ i = .int .i64 ((s : Int) - 1) ∧ F ≤ s ∧ s ≤ 256 ∧ wr = wc ∧ Hid (IsNext L false s r))
          case atStart => exact ⟨256, -1, rfl, rfl, rfl, by omega, by omega, rfl, Lib.hid (isNext_end L HL.out _)⟩
          case round =>
            obtain ⟨s, r, rfl, rfl, rfl, hs1, hs2, rfl, HLE⟩ := hrel
            by_cases hlt : F < s
            · obtain ⟨t, rfl⟩ : ∃ t, s = t + 1 := ⟨s - 1, by omega⟩
              have hst : ((t + 1 : Nat) : Int) - 1 = t := by omega
              rw [hst]
              clear hst
              obtain ⟨v, hv⟩ : ∃ v, L.getD t false = v := ⟨_, rfl⟩
              have HV := Lib.hid hv
              clear hv
              go_wp2_with fail
              have hq := bits_has p g L t _ HH.out
              rw [(hasB_nat L t).trans HV.out] at hq
              refine hq.mono ?_
              rintro e w' ⟨rfl, rfl⟩
              clear hq
              cases v with
              | true =>
                go_wp2_with fail
                go_roundg t
                case measure => omega
                case rel => exact ⟨t, r, rfl, rfl, by go_num, by omega, by omega, rfl, Lib.hid (isNext_miss HLE.out (by rw [HV.out]; simp))⟩
              | false =>
                go_wp2_with fail
                go_roundg t
                case measure => omega
                case rel => exact ⟨t, t, rfl, by go_num, by go_num, by omega, by omega, rfl, Lib.hid (isNext_hit (by rw [HL.out]; omega) HV.out)⟩
            · obtain rfl : s = F := by omega
              have hr : r = r2 := by rw [← HR2.out]; exact (nextZ_eq (by simpa using HLE.out)).symm
              subst hr
              go_wp2_with fail
              go_meet
              exact ⟨rfl, rfl⟩
        case rest =>
          obtain ⟨rfl, rfl⟩ := hcut
          have hK := HK.out
          go_wp2_with fail
          refine (run_any p g L F K _ HH.out (by omega) (by omega) HL4.out).mono ?_
          rintro e w' ⟨rfl, rfl⟩
          obtain ⟨r3, hr3⟩ : ∃ r, runZ L F K = r := ⟨_, rfl⟩
          rw [hr3]
          have HR3 : Hid (∀ r, IsRun L F K r → r = r3) := Lib.hid (fun r h => by rw [← hr3]; exact (runZ_eq (by omega) (by simpa using h)).symm)
          clear hr3 hK HK
          go_upto_block 6 with fail
          go_cut [18] (fun v wx => v = .int .i64 r3 ∧ wx = wc)
          case first =>
            go_wp2_with fail
            go_loopg [18, 19] (300 - F) (fun gk fi i wr => ∃ (s : Nat) (r : Int), gk = 300 - s ∧ fi = .int .i64 r ∧ i = .int .i64 s ∧ F ≤ s ∧ s ≤ 257 ∧ -1 ≤ r ∧ wc = wr ∧ Hid (r = -1 → ∀ a, F ≤ a → a < s → a + K ≤ 256 → ∃ j, a ≤ j ∧ j < a + K ∧ L.getD j false = true) ∧ Hid (0 ≤ r → IsRun L F K r))
            case atStart => exact ⟨F, -1, rfl, rfl, rfl, by omega, by omega, by omega, rfl, Lib.hid (fun _ a h1 h2 => by omega), Lib.hid (fun h => by omega)⟩
            case round =>
              obtain ⟨s, r, rfl, rfl, rfl, hs1, hs2, hr, rfl, HA1, HA2⟩ := hrel
              by_cases hr0 : r = -1
              · subst hr0
                by_cases hle : s + K ≤ 256
                · go_upto_block 8 with fail
                  go_cut [20] (fun v wx => v = .bool (freeB L s K) ∧ wx = wc)
                  case first =>
                    go_wp2_with fail
                    go_loopg [20, 21] K (fun gk fr j wr => ∃ d : Nat, gk = K - d ∧ d ≤ K ∧ fr = .bool (freeB L s d) ∧ j = .int .i64 ((s + d : Nat) : Int) ∧ wr = wc)
                    case atStart => exact ⟨0, rfl, by omega, rfl, rfl, rfl⟩
                    case round =>
                      obtain ⟨d, rfl, hd, rfl, rfl, rfl⟩ := hrel
                      have hfd : freeB L s (d + 1) = (!L.getD (s + d) false && freeB L s d) := rfl
                      by_cases hlt : d < K
                      · cases hfr : freeB L s d with
                        | true =>
                          rw [hfr] at hfd
                          have HFD := Lib.hid hfd
                          clear hfd hfr
                          obtain ⟨v, hv⟩ : ∃ v, L.getD (s + d) false = v := ⟨_, rfl⟩
                          have HV := Lib.hid hv
                          clear hv
                          go_wp2_with fail
                          have hq := bits_has p g L ((s + d : Nat) : Int) _ HH.out
                          rw [(hasB_nat L (s + d)).trans HV.out] at hq
                          refine hq.mono ?_
                          rintro e w' ⟨rfl, rfl⟩
                          clear hq
                          go_wp2_with fail
                          go_roundg (K - (d + 1))
                          case measure => omega
                          case rel => exact ⟨d + 1, rfl, by omega, by rw [HFD.out, HV.out]; simp, by go_num, rfl⟩
                        | false =>
                          rw [hfr] at hfd
                          have HFD := Lib.hid hfd
                          clear hfd hfr
                          go_wp2_with fail
                          go_roundg (K - (d + 1))
                          case measure => omega
                          case rel => exact ⟨d + 1, rfl, by omega, by rw [HFD.out]; simp, by go_num, rfl⟩
                      · obtain rfl : d = K := by omega
                        clear hfd
                        go_wp2_with fail
                        go_meet
                        exact ⟨rfl, rfl⟩
                  case rest =>
                    obtain ⟨rfl, rfl⟩ := hcut
                    cases hfr : freeB L s K with
                    | true =>
                      have HFR := Lib.hid hfr
                      clear hfr
                      go_wp2_with fail
                      go_roundg (300 - (s + 1))
                      case measure => omega
                      case rel =>
                        exact ⟨s + 1, s, rfl, rfl, by go_num, by omega, by omega, by omega, rfl, Lib.hid (fun h => by omega), Lib.hid (fun _ => .inr ⟨s, rfl, hs1, by rw [HL.out]; omega, freeB_true.1 HFR.out, fun b h1 h2 => HA1.out (by simp) b h1 h2 (by omega)⟩)⟩
                    | false =>
                      have HFR := Lib.hid hfr
                      clear hfr
                      go_wp2_with fail
                      go_roundg (300 - (s + 1))
                      case measure => omega
                      case rel =>
                        refine ⟨s + 1, -1, rfl, rfl, by go_num, by omega, by omega, by omega, rfl, Lib.hid (fun _ a h1 h2 h3 => ?_), Lib.hid (fun h => by omega)⟩
                        rcases Nat.eq_or_lt_of_le (show a ≤ s by omega) with rfl | hlt2
                        · exact freeB_false HFR.out
                        · exact HA1.out (by simp) a h1 hlt2 h3
                · have h3 := HR3.out (-1) (.inl ⟨rfl, fun a h1 h2 => HA1.out (by simp) a h1 (by rw [HL.out] at h2; omega) (by rw [HL.out] at h2; exact h2)⟩)
                  subst h3
                  go_wp2_with fail
                  go_meet
                  exact ⟨rfl, rfl⟩
              · have hr1 : 0 ≤ r := by omega
                have h3 := HR3.out r (HA2.out hr1)
                subst h3
                by_cases hle : s + K ≤ 256
                · go_wp2_with fail
                  go_meet
                  exact ⟨rfl, rfl⟩
                · go_wp2_with fail
                  go_meet
                  exact ⟨rfl, rfl⟩
          case rest =>
            obtain ⟨rfl, rfl⟩ := hcut
            clear HR3
            go_wp2_with fail
            refine (next_nil 0 true _ (by omega)).mono ?_
            rintro e w' ⟨rfl, rfl⟩
            go_wp2_with fail
            refine (run_nil 0 1 _ (by omega)).mono ?_
            rintro e w' ⟨rfl, rfl⟩
            go_wp2_with fail
            refine (bits_size_nil _).mono ?_
            rintro e w' ⟨rfl, rfl⟩
            go_wp2_with fail
            refine (count_nil _).mono ?_
            rintro e w' ⟨rfl, rfl⟩
            go_wp2_with fail
            refine (bits_has_nil 0 _).mono ?_
            rintro e w' ⟨rfl, rfl⟩
            go_wp2_with fail
            refine (set_nil true _ 1 1 _).mono ?_
            rintro e w5 ⟨rfl, hb⟩
            have HU5 : Hid (Upd [] w w5) := Lib.hid ((HU.out.alloc _).step (Upd.of_below hb : Upd [] _ _) (by simp))
            clear hb
            go_wp2_with fail
            refine (err2 _).mono ?_
            rintro e w' ⟨rfl, rfl⟩
            go_wp2_with fail
            refine (awake2_calls _).mono ?_
            rintro e w6 ⟨rfl, hb⟩
            have HF := Lib.hid (HU5.out.step (Upd.of_below hb : Upd [] _ _) (by simp))
            clear hb
            go_wp2_with fail
            go_ret
            exact ⟨rfl, HF.out.below⟩
end Go.Proofs.Ytnphkgiiondjkaa
