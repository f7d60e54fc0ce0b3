/- The walk of SpaceRuns: at every input the law returns true, and nothing that was there has turned. -/
import Derived.Test.YtpkbdmieelgdlaaSpaceRuns1
import Derived.Test.YtpkbdmieelgdlaaSpaceRunsB
import Derived.StillTailTactics
import Derived.Test.YtpkbdmieelgdlaaOpen6
import Derived.Test.YtpkbdmieelgdlaaSame0
namespace Go.Proofs.Ytpkbdmieelgdlaa
open Go Go.RowKit

def Asks6 (w : World) (A : Option Addr) (len : Nat) : Prop := len = 0 ∨ ∃ b off, A = some ⟨b, off, none⟩ ∧ b < w.heap.size ∧ ∀ k, k < len → ∃ g x y, PAskAt w b (off + k * 3) g x y
set_option maxRecDepth 100000 in
set_option maxHeartbeats 12800000 in
theorem sruns_yes (n : Nat) (A : Option Addr) (len cap : Nat) (w : World) (h1 : 1 ≤ n) (h2 : n ≤ 40) (hA : Asks6 w A len) :
    Calls Try.prog 3 #[.int .i64 n, .slice A len cap] w fun e w' => e = .returned (.bool true) ∧ Below w.heap.size w w' := by
  have HA := Lib.hid hA
  have N1 := fun w => spo_new n w h1 (by omega)
  have N2 := fun w => doc_new n w h1 (by omega)
  have HN1 := Lib.hid N1
  have HN2 := Lib.hid N2
  have HPL : Hid ((newSp n).pg.length = n) := Lib.hid (newSp_used n).2
  clear hA N1 N2
  go_enter Try.func3, Try.ntmps3
  go_wp2_with fail
  refine (HN1.out _).mono ?_
  rintro e w1 ⟨s, Os, rfl, hs, hO, hu⟩
  have HS := Lib.hid hs
  have HU := Lib.hid hu
  have HOS := Lib.hid hO
  obtain ⟨L, hL, _⟩ := hs
  have c0 : w1.cell? ⟨s, 0, none⟩ = some (.pointer (some ⟨L.pa, 0, none⟩)) := hL.box.cell 0
  have c1 : w1.cell? ⟨s, 1, none⟩ = some (.pointer (some ⟨L.q0, 0, none⟩)) := hL.box.cell 1
  clear hO hu hL
  go_wp2_with fail
  refine (err0 _).mono ?_
  rintro e w' ⟨rfl, rfl⟩
  go_wp2_with fail
  refine (HN2.out _).mono ?_
  rintro e w2 ⟨m, Od, rfl, hd, hO2, hu2⟩
  have HB0 : Hid (Both w w2 s m (newSp n) (newSp n) Os Od) := Lib.hid ⟨HS.out.upd0 hu2, hd, fun k hk hk2 => by have := HS.out.owned hk2; have := hO2 k hk; omega, HOS.out, fun k hk => Nat.le_trans HU.out.size (hO2 k hk), HU.out.trans hu2⟩
  clear hd hO2 hu2 HS HU HOS HN1 HN2 c0 c1
  go_upto_block 0 with fail
  go_cut [8, 9, 10, 11, 12, 13] (fun _ _ _ _ _ _ wx => ∃ S Os Od, Hid (S.pg.length = n) ∧ Hid (Both w wx s m S S Os Od))
  case first =>
    go_wp2_with fail
    go_loopg [8] len (fun gk i wr => ∃ (j : Nat) (S : Sp) (Os Od : Nat → Prop), gk = len - j ∧ j ≤ len ∧ j ≤ 60 ∧ i = .int .i64 j ∧ Hid (S.pg.length = n) ∧ Hid (Both w wr s m S S Os Od))
    case atStart => exact ⟨0, _, Os, Od, rfl, by omega, by omega, rfl, HPL, HB0⟩
    case round =>
      clear HB0 HPL
      obtain ⟨j, S, Os, Od, rfl, hj, hj60, rfl, HPL, HB⟩ := hrel
      by_cases hlt : j < len
      · by_cases h60 : j < 60
        · obtain ⟨b, off, rfl, hbw, hF⟩ : ∃ b off, A = some ⟨b, off, none⟩ ∧ b < w.heap.size ∧ ∀ k, k < len → ∃ g x y, PAskAt w b (off + k * 3) g x y := by
            rcases HA.out with h0 | h0
            · omega
            · exact h0
          obtain ⟨t, x, y, hr⟩ := hF j hlt
          have hU := HB.out.upd
          have c0 := (hU.cell (p := ⟨b, off + j * 3, none⟩) hbw (by simp)).trans hr.c0
          have HC1 : Hid (∀ W, Upd [] w W → W.cell? ⟨b, off + j * 3 + 1, none⟩ = some (.int .i64 x) ∧ W.cell? ⟨b, off + j * 3 + 2, none⟩ = some (.int .i64 y)) := Lib.hid fun W hu => ⟨(hu.cell (p := ⟨b, off + j * 3 + 1, none⟩) hbw (by simp)).trans hr.c1, (hu.cell (p := ⟨b, off + j * 3 + 2, none⟩) hbw (by simp)).trans hr.c2⟩
          have BX := hr.A
          have BY := Lib.hid hr.K
          clear hr hF hbw hU
          go_upto_if 96 with fail
          go_cut [9, 10, 11, 12, 13] (fun _ _ _ _ _ wx => ∃ S Os Od, Hid (S.pg.length = n) ∧ Hid (Both w wx s m S S Os Od))
          case first =>
            cases t with
            | true =>
              obtain ⟨k1, k2⟩ := HC1.out _ HB.out.upd
              have hu1 := fun W (hu : Upd [] wr W) => doc_each m S W (HB.out.doc.upd0 hu)
              have HE1 := Lib.hid hu1
              clear hu1
              go_wp2_with fail
              refine (HE1.out _ (Upd.refl _ _)).mono ?_
              rintro e w3 ⟨v3, rfl, ho3, hu3⟩
              have HB3 := Lib.hid (HB.out.upd0 hu3)
              have hl3 := each_length HB.out.pro.wf
              obtain ⟨A3, cap3, rfl, hI3, _⟩ := ho3.form
              have HI3 := Lib.hid hI3
              obtain ⟨N3, hN3⟩ : ∃ N3, S.each.length = N3 := ⟨_, rfl⟩
              have HN3 := Lib.hid hN3
              rw [hN3] at hl3 ⊢
              clear ho3 hu3 hI3 hN3 HE1 k1 k2
              by_cases hcase : 0 < N3 ∧ 0 ≤ x ∧ x < 256
              · obtain ⟨g1, g2, g3⟩ := hcase
                obtain ⟨k, hk⟩ : ∃ k : Nat, x % (N3 : Int) = (k : Int) := ⟨(x % (N3 : Int)).toNat, by rw [Int.toNat_of_nonneg (Int.emod_nonneg _ (by omega))]⟩
                have hkl : k < N3 := by have := Int.emod_lt_of_pos x (show (0 : Int) < (N3 : Int) by omega); omega
                obtain ⟨b3, o3, rfl, _, d1⟩ := Reads.at HI3.out HN3.out hkl
                obtain ⟨z, hz⟩ : ∃ z, S.each.getD k 0 = z := ⟨_, rfl⟩
                rw [hz] at d1
                clear hz HI3
                obtain ⟨S1, r, r0, r2, hpg, hF1, hF2⟩ := both_free HB3.out (z)
                have HPL1 : Hid (S1.pg.length = n) := Lib.hid (hpg.trans HPL.out)
                have HF1 := Lib.hid hF1
                have HF2 := Lib.hid hF2
                clear hpg hF1 hF2
                go_wp2_with fail
                refine (HF1.out _ (Upd.refl _ _)).mono ?_
                rintro e w4 ⟨rfl, Os4, HB4⟩
                go_wp2_with fail
                refine (err_calls r _ ⟨r0, by omega⟩).mono ?_
                rintro e w' ⟨rfl, rfl⟩
                go_wp2_with fail
                refine (HF2.out _ _ HB4.out).mono ?_
                rintro e w5 ⟨rfl, Od5, HB5⟩
                go_wp2_with fail
                go_meet
                exact ⟨S1, Os4, Od5, HPL1, HB5⟩
              · rcases Nat.eq_zero_or_pos N3 with g1 | g1
                · subst g1
                  obtain ⟨S1, r, r0, r2, hpg, hF1, hF2⟩ := both_free HB3.out (x)
                  have HPL1 : Hid (S1.pg.length = n) := Lib.hid (hpg.trans HPL.out)
                  have HF1 := Lib.hid hF1
                  have HF2 := Lib.hid hF2
                  clear hpg hF1 hF2
                  go_wp2_with fail
                  refine (HF1.out _ (Upd.refl _ _)).mono ?_
                  rintro e w4 ⟨rfl, Os4, HB4⟩
                  go_wp2_with fail
                  refine (err_calls r _ ⟨r0, by omega⟩).mono ?_
                  rintro e w' ⟨rfl, rfl⟩
                  go_wp2_with fail
                  refine (HF2.out _ _ HB4.out).mono ?_
                  rintro e w5 ⟨rfl, Od5, HB5⟩
                  go_wp2_with fail
                  go_meet
                  exact ⟨S1, Os4, Od5, HPL1, HB5⟩
                · by_cases g2 : x < 0
                  · obtain ⟨S1, r, r0, r2, hpg, hF1, hF2⟩ := both_free HB3.out (x)
                    have HPL1 : Hid (S1.pg.length = n) := Lib.hid (hpg.trans HPL.out)
                    have HF1 := Lib.hid hF1
                    have HF2 := Lib.hid hF2
                    clear hpg hF1 hF2
                    go_wp2_with fail
                    refine (HF1.out _ (Upd.refl _ _)).mono ?_
                    rintro e w4 ⟨rfl, Os4, HB4⟩
                    go_wp2_with fail
                    refine (err_calls r _ ⟨r0, by omega⟩).mono ?_
                    rintro e w' ⟨rfl, rfl⟩
                    go_wp2_with fail
                    refine (HF2.out _ _ HB4.out).mono ?_
                    rintro e w5 ⟨rfl, Od5, HB5⟩
                    go_wp2_with fail
                    go_meet
                    exact ⟨S1, Os4, Od5, HPL1, HB5⟩
                  · have g3 : 256 ≤ x := by omega
                    have g4 : 0 ≤ x := by omega
                    clear hcase
                    obtain ⟨S1, r, r0, r2, hpg, hF1, hF2⟩ := both_free HB3.out (x)
                    have HPL1 : Hid (S1.pg.length = n) := Lib.hid (hpg.trans HPL.out)
                    have HF1 := Lib.hid hF1
                    have HF2 := Lib.hid hF2
                    clear hpg hF1 hF2
                    go_wp2_with fail
                    refine (HF1.out _ (Upd.refl _ _)).mono ?_
                    rintro e w4 ⟨rfl, Os4, HB4⟩
                    go_wp2_with fail
                    refine (err_calls r _ ⟨r0, by omega⟩).mono ?_
                    rintro e w' ⟨rfl, rfl⟩
                    go_wp2_with fail
                    refine (HF2.out _ _ HB4.out).mono ?_
                    rintro e w5 ⟨rfl, Od5, HB5⟩
                    go_wp2_with fail
                    go_meet
                    exact ⟨S1, Os4, Od5, HPL1, HB5⟩
            | false =>
              obtain ⟨k1, k2⟩ := HC1.out _ HB.out.upd
              obtain ⟨S1, a, r, r0, r3, hpg, hat, hA1, hA2⟩ := both_alloc HB.out x
              have HPL1 : Hid (S1.pg.length = n) := Lib.hid (hpg.trans HPL.out)
              have HAT := Lib.hid hat
              have HA1 := Lib.hid hA1
              have HA2 := Lib.hid hA2
              clear hpg hat hA1 hA2
              go_wp2_with fail
              refine (HA1.out _ (Upd.refl _ _)).mono ?_
              rintro e w3 ⟨rfl, Os1, HB3⟩
              obtain ⟨k3, k4⟩ := HC1.out _ HB3.out.upd
              go_wp2_with fail
              refine (HA2.out _ _ HB3.out).mono ?_
              rintro e w4 ⟨rfl, Od1, HB4⟩
              have HB5 : Hid (Both w (w4.alloc (.cells #[.int .i64 a, .int .i64 r] 47)) s m S1 S1 Os1 Od1) := Lib.hid (HB4.out.upd0 ((Upd.refl _ _).alloc _))
              clear HB4 HB3 HA1 HA2
              have hne : (a != a) = false := by simp
              have hne2 : (r != r) = false := by simp
              go_upto_region 21 with fail
              go_quiet ((go_at_call 5; exact Calls.quiet_of_same ((err_calls r _ ⟨r0, by omega⟩).mono fun e w' h => ⟨h.1, h.2.symm⟩)))
              obtain ⟨w6, hw6⟩ : ∃ w6, (w4.alloc (.cells #[.int .i64 a, .int .i64 r] 47)).drewN nq = w6 := ⟨_, rfl⟩
              have HB6 : Hid (Both w w6 s m S1 S1 Os1 Od1) := Lib.hid (by rw [← hw6]; exact HB5.out.upd0 ((Upd.refl _ _).drewN nq))
              have e1 : w6.cell? ⟨w4.heap.size, 1, none⟩ = some (.int .i64 r) := by rw [← hw6]; simp
              rw [hw6]
              clear HB5 hw6 k1 k2 k3 k4
              by_cases hr : r = 0
              · subst hr
                obtain ⟨k, rfl, hk⟩ := HAT.out rfl
                obtain ⟨pa, f0, S7, hpg, hS1, hS2⟩ := both_store HB6.out k y hk
                obtain ⟨-, f2⟩ := HC1.out _ HB6.out.upd
                have HPL7 : Hid (S7.pg.length = n) := Lib.hid (hpg.trans HPL1.out)
                have HS1 := Lib.hid hS1
                have HS2 := Lib.hid hS2
                have HK := Lib.hid hk
                clear hpg hS1 hS2 hk
                go_upto_region 24 with fail
                go_still_tail 10, (by kernel_rfl)
                change wpList _ _ _ _ _ w6.drew
                go_wp2_with fail
                refine (HS1.out w6.drew ((Upd.refl [] w6).drew)).mono ?_
                rintro e w7 ⟨rfl, Os7, HB7⟩
                obtain ⟨gw, y1, d0, d1, d2, d3⟩ := HS2.out _ _ HB7.out
                have HD := Lib.hid d3
                obtain ⟨-, f4⟩ := HC1.out _ HB7.out.upd
                obtain ⟨N, hN⟩ : ∃ N, S1.W.length = N := ⟨_, rfl⟩
                have hk := HK.out
                rw [hN] at d0 hk
                clear d3 hN HS1 HS2 f0 f2 e1 hne hne2
                go_upto_region 25 with fail
                go_still_tail 11, (by kernel_rfl)
                change wpList _ _ _ _ _ w7.drew
                go_wp2_with fail
                go_meet
                exact ⟨S7, Os7, Od1, HPL7, HD.out _ ((Upd.refl [] w7).drew)⟩
              · go_wp2_with fail
                go_meet
                exact ⟨S1, Os1, Od1, HPL1, HB6⟩
          case rest =>
            clear HPL HB
            obtain ⟨S3, Os3, Od3, HPL, HB⟩ := hcut
            have hu1 := spo_used s S3 wc HB.out.pro
            go_wp2_with fail
            refine (hu1).mono ?_
            rintro e w4 ⟨rfl, hu4⟩
            have HB4 := Lib.hid (HB.out.upd0 hu4)
            clear hu1 hu4 HB
            have hu1 := doc_used m S3 w4 HB4.out.doc
            go_wp2_with fail
            refine (hu1).mono ?_
            rintro e w5 ⟨rfl, hu5⟩
            have HB5 := Lib.hid (HB4.out.upd0 hu5)
            clear hu1 hu5 HB4
            have hu1 := spo_each s S3 w5 HB5.out.pro
            go_wp2_with fail
            refine (hu1).mono ?_
            rintro e w6 ⟨v6, rfl, ho6, hu6⟩
            have HB6 := Lib.hid (HB5.out.upd0 hu6)
            have hu1 := doc_each m S3 w6 HB6.out.doc
            go_wp2_with fail
            refine (hu1).mono ?_
            rintro e w7 ⟨v7, rfl, ho7, hu7⟩
            have HB7 := Lib.hid (HB6.out.upd0 hu7)
            have hl3 := each_length HB7.out.pro.wf
            have ho6' := ho6.upd hu7 (by simp)
            obtain ⟨A6, cap6, rfl, hI6, _⟩ := ho6'.form
            obtain ⟨A7, cap7, rfl, hI7, _⟩ := ho7.form
            have hsame := same_calls A6 A7 _ _ cap6 cap7 S3.each S3.each w7 rfl rfl hI6 hI7 (by omega) (by omega)
            have HSM := Lib.hid hsame
            clear hu1 hu6 hu7 ho6 ho6' ho7 hI6 hI7 hsame HB5 HB6
            generalize S3.each.length = N3 at *
            go_wp2_with fail
            refine (HSM.out).mono ?_
            rintro e w8 ⟨rfl, q8, rfl⟩
            have HB8 := Lib.hid (HB7.out.upd0 ((Upd.refl [] w7).drewN q8))
            go_wp2_with fail
            go_roundg (len - (j + 1))
            case measure => omega
            case rel => exact ⟨j + 1, S3, Os3, Od3, rfl, by omega, by omega, by go_num, HPL, HB8⟩
        · obtain rfl : j = 60 := by omega
          go_wp2_with fail
          go_meet
          exact ⟨S, Os, Od, HPL, HB⟩
      · obtain rfl : j = len := by omega
        go_wp2_with fail
        go_meet
        exact ⟨S, Os, Od, HPL, HB⟩
  case rest =>
    clear HB0 HPL
    obtain ⟨S, Os2, Od2, HPL, HB⟩ := hcut
    obtain ⟨gw, hgw⟩ : ∃ gw, ∀ W, Upd [] wc W → W.cell? ⟨m, 0, none⟩ = some (.slice (some ⟨gw, 0, none⟩) S.W.length S.W.length) ∧ ∀ i, i < S.W.length → W.cell? ⟨gw, i, none⟩ = some (.int .i64 (S.W.getD i 0)) := by
      obtain ⟨D, hD, _⟩ := HB.out.doc
      refine ⟨D.gw, fun W hu => ⟨?_, fun i hi => ((hD.upd0 hu).wordAt hi).1⟩⟩
      have := (hD.upd0 hu).cells.1
      rwa [← hD.wf.len] at this
    have hlen : S.W.length = n * 64 := by rw [HB.out.pro.wf.len, HPL.out]
    have HGW := Lib.hid hgw
    obtain ⟨N, hN⟩ : ∃ N, S.W.length = N := ⟨_, rfl⟩
    rw [hN] at HGW hlen
    have HN := Lib.hid hN
    have hN2 : N ≤ 2560 := by omega
    clear hgw hN hlen
    have HU0 : Hid (Upd [] wc wc) := Lib.hid (Upd.refl _ _)
    have c0 := (HGW.out _ HU0.out).1
    go_wp2_with fail
    go_loopg [14] (N + 2) (fun gk i wr => ∃ j : Nat, gk = N + 2 - j ∧ j ≤ N + 2 ∧ i = .int .i64 ((j : Int) - 1) ∧ Hid (Upd [] wc wr))
    case atStart => exact ⟨0, rfl, by omega, rfl, HU0⟩
    case round =>
      clear HU0 c0
      obtain ⟨j, rfl, hj, rfl, HU⟩ := hrel
      have c0 := (HGW.out _ HU.out).1
      by_cases hlt : j < N + 2
      · have hle : (j : Int) - 1 ≤ (N : Int) := by omega
        have hB := HB.out.upd0 HU.out
        have hf1 := spo_find s S ((j : Int) - 1) wr hB.pro
        have hf2 := fun W (hu : Upd [] wr W) => doc_find m S ((j : Int) - 1) W (hB.doc.upd0 hu)
        unfold FoundV at hf2
        obtain ⟨z, hz⟩ : ∃ z, S.find ((j : Int) - 1) = z := ⟨_, rfl⟩
        rw [hz] at hf1 hf2
        obtain ⟨z1, z2, z3⟩ := z
        simp only at hf1 hf2
        have HF1 := Lib.hid hf1
        have HF2 := Lib.hid hf2
        clear hB hf1 hf2 hz
        go_wp2_with fail
        refine (HF1.out).mono ?_
        rintro e w3 ⟨rfl, hu3⟩
        have HU3 := Lib.hid (HU.out.trans hu3)
        go_wp2_with fail
        refine (HF2.out _ hu3).mono ?_
        rintro e w4 ⟨rfl, hu4⟩
        have HU4 := Lib.hid (HU3.out.trans hu4)
        clear hu3 hu4
        have HU5 : Hid (Upd [] wc (w4.alloc (.cells #[.int .i64 z1, .int .i64 z2, .bool z3] 57))) := Lib.hid (HU4.out.alloc _)
        have c1 := (HGW.out _ HU5.out).1
        go_wp2_with fail
        go_roundg (N + 2 - (j + 1))
        case measure => omega
        case rel => exact ⟨j + 1, rfl, by omega, by go_num, HU5⟩
      · obtain rfl : j = N + 2 := by omega
        have hst : ((N + 2 : Nat) : Int) - 1 = (N : Int) + 1 := by omega
        rw [hst]
        clear hst
        obtain ⟨pa, hpa, hload, _⟩ := HB.out.pro.arena
        rw [HN.out] at hload
        have hs := HB.out.pro.owned (k := s)
        have HPA : Hid (∀ W, Upd [] wc W → W.cell? ⟨s, 0, none⟩ = some (.pointer (some ⟨pa, 0, none⟩))) := Lib.hid (fun W hu => (hu.cell (p := ⟨s, 0, none⟩) (World.block_lt_of_cell? _ _ hpa) (by simp)).trans hpa)
        have HLD := Lib.hid hload
        have c1 := HPA.out _ HU.out
        clear hpa hload hs
        go_wp2_with fail
        go_loopg [19] N (fun gk i wx => ∃ j : Nat, gk = N - j ∧ j ≤ N ∧ i = .int .i64 j ∧ Hid (Upd [] wc wx))
        case atStart => exact ⟨0, rfl, by omega, rfl, HU⟩
        case round =>
          clear HU c0 c1
          obtain ⟨j, rfl, hj, rfl, HU⟩ := hrel
          obtain ⟨c0, c2⟩ := HGW.out _ HU.out
          have c1 := HPA.out _ HU.out
          by_cases hlt : j < N
          · have c3 := c2 j hlt
            have hld := HLD.out _ (j : Int) HU.out (by omega) (by omega)
            rw [Int.toNat_natCast] at hld
            have HL := Lib.hid hld
            clear c2 hld
            generalize S.W.getD j 0 = y at *
            go_wp2_with fail
            refine (HL.out).mono ?_
            rintro e w' ⟨rfl, rfl⟩
            go_wp2_with fail
            refine (err0 _).mono ?_
            rintro e w' ⟨rfl, rfl⟩
            go_wp2_with fail
            go_roundg (N - (j + 1))
            case measure => omega
            case rel => exact ⟨j + 1, rfl, by omega, by go_num, HU⟩
          · obtain rfl : j = N := by omega
            have hcap := spo_cap s S wr (HB.out.upd0 HU.out).pro
            rw [HPL.out] at hcap
            have HCAP := Lib.hid hcap
            clear c2 hcap
            go_wp2_with fail
            refine (HCAP.out).mono ?_
            rintro e w' ⟨rfl, rfl⟩
            go_wp2_with fail
            refine (awake6_calls _).mono ?_
            rintro e w6 ⟨rfl, hb⟩
            have HZ := Lib.hid ((HB.out.upd.trans HU.out).trans (Upd.of_below hb))
            clear hb
            go_wp2_with fail
            go_ret
            exact ⟨rfl, HZ.out.below⟩
end Go.Proofs.Ytpkbdmieelgdlaa
