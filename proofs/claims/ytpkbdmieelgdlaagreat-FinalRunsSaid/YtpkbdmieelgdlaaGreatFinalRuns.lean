/- The walk of FinalRuns: at every two lists of numbers the law returns true, and nothing that was there has turned. -/
import Derived.Test.YtpkbdmieelgdlaaGreatJ3
import Derived.Deep.CutBlock
import Derived.Deep.DeepCutAuto
import Derived.Deep.LoopGhost
import Derived.Deep.QuietTactic
import Derived.BigQuiet
import Derived.Deep.RegionHeld3
namespace Go.Proofs.YtpkbdmieelgdlaaGreat
open Go Go.RowKit

set_option maxRecDepth 100000 in
set_option maxHeartbeats 12800000 in
theorem fruns_walk (A B : Option Addr) (c c1 n n1 : Nat) (ns odd : List Int) (w : World) (hn : ns.length = n) (hn1 : odd.length = n1) (hR : Reads w .u8 A ns) (hR1 : Reads w .i64 B odd) (hb : ∀ x ∈ ns, 0 ≤ x ∧ x ≤ 255) (hl : n ≤ 9223372036854775807) (_hl1 : n1 ≤ 9223372036854775807) :
    Calls Tryz.prog 3 #[.slice A n c, .slice B n1 c1] w fun e w' => e = .returned (.bool true) ∧ Below w.heap.size w w' := by
  have HR := Lib.hid hR
  have HR1 := Lib.hid hR1
  have HBY := Lib.hid hb
  have HN := Lib.hid hn
  have HN1 := Lib.hid hn1
  clear hR hR1 hb hn hn1
  go_enter Tryz.func3, Tryz.ntmps3
  go_wp2_with fail
  refine (made15 8 _ (by omega)).mono ?_
  rintro e w1 ⟨h, f, lv, O1, rfl, hf, ho, he⟩
  have HF := Lib.hid hf
  have HO := Lib.hid ho
  have HE := Lib.hid he
  obtain ⟨AL, cL, hlv, _, _⟩ := ho.own.form
  rw [mkF_len] at hlv
  subst hlv
  clear hf ho he
  go_wp2_with fail
  refine (dheap_new 40 _ (by omega) (by omega)).mono ?_
  rintro e w2 ⟨m, Om, rfl, hm, hom, hu⟩
  obtain ⟨Od, hB⟩ := fb_start HE.out HO.out HF.out hm hom hu
  have HB0 := Lib.hid hB
  obtain ⟨g, hg⟩ : ∃ g, w2.heap.size = g := ⟨_, rfl⟩
  clear hm hom hu hB HE HO HF
  go_upto_block 0 with fail
  obtain ⟨w4, hw4⟩ : ∃ w4, w2.alloc (.cells #[.pointer (some ⟨m, 0, none⟩), .slice none 0 0, .slice none 0 0] 32) = w4 := ⟨_, rfl⟩
  have HB1 : Hid (FB w w4 h f m g (mkF 8 9).1 (mkF 8 9).2.1 (mkF 8 9).2.2 [] [] (mkF 8 0).1 (mkF 8 0).2.1 (mkF 8 0).2.2 [] [] O1 Od (.slice AL 9 cL)) := by rw [← hw4, ← hg]; exact HB0
  rw [hw4]
  clear HB0 hw4 hg
  go_cut [9] (fun _ wx => ∃ Od, Hid (FB w wx h f m g (mkF 8 9).1 (mkF 8 9).2.1 (mkF 8 9).2.2 [] [] (mkF 8 9).1 (mkF 8 9).2.1 (mkF 8 9).2.2 [] [] O1 Od (.slice AL 9 cL)))
  case first =>
    go_wp2_with fail
    go_loopg [9] 9 (fun gk i wr => ∃ (k : Nat) (Od : Nat → Prop), gk = 9 - k ∧ k ≤ 9 ∧ i = .int .i64 k ∧ Hid (FB w wr h f m g (mkF 8 9).1 (mkF 8 9).2.1 (mkF 8 9).2.2 [] [] (mkF 8 k).1 (mkF 8 k).2.1 (mkF 8 k).2.2 [] [] O1 Od (.slice AL 9 cL)) ∧ Hid ((mkF 8 k).1.length = 40))
    case atStart => exact ⟨0, Od, rfl, by omega, rfl, HB1, Lib.hid (by simp [mkF, newSp])⟩
    case round =>
      clear HB1
      obtain ⟨k, Od, rfl, hk, rfl, HBr, HL⟩ := hrel
      by_cases hlt : k < 9
      · obtain ⟨vw, vp, Oh, hd, -⟩ := HBr.out.doc
        have c0 := hd.cells.1
        clear hd
        by_cases h8 : k = 8
        · have hk8 : ¬ (k : Int) < 8 := by omega
          have HK8 : Hid ((k = 8) = True) := Lib.hid (by simpa using h8)
          go_wp2_with fail
          refine (df_make g m (mkF 8 k).1 4 2 5 _ HBr.out.doc (by decide) (by omega) (by omega) (by rw [HL.out, mkF_len]; omega)).mono ?_
          rintro e w5 ⟨a, pg, O5, hal, rfl, hln, hh, hs⟩
          have hal : allocP (mkF 8 k).1 6 = (pg, a) := hal
          have e1 : (mkF 8 (k + 1)).1 = pg ∧ (mkF 8 (k + 1)).2.1 = (mkF 8 k).2.1 ++ [a] ∧ (mkF 8 (k + 1)).2.2 = fset (mkF 8 k).2.2 a ⟨4, 2, false, List.replicate 5 0⟩ := by
            simp only [mkF, HK8.out, if_true, hal]
            exact ⟨trivial, trivial, trivial⟩
          have HB5 : Hid (FB w w5 h f m g (mkF 8 9).1 (mkF 8 9).2.1 (mkF 8 9).2.2 [] [] (mkF 8 (k + 1)).1 (mkF 8 (k + 1)).2.1 (mkF 8 (k + 1)).2.2 [] [] O1 O5 (.slice AL 9 cL)) := Lib.hid (by rw [e1.1, e1.2.1, e1.2.2]; exact HBr.out.stepD hh hs)
          have HL5 : Hid ((mkF 8 (k + 1)).1.length = 40) := Lib.hid (by rw [e1.1, hln, HL.out])
          clear hh hs hal e1 hln c0
          go_wp2_with fail
          go_roundg (9 - (k + 1))
          case measure => omega
          case rel => exact ⟨k + 1, O5, rfl, by omega, by go_num, HB5, HL5⟩
        · have hk8 : (k : Int) < 8 := by omega
          have HK8 : Hid ((k = 8) = False) := Lib.hid (by simpa using h8)
          go_wp2_with fail
          refine (df_make g m (mkF 8 k).1 3 0 1 _ HBr.out.doc (by decide) (by omega) (by omega) (by rw [HL.out, mkF_len]; omega)).mono ?_
          rintro e w5 ⟨a, pg, O5, hal, rfl, hln, hh, hs⟩
          have hal : allocP (mkF 8 k).1 2 = (pg, a) := hal
          have e1 : (mkF 8 (k + 1)).1 = pg ∧ (mkF 8 (k + 1)).2.1 = (mkF 8 k).2.1 ++ [a] ∧ (mkF 8 (k + 1)).2.2 = fset (mkF 8 k).2.2 a ⟨3, 0, false, List.replicate 1 0⟩ := by
            simp only [mkF, HK8.out, if_false, hal]
            exact ⟨trivial, trivial, trivial⟩
          have HB5 : Hid (FB w w5 h f m g (mkF 8 9).1 (mkF 8 9).2.1 (mkF 8 9).2.2 [] [] (mkF 8 (k + 1)).1 (mkF 8 (k + 1)).2.1 (mkF 8 (k + 1)).2.2 [] [] O1 O5 (.slice AL 9 cL)) := Lib.hid (by rw [e1.1, e1.2.1, e1.2.2]; exact HBr.out.stepD hh hs)
          have HL5 : Hid ((mkF 8 (k + 1)).1.length = 40) := Lib.hid (by rw [e1.1, hln, HL.out])
          clear hh hs hal e1 hln c0
          go_wp2_with fail
          go_roundg (9 - (k + 1))
          case measure => omega
          case rel => exact ⟨k + 1, O5, rfl, by omega, by go_num, HB5, HL5⟩
      · obtain rfl : k = 9 := by omega
        go_wp2_with fail
        go_meet
        exact ⟨Od, HBr⟩
  case rest =>
    obtain ⟨Od, HB2⟩ := hcut
    clear HB1
    obtain ⟨pg, hpg⟩ : ∃ pg, (mkF 8 9).1 = pg := ⟨_, rfl⟩
    obtain ⟨l, hl2⟩ : ∃ l, (mkF 8 9).2.1 = l := ⟨_, rfl⟩
    obtain ⟨F0, hF0⟩ : ∃ F0, (mkF 8 9).2.2 = F0 := ⟨_, rfl⟩
    have HI0 : Hid (FI l F0 [] [] 0) := Lib.hid (FI.start (by rw [← hl2]; exact mkF_len 8 9))
    rw [hpg, hl2, hF0] at HB2
    clear hpg hl2 hF0
    go_upto_block 2 with fail
    go_cut [10, 11, 12, 13, 14, 15] (fun _ _ _ _ _ _ wx => ∃ F ws ps Of Od, Hid (FB w wx h f m g pg l F ws ps pg l F ws ps Of Od (.slice AL 9 cL)))
    case first =>
      go_wp2_with fail
      go_loopg [10] 123 (fun gk i wr => ∃ (i2 : Nat) (F : Int → Ob) (ws ps : List Int) (Of Od : Nat → Prop), gk = 123 - i2 ∧ i2 ≤ 122 ∧ i = .int .i64 i2 ∧ Hid (FB w wr h f m g pg l F ws ps pg l F ws ps Of Od (.slice AL 9 cL)) ∧ Hid (FI l F ws ps i2))
      case atStart => exact ⟨0, F0, [], [], O1, Od, rfl, by omega, rfl, HB2, HI0⟩
      case round =>
        clear HB2 HI0
        obtain ⟨i2, F, ws, ps, Of, Od, rfl, hi2, rfl, HB, HI⟩ := hrel
        by_cases hlt : i2 + 2 < n
        · by_cases h60 : i2 < 120
          · obtain ⟨bA, oA, rfl, hbA, c0⟩ := Reads.at HR.out HN.out (show i2 < n by omega)
            obtain ⟨k0, hk0, k0b⟩ := getD_bytes HBY.out (i := i2) (by rw [HN.out]; omega)
            obtain ⟨k1, hk1, k1b⟩ := getD_bytes HBY.out (i := i2 + 1) (by rw [HN.out]; omega)
            obtain ⟨k2, hk2, k2b⟩ := getD_bytes HBY.out (i := i2 + 2) (by rw [HN.out]; omega)
            obtain ⟨_, _, e, _, c1⟩ := Reads.at HR.out HN.out (show i2 + 1 < n by omega)
            cases e
            obtain ⟨_, _, e, _, c2⟩ := Reads.at HR.out HN.out hlt
            cases e
            rw [hk0] at c0
            rw [hk1] at c1
            rw [hk2] at c2
            have HC0 : Hid (∀ W, Upd [] w W → W.cell? ⟨bA, oA + i2, none⟩ = some (.int .u8 k0) ∧ W.cell? ⟨bA, oA + (i2 + 1), none⟩ = some (.int .u8 k1) ∧ W.cell? ⟨bA, oA + (i2 + 2), none⟩ = some (.int .u8 k2)) := Lib.hid fun W hu => ⟨(hu.cell (p := ⟨bA, oA + i2, none⟩) hbA (by simp)).trans c0, (hu.cell (p := ⟨bA, oA + (i2 + 1), none⟩) hbA (by simp)).trans c1, (hu.cell (p := ⟨bA, oA + (i2 + 2), none⟩) hbA (by simp)).trans c2⟩
            clear c0 c1 c2 hk0 hk1 hk2
            obtain ⟨c0, c1, -⟩ := HC0.out _ HB.out.env.upd
            obtain ⟨t, ht⟩ : ∃ t : Nat, (k1 : Int) % 9 = (t : Int) := ⟨k1 % 9, by omega⟩
            have htl : t < 9 := by omega
            obtain ⟨sw, hsw⟩ : ∃ sw : Int, (k0 : Int) % 5 = sw := ⟨_, rfl⟩
            have hs : sw = 0 ∨ sw = 1 ∨ sw = 2 ∨ sw = 3 ∨ sw = 4 := by omega
            have HS := Lib.hid hs
            clear hs
            obtain ⟨bL, oL, rfl, dl⟩ := HB.out.cell HI.out.len htl
            have d1 := dl wr (Upd.refl _ _)
            obtain ⟨z0, hz0⟩ : ∃ z0, l.getD t 0 = z0 := ⟨_, rfl⟩
            rw [hz0] at d1
            clear dl hz0
            obtain ⟨hh, hhh⟩ : ∃ hh : Nat, (i2 : Int) / 3 = (hh : Int) := ⟨i2 / 3, by omega⟩
            have hhl : hh ≤ 60 := by omega
            as_aux_lemma =>
              have HO : Hid (∀ W, hh < n1 → Upd [] w W → ∃ b o x, B = some ⟨b, o, none⟩ ∧ W.cell? ⟨b, o + hh, none⟩ = some (.int .i64 x)) := Lib.hid fun W hlt2 hu => by
                obtain ⟨b, o, e, hb, c⟩ := Reads.at HR1.out HN1.out hlt2
                exact ⟨b, o, _, e, (hu.cell (p := ⟨b, o + hh, none⟩) hb (by simp)).trans c⟩
              go_upto_region 15 with fail
              go_cut [77] (fun v wx => wx = wr ∧ ∃ b, v = .bool b ∧ Hid (b = true → hh < n1))
              case first =>
                by_cases hm : hh < n1
                · go_wp2_with fail
                  go_meet
                  exact ⟨rfl, _, rfl, Lib.hid fun _ => hm⟩
                · go_wp2_with fail
                  go_meet
                  exact ⟨rfl, _, rfl, Lib.hid fun h => by simp at h⟩
              case rest =>
                obtain ⟨rfl, bb, rfl, HBB⟩ := hcut
                as_aux_lemma =>
                  go_upto_if 77 with fail
                  go_cut [11] (fun v wx => wx = wc ∧ ∃ z, v = .int .i64 z)
                  case first =>
                    cases bb with
                    | true =>
                      have hm := HBB.out rfl
                      obtain ⟨bB, oB, x, rfl, d2⟩ := HO.out wc hm HB.out.env.upd
                      go_wp2_with fail
                      go_meet
                      exact ⟨rfl, _, rfl⟩
                    | false =>
                      go_wp2_with fail
                      go_meet
                      exact ⟨rfl, _, rfl⟩
                  case rest =>
                    obtain ⟨rfl, z, rfl⟩ := hcut
                    obtain ⟨wr, rfl⟩ : ∃ wr : World, wr = wc := ⟨_, rfl⟩
                    as_aux_lemma =>
                      clear HO HBB d1
                      go_upto_block 4 with fail
                      rw [hsw]
                      clear hsw c0 c1
                      go_cut [] (fun wx => ∃ (F : Int → Ob) (ws ps : List Int) (Of Od : Nat → Prop), Hid (FB w wx h f m g pg l F ws ps pg l F ws ps Of Od (.slice (some ⟨bL, oL, none⟩) 9 cL)) ∧ Hid (FI l F ws ps (i2 + 1)))
                      case first =>
                        rcases HS.out with rfl | rfl | rfl | rfl | rfl
                        · as_aux_lemma =>
                            obtain ⟨e, F1, ws1, he0, he5, hI1, hP1, hP2⟩ := both_await HB.out HI.out (by omega) z
                            have HI1 := Lib.hid hI1
                            have HP1 := Lib.hid hP1
                            have HP2 := Lib.hid hP2
                            clear hI1 hP1 hP2
                            have hne : (e != e) = false := by simp
                            go_wp2_with fail
                            refine (HP1.out _ (Upd.refl _ _)).mono ?_
                            rintro e w5 ⟨rfl, Of5, HB5⟩
                            go_wp2_with fail
                            refine (err_calls e _ ⟨he0, by omega⟩).mono ?_
                            rintro e w' ⟨rfl, rfl⟩
                            go_wp2_with fail
                            refine (HP2.out _ _ HB5.out).mono ?_
                            rintro e w6 ⟨rfl, Od6, HB6⟩
                            go_wp2_with fail
                            go_meet
                            exact ⟨F1, ws1, ps, Of5, Od6, HB6, HI1⟩
                        · as_aux_lemma =>
                            obtain ⟨e, F1, ws1, he0, he5, hI1, hP1, hP2⟩ := both_await HB.out HI.out (by omega) z
                            have HI1 := Lib.hid hI1
                            have HP1 := Lib.hid hP1
                            have HP2 := Lib.hid hP2
                            clear hI1 hP1 hP2
                            have hne : (e != e) = false := by simp
                            go_wp2_with fail
                            refine (HP1.out _ (Upd.refl _ _)).mono ?_
                            rintro e w5 ⟨rfl, Of5, HB5⟩
                            go_wp2_with fail
                            refine (err_calls e _ ⟨he0, by omega⟩).mono ?_
                            rintro e w' ⟨rfl, rfl⟩
                            go_wp2_with fail
                            refine (HP2.out _ _ HB5.out).mono ?_
                            rintro e w6 ⟨rfl, Od6, HB6⟩
                            go_wp2_with fail
                            go_meet
                            exact ⟨F1, ws1, ps, Of5, Od6, HB6, HI1⟩
                        · as_aux_lemma =>
                            obtain ⟨q4, hq4⟩ : ∃ q4 : Nat, (k2 : Int) % 4 = (q4 : Int) := ⟨k2 % 4, by omega⟩
                            obtain ⟨t9, ht9⟩ : ∃ t9 : Nat, (k2 : Int) % 9 = (t9 : Int) := ⟨k2 % 9, by omega⟩
                            have hwk : IntKind.i64.wrap (k2 : Int) = (k2 : Int) := IntWalk.i64_in _ (by omega)
                            have hq4t : (k2 : Int).tmod 4 = (q4 : Int) := by rw [Int.tmod_eq_emod_of_nonneg (by omega)]; exact hq4
                            have ht9t : (k2 : Int).tmod 9 = (t9 : Int) := by rw [Int.tmod_eq_emod_of_nonneg (by omega)]; exact ht9
                            have hq4b : q4 ≤ 3 := by omega
                            have ht9b : t9 < 9 := by omega
                            have hq4i : (q4 : Int) ≤ 3 := by omega
                            have hq4j : (0 : Int) ≤ (q4 : Int) := by omega
                            have ht9i : (t9 : Int) < 9 := by omega
                            have ht9j : (0 : Int) ≤ (t9 : Int) := by omega
                            obtain ⟨bl, ol, el, dl⟩ := HB.out.cell HI.out.len ht9b
                            simp only [Option.some.injEq, Addr.mk.injEq, and_true] at el
                            obtain ⟨rfl, rfl⟩ := el
                            obtain ⟨y, hy⟩ : ∃ y, l.getD t9 0 = y := ⟨_, rfl⟩
                            rw [hy] at dl
                            have HS2 : Hid (∀ W, Upd [] wr W → W.cell? ⟨bL, oL + t9, none⟩ = some (.int .i64 y) ∧ W.cell? ⟨bA, oA + (i2 + 2), none⟩ = some (.int .u8 k2)) := Lib.hid fun W hu => ⟨dl W hu, (HC0.out _ (HB.out.env.upd.trans hu)).2.2⟩
                            obtain ⟨d1, d2⟩ := HS2.out wr (Upd.refl _ _)
                            have hi2a : ((i2 : Int) + 2) < (n : Int) := by omega
                            have hi2b : (0 : Int) ≤ (i2 : Int) + 2 := by omega
                            have hi2t : ((i2 : Int) + 2).toNat = i2 + 2 := by omega
                            have hi2w : IntKind.i64.wrap ((i2 : Int) + 2) = (i2 : Int) + 2 := IntWalk.i64_in _ (by omega)
                            have HXS : Hid (([z, y, z].take q4).length = q4) := Lib.hid (by rw [List.length_take]; simp; omega)
                            clear dl hy
                            go_upto_region 28 with fail
                            go_region_held3 (fun w' => w'.cell? ⟨bL, oL + t9, none⟩ = some (.int .i64 y) ∧ w'.cell? ⟨bA, oA + (i2 + 2), none⟩ = some (.int .u8 k2)) (first | exact HS2.out _ (Upd.refl _ _) | exact HS2.out _ (Upd.refl [] wr).drew | exact HS2.out _ (((Upd.refl [] wr).drew).alloc _) | exact HS2.out _ ((Upd.refl [] wr).alloc _).drew | exact HS2.out _ ((Upd.refl [] wr).alloc _)) (fail)
                            have HU5 : Hid (Upd [] wr (wr.alloc (.cells #[.int .i64 z, .int .i64 y, .int .i64 z] 3)).drew) := Lib.hid ((Upd.refl [] wr).alloc _).drew
                            have HRD : Hid (ReadsO (wr.alloc (.cells #[.int .i64 z, .int .i64 y, .int .i64 z] 3)).drew (some ⟨wr.heap.size, 0, none⟩) ([z, y, z].take q4) (fun k => Of k ∨ Od k)) := Lib.hid (reads_some HB.out hq4b)
                            have HB5 := Lib.hid (HB.out.upd0 HU5.out)
                            obtain ⟨ws1, ps1, hI1, hP1, hP2⟩ := both_pend HB5.out HI.out (by omega) (some ⟨wr.heap.size, 0, none⟩) ([z, y, z].take q4) q4 3 HXS.out (by omega) HRD.out
                            have HI1 := Lib.hid hI1
                            have HP1 := Lib.hid hP1
                            have HP2 := Lib.hid hP2
                            clear hI1 hP1 hP2 d1 d2
                            go_wp2_with fail
                            refine (HP1.out _ (Upd.refl _ _)).mono ?_
                            rintro e w6 ⟨rfl, Of6, HB6, HR6⟩
                            go_wp2_with fail
                            refine (HP2.out _ _ HB6.out HR6.out).mono ?_
                            rintro e w7 ⟨rfl, Od7, HB7⟩
                            go_wp2_with fail
                            go_meet
                            exact ⟨F, ws1, ps1, Of6, Od7, HB7, HI1⟩
                        · as_aux_lemma =>
                            obtain ⟨q4, hq4⟩ : ∃ q4 : Nat, (k2 : Int) % 4 = (q4 : Int) := ⟨k2 % 4, by omega⟩
                            obtain ⟨t9, ht9⟩ : ∃ t9 : Nat, (k2 : Int) % 9 = (t9 : Int) := ⟨k2 % 9, by omega⟩
                            have hwk : IntKind.i64.wrap (k2 : Int) = (k2 : Int) := IntWalk.i64_in _ (by omega)
                            have hq4t : (k2 : Int).tmod 4 = (q4 : Int) := by rw [Int.tmod_eq_emod_of_nonneg (by omega)]; exact hq4
                            have ht9t : (k2 : Int).tmod 9 = (t9 : Int) := by rw [Int.tmod_eq_emod_of_nonneg (by omega)]; exact ht9
                            have hq4b : q4 ≤ 3 := by omega
                            have ht9b : t9 < 9 := by omega
                            have hq4i : (q4 : Int) ≤ 3 := by omega
                            have hq4j : (0 : Int) ≤ (q4 : Int) := by omega
                            have ht9i : (t9 : Int) < 9 := by omega
                            have ht9j : (0 : Int) ≤ (t9 : Int) := by omega
                            obtain ⟨bl, ol, el, dl⟩ := HB.out.cell HI.out.len ht9b
                            simp only [Option.some.injEq, Addr.mk.injEq, and_true] at el
                            obtain ⟨rfl, rfl⟩ := el
                            obtain ⟨y, hy⟩ : ∃ y, l.getD t9 0 = y := ⟨_, rfl⟩
                            rw [hy] at dl
                            have HS2 : Hid (∀ W, Upd [] wr W → W.cell? ⟨bL, oL + t9, none⟩ = some (.int .i64 y) ∧ W.cell? ⟨bA, oA + (i2 + 2), none⟩ = some (.int .u8 k2)) := Lib.hid fun W hu => ⟨dl W hu, (HC0.out _ (HB.out.env.upd.trans hu)).2.2⟩
                            obtain ⟨d1, d2⟩ := HS2.out wr (Upd.refl _ _)
                            have hi2a : ((i2 : Int) + 2) < (n : Int) := by omega
                            have hi2b : (0 : Int) ≤ (i2 : Int) + 2 := by omega
                            have hi2t : ((i2 : Int) + 2).toNat = i2 + 2 := by omega
                            have hi2w : IntKind.i64.wrap ((i2 : Int) + 2) = (i2 : Int) + 2 := IntWalk.i64_in _ (by omega)
                            have HXS : Hid (([z, y, z].take q4).length = q4) := Lib.hid (by rw [List.length_take]; simp; omega)
                            clear dl hy
                            go_upto_region 28 with fail
                            go_region_held3 (fun w' => w'.cell? ⟨bL, oL + t9, none⟩ = some (.int .i64 y) ∧ w'.cell? ⟨bA, oA + (i2 + 2), none⟩ = some (.int .u8 k2)) (first | exact HS2.out _ (Upd.refl _ _) | exact HS2.out _ (Upd.refl [] wr).drew | exact HS2.out _ (((Upd.refl [] wr).drew).alloc _) | exact HS2.out _ ((Upd.refl [] wr).alloc _).drew | exact HS2.out _ ((Upd.refl [] wr).alloc _)) (fail)
                            have HU5 : Hid (Upd [] wr (wr.alloc (.cells #[.int .i64 z, .int .i64 y, .int .i64 z] 3)).drew) := Lib.hid ((Upd.refl [] wr).alloc _).drew
                            have HRD : Hid (ReadsO (wr.alloc (.cells #[.int .i64 z, .int .i64 y, .int .i64 z] 3)).drew (some ⟨wr.heap.size, 0, none⟩) ([z, y, z].take q4) (fun k => Of k ∨ Od k)) := Lib.hid (reads_some HB.out hq4b)
                            have HB5 := Lib.hid (HB.out.upd0 HU5.out)
                            obtain ⟨ws1, ps1, hI1, hP1, hP2⟩ := both_pend HB5.out HI.out (by omega) (some ⟨wr.heap.size, 0, none⟩) ([z, y, z].take q4) q4 3 HXS.out (by omega) HRD.out
                            have HI1 := Lib.hid hI1
                            have HP1 := Lib.hid hP1
                            have HP2 := Lib.hid hP2
                            clear hI1 hP1 hP2 d1 d2
                            go_wp2_with fail
                            refine (HP1.out _ (Upd.refl _ _)).mono ?_
                            rintro e w6 ⟨rfl, Of6, HB6, HR6⟩
                            go_wp2_with fail
                            refine (HP2.out _ _ HB6.out HR6.out).mono ?_
                            rintro e w7 ⟨rfl, Od7, HB7⟩
                            go_wp2_with fail
                            go_meet
                            exact ⟨F, ws1, ps1, Of6, Od7, HB7, HI1⟩
                        · as_aux_lemma =>
                            obtain ⟨ix, hix⟩ : ∃ ix : Int, (k2 : Int) % 6 - 1 = ix := ⟨_, rfl⟩
                            obtain ⟨x, e, ps1, he0, he5, hI1, hP1, hP2⟩ := both_take HB.out HI.out (by omega) ix
                            have HI1 := Lib.hid hI1
                            have HP1 := Lib.hid hP1
                            have HP2 := Lib.hid hP2
                            have HIX := Lib.hid hix
                            have d2 := (HC0.out _ HB.out.env.upd).2.2
                            have hi2a : ((i2 : Int) + 2) < (n : Int) := by omega
                            have hne : (x != x) = false := by simp
                            have hne2 : (e != e) = false := by simp
                            clear hI1 hP1 hP2 hix
                            go_wp2_with fail
                            rw [HIX.out]
                            refine (HP1.out _ (Upd.refl _ _)).mono ?_
                            rintro e w5 ⟨rfl, Of5, HB5⟩
                            have c2 := (HC0.out _ HB5.out.env.upd).2.2
                            go_wp2_with fail
                            rw [HIX.out]
                            refine (HP2.out _ _ HB5.out).mono ?_
                            rintro e w6 ⟨rfl, Od6, HB6⟩
                            have HB6A := Lib.hid (HB6.out.upd0 ((Upd.refl [] w6).alloc (.cells #[.int .i64 x, .int .i64 e] 34)))
                            clear c2
                            go_upto_region 20 with fail
                            go_quiet ((go_at_call 9; exact Calls.quiet_of_same ((err_calls e _ ⟨he0, by omega⟩).mono fun e w' h => ⟨h.1, h.2.symm⟩)))
                            have HB7 := Lib.hid (HB6A.out.upd0 ((Upd.refl [] _).drewN nq))
                            go_wp2_with fail
                            go_meet
                            exact ⟨F, ws, ps1, Of5, Od6, HB7, HI1⟩
                      case rest =>
                        clear HB HI
                        as_aux_lemma =>
                          obtain ⟨F, ws, ps, Of, Od, HB, HI⟩ := hcut
                          obtain ⟨n1, n2, A1, A2, c1, c2, hr0, hr1, hr2, hr3, hr4⟩ := fb_rows HB.out HI.out (by omega)
                          have HR0 := Lib.hid hr0
                          have HR1 := Lib.hid hr1
                          have HR2 := Lib.hid hr2
                          have HR3 := Lib.hid hr3
                          have HR4 := Lib.hid hr4
                          obtain ⟨d0, d1⟩ := hr0 wc (Upd.refl _ _)
                          obtain ⟨d2, d3⟩ := hr0 wc.drew (Upd.refl [] wc).drew
                          clear hr0 hr1 hr2 hr3 hr4
                          go_upto_region 31 with fail
                          go_region_held3 (fun w' => w'.cell? ⟨g, 1, none⟩ = some (.slice A1 n1 c1) ∧ w'.cell? ⟨g, 2, none⟩ = some (.slice A2 n2 c2)) (first | exact ⟨d0, d1⟩ | exact ⟨d2, d3⟩ | exact e2 | exact e3 | exact e4 | exact e5)
                            (first
                              | (go_at_call 17
                                 first
                                   | refine (HR1.out wc (Upd.refl _ _)).mono ?_
                                   | refine (HR1.out wc.drew (Upd.refl [] wc).drew).mono ?_
                                 rintro e w2 ⟨v2, m2, rfl, ho2, hu2⟩
                                 have HU2 : Hid (Upd [] wc w2) := Lib.hid (by first | exact hu2 | exact ((Upd.refl [] wc).drew).trans hu2)
                                 have HO2 := Lib.hid ho2
                                 have e2 := HR0.out w2 HU2.out
                                 clear ho2 hu2)
                              | (go_at_call 18
                                 refine (HR3.out w3 HU3.out).mono ?_
                                 rintro e w4 ⟨v4, m4, rfl, ho4, hu4⟩
                                 have HU4 : Hid (Upd [] wc w4) := Lib.hid (HU3.out.trans hu4)
                                 have HO4 := Lib.hid ho4
                                 have e4 := HR0.out w4 HU4.out
                                 clear ho4 hu4)
                              | (go_at_call 16
                                 refine (HR4.out w4 v4 m4 HU4.out HO4.out).mono ?_
                                 rintro e w5 ⟨rfl, hu5⟩
                                 have HU5 : Hid (Upd [] wc w5) := Lib.hid (HU4.out.trans hu5)
                                 have e5 := HR0.out w5 HU5.out
                                 clear hu5)
                              | (go_at_call 16
                                 refine (HR2.out w2 v2 m2 HU2.out HO2.out).mono ?_
                                 rintro e w3 ⟨rfl, hu3⟩
                                 have HU3 : Hid (Upd [] wc w3) := Lib.hid (HU2.out.trans hu3)
                                 have e3 := HR0.out w3 HU3.out
                                 clear hu3))
                          all_goals
                            have HB5 := Lib.hid (HB.out.upd0 HU5.out)
                            go_wp2_with fail
                            go_roundg (123 - (i2 + 3))
                            case measure => omega
                            case rel => exact ⟨i2 + 3, F, ws, ps, Of, Od, rfl, by omega, by go_num, HB5, Lib.hid (HI.out.mono (by omega))⟩
          · obtain rfl | rfl | rfl : i2 = 120 ∨ i2 = 121 ∨ i2 = 122 := by omega
            all_goals as_aux_lemma =>
              go_wp2_with fail
              go_meet
              exact ⟨F, ws, ps, Of, Od, HB⟩
        · as_aux_lemma =>
            go_wp2_with fail
            go_meet
            exact ⟨F, ws, ps, Of, Od, HB⟩
    case rest =>
      clear HB2 HI0
      as_aux_lemma =>
        obtain ⟨F, ws, ps, Of, Od, HB⟩ := hcut
        obtain ⟨hc0, h1, h2, h3⟩ := fb_end HB.out
        have HC0 := Lib.hid hc0
        have H1 := Lib.hid h1
        have H2 := Lib.hid h2
        have H3 := Lib.hid h3
        have d0 := hc0 wc (Upd.refl _ _)
        have d1 := hc0 wc.drew (Upd.refl [] wc).drew
        have HBW : Hid (Upd [] w wc) := Lib.hid HB.out.env.upd
        clear hc0 h1 h2 h3 HB
        go_upto_region 33 with fail
        go_region_held3 (fun w' => w'.cell? ⟨g, 0, none⟩ = some (.pointer (some ⟨m, 0, none⟩))) (first | exact d0 | exact d1 | exact e2 | exact e3 | exact e4 | exact e5)
          (first
            | (go_at_call 20
               first
                 | refine (H1.out wc (Upd.refl _ _)).mono ?_
                 | refine (H1.out wc.drew (Upd.refl [] wc).drew).mono ?_
                 | refine (H1.out w3 HU3.out).mono ?_
               rintro e w2 ⟨v2, rfl, ho2, hu2⟩
               have HU2 : Hid (Upd [] wc w2) := Lib.hid (by first | exact hu2 | exact ((Upd.refl [] wc).drew).trans hu2 | exact HU3.out.trans hu2)
               have HO2 := Lib.hid ho2
               have HS2 := Lib.hid hu2
               have e2 := HC0.out w2 HU2.out
               clear ho2 hu2)
            | (go_at_call 21
               first
                 | refine (H2.out wc (Upd.refl _ _)).mono ?_
                 | refine (H2.out wc.drew (Upd.refl [] wc).drew).mono ?_
                 | refine (H2.out w2 HU2.out).mono ?_
               rintro e w3 ⟨v3, rfl, ho3, hu3⟩
               have HU3 : Hid (Upd [] wc w3) := Lib.hid (by first | exact hu3 | exact ((Upd.refl [] wc).drew).trans hu3 | exact HU2.out.trans hu3)
               have HO3 := Lib.hid ho3
               have HS3 := Lib.hid hu3
               have e3 := HC0.out w3 HU3.out
               clear ho3 hu3)
            | (go_at_call 19
               first
                 | refine (H3.out w2 v2 v3 HO2.out (HO3.out.upd0 HS2.out)).mono ?_
                 | refine (H3.out w3 v2 v3 (HO2.out.upd0 HS3.out) HO3.out).mono ?_
               rintro e w4 ⟨rfl, hu4⟩
               have HU4 : Hid (Upd [] wc w4) := Lib.hid (by first | exact HU2.out.trans hu4 | exact HU3.out.trans hu4)
               have e4 := HC0.out w4 HU4.out
               clear hu4)
            | (go_at_call 22
               refine (awake15 w4).mono ?_
               rintro e w5 ⟨rfl, hu5⟩
               have HU5 : Hid (Upd [] wc w5) := Lib.hid (HU4.out.trans hu5)
               have e5 := HC0.out w5 HU5.out
               clear hu5))
        all_goals
          go_wp2_with fail
          go_ret
          exact ⟨rfl, (HBW.out.trans HU5.out).below⟩
end Go.Proofs.YtpkbdmieelgdlaaGreat
