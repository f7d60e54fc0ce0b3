/- The walk of QueueRuns: at every two lists of numbers the law returns true, and nothing that was there has turned. -/
import Derived.Test.YtpkbdmieelgdlaaGreatQR0
import Derived.Deep.CutBlock
import Derived.Deep.DeepCutAuto
import Derived.Deep.LoopGhost
import Derived.Deep.QuietTactic
import Derived.BigQuiet
import Derived.Deep.RegionHeld3
namespace Go.Proofs.YtpkbdmieelgdlaaGreat
open Go Go.RowKit

set_option maxRecDepth 100000 in
set_option maxHeartbeats 12800000 in
theorem qruns_walk (A B : Option Addr) (c c1 n n1 : Nat) (ns odd : List Int) (w : World) (hn : ns.length = n) (hn1 : odd.length = n1) (hR : Reads w .u8 A ns) (hR1 : Reads w .i64 B odd) (hb : ∀ x ∈ ns, 0 ≤ x ∧ x ≤ 255) (hl : n ≤ 9223372036854775807) (_hl1 : n1 ≤ 9223372036854775807) :
    Calls Tryz.prog 4 #[.slice A n c, .slice B n1 c1] w fun e w' => e = .returned (.bool true) ∧ Below w.heap.size w w' := by
  have HR := Lib.hid hR
  have HR1 := Lib.hid hR1
  have HBY := Lib.hid hb
  have HN := Lib.hid hn
  have HN1 := Lib.hid hn1
  clear hR hR1 hb hn hn1
  go_enter Tryz.func4, Tryz.ntmps4
  go_wp2_with fail
  refine (heap12 12 _ (by omega)).mono ?_
  rintro e w1 ⟨h, lv, O1, rfl, hh, ho, he, hlen⟩
  have HH := Lib.hid hh
  have HO := Lib.hid ho
  have HE := Lib.hid he
  obtain ⟨AL, cL, hlv, _, _⟩ := ho.own.form
  rw [mkR_len] at hlv
  subst hlv
  clear hh ho he hlen
  go_wp2_with fail
  refine (queue_new h _ _ HH.out).mono ?_
  rintro e w2 ⟨q, Oq, rfl, hq, hs⟩
  have HQ := Lib.hid hq
  have HS := Lib.hid hs
  clear hq hs
  go_wp2_with fail
  refine (model12 12 _ (by omega)).mono ?_
  rintro e w3 ⟨m, Om, rfl, hm, hem⟩
  obtain ⟨Od, hB⟩ := qb_start HE.out HO.out HQ.out HS.out hm hem
  have HB0 := Lib.hid hB
  have HI0 := Lib.hid (qi_start HH.out)
  obtain ⟨r, hr⟩ : ∃ r, w3.heap.size = r := ⟨_, rfl⟩
  clear hm hem hB HE HO HQ HS HH
  go_upto_block 0 with fail
  obtain ⟨w4, hw4⟩ : ∃ w4, w3.alloc (.cells #[.pointer (some ⟨m, 0, none⟩), .slice none 0 0, .int .i64 0] 61) = w4 := ⟨_, rfl⟩
  have HB1 : Hid (QB w w4 h q r m (mkR 12).1 (mkR 12).2.1 (mkR 12).2.2 [] (mkR 12).2.2 [] Oq Od (.slice AL 12 cL) (.slice none 0 0) []) := by rw [← hw4, ← hr]; exact HB0
  obtain ⟨pg, hpg⟩ : ∃ pg, (mkR 12).1 = pg := ⟨_, rfl⟩
  obtain ⟨l, hl2⟩ : ∃ l, (mkR 12).2.1 = l := ⟨_, rfl⟩
  obtain ⟨F0, hF0⟩ : ∃ F0, (mkR 12).2.2 = F0 := ⟨_, rfl⟩
  rw [hpg, hl2, hF0] at HB1
  rw [hl2, hF0] at HI0
  rw [hw4]
  clear HB0 hpg hl2 hF0 hw4 hr
  go_cut [9, 10, 11, 12, 13, 14, 16, 17, 18, 20, 21, 22, 23, 24] (fun _ _ _ _ _ _ _ _ _ _ _ _ _ _ wx => ∃ F rows Oq Od iv ins, Hid (QB w wx h q r m pg l F rows F rows Oq Od (.slice AL 12 cL) iv ins) ∧ Hid (QI l F rows ins))
  case first =>
    go_wp2_with fail
    go_loopg [9, 10] 122 (fun gk iv i wr => ∃ (i2 : Nat) (IA : Option Addr) (ni ci : Nat) (F : Int → Ob) (rows : List (List Int)) (Oq Od : Nat → Prop) (ins : List Int), gk = 122 - i2 ∧ i2 ≤ 121 ∧ i = .int .i64 i2 ∧ iv = .slice IA ni ci ∧ Hid (ins.length = ni) ∧ Hid (QB w wr h q r m pg l F rows F rows Oq Od (.slice AL 12 cL) (.slice IA ni ci) ins) ∧ Hid (QI l F rows ins) ∧ Hid (ins.length ≤ i2))
    case atStart => exact ⟨0, none, 0, 0, F0, [], Oq, Od, [], rfl, by omega, rfl, rfl, Lib.hid rfl, HB1, HI0, Lib.hid (by simp)⟩
    case round =>
      clear HB1 HI0
      obtain ⟨i2, IA, ni, ci, F, rows, Oq, Od, ins, rfl, hi2, rfl, rfl, HNI, HB, HI, HL⟩ := hrel
      by_cases hlt : i2 + 1 < n
      · by_cases h60 : i2 < 120
        · obtain ⟨bA, oA, rfl, hbA, c0⟩ := Reads.at HR.out HN.out (show i2 < n by omega)
          obtain ⟨k0, hk0, k0b⟩ := getD_bytes HBY.out (i := i2) (by rw [HN.out]; omega)
          obtain ⟨k1, hk1, k1b⟩ := getD_bytes HBY.out (i := i2 + 1) (by rw [HN.out]; omega)
          obtain ⟨_, _, e, _, c1⟩ := Reads.at HR.out HN.out hlt
          cases e
          rw [hk0] at c0
          rw [hk1] at c1
          have HC0 : Hid (∀ W, Upd [] w W → W.cell? ⟨bA, oA + i2, none⟩ = some (.int .u8 k0) ∧ W.cell? ⟨bA, oA + (i2 + 1), none⟩ = some (.int .u8 k1)) := Lib.hid fun W hu => ⟨(hu.cell (p := ⟨bA, oA + i2, none⟩) hbA (by simp)).trans c0, (hu.cell (p := ⟨bA, oA + (i2 + 1), none⟩) hbA (by simp)).trans c1⟩
          clear c0 c1 hk0 hk1
          obtain ⟨c0, c1⟩ := HC0.out _ HB.out.env.upd
          obtain ⟨k, hk⟩ : ∃ k : Nat, (k0 : Int) / 8 % 5 = (k : Int) := ⟨k0 / 8 % 5, by omega⟩
          obtain ⟨t, ht⟩ : ∃ t : Nat, (k1 : Int) % 12 = (t : Int) := ⟨k1 % 12, by omega⟩
          have htl : t < 12 := by omega
          have hk5 : k < 5 := by omega
          obtain ⟨sw, hsw⟩ : ∃ sw : Int, (k0 : Int) % 8 = sw := ⟨_, rfl⟩
          have hs : sw = 0 ∨ sw = 1 ∨ sw = 2 ∨ sw = 3 ∨ sw = 4 ∨ sw = 5 ∨ sw = 6 ∨ sw = 7 := by omega
          have HS := Lib.hid hs
          clear hs
          have d1 : ∃ b o, AL = some ⟨b, o, none⟩ ∧ wr.cell? ⟨b, o + t, none⟩ = some (.int .i64 (l.getD t 0)) := by
            obtain ⟨al, cl', eL, hIL, -⟩ := HB.out.lst.own.form
            simp only [Value.slice.injEq] at eL
            obtain ⟨rfl, -, -⟩ := eL
            obtain ⟨b, o, e, -, c⟩ := Reads.at hIL HI.out.len htl
            exact ⟨b, o, e, c⟩
          obtain ⟨bL, oL, rfl, d1⟩ := d1
          obtain ⟨hh, hhh⟩ : ∃ hh : Nat, (i2 : Int) / 2 = (hh : Int) := ⟨i2 / 2, by omega⟩
          have hhl : hh ≤ 60 := by omega
          as_aux_lemma =>
            have HO : Hid (∀ W, hh < n1 → Upd [] w W → ∃ b o x, B = some ⟨b, o, none⟩ ∧ W.cell? ⟨b, o + hh, none⟩ = some (.int .i64 x)) := Lib.hid fun W hlt2 hu => by
              obtain ⟨b, o, e, hb, c⟩ := Reads.at HR1.out HN1.out hlt2
              exact ⟨b, o, _, e, (hu.cell (p := ⟨b, o + hh, none⟩) hb (by simp)).trans c⟩
            go_upto_region 12 with fail
            rw [hk]
            go_cut [80] (fun v wx => wx = wr ∧ ∃ b, v = .bool b ∧ Hid (b = true → hh < n1))
            case first =>
              by_cases hm : hh < n1
              · go_wp2_with fail
                go_meet
                exact ⟨rfl, _, rfl, Lib.hid fun _ => hm⟩
              · go_wp2_with fail
                go_meet
                exact ⟨rfl, _, rfl, Lib.hid fun h => by simp at h⟩
            case rest =>
              obtain ⟨rfl, bb, rfl, HBB⟩ := hcut
              as_aux_lemma =>
                go_upto_if 80 with fail
                go_cut [12] (fun v wx => wx = wc ∧ ∃ z, v = .int .i64 z)
                case first =>
                  cases bb with
                  | true =>
                    have hm := HBB.out rfl
                    obtain ⟨bB, oB, x, rfl, d2⟩ := HO.out wc hm HB.out.env.upd
                    go_wp2_with fail
                    go_meet
                    exact ⟨rfl, _, rfl⟩
                  | false =>
                    go_wp2_with fail
                    go_meet
                    exact ⟨rfl, _, rfl⟩
                case rest =>
                  obtain ⟨rfl, z, rfl⟩ := hcut
                  obtain ⟨wr, rfl⟩ : ∃ wr : World, wr = wc := ⟨_, rfl⟩
                  as_aux_lemma =>
                    clear HO HBB d1
                    have HINS : Hid (IsInts wr IA ins) := Lib.hid (by
                      obtain ⟨al, cl', eL, hIL, -⟩ := HB.out.inl.own.form
                      simp only [Value.slice.injEq] at eL
                      obtain ⟨rfl, -, -⟩ := eL
                      exact hIL)
                    go_upto_block 2 with fail
                    rw [hsw]
                    clear hsw c0
                    go_cut [9] (fun v wx => ∃ (IA : Option Addr) (ni ci : Nat) (F : Int → Ob) (rows : List (List Int)) (Oq Od : Nat → Prop) (ins : List Int), v = .slice IA ni ci ∧ Hid (ins.length = ni) ∧ Hid (QB w wx h q r m pg l F rows F rows Oq Od (.slice (some ⟨bL, oL, none⟩) 12 cL) (.slice IA ni ci) ins) ∧ Hid (QI l F rows ins) ∧ Hid (ins.length ≤ i2 + 1))
                    case first =>
                      rcases HS.out with rfl | rfl | rfl | rfl | rfl | rfl | rfl | rfl
                      · as_aux_lemma =>
                          obtain ⟨x, e, rows', he0, he3, hI', hO1, hO2⟩ := both_open HB.out HI.out
                          have HI2 := Lib.hid hI'
                          have HO1 := Lib.hid hO1
                          have HO2 := Lib.hid hO2
                          clear hI' hO1 hO2
                          go_wp2_with fail
                          refine (HO1.out _ (Upd.refl _ _)).mono ?_
                          rintro e w5 ⟨rfl, Oq5, HB5⟩
                          go_wp2_with fail
                          refine (HO2.out _ _ HB5.out).mono ?_
                          rintro e w6 ⟨rfl, Od6, HB6⟩
                          have hne : (x != x) = false := by simp
                          have hne2 : (e != e) = false := by simp
                          go_upto_region 30 with fail
                          go_quiet ((go_at_call 9; exact Calls.quiet_of_same ((err_calls e _ ⟨he0, by omega⟩).mono fun e w' h => ⟨h.1, h.2.symm⟩)))
                          have HB7 := Lib.hid (HB6.out.upd0 (((Upd.refl [] w6).alloc (.cells #[.int .i64 x, .int .i64 e] 34)).drewN nq))
                          go_wp2_with fail
                          go_meet
                          exact ⟨IA, ni, ci, F, rows', Oq5, Od6, ins, rfl, HNI, HB7, HI2, Lib.hid (by have := HL.out; omega)⟩
                      · as_aux_lemma =>
                          obtain ⟨x, e, rows', he0, he3, hI', hO1, hO2⟩ := both_open HB.out HI.out
                          have HI2 := Lib.hid hI'
                          have HO1 := Lib.hid hO1
                          have HO2 := Lib.hid hO2
                          clear hI' hO1 hO2
                          go_wp2_with fail
                          refine (HO1.out _ (Upd.refl _ _)).mono ?_
                          rintro e w5 ⟨rfl, Oq5, HB5⟩
                          go_wp2_with fail
                          refine (HO2.out _ _ HB5.out).mono ?_
                          rintro e w6 ⟨rfl, Od6, HB6⟩
                          have hne : (x != x) = false := by simp
                          have hne2 : (e != e) = false := by simp
                          go_upto_region 30 with fail
                          go_quiet ((go_at_call 9; exact Calls.quiet_of_same ((err_calls e _ ⟨he0, by omega⟩).mono fun e w' h => ⟨h.1, h.2.symm⟩)))
                          have HB7 := Lib.hid (HB6.out.upd0 (((Upd.refl [] w6).alloc (.cells #[.int .i64 x, .int .i64 e] 34)).drewN nq))
                          go_wp2_with fail
                          go_meet
                          exact ⟨IA, ni, ci, F, rows', Oq5, Od6, ins, rfl, HNI, HB7, HI2, Lib.hid (by have := HL.out; omega)⟩
                      · as_aux_lemma =>
                          by_cases hin : z ∈ ins
                          · have hq := in_walk IA ins ci z wr HINS.out (by have := HI.out.few; omega)
                            rw [HNI.out, decide_eq_true hin] at hq
                            have HQ := Lib.hid hq
                            clear hq hin
                            go_wp2_with fail
                            refine (HQ.out).mono ?_
                            rintro e w5 ⟨rfl, rfl⟩
                            go_wp2_with fail
                            go_roundg (122 - (i2 + 2))
                            case measure => omega
                            case rel => exact ⟨i2 + 2, IA, ni, ci, F, rows, Oq, Od, ins, rfl, by omega, by go_num, rfl, HNI, HB, HI, Lib.hid (by have := HL.out; omega)⟩
                          · have hq := in_walk IA ins ci z wr HINS.out (by have := HI.out.few; omega)
                            rw [HNI.out, decide_eq_false hin] at hq
                            have HQ := Lib.hid hq
                            obtain ⟨e, F1, rows1, he0, he5, hI1, hI2, hP1, hP2⟩ := both_push HB.out HI.out k z hin (by have := HL.out; omega)
                            have HI1 := Lib.hid hI1
                            have HI2 := Lib.hid hI2
                            have HP1 := Lib.hid hP1
                            have HP2 := Lib.hid hP2
                            clear hq hin hI1 hI2 hP1 hP2
                            go_wp2_with fail
                            refine (HQ.out).mono ?_
                            rintro e w4 ⟨rfl, rfl⟩
                            go_wp2_with fail
                            refine (HP1.out _ (Upd.refl _ _)).mono ?_
                            rintro e w5 ⟨rfl, Od5, HB5⟩
                            go_wp2_with fail
                            refine (HP2.out _ _ HB5.out).mono ?_
                            rintro e w6 ⟨rfl, Oq6, HB6⟩
                            have HNL : Hid (ins.length ≤ 1000) := Lib.hid (by have := HL.out; omega)
                            have HSZ : Hid (w.heap.size ≤ w6.heap.size) := Lib.hid HB6.out.env.upd.size
                            have HOW : Hid (∀ k, (Oq6 k ∨ Od5 k) → k < w6.heap.size) := Lib.hid fun k hk => by
                              rcases hk with hk | hk
                              · exact HB6.out.que.owned hk
                              · exact HB6.out.doc.owned hk
                            have HB6A := Lib.hid (HB6.out.upd0 ((Upd.refl [] w6).alloc (.cells #[.int .i64 z] 3)))
                            go_wp2_with fail
                            refine (err_calls e _ ⟨he0, by omega⟩).mono ?_
                            rintro e w' ⟨rfl, rfl⟩
                            by_cases he : e = 0
                            · subst he
                              go_wp2_with (at_builtin; refine wpList_pushO rfl _ _ rfl w.heap.size _ ins (fun k => Oq6 k ∨ Od5 k) rfl (HB6A.out.inl) w6.heap.size z rfl (Blk.new _ _ _) (by have := HNL.out; omega) (by have := HSZ.out; simp; omega) (fun k hk => by have := HOW.out k hk; simp; omega) ?_)
                              intro v7 w7 E7 ho7 hE7 hu7 h7
                              have HB7 := Lib.hid (HB6A.out.grow ho7 hE7 hu7 (by simpa using h7))
                              obtain ⟨IA7, ci7, hv7, -, -⟩ := ho7.own.form
                              obtain ⟨n7, hn7⟩ : ∃ n7, (ins ++ [z]).length = n7 := ⟨_, rfl⟩
                              rw [hn7] at hv7
                              subst hv7
                              have HN7 := Lib.hid hn7
                              clear ho7 hE7 hu7 h7 hn7
                              go_wp2_with fail
                              go_meet
                              exact ⟨IA7, n7, ci7, F1, rows1, Oq6, Od5, ins ++ [z], rfl, HN7, HB7, Lib.hid (HI1.out (by trivial)), Lib.hid (by have := HL.out; simp; omega)⟩
                            · go_wp2_with fail
                              go_meet
                              exact ⟨IA, ni, ci, F1, rows1, Oq6, Od5, ins, rfl, HNI, HB6, Lib.hid (HI2.out he), Lib.hid (by have := HL.out; omega)⟩
                      · as_aux_lemma =>
                          by_cases hin : z ∈ ins
                          · have hq := in_walk IA ins ci z wr HINS.out (by have := HI.out.few; omega)
                            rw [HNI.out, decide_eq_true hin] at hq
                            have HQ := Lib.hid hq
                            clear hq hin
                            go_wp2_with fail
                            refine (HQ.out).mono ?_
                            rintro e w5 ⟨rfl, rfl⟩
                            go_wp2_with fail
                            go_roundg (122 - (i2 + 2))
                            case measure => omega
                            case rel => exact ⟨i2 + 2, IA, ni, ci, F, rows, Oq, Od, ins, rfl, by omega, by go_num, rfl, HNI, HB, HI, Lib.hid (by have := HL.out; omega)⟩
                          · have hq := in_walk IA ins ci z wr HINS.out (by have := HI.out.few; omega)
                            rw [HNI.out, decide_eq_false hin] at hq
                            have HQ := Lib.hid hq
                            obtain ⟨e, F1, rows1, he0, he5, hI1, hI2, hP1, hP2⟩ := both_push HB.out HI.out k z hin (by have := HL.out; omega)
                            have HI1 := Lib.hid hI1
                            have HI2 := Lib.hid hI2
                            have HP1 := Lib.hid hP1
                            have HP2 := Lib.hid hP2
                            clear hq hin hI1 hI2 hP1 hP2
                            go_wp2_with fail
                            refine (HQ.out).mono ?_
                            rintro e w4 ⟨rfl, rfl⟩
                            go_wp2_with fail
                            refine (HP1.out _ (Upd.refl _ _)).mono ?_
                            rintro e w5 ⟨rfl, Od5, HB5⟩
                            go_wp2_with fail
                            refine (HP2.out _ _ HB5.out).mono ?_
                            rintro e w6 ⟨rfl, Oq6, HB6⟩
                            have HNL : Hid (ins.length ≤ 1000) := Lib.hid (by have := HL.out; omega)
                            have HSZ : Hid (w.heap.size ≤ w6.heap.size) := Lib.hid HB6.out.env.upd.size
                            have HOW : Hid (∀ k, (Oq6 k ∨ Od5 k) → k < w6.heap.size) := Lib.hid fun k hk => by
                              rcases hk with hk | hk
                              · exact HB6.out.que.owned hk
                              · exact HB6.out.doc.owned hk
                            have HB6A := Lib.hid (HB6.out.upd0 ((Upd.refl [] w6).alloc (.cells #[.int .i64 z] 3)))
                            go_wp2_with fail
                            refine (err_calls e _ ⟨he0, by omega⟩).mono ?_
                            rintro e w' ⟨rfl, rfl⟩
                            by_cases he : e = 0
                            · subst he
                              go_wp2_with (at_builtin; refine wpList_pushO rfl _ _ rfl w.heap.size _ ins (fun k => Oq6 k ∨ Od5 k) rfl (HB6A.out.inl) w6.heap.size z rfl (Blk.new _ _ _) (by have := HNL.out; omega) (by have := HSZ.out; simp; omega) (fun k hk => by have := HOW.out k hk; simp; omega) ?_)
                              intro v7 w7 E7 ho7 hE7 hu7 h7
                              have HB7 := Lib.hid (HB6A.out.grow ho7 hE7 hu7 (by simpa using h7))
                              obtain ⟨IA7, ci7, hv7, -, -⟩ := ho7.own.form
                              obtain ⟨n7, hn7⟩ : ∃ n7, (ins ++ [z]).length = n7 := ⟨_, rfl⟩
                              rw [hn7] at hv7
                              subst hv7
                              have HN7 := Lib.hid hn7
                              clear ho7 hE7 hu7 h7 hn7
                              go_wp2_with fail
                              go_meet
                              exact ⟨IA7, n7, ci7, F1, rows1, Oq6, Od5, ins ++ [z], rfl, HN7, HB7, Lib.hid (HI1.out (by trivial)), Lib.hid (by have := HL.out; simp; omega)⟩
                            · go_wp2_with fail
                              go_meet
                              exact ⟨IA, ni, ci, F1, rows1, Oq6, Od5, ins, rfl, HNI, HB6, Lib.hid (HI2.out he), Lib.hid (by have := HL.out; omega)⟩
                      · as_aux_lemma =>
                          by_cases hin : z ∈ ins
                          · have hq := in_walk IA ins ci z wr HINS.out (by have := HI.out.few; omega)
                            rw [HNI.out, decide_eq_true hin] at hq
                            have HQ := Lib.hid hq
                            clear hq hin
                            go_wp2_with fail
                            refine (HQ.out).mono ?_
                            rintro e w5 ⟨rfl, rfl⟩
                            go_wp2_with fail
                            go_roundg (122 - (i2 + 2))
                            case measure => omega
                            case rel => exact ⟨i2 + 2, IA, ni, ci, F, rows, Oq, Od, ins, rfl, by omega, by go_num, rfl, HNI, HB, HI, Lib.hid (by have := HL.out; omega)⟩
                          · have hq := in_walk IA ins ci z wr HINS.out (by have := HI.out.few; omega)
                            rw [HNI.out, decide_eq_false hin] at hq
                            have HQ := Lib.hid hq
                            obtain ⟨e, F1, rows1, he0, he5, hI1, hI2, hP1, hP2⟩ := both_push HB.out HI.out k z hin (by have := HL.out; omega)
                            have HI1 := Lib.hid hI1
                            have HI2 := Lib.hid hI2
                            have HP1 := Lib.hid hP1
                            have HP2 := Lib.hid hP2
                            clear hq hin hI1 hI2 hP1 hP2
                            go_wp2_with fail
                            refine (HQ.out).mono ?_
                            rintro e w4 ⟨rfl, rfl⟩
                            go_wp2_with fail
                            refine (HP1.out _ (Upd.refl _ _)).mono ?_
                            rintro e w5 ⟨rfl, Od5, HB5⟩
                            go_wp2_with fail
                            refine (HP2.out _ _ HB5.out).mono ?_
                            rintro e w6 ⟨rfl, Oq6, HB6⟩
                            have HNL : Hid (ins.length ≤ 1000) := Lib.hid (by have := HL.out; omega)
                            have HSZ : Hid (w.heap.size ≤ w6.heap.size) := Lib.hid HB6.out.env.upd.size
                            have HOW : Hid (∀ k, (Oq6 k ∨ Od5 k) → k < w6.heap.size) := Lib.hid fun k hk => by
                              rcases hk with hk | hk
                              · exact HB6.out.que.owned hk
                              · exact HB6.out.doc.owned hk
                            have HB6A := Lib.hid (HB6.out.upd0 ((Upd.refl [] w6).alloc (.cells #[.int .i64 z] 3)))
                            go_wp2_with fail
                            refine (err_calls e _ ⟨he0, by omega⟩).mono ?_
                            rintro e w' ⟨rfl, rfl⟩
                            by_cases he : e = 0
                            · subst he
                              go_wp2_with (at_builtin; refine wpList_pushO rfl _ _ rfl w.heap.size _ ins (fun k => Oq6 k ∨ Od5 k) rfl (HB6A.out.inl) w6.heap.size z rfl (Blk.new _ _ _) (by have := HNL.out; omega) (by have := HSZ.out; simp; omega) (fun k hk => by have := HOW.out k hk; simp; omega) ?_)
                              intro v7 w7 E7 ho7 hE7 hu7 h7
                              have HB7 := Lib.hid (HB6A.out.grow ho7 hE7 hu7 (by simpa using h7))
                              obtain ⟨IA7, ci7, hv7, -, -⟩ := ho7.own.form
                              obtain ⟨n7, hn7⟩ : ∃ n7, (ins ++ [z]).length = n7 := ⟨_, rfl⟩
                              rw [hn7] at hv7
                              subst hv7
                              have HN7 := Lib.hid hn7
                              clear ho7 hE7 hu7 h7 hn7
                              go_wp2_with fail
                              go_meet
                              exact ⟨IA7, n7, ci7, F1, rows1, Oq6, Od5, ins ++ [z], rfl, HN7, HB7, Lib.hid (HI1.out (by trivial)), Lib.hid (by have := HL.out; simp; omega)⟩
                            · go_wp2_with fail
                              go_meet
                              exact ⟨IA, ni, ci, F1, rows1, Oq6, Od5, ins, rfl, HNI, HB6, Lib.hid (HI2.out he), Lib.hid (by have := HL.out; omega)⟩
                      · as_aux_lemma =>
                          by_cases hin : z ∈ ins
                          · have hq := in_walk IA ins ci z wr HINS.out (by have := HI.out.few; omega)
                            rw [HNI.out, decide_eq_true hin] at hq
                            have HQ := Lib.hid hq
                            clear hq hin
                            go_wp2_with fail
                            refine (HQ.out).mono ?_
                            rintro e w5 ⟨rfl, rfl⟩
                            go_wp2_with fail
                            go_roundg (122 - (i2 + 2))
                            case measure => omega
                            case rel => exact ⟨i2 + 2, IA, ni, ci, F, rows, Oq, Od, ins, rfl, by omega, by go_num, rfl, HNI, HB, HI, Lib.hid (by have := HL.out; omega)⟩
                          · have hq := in_walk IA ins ci z wr HINS.out (by have := HI.out.few; omega)
                            rw [HNI.out, decide_eq_false hin] at hq
                            have HQ := Lib.hid hq
                            obtain ⟨e, F1, rows1, he0, he5, hI1, hI2, hP1, hP2⟩ := both_push HB.out HI.out k z hin (by have := HL.out; omega)
                            have HI1 := Lib.hid hI1
                            have HI2 := Lib.hid hI2
                            have HP1 := Lib.hid hP1
                            have HP2 := Lib.hid hP2
                            clear hq hin hI1 hI2 hP1 hP2
                            go_wp2_with fail
                            refine (HQ.out).mono ?_
                            rintro e w4 ⟨rfl, rfl⟩
                            go_wp2_with fail
                            refine (HP1.out _ (Upd.refl _ _)).mono ?_
                            rintro e w5 ⟨rfl, Od5, HB5⟩
                            go_wp2_with fail
                            refine (HP2.out _ _ HB5.out).mono ?_
                            rintro e w6 ⟨rfl, Oq6, HB6⟩
                            have HNL : Hid (ins.length ≤ 1000) := Lib.hid (by have := HL.out; omega)
                            have HSZ : Hid (w.heap.size ≤ w6.heap.size) := Lib.hid HB6.out.env.upd.size
                            have HOW : Hid (∀ k, (Oq6 k ∨ Od5 k) → k < w6.heap.size) := Lib.hid fun k hk => by
                              rcases hk with hk | hk
                              · exact HB6.out.que.owned hk
                              · exact HB6.out.doc.owned hk
                            have HB6A := Lib.hid (HB6.out.upd0 ((Upd.refl [] w6).alloc (.cells #[.int .i64 z] 3)))
                            go_wp2_with fail
                            refine (err_calls e _ ⟨he0, by omega⟩).mono ?_
                            rintro e w' ⟨rfl, rfl⟩
                            by_cases he : e = 0
                            · subst he
                              go_wp2_with (at_builtin; refine wpList_pushO rfl _ _ rfl w.heap.size _ ins (fun k => Oq6 k ∨ Od5 k) rfl (HB6A.out.inl) w6.heap.size z rfl (Blk.new _ _ _) (by have := HNL.out; omega) (by have := HSZ.out; simp; omega) (fun k hk => by have := HOW.out k hk; simp; omega) ?_)
                              intro v7 w7 E7 ho7 hE7 hu7 h7
                              have HB7 := Lib.hid (HB6A.out.grow ho7 hE7 hu7 (by simpa using h7))
                              obtain ⟨IA7, ci7, hv7, -, -⟩ := ho7.own.form
                              obtain ⟨n7, hn7⟩ : ∃ n7, (ins ++ [z]).length = n7 := ⟨_, rfl⟩
                              rw [hn7] at hv7
                              subst hv7
                              have HN7 := Lib.hid hn7
                              clear ho7 hE7 hu7 h7 hn7
                              go_wp2_with fail
                              go_meet
                              exact ⟨IA7, n7, ci7, F1, rows1, Oq6, Od5, ins ++ [z], rfl, HN7, HB7, Lib.hid (HI1.out (by trivial)), Lib.hid (by have := HL.out; simp; omega)⟩
                            · go_wp2_with fail
                              go_meet
                              exact ⟨IA, ni, ci, F1, rows1, Oq6, Od5, ins, rfl, HNI, HB6, Lib.hid (HI2.out he), Lib.hid (by have := HL.out; omega)⟩
                      · as_aux_lemma =>
                          obtain ⟨x, e, F1, rows1, he0, he3, hI1, hP1, hP2⟩ := both_poll HB.out HI.out k
                          have HI1 := Lib.hid hI1
                          have hni : ni ≤ 240 := by have := HI.out.few; rw [HNI.out] at this; exact this
                          have HP1 := Lib.hid hP1
                          have HP2 := Lib.hid hP2
                          clear hI1 hP1 hP2
                          go_wp2_with fail
                          refine (HP1.out _ (Upd.refl _ _)).mono ?_
                          rintro e w5 ⟨rfl, Oq5, HB5⟩
                          go_wp2_with fail
                          refine (HP2.out _ _ HB5.out).mono ?_
                          rintro e w6 ⟨rfl, Od6, HB6⟩
                          have hne : (x != x) = false := by simp
                          have hne2 : (e != e) = false := by simp
                          have HB6A := Lib.hid (HB6.out.upd0 ((Upd.refl [] w6).alloc (.cells #[.int .i64 x, .int .i64 e] 34)))
                          clear HB5
                          go_upto_region 17 with fail
                          go_quiet ((go_at_call 9; exact Calls.quiet_of_same ((err_calls e _ ⟨he0, by omega⟩).mono fun e w' h => ⟨h.1, h.2.symm⟩)))
                          have HB7 := Lib.hid (HB6A.out.upd0 ((Upd.refl [] _).drewN nq))
                          generalize (w6.alloc (.cells #[.int .i64 x, .int .i64 e] 34)).drewN nq = w7 at HB7 ⊢
                          clear HB6 HB6A hne hne2
                          go_upto_block 3 with fail
                          go_cut [20] (fun v wx => ∃ (LA : Option Addr) (nl cl : Nat), v = .slice LA nl cl ∧ Hid ((ins.filter fun y => y != x).length = nl) ∧ Hid (OwnA wx w.heap.size (.slice LA nl cl) (ins.filter fun y => y != x) (fun k => Oq5 k ∨ Od6 k)) ∧ Hid (∀ g, (Value.slice LA nl cl).ownBlock = some g → (Value.slice (some ⟨bL, oL, none⟩) 12 cL).ownBlock ≠ some g) ∧ Hid (QB w wx h q r m pg l F1 rows1 F1 rows1 Oq5 Od6 (.slice (some ⟨bL, oL, none⟩) 12 cL) (.slice IA ni ci) ins))
                          case first =>
                            obtain ⟨wo, rfl⟩ : ∃ wo : World, wo = wr := ⟨_, rfl⟩
                            go_wp2_with fail
                            go_loopg [20, 21] ni (fun gk v i wx => ∃ (j : Nat) (LA : Option Addr) (nl cl : Nat), gk = ni - j ∧ j ≤ ni ∧ i = .int .i64 j ∧ v = .slice LA nl cl ∧ Hid (((ins.take j).filter fun y => y != x).length = nl) ∧ Hid (OwnA wx w.heap.size (.slice LA nl cl) ((ins.take j).filter fun y => y != x) (fun k => Oq5 k ∨ Od6 k)) ∧ Hid (∀ g, (Value.slice LA nl cl).ownBlock = some g → (Value.slice (some ⟨bL, oL, none⟩) 12 cL).ownBlock ≠ some g ∧ (Value.slice IA ni ci).ownBlock ≠ some g) ∧ Hid (QB w wx h q r m pg l F1 rows1 F1 rows1 Oq5 Od6 (.slice (some ⟨bL, oL, none⟩) 12 cL) (.slice IA ni ci) ins))
                            case atStart => exact ⟨0, none, 0, 0, rfl, by omega, rfl, rfl, Lib.hid rfl, Lib.hid (OwnA.nil _ _ _), Lib.hid (fun g hg => by cases hg), HB7⟩
                            case round =>
                              clear HB7
                              obtain ⟨j, LA, nl, cl, rfl, hj, rfl, rfl, HNL, HLO, HTW, HBr⟩ := hrel
                              by_cases hlj : j < ni
                              · obtain ⟨IB, cB, eB, hIr, -⟩ := HBr.out.inl.own.form
                                simp only [Value.slice.injEq] at eB
                                obtain ⟨rfl, -, -⟩ := eB
                                have hjl : j < ins.length := by rw [HNI.out]; exact hlj
                                obtain ⟨bI, oI, rfl, -, d1⟩ := Reads.at hIr HNI.out hlj
                                obtain ⟨y, hy⟩ : ∃ y, ins.getD j 0 = y := ⟨_, rfl⟩
                                rw [hy] at d1
                                have HY := Lib.hid hy
                                clear hIr hy
                                by_cases hyx : y = x
                                · have hne3 : (y != x) = false := by rw [hyx]; simp
                                  have HTK : Hid ((ins.take (j + 1)).filter (fun y => y != x) = (ins.take j).filter fun y => y != x) := Lib.hid (by rw [keep_step hjl, if_pos (by rw [HY.out]; exact hyx)])
                                  clear hyx hjl
                                  go_wp2_with fail
                                  go_roundg (ni - (j + 1))
                                  case measure => omega
                                  case rel => exact ⟨j + 1, LA, nl, cl, rfl, by omega, by go_num, rfl, Lib.hid (by rw [HTK.out]; exact HNL.out), Lib.hid (by rw [HTK.out]; exact HLO.out), HTW, HBr⟩
                                · have hne3 : (y != x) = true := bne_iff_ne.2 hyx
                                  have HTK : Hid ((ins.take (j + 1)).filter (fun y => y != x) = (ins.take j).filter (fun y => y != x) ++ [y]) := Lib.hid (by rw [keep_step hjl, if_neg (by rw [HY.out]; exact hyx), HY.out])
                                  clear hyx hjl
                                  have HFL : Hid (((ins.take j).filter fun y => y != x).length ≤ 1000) := Lib.hid (Nat.le_trans (List.length_filter_le _ _) (by have := HL.out; rw [List.length_take]; omega))
                                  have HSZ : Hid (w.heap.size ≤ wr.heap.size) := Lib.hid HBr.out.env.upd.size
                                  have HOW : Hid (∀ k, (Oq5 k ∨ Od6 k) → k < wr.heap.size) := Lib.hid fun k hk => by
                                    rcases hk with hk | hk
                                    · exact HBr.out.que.owned hk
                                    · exact HBr.out.doc.owned hk
                                  have HBA := Lib.hid (HBr.out.upd0 ((Upd.refl [] wr).alloc (.cells #[.int .i64 y] 3)))
                                  go_wp2_with (at_builtin; refine wpList_pushO rfl _ _ rfl w.heap.size _ ((ins.take j).filter fun y => y != x) (fun k => Oq5 k ∨ Od6 k) rfl (HLO.out.upd0 ((Upd.refl [] wr).alloc _)) wr.heap.size y rfl (Blk.new _ _ _) (by have := HFL.out; omega) (by have := HSZ.out; simp; omega) (fun k hk => by have := HOW.out k hk; simp; omega) ?_)
                                  intro v7 w7 E7 ho7 hE7 hu7 h7
                                  have HB8 := Lib.hid (HBA.out.side hu7 (fun i hi => ⟨(own_low HLO.out.own (hE7 i hi)).1, HLO.out.far i (hE7 i hi), (HTW.out i (hE7 i hi)).1, (HTW.out i (hE7 i hi)).2⟩))
                                  have HT8 : Hid (∀ g, v7.ownBlock = some g → (Value.slice (some ⟨bL, oL, none⟩) 12 cL).ownBlock ≠ some g ∧ (Value.slice (some ⟨bI, oI, none⟩) ni ci).ownBlock ≠ some g) := Lib.hid fun g hg => by
                                    rcases h7 with h7 | h7
                                    · exact HTW.out g (h7 ▸ hg)
                                    · rw [h7] at hg; simp only [Option.some.injEq] at hg
                                      refine ⟨fun hx => ?_, fun hx => ?_⟩
                                      · have := (own_low HBA.out.lst.own hx).2; simp at this; omega
                                      · have := (own_low HBA.out.inl.own hx).2; simp at this; omega
                                  obtain ⟨LA7, cl7, hv7, -, -⟩ := ho7.own.form
                                  obtain ⟨n7, hn7⟩ : ∃ n7, ((ins.take j).filter (fun y => y != x) ++ [y]).length = n7 := ⟨_, rfl⟩
                                  rw [hn7] at hv7
                                  subst hv7
                                  have HN7 := Lib.hid hn7
                                  have HO7 := Lib.hid ho7
                                  clear ho7 hE7 hu7 h7 hn7
                                  go_wp2_with fail
                                  go_roundg (ni - (j + 1))
                                  case measure => omega
                                  case rel => exact ⟨j + 1, LA7, n7, cl7, rfl, by omega, by go_num, rfl, Lib.hid (by rw [HTK.out]; exact HN7.out), Lib.hid (by rw [HTK.out]; exact HO7.out), HT8, HB8⟩
                              · obtain rfl : j = ni := by omega
                                have HTK : Hid (ins.take j = ins) := Lib.hid (by rw [← HNI.out, List.take_length])
                                go_wp2_with fail
                                go_meet
                                exact ⟨LA, nl, cl, rfl, Lib.hid (by rw [← HTK.out]; exact HNL.out), Lib.hid (by have := HLO.out; rw [HTK.out] at this; exact this), Lib.hid (fun g hg => (HTW.out g hg).1), HBr⟩
                          case rest =>
                            clear HB7
                            obtain ⟨LA, nl, cl, rfl, HNL, HLO, HTW, HB8⟩ := hcut
                            go_wp2_with fail
                            go_meet
                            exact ⟨LA, nl, cl, F1, rows1, Oq5, Od6, _, rfl, HNL, Lib.hid (HB8.out.other HLO.out HTW.out), HI1, Lib.hid (Nat.le_trans (List.length_filter_le _ _) (by have := HL.out; omega))⟩
                      · as_aux_lemma =>
                          obtain ⟨x, e, F1, rows1, he0, he3, hI1, hP1, hP2⟩ := both_poll HB.out HI.out k
                          have HI1 := Lib.hid hI1
                          have hni : ni ≤ 240 := by have := HI.out.few; rw [HNI.out] at this; exact this
                          have HP1 := Lib.hid hP1
                          have HP2 := Lib.hid hP2
                          clear hI1 hP1 hP2
                          go_wp2_with fail
                          refine (HP1.out _ (Upd.refl _ _)).mono ?_
                          rintro e w5 ⟨rfl, Oq5, HB5⟩
                          go_wp2_with fail
                          refine (HP2.out _ _ HB5.out).mono ?_
                          rintro e w6 ⟨rfl, Od6, HB6⟩
                          have hne : (x != x) = false := by simp
                          have hne2 : (e != e) = false := by simp
                          have HB6A := Lib.hid (HB6.out.upd0 ((Upd.refl [] w6).alloc (.cells #[.int .i64 x, .int .i64 e] 34)))
                          clear HB5
                          go_upto_region 17 with fail
                          go_quiet ((go_at_call 9; exact Calls.quiet_of_same ((err_calls e _ ⟨he0, by omega⟩).mono fun e w' h => ⟨h.1, h.2.symm⟩)))
                          have HB7 := Lib.hid (HB6A.out.upd0 ((Upd.refl [] _).drewN nq))
                          generalize (w6.alloc (.cells #[.int .i64 x, .int .i64 e] 34)).drewN nq = w7 at HB7 ⊢
                          clear HB6 HB6A hne hne2
                          go_upto_block 3 with fail
                          go_cut [20] (fun v wx => ∃ (LA : Option Addr) (nl cl : Nat), v = .slice LA nl cl ∧ Hid ((ins.filter fun y => y != x).length = nl) ∧ Hid (OwnA wx w.heap.size (.slice LA nl cl) (ins.filter fun y => y != x) (fun k => Oq5 k ∨ Od6 k)) ∧ Hid (∀ g, (Value.slice LA nl cl).ownBlock = some g → (Value.slice (some ⟨bL, oL, none⟩) 12 cL).ownBlock ≠ some g) ∧ Hid (QB w wx h q r m pg l F1 rows1 F1 rows1 Oq5 Od6 (.slice (some ⟨bL, oL, none⟩) 12 cL) (.slice IA ni ci) ins))
                          case first =>
                            obtain ⟨wo, rfl⟩ : ∃ wo : World, wo = wr := ⟨_, rfl⟩
                            go_wp2_with fail
                            go_loopg [20, 21] ni (fun gk v i wx => ∃ (j : Nat) (LA : Option Addr) (nl cl : Nat), gk = ni - j ∧ j ≤ ni ∧ i = .int .i64 j ∧ v = .slice LA nl cl ∧ Hid (((ins.take j).filter fun y => y != x).length = nl) ∧ Hid (OwnA wx w.heap.size (.slice LA nl cl) ((ins.take j).filter fun y => y != x) (fun k => Oq5 k ∨ Od6 k)) ∧ Hid (∀ g, (Value.slice LA nl cl).ownBlock = some g → (Value.slice (some ⟨bL, oL, none⟩) 12 cL).ownBlock ≠ some g ∧ (Value.slice IA ni ci).ownBlock ≠ some g) ∧ Hid (QB w wx h q r m pg l F1 rows1 F1 rows1 Oq5 Od6 (.slice (some ⟨bL, oL, none⟩) 12 cL) (.slice IA ni ci) ins))
                            case atStart => exact ⟨0, none, 0, 0, rfl, by omega, rfl, rfl, Lib.hid rfl, Lib.hid (OwnA.nil _ _ _), Lib.hid (fun g hg => by cases hg), HB7⟩
                            case round =>
                              clear HB7
                              obtain ⟨j, LA, nl, cl, rfl, hj, rfl, rfl, HNL, HLO, HTW, HBr⟩ := hrel
                              by_cases hlj : j < ni
                              · obtain ⟨IB, cB, eB, hIr, -⟩ := HBr.out.inl.own.form
                                simp only [Value.slice.injEq] at eB
                                obtain ⟨rfl, -, -⟩ := eB
                                have hjl : j < ins.length := by rw [HNI.out]; exact hlj
                                obtain ⟨bI, oI, rfl, -, d1⟩ := Reads.at hIr HNI.out hlj
                                obtain ⟨y, hy⟩ : ∃ y, ins.getD j 0 = y := ⟨_, rfl⟩
                                rw [hy] at d1
                                have HY := Lib.hid hy
                                clear hIr hy
                                by_cases hyx : y = x
                                · have hne3 : (y != x) = false := by rw [hyx]; simp
                                  have HTK : Hid ((ins.take (j + 1)).filter (fun y => y != x) = (ins.take j).filter fun y => y != x) := Lib.hid (by rw [keep_step hjl, if_pos (by rw [HY.out]; exact hyx)])
                                  clear hyx hjl
                                  go_wp2_with fail
                                  go_roundg (ni - (j + 1))
                                  case measure => omega
                                  case rel => exact ⟨j + 1, LA, nl, cl, rfl, by omega, by go_num, rfl, Lib.hid (by rw [HTK.out]; exact HNL.out), Lib.hid (by rw [HTK.out]; exact HLO.out), HTW, HBr⟩
                                · have hne3 : (y != x) = true := bne_iff_ne.2 hyx
                                  have HTK : Hid ((ins.take (j + 1)).filter (fun y => y != x) = (ins.take j).filter (fun y => y != x) ++ [y]) := Lib.hid (by rw [keep_step hjl, if_neg (by rw [HY.out]; exact hyx), HY.out])
                                  clear hyx hjl
                                  have HFL : Hid (((ins.take j).filter fun y => y != x).length ≤ 1000) := Lib.hid (Nat.le_trans (List.length_filter_le _ _) (by have := HL.out; rw [List.length_take]; omega))
                                  have HSZ : Hid (w.heap.size ≤ wr.heap.size) := Lib.hid HBr.out.env.upd.size
                                  have HOW : Hid (∀ k, (Oq5 k ∨ Od6 k) → k < wr.heap.size) := Lib.hid fun k hk => by
                                    rcases hk with hk | hk
                                    · exact HBr.out.que.owned hk
                                    · exact HBr.out.doc.owned hk
                                  have HBA := Lib.hid (HBr.out.upd0 ((Upd.refl [] wr).alloc (.cells #[.int .i64 y] 3)))
                                  go_wp2_with (at_builtin; refine wpList_pushO rfl _ _ rfl w.heap.size _ ((ins.take j).filter fun y => y != x) (fun k => Oq5 k ∨ Od6 k) rfl (HLO.out.upd0 ((Upd.refl [] wr).alloc _)) wr.heap.size y rfl (Blk.new _ _ _) (by have := HFL.out; omega) (by have := HSZ.out; simp; omega) (fun k hk => by have := HOW.out k hk; simp; omega) ?_)
                                  intro v7 w7 E7 ho7 hE7 hu7 h7
                                  have HB8 := Lib.hid (HBA.out.side hu7 (fun i hi => ⟨(own_low HLO.out.own (hE7 i hi)).1, HLO.out.far i (hE7 i hi), (HTW.out i (hE7 i hi)).1, (HTW.out i (hE7 i hi)).2⟩))
                                  have HT8 : Hid (∀ g, v7.ownBlock = some g → (Value.slice (some ⟨bL, oL, none⟩) 12 cL).ownBlock ≠ some g ∧ (Value.slice (some ⟨bI, oI, none⟩) ni ci).ownBlock ≠ some g) := Lib.hid fun g hg => by
                                    rcases h7 with h7 | h7
                                    · exact HTW.out g (h7 ▸ hg)
                                    · rw [h7] at hg; simp only [Option.some.injEq] at hg
                                      refine ⟨fun hx => ?_, fun hx => ?_⟩
                                      · have := (own_low HBA.out.lst.own hx).2; simp at this; omega
                                      · have := (own_low HBA.out.inl.own hx).2; simp at this; omega
                                  obtain ⟨LA7, cl7, hv7, -, -⟩ := ho7.own.form
                                  obtain ⟨n7, hn7⟩ : ∃ n7, ((ins.take j).filter (fun y => y != x) ++ [y]).length = n7 := ⟨_, rfl⟩
                                  rw [hn7] at hv7
                                  subst hv7
                                  have HN7 := Lib.hid hn7
                                  have HO7 := Lib.hid ho7
                                  clear ho7 hE7 hu7 h7 hn7
                                  go_wp2_with fail
                                  go_roundg (ni - (j + 1))
                                  case measure => omega
                                  case rel => exact ⟨j + 1, LA7, n7, cl7, rfl, by omega, by go_num, rfl, Lib.hid (by rw [HTK.out]; exact HN7.out), Lib.hid (by rw [HTK.out]; exact HO7.out), HT8, HB8⟩
                              · obtain rfl : j = ni := by omega
                                have HTK : Hid (ins.take j = ins) := Lib.hid (by rw [← HNI.out, List.take_length])
                                go_wp2_with fail
                                go_meet
                                exact ⟨LA, nl, cl, rfl, Lib.hid (by rw [← HTK.out]; exact HNL.out), Lib.hid (by have := HLO.out; rw [HTK.out] at this; exact this), Lib.hid (fun g hg => (HTW.out g hg).1), HBr⟩
                          case rest =>
                            clear HB7
                            obtain ⟨LA, nl, cl, rfl, HNL, HLO, HTW, HB8⟩ := hcut
                            go_wp2_with fail
                            go_meet
                            exact ⟨LA, nl, cl, F1, rows1, Oq5, Od6, _, rfl, HNL, Lib.hid (HB8.out.other HLO.out HTW.out), HI1, Lib.hid (Nat.le_trans (List.length_filter_le _ _) (by have := HL.out; omega))⟩
                    case rest =>
                      clear HB HI HL HNI HINS
                      as_aux_lemma =>
                        obtain ⟨IA, ni, ci, F, rows, Oq, Od, ins, rfl, HNI, HB, HI, HL⟩ := hcut
                        have HCT : Hid (∀ W, Upd [] wc W → Calls Tryz.prog 33 #[.pointer (some ⟨q, 0, none⟩)] W fun e w' => e = .returned (.int .i64 rows.length) ∧ w' = W) := Lib.hid fun W hu => ((HB.out.que.upd0 hu).count).mono fun e w' h => ⟨h.1, h.2.symm⟩
                        obtain ⟨RA, rc, hc1, hcR⟩ := HB.out.doc.rowCells
                        obtain ⟨N, hN⟩ : ∃ N, rows.length = N := ⟨_, rfl⟩
                        rw [hN] at HCT hc1 hcR
                        have HN8 : N ≤ 8 := by rw [← hN]; exact HB.out.que.few
                        have HNR := Lib.hid hN
                        have HC1 := Lib.hid hc1
                        have HCR := Lib.hid hcR
                        have c0 := HC1.out wc (Upd.refl _ _)
                        have hne : ((N : Int) != (N : Int)) = false := by simp
                        clear hc1 hcR hN
                        go_upto_region 42 with fail
                        go_quiet ((go_at_call 33; exact Calls.quiet_of_same (HCT.out _ (by first | exact Upd.refl _ _ | exact (Upd.refl [] wc).drew | exact (Upd.refl [] wc).drewN _))))
                        have HB1 := Lib.hid (HB.out.upd0 ((Upd.refl [] _).drewN nq))
                        have HU1 : Hid (Upd [] wc (wc.drewN nq)) := Lib.hid ((Upd.refl [] _).drewN nq)
                        generalize wc.drewN nq = w5 at HB1 HU1 ⊢
                        clear c0 HB hne
                        obtain ⟨wo, rfl⟩ : ∃ wo : World, wo = wr := ⟨_, rfl⟩
                        go_wp2_with fail
                        go_loopg [22] (N + 2) (fun gk v wx => ∃ (j : Nat) (iz : Int), gk = N + 2 - j ∧ j ≤ N + 2 ∧ v = .int .i64 iz ∧ Hid (iz = (j : Int) - 1) ∧ Hid (QB w wx h q r m pg l F rows F rows Oq Od (.slice (some ⟨bL, oL, none⟩) 12 cL) (.slice IA ni ci) ins) ∧ Hid (Upd [] wc wx))
                        case atStart => exact ⟨0, -1, rfl, by omega, rfl, Lib.hid (by omega), HB1, HU1⟩
                        case round =>
                          clear HB1 HU1
                          obtain ⟨j, iz, rfl, hj, rfl, HZ, HB, HU⟩ := hrel
                          have hz1 : -1 ≤ iz := by have := HZ.out; omega
                          have hz2 : iz ≤ N + 1 := by have := HZ.out; omega
                          have c0 := HC1.out wr HU.out
                          by_cases hle : iz ≤ N
                          · by_cases hneg : iz < 0
                            · have hq := list_none q h pg iz wr HB.out.que (.inl hneg)
                              have HQ := Lib.hid hq
                              clear hq
                              go_wp2_with fail
                              refine (HQ.out).mono ?_
                              rintro e w6 ⟨rfl, rfl⟩
                              go_wp2_with fail
                              refine (err_calls 2 _ (by omega)).mono ?_
                              rintro e w' ⟨rfl, rfl⟩
                              go_wp2_with fail
                              go_roundg (N + 2 - (j + 1))
                              case measure => have := HZ.out; omega
                              case rel => exact ⟨j + 1, iz + 1, rfl, by have := HZ.out; omega, by go_num, Lib.hid (by have := HZ.out; omega), HB, HU⟩
                            · by_cases heq : iz = N
                              · subst heq
                                have hq := list_none q h pg N wr HB.out.que (.inr (by rw [HNR.out]; omega))
                                have HQ := Lib.hid hq
                                clear hq
                                go_wp2_with fail
                                refine (HQ.out).mono ?_
                                rintro e w6 ⟨rfl, rfl⟩
                                go_wp2_with fail
                                refine (err_calls 2 _ (by omega)).mono ?_
                                rintro e w' ⟨rfl, rfl⟩
                                go_wp2_with fail
                                go_roundg (N + 2 - (j + 1))
                                case measure => have := HZ.out; omega
                                case rel => exact ⟨j + 1, N + 1, rfl, by have := HZ.out; omega, by go_num, Lib.hid (by have := HZ.out; omega), HB, HU⟩
                              · obtain ⟨t, rfl⟩ : ∃ t : Nat, iz = (t : Int) := ⟨iz.toNat, by omega⟩
                                have htN : t < N := by omega
                                have htn1 : ((t : Int) == (N : Int)) = false := by simp; omega
                                have htn2 : ¬ t = N := by omega
                                obtain ⟨hr1, hr2, hr3⟩ := HI.out.row HB.out.que t
                                obtain ⟨g, RB, c2, rfl, hrow⟩ := HCR.out t htN
                                have HRW := Lib.hid hrow
                                have hq := list_yes q h pg t t wr HB.out.que rfl (by rw [HNR.out]; exact htN)
                                obtain ⟨xs, hxs⟩ : ∃ xs, rows.getD t [] = xs := ⟨_, rfl⟩
                                rw [hxs] at hq HRW hr2
                                obtain ⟨M, hM⟩ : ∃ M, xs.length = M := ⟨_, rfl⟩
                                rw [hM] at HRW hr2
                                have HM := Lib.hid hM
                                have HQ := Lib.hid hq
                                clear hq hxs hM hrow hr1 hr3
                                go_wp2_with fail
                                refine (HQ.out).mono ?_
                                rintro e w6 ⟨v6, rfl, ho6, hu6⟩
                                have HB6 := Lib.hid (HB.out.upd0 hu6)
                                have HU6 := Lib.hid (HU.out.trans hu6)
                                obtain ⟨A6, c6, hv6, hI6, -⟩ := ho6.form
                                rw [HM.out] at hv6
                                subst hv6
                                have c1 := HC1.out w6 HU6.out
                                obtain ⟨d1, hI7⟩ := HRW.out w6 HU6.out
                                have hsame := same_calls A6 RB M M c6 c2 xs xs w6 HM.out HM.out hI6 hI7 (by omega) (by omega)
                                rw [decide_eq_true (rfl : xs = xs)] at hsame
                                have HSM := Lib.hid hsame
                                clear ho6 hu6 hI6 hI7 hsame c0
                                go_wp2_with fail
                                refine (err_calls 0 _ (by omega)).mono ?_
                                rintro e w' ⟨rfl, rfl⟩
                                go_wp2_with fail
                                refine (HSM.out).mono ?_
                                rintro e w8 ⟨rfl, q8, rfl⟩
                                have HB8 := Lib.hid (HB6.out.upd0 ((Upd.refl [] w6).drewN q8))
                                have HU8 := Lib.hid (HU6.out.trans ((Upd.refl [] w6).drewN q8))
                                go_wp2_with fail
                                go_roundg (N + 2 - (j + 1))
                                case measure => have := HZ.out; omega
                                case rel => exact ⟨j + 1, (t : Int) + 1, rfl, by have := HZ.out; omega, by go_num, Lib.hid (by have := HZ.out; omega), HB8, HU8⟩
                          · go_wp2_with fail
                            go_roundg (122 - (i2 + 2))
                            case measure => omega
                            case rel => exact ⟨i2 + 2, IA, ni, ci, F, rows, Oq, Od, ins, rfl, by omega, by go_num, rfl, HNI, HB, HI, Lib.hid (by have := HL.out; omega)⟩
        · obtain rfl | rfl : i2 = 120 ∨ i2 = 121 := by omega
          all_goals as_aux_lemma =>
            go_wp2_with fail
            go_meet
            exact ⟨F, rows, Oq, Od, _, ins, HB, HI⟩
      · as_aux_lemma =>
          go_wp2_with fail
          go_meet
          exact ⟨F, rows, Oq, Od, _, ins, HB, HI⟩
  case rest =>
    as_aux_lemma =>
      obtain ⟨F, rows, Oq, Od, iv, ins, HB, -⟩ := hcut
      obtain ⟨hc0, h1, h2, h3⟩ := qb_end HB.out
      have HC0 := Lib.hid hc0
      have H1 := Lib.hid h1
      have H2 := Lib.hid h2
      have H3 := Lib.hid h3
      have d0 := hc0 wc (Upd.refl _ _)
      have d1 := hc0 wc.drew (Upd.refl [] wc).drew
      have HBW : Hid (Upd [] w wc) := Lib.hid HB.out.env.upd
      clear hc0 h1 h2 h3 HB
      go_upto_region 53 with fail
      go_region_held3 (fun w' => w'.cell? ⟨r, 0, none⟩ = some (.pointer (some ⟨m, 0, none⟩))) (first | exact d0 | exact d1 | exact e2 | exact e3 | exact e4 | exact e5)
        (first
          | (go_at_call 20
             first
               | refine (H1.out wc (Upd.refl _ _)).mono ?_
               | refine (H1.out wc.drew (Upd.refl [] wc).drew).mono ?_
               | refine (H1.out w3 HU3.out).mono ?_
             rintro e w2 ⟨v2, rfl, ho2, hu2⟩
             have HU2 : Hid (Upd [] wc w2) := Lib.hid (by first | exact hu2 | exact ((Upd.refl [] wc).drew).trans hu2 | exact HU3.out.trans hu2)
             have HO2 := Lib.hid ho2
             have HS2 := Lib.hid hu2
             have e2 := HC0.out w2 HU2.out
             clear ho2 hu2)
          | (go_at_call 21
             first
               | refine (H2.out wc (Upd.refl _ _)).mono ?_
               | refine (H2.out wc.drew (Upd.refl [] wc).drew).mono ?_
               | refine (H2.out w2 HU2.out).mono ?_
             rintro e w3 ⟨v3, rfl, ho3, hu3⟩
             have HU3 : Hid (Upd [] wc w3) := Lib.hid (by first | exact hu3 | exact ((Upd.refl [] wc).drew).trans hu3 | exact HU2.out.trans hu3)
             have HO3 := Lib.hid ho3
             have HS3 := Lib.hid hu3
             have e3 := HC0.out w3 HU3.out
             clear ho3 hu3)
          | (go_at_call 19
             first
               | refine (H3.out w2 v2 v3 HO2.out (HO3.out.upd0 HS2.out)).mono ?_
               | refine (H3.out w3 v2 v3 (HO2.out.upd0 HS3.out) HO3.out).mono ?_
             rintro e w4 ⟨rfl, hu4⟩
             have HU4 : Hid (Upd [] wc w4) := Lib.hid (by first | exact HU2.out.trans hu4 | exact HU3.out.trans hu4)
             have e4 := HC0.out w4 HU4.out
             clear hu4)
          | (go_at_call 35
             refine (awake12 w4).mono ?_
             rintro e w5 ⟨rfl, hu5⟩
             have HU5 : Hid (Upd [] wc w5) := Lib.hid (HU4.out.trans hu5)
             have e5 := HC0.out w5 HU5.out
             clear hu5))
      all_goals
        go_wp2_with fail
        go_ret
        exact ⟨rfl, (HBW.out.trans HU5.out).below⟩
end Go.Proofs.YtpkbdmieelgdlaaGreat
