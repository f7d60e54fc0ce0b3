/- The walk of RefRuns: at every two lists of numbers the law returns true, and nothing that was there has turned. -/
import Derived.Test.YtpkbdmieelgdlaaGreatJ4
import Derived.Deep.CutBlock
import Derived.Deep.DeepCutAuto
import Derived.Deep.LoopGhost
import Derived.Deep.QuietTactic
import Derived.BigQuiet
import Derived.Deep.RegionHeld3
namespace Go.Proofs.YtpkbdmieelgdlaaGreat
open Go Go.RowKit

set_option maxRecDepth 100000 in
set_option maxHeartbeats 12800000 in
theorem rruns_walk (A B : Option Addr) (c c1 n n1 : Nat) (ns odd : List Int) (w : World) (hn : ns.length = n) (hn1 : odd.length = n1) (hR : Reads w .u8 A ns) (hR1 : Reads w .i64 B odd) (hb : ∀ x ∈ ns, 0 ≤ x ∧ x ≤ 255) (hl : n ≤ 9223372036854775807) (_hl1 : n1 ≤ 9223372036854775807) :
    Calls Tryz.prog 5 #[.slice A n c, .slice B n1 c1] w fun e w' => e = .returned (.bool true) ∧ Below w.heap.size w w' := by
  have HR := Lib.hid hR
  have HR1 := Lib.hid hR1
  have HBY := Lib.hid hb
  have HN := Lib.hid hn
  have HN1 := Lib.hid hn1
  clear hR hR1 hb hn hn1
  go_enter Tryz.func5, Tryz.ntmps5
  go_wp2_with fail
  refine (made13 4 2 _ (by omega) (by omega)).mono ?_
  rintro e w1 ⟨h, r, q, lv, O1, rfl, hr, ho, he, hln⟩
  have HF := Lib.hid hr
  have HO := Lib.hid ho
  have HE := Lib.hid he
  obtain ⟨AL, cL, hlv, _, _⟩ := ho.own.form
  rw [mkD_len] at hlv
  subst hlv
  clear hr ho he hln
  go_wp2_with fail
  refine (model13 4 2 _ (by omega) (by omega)).mono ?_
  rintro e w4 ⟨d, m, Od, rfl, hd, hed⟩
  have HB1 : Hid (RB w w4 r q h d m ⟨(mkD 4).1, (mkD 4).2.1, (mkD 4).2.2, List.replicate 2 [], 0⟩ ⟨(mkD 4).1, (mkD 4).2.1, (mkD 4).2.2, List.replicate 2 [], 0⟩ O1 Od (.slice AL 4 cL) (.slice none 0 0) (mkD 4).2.1 []) := Lib.hid (rb_start (s := ⟨_, _, _, _, _⟩) HE.out HO.out HF.out hd hed)
  have HI0 := Lib.hid ri_start
  have HL0 : Hid ((mkD 4).2.1.length = 4) := Lib.hid (mkD_len 4)
  obtain ⟨s0, hs0⟩ : ∃ s0 : St, (⟨(mkD 4).1, (mkD 4).2.1, (mkD 4).2.2, List.replicate 2 [], 0⟩ : St) = s0 := ⟨_, rfl⟩
  rw [hs0] at HB1 HI0
  obtain ⟨l0, hl0⟩ : ∃ l0, (mkD 4).2.1 = l0 := ⟨_, rfl⟩
  rw [hl0] at HB1 HL0
  clear hd hed HE HO HF hs0 hl0
  go_upto_block 0 with fail
  go_cut [9, 10, 11, 12, 13, 14, 15, 16, 17, 18, 19, 20, 21, 22, 23, 24, 25, 26] (fun _ _ _ _ _ _ _ _ _ _ _ _ _ _ _ _ _ _ wx => ∃ (s : St) (Of Od : Nat → Prop) (iv : Value) (all : List Int) (i9 : Nat), Hid (RB w wx r q h d m s s Of Od (.slice AL 4 cL) iv l0 all) ∧ Hid (RI s i9) ∧ Hid (i9 ≤ 1000))
  case first =>
    go_wp2_with fail
    go_loopg [9, 10] 163 (fun gk iv i wr => ∃ (i2 : Nat) (IA : Option Addr) (na ca : Nat) (s : St) (Of Od : Nat → Prop) (all : List Int), gk = 163 - i2 ∧ i2 ≤ 163 ∧ i = .int .i64 i2 ∧ iv = .slice IA na ca ∧ Hid (all.length = na) ∧ Hid (RB w wr r q h d m s s Of Od (.slice AL 4 cL) (.slice IA na ca) l0 all) ∧ Hid (RI s i2) ∧ Hid (all.length ≤ i2))
    case atStart => exact ⟨0, none, 0, 0, s0, O1, Od, [], rfl, by omega, rfl, rfl, Lib.hid rfl, HB1, HI0, Lib.hid (by simp)⟩
    case round =>
      clear HB1 HI0
      obtain ⟨i2, IA, na, ca, s, Of, Od, all, rfl, hi2, rfl, rfl, HNA, HB, HI, HAL⟩ := hrel
      by_cases hlt : i2 + 3 < n
      · by_cases h60 : i2 < 160
        · obtain ⟨bA, oA, rfl, hbA, c0⟩ := Reads.at HR.out HN.out (show i2 < n by omega)
          obtain ⟨k0, hk0, k0b⟩ := getD_bytes HBY.out (i := i2) (by rw [HN.out]; omega)
          obtain ⟨k1, hk1, k1b⟩ := getD_bytes HBY.out (i := i2 + 1) (by rw [HN.out]; omega)
          obtain ⟨k2, hk2, k2b⟩ := getD_bytes HBY.out (i := i2 + 2) (by rw [HN.out]; omega)
          obtain ⟨k3, hk3, k3b⟩ := getD_bytes HBY.out (i := i2 + 3) (by rw [HN.out]; omega)
          obtain ⟨_, _, e, _, c1⟩ := Reads.at HR.out HN.out (show i2 + 1 < n by omega)
          cases e
          obtain ⟨_, _, e, _, c2⟩ := Reads.at HR.out HN.out (show i2 + 2 < n by omega)
          cases e
          obtain ⟨_, _, e, _, c3⟩ := Reads.at HR.out HN.out hlt
          cases e
          rw [hk0] at c0
          rw [hk1] at c1
          rw [hk2] at c2
          rw [hk3] at c3
          have HC0 : Hid (∀ W, Upd [] w W → W.cell? ⟨bA, oA + i2, none⟩ = some (.int .u8 k0) ∧ W.cell? ⟨bA, oA + (i2 + 1), none⟩ = some (.int .u8 k1) ∧ W.cell? ⟨bA, oA + (i2 + 2), none⟩ = some (.int .u8 k2) ∧ W.cell? ⟨bA, oA + (i2 + 3), none⟩ = some (.int .u8 k3)) := Lib.hid fun W hu => ⟨(hu.cell (p := ⟨bA, oA + i2, none⟩) hbA (by simp)).trans c0, (hu.cell (p := ⟨bA, oA + (i2 + 1), none⟩) hbA (by simp)).trans c1, (hu.cell (p := ⟨bA, oA + (i2 + 2), none⟩) hbA (by simp)).trans c2, (hu.cell (p := ⟨bA, oA + (i2 + 3), none⟩) hbA (by simp)).trans c3⟩
          clear c0 c1 c2 c3 hk0 hk1 hk2 hk3
          obtain ⟨c0, c1, -, -⟩ := HC0.out _ HB.out.env.upd
          obtain ⟨t, ht⟩ : ∃ t : Nat, (k1 : Int) % 4 = (t : Int) := ⟨k1 % 4, by omega⟩
          have htl : t < 4 := by omega
          obtain ⟨sw, hsw⟩ : ∃ sw : Int, (k0 : Int) % 8 = sw := ⟨_, rfl⟩
          have hs : sw = 0 ∨ sw = 1 ∨ sw = 2 ∨ sw = 3 ∨ sw = 4 ∨ sw = 5 ∨ sw = 6 ∨ sw = 7 := by omega
          have HS := Lib.hid hs
          clear hs
          obtain ⟨bL, oL, rfl, dl⟩ := HB.out.cell HL0.out htl
          have d1 := dl wr (Upd.refl _ _)
          obtain ⟨z0, hz0⟩ : ∃ z0, l0.getD t 0 = z0 := ⟨_, rfl⟩
          rw [hz0] at d1
          clear dl hz0
          obtain ⟨hh, hhh⟩ : ∃ hh : Nat, (i2 : Int) / 4 = (hh : Int) := ⟨i2 / 4, by omega⟩
          have hhl : hh ≤ 60 := by omega
          as_aux_lemma =>
            have HO : Hid (∀ W, hh < n1 → Upd [] w W → ∃ b o x, B = some ⟨b, o, none⟩ ∧ W.cell? ⟨b, o + hh, none⟩ = some (.int .i64 x)) := Lib.hid fun W hlt2 hu => by
              obtain ⟨b, o, e, hb, c⟩ := Reads.at HR1.out HN1.out hlt2
              exact ⟨b, o, _, e, (hu.cell (p := ⟨b, o + hh, none⟩) hb (by simp)).trans c⟩
            go_upto_region 10 with fail
            go_cut [70] (fun v wx => wx = wr ∧ ∃ b, v = .bool b ∧ Hid (b = true → 0 < na))
            case first =>
              by_cases hm : 0 < na
              · have hmi : (0 : Int) < (na : Int) := by omega
                go_wp2_with fail
                go_meet
                exact ⟨rfl, _, rfl, Lib.hid fun _ => hm⟩
              · obtain rfl : na = 0 := by omega
                go_wp2_with fail
                go_meet
                exact ⟨rfl, _, rfl, Lib.hid fun h => by simp at h⟩
            case rest =>
              obtain ⟨rfl, bb, rfl, HBB⟩ := hcut
              as_aux_lemma =>
                go_upto_if 70 with fail
                go_cut [11] (fun v wx => wx = wc ∧ ∃ z, v = .int .i64 z)
                case first =>
                  cases bb with
                  | true =>
                    have hm := HBB.out rfl
                    obtain ⟨j, hj⟩ : ∃ j : Nat, (k1 : Int) % (na : Int) = (j : Int) := ⟨k1 % na, by omega⟩
                    have hjn : j < na := by
                      have h1 : ((k1 % na : Nat) : Int) = (j : Int) := by rw [← hj]; omega
                      have h2 : k1 % na = j := by omega
                      rw [← h2]; exact Nat.mod_lt _ hm
                    obtain ⟨bI, oI, rfl, di⟩ := HB.out.cellA HNA.out hjn
                    have d2 := di wc (Upd.refl _ _)
                    have hna0 : ¬ (na : Int) = 0 := by omega
                    have hjt : (k1 : Int).tmod (na : Int) = (j : Int) := by rw [Int.tmod_eq_emod_of_nonneg (by omega)]; exact hj
                    clear di
                    go_wp2_with fail
                    go_meet
                    exact ⟨rfl, _, rfl⟩
                  | false =>
                    go_wp2_with fail
                    go_meet
                    exact ⟨rfl, _, rfl⟩
                case rest =>
                  obtain ⟨rfl, z1, rfl⟩ := hcut
                  obtain ⟨wr, rfl⟩ : ∃ wr : World, wr = wc := ⟨_, rfl⟩
                  as_aux_lemma =>
                    clear HBB d1
                    go_upto_region 12 with fail
                    go_cut [95] (fun v wx => wx = wr ∧ ∃ b, v = .bool b ∧ Hid (b = true → hh < n1))
                    case first =>
                      by_cases hm : hh < n1
                      · go_wp2_with fail
                        go_meet
                        exact ⟨rfl, _, rfl, Lib.hid fun _ => hm⟩
                      · go_wp2_with fail
                        go_meet
                        exact ⟨rfl, _, rfl, Lib.hid fun h => by simp at h⟩
                    case rest =>
                      obtain ⟨rfl, bb2, rfl, HBB⟩ := hcut
                      as_aux_lemma =>
                        go_upto_if 95 with fail
                        go_cut [11] (fun v wx => wx = wc ∧ ∃ z, v = .int .i64 z)
                        case first =>
                          cases bb2 with
                          | true =>
                            have hm := HBB.out rfl
                            obtain ⟨bB, oB, x, rfl, d2⟩ := HO.out wc hm HB.out.env.upd
                            go_wp2_with fail
                            go_meet
                            exact ⟨rfl, _, rfl⟩
                          | false =>
                            go_wp2_with fail
                            go_meet
                            exact ⟨rfl, _, rfl⟩
                        case rest =>
                          obtain ⟨rfl, z, rfl⟩ := hcut
                          obtain ⟨wr, rfl⟩ : ∃ wr : World, wr = wc := ⟨_, rfl⟩
                          as_aux_lemma =>
                            clear HO HBB
                            go_upto_block 2 with fail
                            rw [hsw]
                            clear hsw c0 c1
                            go_cut [9] (fun v wx => ∃ (IA : Option Addr) (na ca : Nat) (s : St) (Of Od : Nat → Prop) (all : List Int), v = .slice IA na ca ∧ Hid (all.length = na) ∧ Hid (RB w wx r q h d m s s Of Od (.slice (some ⟨bL, oL, none⟩) 4 cL) (.slice IA na ca) l0 all) ∧ Hid (RI s (i2 + 1)) ∧ Hid (all.length ≤ i2 + 1))
                            case first =>
                              rcases HS.out with rfl | rfl | rfl | rfl | rfl | rfl | rfl | rfl
                              · as_aux_lemma =>
                                  obtain ⟨st, hst⟩ : ∃ st : Nat, (k2 : Int) % 5 = (st : Int) := ⟨k2 % 5, by omega⟩
                                  obtain ⟨b5, hb5⟩ : ∃ b5 : Nat, (k3 : Int) % 5 = (b5 : Int) := ⟨k3 % 5, by omega⟩
                                  have hb5b : b5 ≤ 4 := by omega
                                  have hwk2 : IntKind.i64.wrap (k2 : Int) = (k2 : Int) := IntWalk.i64_in _ (by omega)
                                  have hwk3 : IntKind.i64.wrap (k3 : Int) = (k3 : Int) := IntWalk.i64_in _ (by omega)
                                  have hstt : (k2 : Int).tmod 5 = (st : Int) := by rw [Int.tmod_eq_emod_of_nonneg (by omega)]; exact hst
                                  have hb5t : (k3 : Int).tmod 5 = (b5 : Int) := by rw [Int.tmod_eq_emod_of_nonneg (by omega)]; exact hb5
                                  have hb5w : IntKind.i64.wrap ((b5 : Int) - 2) = (b5 : Int) - 2 := IntWalk.i64_in _ (by omega)
                                  obtain ⟨-, -, d2, d3⟩ := HC0.out _ HB.out.env.upd
                                  obtain ⟨x, y, s1, hy0, hy5, hI1, hP1, hP2⟩ := both_refer HB.out HI.out (by omega) st z ((b5 : Int) - 2) i2
                                  have HI1 := Lib.hid hI1
                                  have HP1 := Lib.hid hP1
                                  have HP2 := Lib.hid hP2
                                  clear hI1 hP1 hP2
                                  have hne : (x != x) = false := by simp
                                  have hne2 : (y != y) = false := by simp
                                  go_upto_region 22 with fail
                                  go_quiet (fail)
                                  obtain ⟨w1, hw1⟩ : ∃ w1, wr.drewN nq = w1 := ⟨_, rfl⟩
                                  have HU1 : Hid (Upd [] wr w1) := Lib.hid (hw1 ▸ (Upd.refl [] wr).drewN nq)
                                  rw [hw1]
                                  clear hw1 d2 d3
                                  go_upto_region 23 with fail
                                  go_wp2_with fail
                                  refine (HP1.out w1 HU1.out).mono ?_
                                  rintro e w5 ⟨rfl, Of5, HB5⟩
                                  go_wp2_with fail
                                  refine (HP2.out _ _ HB5.out).mono ?_
                                  rintro e w6 ⟨rfl, Od6, HB6⟩
                                  have HB6A := Lib.hid (HB6.out.upd0 ((Upd.refl [] w6).alloc (.cells #[.int .i64 x, .int .i64 y] 34)))
                                  have HG : Hid (Blk (w6.alloc (.cells #[.int .i64 x, .int .i64 y] 34)) w6.heap.size 34 #[.int .i64 x, .int .i64 y]) := Lib.hid (Blk.new _ _ _)
                                  go_upto_region 25 with fail
                                  go_quiet ((go_at_call 9; exact Calls.quiet_of_same ((err_calls y _ ⟨hy0, by omega⟩).mono fun e w' h => ⟨h.1, h.2.symm⟩)))
                                  have HB7 := Lib.hid (HB6A.out.upd0 ((Upd.refl [] _).drewN nq))
                                  have HG7 := Lib.hid (HG.out.upd ((Upd.refl [] _).drewN nq) (by simp))
                                  generalize (w6.alloc (.cells #[.int .i64 x, .int .i64 y] 34)).drewN nq = w7 at HB7 HG7 ⊢
                                  have g1 : w7.cell? ⟨w6.heap.size, 1, none⟩ = some (.int .i64 y) := HG7.out.cell 1
                                  clear HB6 HB6A HG HB5
                                  by_cases hy : y = 0
                                  · subst hy
                                    have HNL : Hid (all.length ≤ 1000) := Lib.hid (by have := HAL.out; omega)
                                    have HSZ : Hid (w.heap.size ≤ w7.heap.size) := Lib.hid HB7.out.env.upd.size
                                    have HOW : Hid (∀ k, (Of5 k ∨ Od6 k) → k < w7.heap.size) := Lib.hid fun k hk => by
                                      rcases hk with hk | hk
                                      · exact HB7.out.ref.owned hk
                                      · exact HB7.out.doc.owned hk
                                    have HB8 := Lib.hid (HB7.out.upd0 ((Upd.refl [] w7).alloc (.cells #[.int .i64 x] 3)))
                                    go_wp2_with (at_builtin; refine wpList_pushO rfl _ _ rfl w.heap.size _ all (fun k => Of5 k ∨ Od6 k) rfl (HB8.out.inl) w7.heap.size x rfl (Blk.new _ _ _) (by have := HNL.out; omega) (by have := HSZ.out; simp; omega) (fun k hk => by have := HOW.out k hk; simp; omega) ?_)
                                    intro v8 w8 E8 ho8 hE8 hu8 h8
                                    have HB9 := Lib.hid (HB8.out.grow ho8 hE8 hu8 (by simpa using h8))
                                    obtain ⟨IA8, ca8, hv8, -, -⟩ := ho8.own.form
                                    obtain ⟨n8, hn8⟩ : ∃ n8, (all ++ [x]).length = n8 := ⟨_, rfl⟩
                                    rw [hn8] at hv8
                                    subst hv8
                                    have HN8 := Lib.hid hn8
                                    clear ho8 hE8 hu8 h8 hn8
                                    go_wp2_with fail
                                    go_meet
                                    exact ⟨IA8, n8, ca8, s1, Of5, Od6, all ++ [x], rfl, HN8, HB9, HI1, Lib.hid (by have := HAL.out; simp; omega)⟩
                                  · go_wp2_with fail
                                    go_meet
                                    exact ⟨IA, na, ca, s1, Of5, Od6, all, rfl, HNA, HB7, HI1, Lib.hid (by have := HAL.out; omega)⟩
                              · as_aux_lemma =>
                                  obtain ⟨st, hst⟩ : ∃ st : Nat, (k2 : Int) % 5 = (st : Int) := ⟨k2 % 5, by omega⟩
                                  obtain ⟨b5, hb5⟩ : ∃ b5 : Nat, (k3 : Int) % 5 = (b5 : Int) := ⟨k3 % 5, by omega⟩
                                  have hb5b : b5 ≤ 4 := by omega
                                  have hwk2 : IntKind.i64.wrap (k2 : Int) = (k2 : Int) := IntWalk.i64_in _ (by omega)
                                  have hwk3 : IntKind.i64.wrap (k3 : Int) = (k3 : Int) := IntWalk.i64_in _ (by omega)
                                  have hstt : (k2 : Int).tmod 5 = (st : Int) := by rw [Int.tmod_eq_emod_of_nonneg (by omega)]; exact hst
                                  have hb5t : (k3 : Int).tmod 5 = (b5 : Int) := by rw [Int.tmod_eq_emod_of_nonneg (by omega)]; exact hb5
                                  have hb5w : IntKind.i64.wrap ((b5 : Int) - 2) = (b5 : Int) - 2 := IntWalk.i64_in _ (by omega)
                                  obtain ⟨-, -, d2, d3⟩ := HC0.out _ HB.out.env.upd
                                  obtain ⟨x, y, s1, hy0, hy5, hI1, hP1, hP2⟩ := both_refer HB.out HI.out (by omega) st z ((b5 : Int) - 2) i2
                                  have HI1 := Lib.hid hI1
                                  have HP1 := Lib.hid hP1
                                  have HP2 := Lib.hid hP2
                                  clear hI1 hP1 hP2
                                  have hne : (x != x) = false := by simp
                                  have hne2 : (y != y) = false := by simp
                                  go_upto_region 22 with fail
                                  go_quiet (fail)
                                  obtain ⟨w1, hw1⟩ : ∃ w1, wr.drewN nq = w1 := ⟨_, rfl⟩
                                  have HU1 : Hid (Upd [] wr w1) := Lib.hid (hw1 ▸ (Upd.refl [] wr).drewN nq)
                                  rw [hw1]
                                  clear hw1 d2 d3
                                  go_upto_region 23 with fail
                                  go_wp2_with fail
                                  refine (HP1.out w1 HU1.out).mono ?_
                                  rintro e w5 ⟨rfl, Of5, HB5⟩
                                  go_wp2_with fail
                                  refine (HP2.out _ _ HB5.out).mono ?_
                                  rintro e w6 ⟨rfl, Od6, HB6⟩
                                  have HB6A := Lib.hid (HB6.out.upd0 ((Upd.refl [] w6).alloc (.cells #[.int .i64 x, .int .i64 y] 34)))
                                  have HG : Hid (Blk (w6.alloc (.cells #[.int .i64 x, .int .i64 y] 34)) w6.heap.size 34 #[.int .i64 x, .int .i64 y]) := Lib.hid (Blk.new _ _ _)
                                  go_upto_region 25 with fail
                                  go_quiet ((go_at_call 9; exact Calls.quiet_of_same ((err_calls y _ ⟨hy0, by omega⟩).mono fun e w' h => ⟨h.1, h.2.symm⟩)))
                                  have HB7 := Lib.hid (HB6A.out.upd0 ((Upd.refl [] _).drewN nq))
                                  have HG7 := Lib.hid (HG.out.upd ((Upd.refl [] _).drewN nq) (by simp))
                                  generalize (w6.alloc (.cells #[.int .i64 x, .int .i64 y] 34)).drewN nq = w7 at HB7 HG7 ⊢
                                  have g1 : w7.cell? ⟨w6.heap.size, 1, none⟩ = some (.int .i64 y) := HG7.out.cell 1
                                  clear HB6 HB6A HG HB5
                                  by_cases hy : y = 0
                                  · subst hy
                                    have HNL : Hid (all.length ≤ 1000) := Lib.hid (by have := HAL.out; omega)
                                    have HSZ : Hid (w.heap.size ≤ w7.heap.size) := Lib.hid HB7.out.env.upd.size
                                    have HOW : Hid (∀ k, (Of5 k ∨ Od6 k) → k < w7.heap.size) := Lib.hid fun k hk => by
                                      rcases hk with hk | hk
                                      · exact HB7.out.ref.owned hk
                                      · exact HB7.out.doc.owned hk
                                    have HB8 := Lib.hid (HB7.out.upd0 ((Upd.refl [] w7).alloc (.cells #[.int .i64 x] 3)))
                                    go_wp2_with (at_builtin; refine wpList_pushO rfl _ _ rfl w.heap.size _ all (fun k => Of5 k ∨ Od6 k) rfl (HB8.out.inl) w7.heap.size x rfl (Blk.new _ _ _) (by have := HNL.out; omega) (by have := HSZ.out; simp; omega) (fun k hk => by have := HOW.out k hk; simp; omega) ?_)
                                    intro v8 w8 E8 ho8 hE8 hu8 h8
                                    have HB9 := Lib.hid (HB8.out.grow ho8 hE8 hu8 (by simpa using h8))
                                    obtain ⟨IA8, ca8, hv8, -, -⟩ := ho8.own.form
                                    obtain ⟨n8, hn8⟩ : ∃ n8, (all ++ [x]).length = n8 := ⟨_, rfl⟩
                                    rw [hn8] at hv8
                                    subst hv8
                                    have HN8 := Lib.hid hn8
                                    clear ho8 hE8 hu8 h8 hn8
                                    go_wp2_with fail
                                    go_meet
                                    exact ⟨IA8, n8, ca8, s1, Of5, Od6, all ++ [x], rfl, HN8, HB9, HI1, Lib.hid (by have := HAL.out; simp; omega)⟩
                                  · go_wp2_with fail
                                    go_meet
                                    exact ⟨IA, na, ca, s1, Of5, Od6, all, rfl, HNA, HB7, HI1, Lib.hid (by have := HAL.out; omega)⟩
                              · as_aux_lemma =>
                                  obtain ⟨st, hst⟩ : ∃ st : Nat, (k2 : Int) % 5 = (st : Int) := ⟨k2 % 5, by omega⟩
                                  obtain ⟨b5, hb5⟩ : ∃ b5 : Nat, (k3 : Int) % 5 = (b5 : Int) := ⟨k3 % 5, by omega⟩
                                  have hb5b : b5 ≤ 4 := by omega
                                  have hwk2 : IntKind.i64.wrap (k2 : Int) = (k2 : Int) := IntWalk.i64_in _ (by omega)
                                  have hwk3 : IntKind.i64.wrap (k3 : Int) = (k3 : Int) := IntWalk.i64_in _ (by omega)
                                  have hstt : (k2 : Int).tmod 5 = (st : Int) := by rw [Int.tmod_eq_emod_of_nonneg (by omega)]; exact hst
                                  have hb5t : (k3 : Int).tmod 5 = (b5 : Int) := by rw [Int.tmod_eq_emod_of_nonneg (by omega)]; exact hb5
                                  have hb5w : IntKind.i64.wrap ((b5 : Int) - 2) = (b5 : Int) - 2 := IntWalk.i64_in _ (by omega)
                                  obtain ⟨-, -, d2, d3⟩ := HC0.out _ HB.out.env.upd
                                  obtain ⟨x, y, s1, hy0, hy5, hI1, hP1, hP2⟩ := both_refer HB.out HI.out (by omega) st z ((b5 : Int) - 2) i2
                                  have HI1 := Lib.hid hI1
                                  have HP1 := Lib.hid hP1
                                  have HP2 := Lib.hid hP2
                                  clear hI1 hP1 hP2
                                  have hne : (x != x) = false := by simp
                                  have hne2 : (y != y) = false := by simp
                                  go_upto_region 22 with fail
                                  go_quiet (fail)
                                  obtain ⟨w1, hw1⟩ : ∃ w1, wr.drewN nq = w1 := ⟨_, rfl⟩
                                  have HU1 : Hid (Upd [] wr w1) := Lib.hid (hw1 ▸ (Upd.refl [] wr).drewN nq)
                                  rw [hw1]
                                  clear hw1 d2 d3
                                  go_upto_region 23 with fail
                                  go_wp2_with fail
                                  refine (HP1.out w1 HU1.out).mono ?_
                                  rintro e w5 ⟨rfl, Of5, HB5⟩
                                  go_wp2_with fail
                                  refine (HP2.out _ _ HB5.out).mono ?_
                                  rintro e w6 ⟨rfl, Od6, HB6⟩
                                  have HB6A := Lib.hid (HB6.out.upd0 ((Upd.refl [] w6).alloc (.cells #[.int .i64 x, .int .i64 y] 34)))
                                  have HG : Hid (Blk (w6.alloc (.cells #[.int .i64 x, .int .i64 y] 34)) w6.heap.size 34 #[.int .i64 x, .int .i64 y]) := Lib.hid (Blk.new _ _ _)
                                  go_upto_region 25 with fail
                                  go_quiet ((go_at_call 9; exact Calls.quiet_of_same ((err_calls y _ ⟨hy0, by omega⟩).mono fun e w' h => ⟨h.1, h.2.symm⟩)))
                                  have HB7 := Lib.hid (HB6A.out.upd0 ((Upd.refl [] _).drewN nq))
                                  have HG7 := Lib.hid (HG.out.upd ((Upd.refl [] _).drewN nq) (by simp))
                                  generalize (w6.alloc (.cells #[.int .i64 x, .int .i64 y] 34)).drewN nq = w7 at HB7 HG7 ⊢
                                  have g1 : w7.cell? ⟨w6.heap.size, 1, none⟩ = some (.int .i64 y) := HG7.out.cell 1
                                  clear HB6 HB6A HG HB5
                                  by_cases hy : y = 0
                                  · subst hy
                                    have HNL : Hid (all.length ≤ 1000) := Lib.hid (by have := HAL.out; omega)
                                    have HSZ : Hid (w.heap.size ≤ w7.heap.size) := Lib.hid HB7.out.env.upd.size
                                    have HOW : Hid (∀ k, (Of5 k ∨ Od6 k) → k < w7.heap.size) := Lib.hid fun k hk => by
                                      rcases hk with hk | hk
                                      · exact HB7.out.ref.owned hk
                                      · exact HB7.out.doc.owned hk
                                    have HB8 := Lib.hid (HB7.out.upd0 ((Upd.refl [] w7).alloc (.cells #[.int .i64 x] 3)))
                                    go_wp2_with (at_builtin; refine wpList_pushO rfl _ _ rfl w.heap.size _ all (fun k => Of5 k ∨ Od6 k) rfl (HB8.out.inl) w7.heap.size x rfl (Blk.new _ _ _) (by have := HNL.out; omega) (by have := HSZ.out; simp; omega) (fun k hk => by have := HOW.out k hk; simp; omega) ?_)
                                    intro v8 w8 E8 ho8 hE8 hu8 h8
                                    have HB9 := Lib.hid (HB8.out.grow ho8 hE8 hu8 (by simpa using h8))
                                    obtain ⟨IA8, ca8, hv8, -, -⟩ := ho8.own.form
                                    obtain ⟨n8, hn8⟩ : ∃ n8, (all ++ [x]).length = n8 := ⟨_, rfl⟩
                                    rw [hn8] at hv8
                                    subst hv8
                                    have HN8 := Lib.hid hn8
                                    clear ho8 hE8 hu8 h8 hn8
                                    go_wp2_with fail
                                    go_meet
                                    exact ⟨IA8, n8, ca8, s1, Of5, Od6, all ++ [x], rfl, HN8, HB9, HI1, Lib.hid (by have := HAL.out; simp; omega)⟩
                                  · go_wp2_with fail
                                    go_meet
                                    exact ⟨IA, na, ca, s1, Of5, Od6, all, rfl, HNA, HB7, HI1, Lib.hid (by have := HAL.out; omega)⟩
                              · as_aux_lemma =>
                                  obtain ⟨x, y, s1, hy0, hy5, hI1, hP1, hP2⟩ := both_referent HB.out HI.out z i2
                                  have HI1 := Lib.hid hI1
                                  have HP1 := Lib.hid hP1
                                  have HP2 := Lib.hid hP2
                                  clear hI1 hP1 hP2
                                  have hne : (x != x) = false := by simp
                                  have hne2 : (y != y) = false := by simp
                                  go_wp2_with fail
                                  refine (HP1.out _ (Upd.refl _ _)).mono ?_
                                  rintro e w5 ⟨rfl, Of5, HB5⟩
                                  go_wp2_with fail
                                  refine (HP2.out _ _ HB5.out).mono ?_
                                  rintro e w6 ⟨rfl, Od6, HB6⟩
                                  have HB6A := Lib.hid (HB6.out.upd0 ((Upd.refl [] w6).alloc (.cells #[.int .i64 x, .int .i64 y] 34)))
                                  go_upto_region 33 with fail
                                  go_quiet ((go_at_call 9; exact Calls.quiet_of_same ((err_calls y _ ⟨hy0, by omega⟩).mono fun e w' h => ⟨h.1, h.2.symm⟩)))
                                  have HB7 := Lib.hid (HB6A.out.upd0 ((Upd.refl [] _).drewN nq))
                                  go_wp2_with fail
                                  go_meet
                                  exact ⟨IA, na, ca, s1, Of5, Od6, all, rfl, HNA, HB7, HI1, Lib.hid (by have := HAL.out; omega)⟩
                              · as_aux_lemma =>
                                  obtain ⟨x, y, s1, hy0, hy5, hI1, hP1, hP2⟩ := both_referent HB.out HI.out z i2
                                  have HI1 := Lib.hid hI1
                                  have HP1 := Lib.hid hP1
                                  have HP2 := Lib.hid hP2
                                  clear hI1 hP1 hP2
                                  have hne : (x != x) = false := by simp
                                  have hne2 : (y != y) = false := by simp
                                  go_wp2_with fail
                                  refine (HP1.out _ (Upd.refl _ _)).mono ?_
                                  rintro e w5 ⟨rfl, Of5, HB5⟩
                                  go_wp2_with fail
                                  refine (HP2.out _ _ HB5.out).mono ?_
                                  rintro e w6 ⟨rfl, Od6, HB6⟩
                                  have HB6A := Lib.hid (HB6.out.upd0 ((Upd.refl [] w6).alloc (.cells #[.int .i64 x, .int .i64 y] 34)))
                                  go_upto_region 33 with fail
                                  go_quiet ((go_at_call 9; exact Calls.quiet_of_same ((err_calls y _ ⟨hy0, by omega⟩).mono fun e w' h => ⟨h.1, h.2.symm⟩)))
                                  have HB7 := Lib.hid (HB6A.out.upd0 ((Upd.refl [] _).drewN nq))
                                  go_wp2_with fail
                                  go_meet
                                  exact ⟨IA, na, ca, s1, Of5, Od6, all, rfl, HNA, HB7, HI1, Lib.hid (by have := HAL.out; omega)⟩
                              · as_aux_lemma =>
                                  obtain ⟨t4, ht4⟩ : ∃ t4 : Nat, (k2 : Int) % 4 = (t4 : Int) := ⟨k2 % 4, by omega⟩
                                  have ht4b : t4 < 4 := by omega
                                  have ht4i : (t4 : Int) < 4 := by omega
                                  have ht4j : (0 : Int) ≤ (t4 : Int) := by omega
                                  have hwk2 : IntKind.i64.wrap (k2 : Int) = (k2 : Int) := IntWalk.i64_in _ (by omega)
                                  have hwk3 : IntKind.i64.wrap (k3 : Int) = (k3 : Int) := IntWalk.i64_in _ (by omega)
                                  have ht4t : (k2 : Int).tmod 4 = (t4 : Int) := by rw [Int.tmod_eq_emod_of_nonneg (by omega)]; exact ht4
                                  obtain ⟨bl, ol, el, dl⟩ := HB.out.cell HL0.out ht4b
                                  simp only [Option.some.injEq, Addr.mk.injEq, and_true] at el
                                  obtain ⟨rfl, rfl⟩ := el
                                  obtain ⟨y, hy⟩ : ∃ y, l0.getD t4 0 = y := ⟨_, rfl⟩
                                  rw [hy] at dl
                                  have HS2 : Hid (∀ W, Upd [] wr W → W.cell? ⟨bL, oL + t4, none⟩ = some (.int .i64 y) ∧ W.cell? ⟨bA, oA + (i2 + 2), none⟩ = some (.int .u8 k2) ∧ W.cell? ⟨bA, oA + (i2 + 3), none⟩ = some (.int .u8 k3)) := Lib.hid fun W hu => ⟨dl W hu, (HC0.out _ (HB.out.env.upd.trans hu)).2.2.1, (HC0.out _ (HB.out.env.upd.trans hu)).2.2.2⟩
                                  obtain ⟨d1, d2, d3⟩ := HS2.out wr (Upd.refl _ _)
                                  have hi2a : ((i2 : Int) + 2) < (n : Int) := by omega
                                  have hi2b : (0 : Int) ≤ (i2 : Int) + 2 := by omega
                                  have hi2t : ((i2 : Int) + 2).toNat = i2 + 2 := by omega
                                  have hi2w : IntKind.i64.wrap ((i2 : Int) + 2) = (i2 : Int) + 2 := IntWalk.i64_in _ (by omega)
                                  have hi3a : ((i2 : Int) + 3) < (n : Int) := by omega
                                  have hi3b : (0 : Int) ≤ (i2 : Int) + 3 := by omega
                                  have hi3t : ((i2 : Int) + 3).toNat = i2 + 3 := by omega
                                  have hi3w : IntKind.i64.wrap ((i2 : Int) + 3) = (i2 : Int) + 3 := IntWalk.i64_in _ (by omega)
                                  clear dl hy
                                  obtain ⟨q0, hq0⟩ : ∃ q0 : Nat, (k3 : Int) / 200 = (q0 : Int) := ⟨k3 / 200, by omega⟩
                                  obtain ⟨q1, hq1⟩ : ∃ q1 : Nat, q0 + 1 = q1 := ⟨_, rfl⟩
                                  have hq1b : q1 ≤ 2 := by omega
                                  have hq1i : (q1 : Int) ≤ 2 := by omega
                                  have hq1j : (0 : Int) ≤ (q1 : Int) := by omega
                                  have hq0t : (k3 : Int).tdiv 200 = (q0 : Int) := by rw [Int.tdiv_eq_ediv_of_nonneg (by omega)]; exact hq0
                                  have hq0w : IntKind.i64.wrap (q0 : Int) = (q0 : Int) := IntWalk.i64_in _ (by omega)
                                  have hq1w : IntKind.i64.wrap (1 + (q0 : Int)) = (q1 : Int) := by rw [IntWalk.i64_in _ (by omega)]; omega
                                  have HXS : Hid (([z, y].take q1).length = q1) := Lib.hid (by rw [List.length_take]; simp; omega)
                                  clear hq0 hq1
                                  go_upto_region 36 with fail
                                  go_region_held3 (fun w' => w'.cell? ⟨bL, oL + t4, none⟩ = some (.int .i64 y) ∧ w'.cell? ⟨bA, oA + (i2 + 2), none⟩ = some (.int .u8 k2) ∧ w'.cell? ⟨bA, oA + (i2 + 3), none⟩ = some (.int .u8 k3)) (first | exact HS2.out _ (Upd.refl _ _) | exact HS2.out _ (Upd.refl [] wr).drew | exact HS2.out _ (((Upd.refl [] wr).drew).alloc _) | exact HS2.out _ ((Upd.refl [] wr).alloc _).drew | exact HS2.out _ ((Upd.refl [] wr).alloc _)) (fail)
                                  have HU5 : Hid (Upd [] wr (wr.alloc (.cells #[.int .i64 z, .int .i64 y] 3)).drew) := Lib.hid ((Upd.refl [] wr).alloc _).drew
                                  have HRD : Hid (ReadsO (wr.alloc (.cells #[.int .i64 z, .int .i64 y] 3)).drew (some ⟨wr.heap.size, 0, none⟩) ([z, y].take q1) (fun k => Of k ∨ Od k)) := Lib.hid (reads_two HB.out hq1b)
                                  have HB5 := Lib.hid (HB.out.upd0 HU5.out)
                                  obtain ⟨e, s1, he0, he5, hI1, hP1, hP2⟩ := both_clear HB5.out HI.out (some ⟨wr.heap.size, 0, none⟩) ([z, y].take q1) q1 2 HXS.out (by omega) HRD.out
                                  have HI1 := Lib.hid hI1
                                  have HP1 := Lib.hid hP1
                                  have HP2 := Lib.hid hP2
                                  have hne : (e != e) = false := by simp
                                  clear hI1 hP1 hP2 d1 d2 d3
                                  go_wp2_with fail
                                  refine (HP1.out _ (Upd.refl _ _)).mono ?_
                                  rintro e w6 ⟨rfl, Of6, HB6, HR6⟩
                                  go_wp2_with fail
                                  refine (err_calls e _ ⟨he0, by omega⟩).mono ?_
                                  rintro e w' ⟨rfl, rfl⟩
                                  go_wp2_with fail
                                  refine (HP2.out _ _ HB6.out HR6.out).mono ?_
                                  rintro e w7 ⟨rfl, Od7, HB7⟩
                                  go_wp2_with fail
                                  go_meet
                                  exact ⟨IA, na, ca, s1, Of6, Od7, all, rfl, HNA, HB7, HI1, Lib.hid (by have := HAL.out; omega)⟩
                              · as_aux_lemma =>
                                  obtain ⟨b, x, y, s1, hbx, hy0, hy5, hI1, hP1, hP2⟩ := both_enqueue HB.out HI.out (by omega) z
                                  have HI1 := Lib.hid hI1
                                  have HP1 := Lib.hid hP1
                                  have HP2 := Lib.hid hP2
                                  clear hI1 hP1 hP2
                                  have hne2 : (y != y) = false := by simp
                                  rcases hbx with ⟨rfl, rfl⟩ | ⟨rfl, rfl⟩
                                  · go_wp2_with fail
                                    refine (HP1.out _ (Upd.refl _ _)).mono ?_
                                    rintro e w5 ⟨rfl, Of5, HB5⟩
                                    go_wp2_with fail
                                    refine (HP2.out _ _ HB5.out).mono ?_
                                    rintro e w6 ⟨rfl, Od6, HB6⟩
                                    have HB6A := Lib.hid (HB6.out.upd0 ((Upd.refl [] w6).alloc (.cells #[.int .i64 1, .int .i64 y] 34)))
                                    go_upto_region 42 with fail
                                    go_quiet ((go_at_call 9; exact Calls.quiet_of_same ((err_calls y _ ⟨hy0, by omega⟩).mono fun e w' h => ⟨h.1, h.2.symm⟩)))
                                    have HB7 := Lib.hid (HB6A.out.upd0 ((Upd.refl [] _).drewN nq))
                                    go_wp2_with fail
                                    go_meet
                                    exact ⟨IA, na, ca, s1, Of5, Od6, all, rfl, HNA, HB7, HI1, Lib.hid (by have := HAL.out; omega)⟩
                                  · go_wp2_with fail
                                    refine (HP1.out _ (Upd.refl _ _)).mono ?_
                                    rintro e w5 ⟨rfl, Of5, HB5⟩
                                    go_wp2_with fail
                                    refine (HP2.out _ _ HB5.out).mono ?_
                                    rintro e w6 ⟨rfl, Od6, HB6⟩
                                    have HB6A := Lib.hid (HB6.out.upd0 ((Upd.refl [] w6).alloc (.cells #[.int .i64 0, .int .i64 y] 34)))
                                    go_upto_region 42 with fail
                                    go_quiet ((go_at_call 9; exact Calls.quiet_of_same ((err_calls y _ ⟨hy0, by omega⟩).mono fun e w' h => ⟨h.1, h.2.symm⟩)))
                                    have HB7 := Lib.hid (HB6A.out.upd0 ((Upd.refl [] _).drewN nq))
                                    go_wp2_with fail
                                    go_meet
                                    exact ⟨IA, na, ca, s1, Of5, Od6, all, rfl, HNA, HB7, HI1, Lib.hid (by have := HAL.out; omega)⟩
                              · as_aux_lemma =>
                                  obtain ⟨k, hk⟩ : ∃ k : Nat, (k2 : Int) % 3 = (k : Int) := ⟨k2 % 3, by omega⟩
                                  have hwk2 : IntKind.i64.wrap (k2 : Int) = (k2 : Int) := IntWalk.i64_in _ (by omega)
                                  have hkt : (k2 : Int).tmod 3 = (k : Int) := by rw [Int.tmod_eq_emod_of_nonneg (by omega)]; exact hk
                                  have hi2a : ((i2 : Int) + 2) < (n : Int) := by omega
                                  have hi2b : (0 : Int) ≤ (i2 : Int) + 2 := by omega
                                  have hi2t : ((i2 : Int) + 2).toNat = i2 + 2 := by omega
                                  have hi2w : IntKind.i64.wrap ((i2 : Int) + 2) = (i2 : Int) + 2 := IntWalk.i64_in _ (by omega)
                                  obtain ⟨x, y, s1, hy0, hy5, hI1, hP1, hP2⟩ := both_poll13 HB.out HI.out (by omega) k
                                  have HI1 := Lib.hid hI1
                                  have HP1 := Lib.hid hP1
                                  have HP2 := Lib.hid hP2
                                  clear hI1 hP1 hP2
                                  have hne : (x != x) = false := by simp
                                  have hne2 : (y != y) = false := by simp
                                  have HS2 : Hid (∀ W, Upd [] wr W → W.cell? ⟨r, 0, none⟩ = some (.pointer (some ⟨q, 0, none⟩)) ∧ W.cell? ⟨bA, oA + (i2 + 2), none⟩ = some (.int .u8 k2)) := Lib.hid fun W hu => ⟨(HB.out.upd0 hu).ref.cells.1, (HC0.out _ (HB.out.env.upd.trans hu)).2.2.1⟩
                                  obtain ⟨d1, d2⟩ := HS2.out wr (Upd.refl _ _)
                                  go_upto_region 15 with fail
                                  go_region_held3 (fun w' => w'.cell? ⟨r, 0, none⟩ = some (.pointer (some ⟨q, 0, none⟩)) ∧ w'.cell? ⟨bA, oA + (i2 + 2), none⟩ = some (.int .u8 k2)) (first | exact HS2.out _ (Upd.refl _ _) | exact HS2.out _ (Upd.refl [] wr).drew | exact e5)
                                    (first
                                      | (go_at_call 31
                                         refine (HP1.out _ (Upd.refl [] wr).drew).mono ?_
                                         rintro e w5 ⟨rfl, Of5, HB5⟩
                                         have e5 : w5.cell? ⟨r, 0, none⟩ = some (.pointer (some ⟨q, 0, none⟩)) ∧ w5.cell? ⟨bA, oA + (i2 + 2), none⟩ = some (.int .u8 k2) := ⟨HB5.out.ref.cells.1, (HC0.out _ HB5.out.env.upd).2.2.1⟩))
                                  obtain ⟨f1, f2⟩ := e5
                                  clear d1 d2
                                  go_wp2_with fail
                                  refine (HP2.out _ _ HB5.out).mono ?_
                                  rintro e w6 ⟨rfl, Od6, HB6⟩
                                  have HB6A := Lib.hid (HB6.out.upd0 ((Upd.refl [] w6).alloc (.cells #[.int .i64 x, .int .i64 y] 34)))
                                  clear f1 f2
                                  go_upto_region 17 with fail
                                  go_quiet ((go_at_call 9; exact Calls.quiet_of_same ((err_calls y _ ⟨hy0, by omega⟩).mono fun e w' h => ⟨h.1, h.2.symm⟩)))
                                  have HB7 := Lib.hid (HB6A.out.upd0 ((Upd.refl [] _).drewN nq))
                                  go_wp2_with fail
                                  go_meet
                                  exact ⟨IA, na, ca, s1, Of5, Od6, all, rfl, HNA, HB7, HI1, Lib.hid (by have := HAL.out; omega)⟩
                            case rest =>
                              clear HB HI HAL HNA
                              as_aux_lemma =>
                                obtain ⟨IA, na, ca, s, Of, Od, all, rfl, HNA, HB, HI, HAL⟩ := hcut
                                obtain ⟨hs1, hs2⟩ := rb_serial HB.out
                                have HS1 := Lib.hid hs1
                                have c2 := hs2 wc (Upd.refl _ _)
                                have hne : ((s.n : Int) != (s.n : Int)) = false := by simp
                                clear hs1 hs2
                                go_upto_region 44 with fail
                                go_quiet ((go_at_call 46; exact Calls.quiet_of_same (HS1.out _ (by first | exact Upd.refl _ _ | exact (Upd.refl [] wc).drew | exact (Upd.refl [] wc).drewN _))))
                                have HB1 := Lib.hid (HB.out.upd0 ((Upd.refl [] _).drewN nq))
                                go_wp2_with fail
                                go_roundg (163 - (i2 + 4))
                                case measure => omega
                                case rel => exact ⟨i2 + 4, IA, na, ca, s, Of, Od, all, rfl, by omega, by go_num, rfl, HNA, HB1, Lib.hid (HI.out.mono (by omega)), Lib.hid (by have := HAL.out; omega)⟩
        · obtain rfl | rfl | rfl | rfl : i2 = 160 ∨ i2 = 161 ∨ i2 = 162 ∨ i2 = 163 := by omega
          all_goals as_aux_lemma =>
            go_wp2_with fail
            go_meet
            exact ⟨s, Of, Od, _, all, _, HB, HI, Lib.hid (by omega)⟩
      · as_aux_lemma =>
          go_wp2_with fail
          go_meet
          exact ⟨s, Of, Od, _, all, _, HB, HI, Lib.hid (by omega)⟩
  case rest =>
    as_aux_lemma =>
      clear HB1 HI0
      obtain ⟨s, Of, Od, iv, all, i9, HB, HI, HI9⟩ := hcut
      obtain ⟨gr, rc, n0, c0, n2, c2, B0, B1, r0, r1, hc, ⟨hl0, he0⟩, ⟨hl1, he1⟩, h1, h2, h3⟩ := rb_end HB.out HI.out HI9.out
      have HC := Lib.hid hc
      have HL0 := Lib.hid hl0
      have HL1 := Lib.hid hl1
      have HE0 := Lib.hid he0
      have HE1 := Lib.hid he1
      have H1 := Lib.hid h1
      have H2 := Lib.hid h2
      have H3 := Lib.hid h3
      have HBW : Hid (Upd [] w wc) := Lib.hid HB.out.env.upd
      obtain ⟨d0, -, -, -, -⟩ := hc wc (Upd.refl _ _)
      clear hc hl0 hl1 he0 he1 h1 h2 h3 HB HI HI9
      go_wp2_with fail
      refine (HL0.out _ (Upd.refl _ _)).mono ?_
      rintro e w1 ⟨A0, a0, rfl, hA0, hu⟩
      have HU1 := Lib.hid hu
      have HA0 := Lib.hid hA0
      obtain ⟨d0, -, -, -, -⟩ := HC.out w1 HU1.out
      clear hu hA0
      go_wp2_with fail
      refine (HL1.out _ HU1.out).mono ?_
      rintro e w2 ⟨A1, a1, rfl, hA1, hu⟩
      have HU2 : Hid (Upd [] wc w2) := Lib.hid (HU1.out.trans hu)
      have HV2 := Lib.hid hu
      have HA1 := Lib.hid hA1
      have d1 := HC.out w2 HU2.out
      have d2 := HC.out w2.drew HU2.out.drew
      clear hu hA1 d0
      go_upto_region 48 with fail
      (try simp only [List.append_eq, List.cons_append, List.nil_append])
      go_region_held3 (fun w' => w'.cell? ⟨r, 0, none⟩ = some (.pointer (some ⟨q, 0, none⟩)) ∧ w'.cell? ⟨d, 0, none⟩ = some (.pointer (some ⟨m, 0, none⟩)) ∧ w'.cell? ⟨d, 1, none⟩ = some (.slice (some ⟨gr, 0, none⟩) 2 rc) ∧ w'.cell? ⟨gr, 0, none⟩ = some (.slice B0 n0 c0) ∧ w'.cell? ⟨gr, 1, none⟩ = some (.slice B1 n2 c2)) (first | exact d1 | exact d2 | exact e3 | exact e4 | exact e5 | exact e6 | exact e7 | exact e8 | exact e9)
        (first
          | (go_at_call 20
             first
               | refine (H1.out w2.drew HU2.out.drew).mono ?_
               | refine (H1.out w4 HU4.out).mono ?_
             rintro e w3 ⟨v3, rfl, ho3, hu3⟩
             have HU3 : Hid (Upd [] wc w3) := Lib.hid (by first | exact HU2.out.drew.trans hu3 | exact HU4.out.trans hu3)
             have HO3 := Lib.hid ho3
             have HS3 := Lib.hid hu3
             have HW3 : Hid (Upd [] w2 w3) := Lib.hid (by first | exact ((Upd.refl [] w2).drew).trans hu3 | exact HW4.out.trans hu3)
             have e3 := HC.out w3 HU3.out
             clear ho3 hu3)
          | (go_at_call 21
             first
               | refine (H2.out w2.drew HU2.out.drew).mono ?_
               | refine (H2.out w3 HU3.out).mono ?_
             rintro e w4 ⟨v4, rfl, ho4, hu4⟩
             have HU4 : Hid (Upd [] wc w4) := Lib.hid (by first | exact HU2.out.drew.trans hu4 | exact HU3.out.trans hu4)
             have HO4 := Lib.hid ho4
             have HS4 := Lib.hid hu4
             have HW4 : Hid (Upd [] w2 w4) := Lib.hid (by first | exact ((Upd.refl [] w2).drew).trans hu4 | exact HW3.out.trans hu4)
             have e4 := HC.out w4 HU4.out
             clear ho4 hu4)
          | (go_at_call 19
             first
               | refine (H3.out w3 v3 v4 HO3.out (HO4.out.upd0 HS3.out)).mono ?_
               | refine (H3.out w4 v3 v4 (HO3.out.upd0 HS4.out) HO4.out).mono ?_
             rintro e w5 ⟨rfl, hu5⟩
             have HU5 : Hid (Upd [] wc w5) := Lib.hid (by first | exact HU3.out.trans hu5 | exact HU4.out.trans hu5)
             have HW5 : Hid (Upd [] w2 w5) := Lib.hid (by first | exact HW3.out.trans hu5 | exact HW4.out.trans hu5)
             have e5 := HC.out w5 HU5.out
             clear hu5)
          | (go_at_call 16
             refine (HE1.out w6 A1 a1 HU6.out (HA1.out w6 HW6.out)).mono ?_
             rintro e w7 ⟨rfl, hu7⟩
             have HU7 : Hid (Upd [] wc w7) := Lib.hid (HU6.out.trans hu7)
             have e7 := HC.out w7 HU7.out
             clear hu7)
          | (go_at_call 16
             refine (HE0.out w5 A0 a0 HU5.out (HA0.out w5 (HV2.out.trans HW5.out))).mono ?_
             rintro e w6 ⟨rfl, hu6⟩
             have HU6 : Hid (Upd [] wc w6) := Lib.hid (HU5.out.trans hu6)
             have HW6 : Hid (Upd [] w2 w6) := Lib.hid (HW5.out.trans hu6)
             have e6 := HC.out w6 HU6.out
             clear hu6)
          | (go_at_call 9
             refine (err_calls 0 w7 (by omega)).mono ?_
             rintro e w' ⟨rfl, rfl⟩)
          | (go_at_call 47
             refine (awake13 w7).mono ?_
             rintro e w8 ⟨rfl, hu8⟩
             have HU8 : Hid (Upd [] wc w8) := Lib.hid (HU7.out.trans hu8)
             have e8 := HC.out w8 HU8.out
             clear hu8))
      all_goals
        go_wp2_with fail
        go_ret
        exact ⟨rfl, (HBW.out.trans HU8.out).below⟩
end Go.Proofs.YtpkbdmieelgdlaaGreat
