/- The walk of BlockRuns: at every input the law returns true, and nothing that was there has turned. -/
import Derived.Test.YtnphkgiiondjkaaBlockFills
import Derived.Test.YtnphkgiiondjkaaReads
import Derived.Test.YtnphkgiiondjkaaRef1
namespace Go.Proofs.Ytnphkgiiondjkaa
open Go Go.RowKit

theorem sizes1_calls (w : World) : Calls Try.prog 46 #[] w fun e w' => ∃ h, e = .returned (.slice (some ⟨h, 0, none⟩) 5 5) ∧ Blk w' h 3 (ints [2, 4, 8, 16, 32]) ∧ w.heap.size ≤ h ∧ Below w.heap.size w w' := by
  go_enter Try.func46, Try.ntmps46
  go_wp2_with fail
  go_ret
  exact ⟨w.heap.size, rfl, Blk.new _ _ _, by omega, (Below.refl _ _).alloc (Nat.le_refl _) _⟩

set_option maxRecDepth 100000 in
theorem bkruns_no (c : Int) (A : Option Addr) (len cap : Nat) (w : World) (h : c < 0 ∨ 5 ≤ c) :
    Calls Try.prog 13 #[.int .i64 c, .slice A len cap] w fun e w' => e = .returned (.bool true) ∧ Below w.heap.size w w' := by
  have hn := block_new_no c w h
  have HN := Lib.hid hn
  clear hn
  rcases h with h | h
  · go_enter Try.func13, Try.ntmps13
    go_wp2_with fail
    refine (HN.out).mono ?_
    rintro e w1 ⟨rfl, hb⟩
    have HU1 : Hid (Upd [] w w1) := Lib.hid (Upd.of_below hb)
    clear hb
    go_wp2_with fail
    refine (err1 _).mono ?_
    rintro e w' ⟨rfl, rfl⟩
    go_wp2_with fail
    refine (awake5_calls _).mono ?_
    rintro e w6 ⟨rfl, hb⟩
    have HB := Lib.hid (HU1.out.step (Upd.of_below hb : Upd [] _ _) (by simp))
    clear hb
    go_wp2_with fail
    go_ret
    exact ⟨rfl, HB.out.below⟩
  · have h' : ¬ c < 0 := by omega
    go_enter Try.func13, Try.ntmps13
    go_wp2_with fail
    refine (HN.out).mono ?_
    rintro e w1 ⟨rfl, hb⟩
    have HU1 : Hid (Upd [] w w1) := Lib.hid (Upd.of_below hb)
    clear hb
    go_wp2_with fail
    refine (err1 _).mono ?_
    rintro e w' ⟨rfl, rfl⟩
    go_wp2_with fail
    refine (awake5_calls _).mono ?_
    rintro e w6 ⟨rfl, hb⟩
    have HB := Lib.hid (HU1.out.step (Upd.of_below hb : Upd [] _ _) (by simp))
    clear hb
    go_wp2_with fail
    go_ret
    exact ⟨rfl, HB.out.below⟩

theorem placeB_has {l : List Bool} {k : Int} (h : hasB l k = true) : ∃ i : Nat, k = i ∧ i < l.length := by
  by_cases hk : k < 0 ∨ (l.length : Int) ≤ k
  · rw [hasB_no hk] at h; cases h
  · exact ⟨k.toNat, by omega, by omega⟩

set_option maxRecDepth 100000 in
set_option maxHeartbeats 8000000 in
theorem bkruns_yes (c n cap : Nat) (A : Option Addr) (xs : List Int) (w : World) (hc5 : c < 5) (hn : xs.length = n) (hl : n ≤ 9223372036854775807) (hA : Reads w .i64 A xs) (hx : ∀ v ∈ xs, -9223372036854775808 ≤ v ∧ v ≤ 9223372036854775807) :
    Calls Try.prog 13 #[.int .i64 c, .slice A n cap] w fun e w' => e = .returned (.bool true) ∧ Below w.heap.size w w' := by
  have hsz : ∀ i, i < 5 → ([2, 4, 8, 16, 32] : List Int).getD i 0 = wordsOf i := by decide
  have hszc := hsz c hc5
  obtain ⟨W, m, hW, hm, hW1, hW2, hm1, hm2, hdiv, hwm⟩ := room_of c hc5
  rw [hW] at hszc
  have hmk := fun W => run_make_all (P := Try.prog) 52 4 (.bool false) 1 Try.underlying52 bool_info rfl (m : Int) m rfl (by omega) (by omega) W
  have HN := Lib.hid hn
  have HA := Lib.hid hA
  have HX := Lib.hid hx
  have HD := Lib.hid hdiv
  have HWM := Lib.hid hwm
  have HSZ := Lib.hid hszc
  have HNEW : Hid (∀ w, Calls Try.prog 41 #[.int .i64 c] w fun e w' => ∃ q p g, e = .returned (.tuple #[.pointer (some ⟨q, 0, none⟩), .int .i64 0]) ∧ IsPage w' q p g W (List.replicate m false) ∧
    w.heap.size ≤ q ∧ w.heap.size ≤ p ∧ w.heap.size ≤ g ∧ Below w.heap.size w w') := Lib.hid (fun w => by
      have := block_new_yes c w (by omega)
      unfold NewPage at this
      rw [hW, hm] at this
      exact this)
  clear hdiv hW hm hn hA hx hsz hszc hwm
  go_enter Try.func13, Try.ntmps13
  go_wp2_with fail
  refine (HNEW.out _).mono ?_
  rintro e w1 ⟨q, p, g, rfl, hA, hq, hp, hg, hbl⟩
  clear HNEW
  have c0 : w1.cell? ⟨q, 0, none⟩ = some (.pointer (some ⟨p, 0, none⟩)) := hA.1.cell 0
  have H := Lib.hid hA
  have HB := Lib.hid hbl
  have HG := Lib.hid (And.intro hg (And.intro hp hq))
  clear hA hbl hq hp hg
  go_wp2_with fail
  refine (err0 _).mono ?_
  rintro e w' ⟨rfl, rfl⟩
  go_wp2_with fail
  refine (sizes1_calls _).mono ?_
  rintro e w2 ⟨s, rfl, hs, hsw, hb⟩
  have c1 := hs.int c hc5
  rw [HSZ.out] at c1
  have HP2 := Lib.hid (H.out.upd (Upd.of_below hb : Upd [] _ _) (by simp) (by simp) (by simp))
  have HU2 := Lib.hid ((Upd.of_below HB.out : Upd [] w w1).step (Upd.of_below hb : Upd [] _ _) (by simp))
  clear hs hsw hb c0 H HB
  go_upto_region 7 with fail
  simp only [HD.out]
  clear c1
  go_upto_block 0 with fail
  have hR : Blk (w2.alloc (.cells (Array.replicate m (Value.bool false)) 4)) w2.heap.size 4 (bools (List.replicate m false)) := by rw [bools_zero]; exact Blk.new w2 _ _
  have hP3 := HP2.out.upd ((Upd.refl [] w2).alloc (.cells (Array.replicate m (Value.bool false)) 4)) (by simp) (by simp) (by simp)
  have hU3 := HU2.out.alloc (.cells (Array.replicate m (Value.bool false)) 4)
  have hF : w2.heap.size ≠ g ∧ w2.heap.size ≠ p ∧ w2.heap.size ≠ q ∧ w.heap.size ≤ w2.heap.size := ⟨by have := HP2.out.2.2.lt; omega, by have := HP2.out.2.1.lt; omega, by have := HP2.out.1.lt; omega, HU2.out.size⟩
  obtain ⟨f, hf⟩ : ∃ f, w2.heap.size = f := ⟨_, rfl⟩
  obtain ⟨w3, hw3⟩ : ∃ w3, w2.alloc (.cells (Array.replicate m (Value.bool false)) 4) = w3 := ⟨_, rfl⟩
  rw [hf] at hR hF
  rw [hw3] at hR hP3 hU3
  simp only [hf, hw3]
  obtain ⟨L0, hL0⟩ : ∃ L0, List.replicate m false = L0 := ⟨_, rfl⟩
  have HL0 : Hid (L0.length = m) := Lib.hid (by rw [← hL0]; simp)
  rw [hL0] at hR hP3
  have HR3 := Lib.hid hR
  have HP3 := Lib.hid hP3
  have HU3 := Lib.hid hU3
  have HF := Lib.hid hF
  clear hR hP3 hU3 hF hf hw3 HP2 HU2 hmk hL0
  go_cut [9] (fun _ wx => ∃ L : List Bool, Hid (L.length = m) ∧ Hid (IsPage wx q p g W L) ∧ Hid (Upd [] w wx))
  case first =>
    go_wp2_with fail
    go_loopg [9] n (fun gk i wr => ∃ (j : Nat) (L : List Bool), gk = n - j ∧ j ≤ n ∧ j ≤ 90 ∧ i = .int .i64 j ∧ Hid (L.length = m) ∧ Hid (IsPage wr q p g W L) ∧ Hid (Blk wr f 4 (bools L)) ∧ Hid (Upd [] w wr))
    case atStart => exact ⟨0, L0, rfl, by omega, by omega, rfl, HL0, HP3, HR3, HU3⟩
    case round =>
      clear HL0 HP3 HR3 HU3 L0
      obtain ⟨j, L, rfl, hj, hj90, rfl, HL, HP, HR, HU⟩ := hrel
      by_cases hlt : j < n
      · by_cases h90 : j < 90
        · obtain ⟨b, off, rfl, hb, hcell⟩ := HA.out.at HN.out hlt
          have hcr := (HU.out.cell (p := ⟨b, off + j, none⟩) hb (by simp)).trans hcell
          have hv := HX.out _ (getD_mem (by rw [HN.out]; exact hlt))
          obtain ⟨v, hv'⟩ : ∃ v, xs.getD j 0 = v := ⟨_, rfl⟩
          rw [hv'] at hcr hv
          have hbf : b ≠ f := by have := HF.out; omega
          have hbg : b ≠ g := by have := HG.out; omega
          have HBW := Lib.hid hb
          clear hcell hb hv'
          obtain ⟨hv1, hv2⟩ := hv
          have HL4 : Hid (L.length ≤ 16384) := Lib.hid (by rw [HL.out]; omega)
          go_upto_if 72 with fail
          go_cut [10, 11, 12, 13, 14] (fun _ _ _ _ _ wx => ∃ L' : List Bool, Hid (L'.length = m) ∧ Hid (IsPage wx q p g W L') ∧ Hid (Blk wx f 4 (bools L')) ∧ Hid (Upd [] w wx))
          case first =>
            by_cases h3 : v.tmod 3 = 0
            · obtain ⟨k, hk⟩ : ∃ k, v.tdiv 3 = k := ⟨_, rfl⟩
              have HK := Lib.hid hk
              clear hk
              go_wp2_with fail
              simp only [HK.out]
              cases hh : hasB L k with
              | true =>
                obtain ⟨i, rfl, him⟩ := placeB_has hh
                rw [HL.out] at him
                have HH := Lib.hid hh
                clear hh
                refine (give_yes q p g W L i _ HP.out HH.out (by rw [HL.out]; exact him)).mono ?_
                rintro e w4 ⟨rfl, hp4, hu4⟩
                have hR4 := HR.out.upd hu4 (show f ∉ [g] by have := HF.out; simp; omega)
                have hn := ref_has f m L i w4 hR4
                rw [HL.out, HH.out] at hn
                have HNX := Lib.hid hn
                have HR4 := Lib.hid hR4
                have HP4 := Lib.hid hp4
                have HU4 := Lib.hid (HU.out.step hu4 (by have := HG.out; simp; omega))
                clear hn hR4 hp4 hu4
                go_wp2_with fail
                refine (err0 _).mono ?_
                rintro e w' ⟨rfl, rfl⟩
                go_wp2_with fail
                refine (HNX.out).mono ?_
                rintro e w' ⟨rfl, rfl⟩
                have c2 := HR4.out.frozen i
                have c3 := HR4.out.bool i (by rw [HL.out]; exact him)
                go_wp2_with fail
                go_meet
                refine ⟨L.set i false, Lib.hid (by rw [List.length_set, HL.out]), Lib.hid (HP4.out.upd ((Upd.refl [f] w4).setCell (p := ⟨f, i, none⟩) (.inl (by simp)) _) (by have := HF.out; simp; omega) (by have := HF.out; simp; omega) (by have := HF.out; simp; omega)), Lib.hid (by rw [← bools_set]; exact HR4.out.set_ i _), Lib.hid (HU4.out.setCell (p := ⟨f, i, none⟩) (.inr HF.out.2.2.2) _)⟩
              | false =>
                have hn := ref_has f m L k wr HR.out
                rw [HL.out, hh] at hn
                have HNX := Lib.hid hn
                have HH := Lib.hid hh
                clear hh hn
                refine (give_no q p g W L k _ HP.out HH.out).mono ?_
                rintro e w' ⟨rfl, rfl⟩
                go_wp2_with fail
                refine (err2 _).mono ?_
                rintro e w' ⟨rfl, rfl⟩
                go_wp2_with fail
                refine (HNX.out).mono ?_
                rintro e w' ⟨rfl, rfl⟩
                go_wp2_with fail
                go_meet
                exact ⟨L, HL, HP, HR, HU⟩
            · obtain ⟨r, hr⟩ : ∃ r, nextZ L false 0 = r := ⟨_, rfl⟩
              have hrr := nextZ_range L false 0
              rw [hr, HL.out] at hrr
              have HN2 := Lib.hid hr
              clear hr
              by_cases hr0 : r = -1
              · subst hr0
                clear hrr
                go_wp2_with fail
                refine (take_no q p g W L _ HP.out HL4.out HN2.out).mono ?_
                rintro e w' ⟨rfl, rfl⟩
                have hn := ref_next f m L 0 false wr HR.out (by omega) HL4.out
                rw [HL.out, HN2.out] at hn
                have HNX := Lib.hid hn
                clear hn
                go_wp2_with fail
                refine (HNX.out).mono ?_
                rintro e w' ⟨rfl, rfl⟩
                go_wp2_with fail
                refine (err3 _).mono ?_
                rintro e w' ⟨rfl, rfl⟩
                go_wp2_with fail
                go_meet
                exact ⟨L, HL, HP, HR, HU⟩
              · obtain ⟨i, rfl⟩ := Int.eq_ofNat_of_zero_le (show 0 ≤ r by omega)
                have him : i < m := by omega
                clear hrr hr0
                go_wp2_with fail
                refine (take_yes q p g W L i _ HP.out HL4.out HN2.out).mono ?_
                rintro e w4 ⟨rfl, hp4, hu4⟩
                have hR4 := HR.out.upd hu4 (show f ∉ [g] by have := HF.out; simp; omega)
                have hn := ref_next f m L 0 false w4 hR4 (by omega) HL4.out
                rw [HL.out, HN2.out] at hn
                have HNX := Lib.hid hn
                have HR4 := Lib.hid hR4
                have HP4 := Lib.hid hp4
                have HU4 := Lib.hid (HU.out.step hu4 (by have := HG.out; simp; omega))
                clear hn hR4 hp4 hu4
                go_wp2_with fail
                refine (HNX.out).mono ?_
                rintro e w' ⟨rfl, rfl⟩
                go_wp2_with fail
                refine (err0 _).mono ?_
                rintro e w' ⟨rfl, rfl⟩
                have c2 := HR4.out.frozen i
                have c3 := HR4.out.bool i (by rw [HL.out]; exact him)
                go_wp2_with fail
                go_meet
                refine ⟨L.set i true, Lib.hid (by rw [List.length_set, HL.out]), Lib.hid (HP4.out.upd ((Upd.refl [f] w4).setCell (p := ⟨f, i, none⟩) (.inl (by simp)) _) (by have := HF.out; simp; omega) (by have := HF.out; simp; omega) (by have := HF.out; simp; omega)), Lib.hid (by rw [← bools_set]; exact HR4.out.set_ i _), Lib.hid (HU4.out.setCell (p := ⟨f, i, none⟩) (.inr HF.out.2.2.2) _)⟩
          case rest =>
            clear HL HP HR HU HL4
            obtain ⟨L', HL, HP, HR, HU⟩ := hcut
            have HL4 : Hid (L'.length ≤ 16384) := Lib.hid (by rw [HL.out]; omega)
            obtain ⟨z, hz⟩ : ∃ z : Nat, countB L' = z := ⟨_, rfl⟩
            obtain ⟨e1, he1⟩ : ∃ e, decide (z = 0) = e := ⟨_, rfl⟩
            obtain ⟨e2, he2⟩ : ∃ e, decide (z = m) = e := ⟨_, rfl⟩
            have h1 := empty_any q p g W L' wc HP.out HL4.out
            have h2 := full_any q p g W L' wc HP.out HL4.out
            have h3 := ref_count f m L' wc HR.out HL4.out
            rw [HL.out, hz] at h2
            rw [HL.out] at h3
            rw [hz] at h1 h3
            rw [he1] at h1
            rw [he2] at h2
            have HZ := Lib.hid hz
            have H1 := Lib.hid h1
            have H2 := Lib.hid h2
            have H3 := Lib.hid h3
            have HE1 : Hid ((((z : Nat) : Int) == 0) = e1) := Lib.hid (by rw [← he1]; by_cases h : z = 0 <;> simp [h])
            have HE2 : Hid ((((z : Nat) : Int) == ((m : Nat) : Int)) = e2) := Lib.hid (by
              rw [← he2]
              by_cases h : z = m
              · simp [h]
              · have h2 : ¬ ((z : Nat) : Int) = ((m : Nat) : Int) := by omega
                simp [h, h2])
            clear hz he1 he2 h1 h2 h3
            go_wp2_with fail
            refine (H1.out).mono ?_
            rintro e w' ⟨rfl, rfl⟩
            go_wp2_with fail
            refine (H3.out).mono ?_
            rintro e w' ⟨rfl, rfl⟩
            have he1 := HE1.out
            go_wp2_with fail
            refine (H2.out).mono ?_
            rintro e w' ⟨rfl, n1, rfl⟩
            have hP5 : IsPage (wc.drewN n1) q p g W L' := HP.out
            have hR5 : Blk (wc.drewN n1) f 4 (bools L') := HR.out
            have hU5 : Upd [] w (wc.drewN n1) := HU.out.drewN n1
            obtain ⟨w5, hw5⟩ : ∃ w5, wc.drewN n1 = w5 := ⟨_, rfl⟩
            rw [hw5] at hP5 hR5 hU5 ⊢
            have c0 : w5.cell? ⟨q, 0, none⟩ = some (.pointer (some ⟨p, 0, none⟩)) := hP5.1.cell 0
            have h3 := ref_count f m L' w5 hR5 HL4.out
            have h4 := count_any p g L' w5 hP5.2 HL4.out
            rw [HL.out] at h3
            rw [HZ.out] at h3 h4
            have H3 := Lib.hid h3
            have H4 := Lib.hid h4
            have HP5 := Lib.hid hP5
            have HR5 := Lib.hid hR5
            have HU5 := Lib.hid hU5
            clear hw5 h3 h4 hP5 hR5 hU5
            have he2 := HE2.out
            go_wp2_with fail
            refine (H3.out).mono ?_
            rintro e w' ⟨rfl, rfl⟩
            go_wp2_with fail
            refine (H4.out).mono ?_
            rintro e w' ⟨rfl, rfl⟩
            go_wp2_with fail
            refine (H3.out).mono ?_
            rintro e w' ⟨rfl, rfl⟩
            go_wp2_with fail
            go_roundg (n - (j + 1))
            case measure => omega
            case rel => exact ⟨j + 1, L', rfl, by omega, by omega, by go_num, HL, HP5, HR5, HU5⟩
        · obtain rfl : j = 90 := by omega
          go_wp2_with fail
          go_meet
          exact ⟨L, HL, HP, HU⟩
      · obtain rfl : j = n := by omega
        go_wp2_with fail
        go_meet
        exact ⟨L, HL, HP, HU⟩
  case rest =>
    obtain ⟨L, HL, HP, HU⟩ := hcut
    go_wp2_with fail
    refine (words_any q p g W _ _ HP.out).mono ?_
    rintro e w' ⟨rfl, rfl⟩
    have c0 := (show IsPage wc q p g W L from HP.out).1.cell 0
    have hw : (W : Int) * (m : Int) = 64 := by have := HWM.out; exact_mod_cast this
    have hz := bits_size p g L wc HP.out.2
    rw [HL.out] at hz
    have HZ := Lib.hid hz
    clear hz
    go_wp2_with fail
    refine (HZ.out).mono ?_
    rintro e w' ⟨rfl, rfl⟩
    go_wp2_with fail
    refine (awake5_calls _).mono ?_
    rintro e w9 ⟨rfl, hb⟩
    have HE := Lib.hid (HU.out.step (Upd.of_below hb : Upd [] _ _) (by simp))
    clear hb
    go_wp2_with fail
    go_ret
    exact ⟨rfl, HE.out.below⟩

theorem bkruns_all (c : Int) (n cap : Nat) (A : Option Addr) (xs : List Int) (w : World) (hn : xs.length = n) (hl : n ≤ 9223372036854775807) (hA : Reads w .i64 A xs) (hx : ∀ v ∈ xs, -9223372036854775808 ≤ v ∧ v ≤ 9223372036854775807) :
    Calls Try.prog 13 #[.int .i64 c, .slice A n cap] w fun e w' => e = .returned (.bool true) ∧ Below w.heap.size w w' := by
  by_cases hc : c < 0 ∨ 5 ≤ c
  · exact bkruns_no c A n cap w hc
  · obtain ⟨c, rfl⟩ := Int.eq_ofNat_of_zero_le (show 0 ≤ c by omega)
    exact bkruns_yes c n cap A xs w (by omega) hn hl hA hx
end Go.Proofs.Ytnphkgiiondjkaa
