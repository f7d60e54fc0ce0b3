/- The walk of PagesGiven: at every input the law returns true, and nothing that was there has turned. -/
import Derived.Test.YtnphkgiiondjkaaPagesRefuses
import Derived.Test.YtnphkgiiondjkaaOwn2
namespace Go.Proofs.Ytnphkgiiondjkaa
open Go Go.RowKit

/-- What was taken, each run with its size: it is so, and lies behind page 0. -/
def Taken (L : List Bool) (AS SS : List Int) : Prop := ∀ j, j < AS.length → ∃ a k : Nat, AS.getD j 0 = a ∧ SS.getD j 0 = k ∧ 1 ≤ a ∧ 1 ≤ k ∧ k ≤ 9 ∧ a + k ≤ 64 ∧ ∀ x, a ≤ x → x < a + k → L.getD x false = true
theorem getD_snoc (l : List Int) (y : Int) (j : Nat) : (l ++ [y]).getD j 0 = if j < l.length then l.getD j 0 else if j = l.length then y else 0 := by
  rw [List.getD_eq_getElem?_getD, List.getElem?_append, List.getD_eq_getElem?_getD]
  by_cases h : j < l.length
  · rw [if_pos h, if_pos h]
  · rw [if_neg h, if_neg h]
    by_cases h2 : j = l.length
    · subst h2; simp
    · rw [if_neg h2, List.getElem?_eq_none (by simp; omega)]; rfl
theorem taken_step {L : List Bool} {AS SS : List Int} {a k : Nat} (h : Taken L AS SS) (hs : AS.length = SS.length) (hL : L.length = 64) (ha : 1 ≤ a) (hk : 1 ≤ k) (hk9 : k ≤ 9) (hak : a + k ≤ 64) :
    Taken (span L true a k) (AS ++ [(a : Int)]) (SS ++ [(k : Int)]) := by
  intro j hj
  rw [getD_snoc, getD_snoc, ← hs]
  rw [List.length_append, List.length_singleton] at hj
  by_cases h1 : j < AS.length
  · rw [if_pos h1, if_pos h1]
    obtain ⟨x, y, e1, e2, e3, e4, e5, e6, e7⟩ := h j h1
    refine ⟨x, y, e1, e2, e3, e4, e5, e6, fun z hz1 hz2 => ?_⟩
    rw [span_get _ _ _ _ _ (by omega)]
    split
    · rfl
    · exact e7 z hz1 hz2
  · rw [if_neg h1, if_neg h1, if_pos (by omega), if_pos (by omega)]
    exact ⟨a, k, rfl, rfl, ha, hk, hk9, hak, fun z hz1 hz2 => by rw [span_get _ _ _ _ _ (by omega), if_pos ⟨hz1, hz2⟩]⟩
/-- What is free now lies beside what was taken. -/
theorem taken_apart {L : List Bool} {a k x y : Nat} (hf : freeB L a k = true) (ht : ∀ z, x ≤ z → z < x + y → L.getD z false = true) (hy : 1 ≤ y) (hk : 1 ≤ k) : a < x + y → x < a + k → False := by
  intro h1 h2
  have h3 := freeB_true.1 hf (max a x) (by omega) (by omega)
  have h4 := ht (max a x) (by omega) (by omega)
  rw [h3] at h4
  cases h4
theorem run_le {L : List Bool} {x y : Nat} (hy : 1 ≤ y) (hxy : x + y ≤ L.length) (hf : freeB L x y = true) : ∃ a : Nat, runZ L 0 y = a ∧ a ≤ x := by
  have h1 := isRun_runZ L 0 y (by omega)
  rcases h1 with ⟨_, h1⟩ | ⟨a, h1, _, h3, h4, h5⟩
  · obtain ⟨j, h2, h3, h4⟩ := h1 x (by omega) (by simpa using hxy)
    have := freeB_true.1 hf j h2 (by simpa using h3)
    rw [this] at h4
    cases h4
  · refine ⟨a, h1, ?_⟩
    rcases Nat.lt_or_ge x a with h | h
    · obtain ⟨j, h6, h7, h8⟩ := h5 x (by omega) h
      have := freeB_true.1 hf j h6 (by simpa using h7)
      rw [this] at h8
      cases h8
    · exact h
/-- A run that is found lies behind what is so. -/
theorem run_behind {L : List Bool} {a k : Nat} (h0 : L.getD 0 false = true) (hk : 1 ≤ k) (hf : freeB L a k = true) : 1 ≤ a := by
  rcases Nat.eq_zero_or_pos a with rfl | h
  · have := freeB_true.1 hf 0 (by omega) (by omega)
    rw [h0] at this
    cases this
  · exact h
theorem runZ_low' {L : List Bool} {k : Nat} (hk : 1 ≤ k) : runZ L 0 k = -1 ∨ ∃ a : Nat, runZ L 0 k = a := by
  rcases isRun_runZ L 0 k (by omega) with ⟨h, _⟩ | ⟨a, h, _⟩
  · exact .inl h
  · exact .inr ⟨a, h⟩
theorem IsInts.keep3 {w w' : World} {A : Option Addr} {xs : List Int} {g : Nat} {l : List Bool} (h : IsInts w A xs) (hu : Upd [g] w w') (hg : Blk w g 4 (bools l)) : IsInts w' A xs := by
  rcases Nat.eq_zero_or_pos xs.length with h0 | h0
  · exact .inl (List.eq_nil_of_length_eq_zero h0)
  refine h.upd hu (.inr fun a ha => ?_)
  rcases h with rfl | ⟨b, off, h1, h2, h3⟩
  · simp at h0
  · rw [ha] at h1
    simp only [Option.some.injEq] at h1
    subst h1
    intro hm
    rw [List.mem_singleton] at hm
    simp only at hm
    subst hm
    have h4 := hg.cell (off + 0)
    rw [h3 0 h0, bools_at] at h4
    rcases h5 : l[off + 0]? with _ | y <;> rw [h5] at h4 <;> simp at h4
theorem IsInts.at {w : World} {A : Option Addr} {xs : List Int} (h : IsInts w A xs) {j : Nat} (hj : j < xs.length) : ∃ b off, A = some ⟨b, off, none⟩ ∧ b < w.heap.size ∧ ∀ i, i < xs.length → w.cell? ⟨b, off + i, none⟩ = some (.int .i64 (xs.getD i 0)) := by
  rcases h with rfl | h
  · simp at hj
  · exact h

set_option maxRecDepth 100000 in
set_option maxHeartbeats 8000000 in
theorem pgiven_walk (n cap W : Nat) (A : Option Addr) (xs : List Int) (w : World) (hn : xs.length = n) (hl : n ≤ 9223372036854775807) (hW : W ≤ 255) (hA : Reads w .u8 A xs) (hx : ∀ v ∈ xs, 0 ≤ v ∧ v ≤ 255) :
    Calls Try.prog 16 #[.slice A n cap, .int .u8 W] w fun e w' => e = .returned (.bool true) ∧ Below w.heap.size w w' := by
  have HN := Lib.hid hn
  have HA := Lib.hid hA
  have HX := Lib.hid hx
  have N1 := fun w => pages_new_fill 64 w (by omega) (by omega)
  have HN1 := Lib.hid N1
  clear hn hA hx N1
  go_enter Try.func16, Try.ntmps16
  go_wp2_with fail
  refine (HN1.out _).mono ?_
  rintro e w1 ⟨q, p, g, rfl, hA, hq, hp, hg, hb⟩
  have c0 : w1.cell? ⟨q, 0, none⟩ = some (.pointer (some ⟨p, 0, none⟩)) := hA.1.cell 0
  have H := Lib.hid hA
  have HB := Lib.hid hb
  have HG : Hid (w.heap.size ≤ g ∧ q < w1.heap.size ∧ p < w1.heap.size ∧ g < w1.heap.size ∧ w.heap.size ≤ w1.heap.size) := Lib.hid ⟨hg, hA.1.lt, hA.2.1.lt, hA.2.2.lt, hb.size⟩
  clear hA hb hq hp hg HN1
  go_wp2_with fail
  refine (err0 _).mono ?_
  rintro e w' ⟨rfl, rfl⟩
  go_upto_block 0 with fail
  clear c0
  go_cut [7, 8, 9, 10] (fun v1 v2 lf _ wx => ∃ (L : List Bool) (AS SS : List Int) (m lv : Nat), lf = .int .i64 lv ∧ m ≤ 20 ∧ lv ≤ 63 ∧ Hid (L.length = 64) ∧ Hid (countB L + lv = 64) ∧ Hid (AS.length = m) ∧ Hid (SS.length = m) ∧ Hid (Taken L AS SS) ∧
    Hid (IsPages wx q p g L) ∧ Hid (Own wx w1.heap.size v1 AS) ∧ Hid (Own wx w1.heap.size v2 SS) ∧ Hid (Upd [] w wx))
  case first =>
    go_wp2_with fail
    go_loopg [7, 8, 9, 10] n (fun gk v1 v2 lf i wr => ∃ (j m lv : Nat) (L : List Bool) (AS SS : List Int), gk = n - j ∧ j ≤ n ∧ j ≤ 20 ∧ m ≤ j ∧ lv ≤ 63 ∧ i = .int .i64 j ∧ lf = .int .i64 lv ∧ Hid (L.length = 64) ∧ Hid (countB L + lv = 64) ∧ Hid (L.getD 0 false = true) ∧ Hid (AS.length = m) ∧ Hid (SS.length = m) ∧ Hid (Taken L AS SS) ∧
      Hid (IsPages wr q p g L) ∧ Hid (Own wr w1.heap.size v1 AS) ∧ Hid (Own wr w1.heap.size v2 SS) ∧ Hid (Apart v1 v2) ∧ Hid (Upd [] w wr) ∧ Hid (w1.heap.size ≤ wr.heap.size))
    case atStart => exact ⟨0, 0, 63, _, [], [], rfl, by omega, by omega, by omega, by omega, rfl, rfl, Lib.hid (fillB_length (by omega)), Lib.hid (by rw [fillB_count]), Lib.hid (by rw [fillB_get]; rfl), Lib.hid rfl, Lib.hid rfl, Lib.hid (fun j hj => by simp at hj), H, Lib.hid (Own.nil _ _), Lib.hid (Own.nil _ _), Lib.hid (Apart.none _ _ _), Lib.hid (Upd.of_below HB.out), Lib.hid (Nat.le_refl _)⟩
    case round =>
      clear H
      obtain ⟨j, m, lv, L, AS, SS, rfl, hj, hj20, hmj, hlv, rfl, rfl, HL, HC, H0, HM1, HM2, HT, HP, HO1, HO2, HAP, HU, HS⟩ := hrel
      by_cases hlt : j < n
      · by_cases h20 : j < 20
        · obtain ⟨b, off, rfl, hb, hcell⟩ := HA.out.at HN.out hlt
          have hcr := (HU.out.cell (p := ⟨b, off + j, none⟩) hb (by simp)).trans hcell
          have hv := HX.out _ (getD_mem (by rw [HN.out]; exact hlt))
          obtain ⟨v, hv'⟩ := Int.eq_ofNat_of_zero_le hv.1
          rw [hv'] at hcr hv
          have hv2 : v ≤ 255 := by omega
          clear hcell hb hv' hv
          obtain ⟨k, hk⟩ : ∃ k : Nat, 1 + (v : Int) % 9 = k := ⟨1 + v % 9, by omega⟩
          have hk1 : 1 ≤ k := by omega
          have hk9 : k ≤ 9 := by omega
          have HL4 : Hid (L.length ≤ 256) := Lib.hid (by rw [HL.out]; omega)
          rcases runZ_low' (L := L) (k := k) hk1 with hr | ⟨a, hr⟩
          · have HR := Lib.hid hr
            clear hr
            go_wp2_with fail
            refine (ptake_no q p g L k _ HP.out HL4.out (by omega) (by omega) HR.out).mono ?_
            rintro e w' ⟨rfl, rfl⟩
            clear hk
            go_wp2_with fail
            refine (err3 _).mono ?_
            rintro e w' ⟨rfl, rfl⟩
            go_wp2_with fail
            refine (err3 _).mono ?_
            rintro e w' ⟨rfl, rfl⟩
            have c0 : wr.cell? ⟨q, 0, none⟩ = some (.pointer (some ⟨p, 0, none⟩)) := HP.out.1.cell 0
            go_wp2_with fail
            have hq := run_any p g L 0 k _ HP.out.2 (by omega) (by omega) (by rw [HL.out]; omega)
            rw [HR.out] at hq
            refine hq.mono ?_
            rintro e w' ⟨rfl, rfl⟩
            clear hq
            go_wp2_with fail
            go_roundg (n - (j + 1))
            case measure => omega
            case rel => exact ⟨j + 1, m, lv, L, AS, SS, rfl, by omega, by omega, by omega, hlv, by go_num, rfl, HL, HC, H0, HM1, HM2, HT, HP, HO1, HO2, HAP, HU, HS⟩
          · obtain ⟨hak, hfr, _⟩ := run_free hk1 hr
            have ha1 := run_behind H0.out hk1 hfr
            rw [HL.out] at hak
            have hct := count_take (l := L) (a := a) (k := k) (by rw [HL.out]; exact hak) hfr
            have hlk : k ≤ lv := by
              have h1 := countB_le (span L true a k)
              rw [span_length, HL.out] at h1
              have := HC.out
              omega
            have HR := Lib.hid hr
            have HFR := Lib.hid hfr
            have HCT := Lib.hid hct
            clear hr hfr hct
            go_wp2_with fail
            refine (ptake_yes q p g L k a _ HP.out HL4.out hk1 HR.out).mono ?_
            rintro e w2 ⟨rfl, hp2, hu2⟩
            clear hk
            have HP2 := Lib.hid hp2
            have HU2 := Lib.hid (HU.out.step hu2 (by have := HG.out; simp; omega))
            have HO12 := Lib.hid (HO1.out.upd hu2 (by have := HG.out; simp; omega))
            have HO22 := Lib.hid (HO2.out.upd hu2 (by have := HG.out; simp; omega))
            have HS2 := Lib.hid (Nat.le_trans HS.out hu2.size)
            clear hp2 hu2 HP HO1 HO2 HU HS
            obtain ⟨A1, cp1, hv1, hI1, _⟩ := HO12.out.form
            obtain ⟨A2, cp2, hv2', hI2, _⟩ := HO22.out.form
            rw [HM1.out] at hv1
            rw [HM2.out] at hv2'
            subst hv1 hv2'
            have HI1 := Lib.hid hI1
            have HI2 := Lib.hid hI2
            clear hI1 hI2
            go_wp2_with fail
            refine (err0 _).mono ?_
            rintro e w' ⟨rfl, rfl⟩
            go_upto_block 2 with fail
            go_cut [14] (fun _ wx => ∃ nd, wx = w2.drewN nd)
            case first =>
              go_wp2_with fail
              go_loopg [14] m (fun gk i wl => ∃ d nd : Nat, gk = m - d ∧ d ≤ m ∧ i = .int .i64 d ∧ wl = w2.drewN nd)
              case atStart => exact ⟨0, 0, rfl, by omega, rfl, rfl⟩
              case round =>
                obtain ⟨d, nd, rfl, hd, rfl, rfl⟩ := hrel
                by_cases hdm : d < m
                · obtain ⟨x, y, e1, e2, e3, e4, e5, e6, e7⟩ := HT.out d (by rw [HM1.out]; exact hdm)
                  have hap := taken_apart HFR.out e7 e4 hk1
                  obtain ⟨b1, o1, rfl, _, hc1⟩ := HI1.out.at (j := d) (by rw [HM1.out]; exact hdm)
                  obtain ⟨b2, o2, rfl, _, hc2⟩ := HI2.out.at (j := d) (by rw [HM2.out]; exact hdm)
                  have hc1 := hc1 d (by rw [HM1.out]; exact hdm)
                  have hc2 := hc2 d (by rw [HM2.out]; exact hdm)
                  rw [e1] at hc1
                  rw [e2] at hc2
                  clear e1 e2 e7
                  by_cases hxy : a < x + y
                  · have hxa : ¬ x < a + k := fun h => hap hxy h
                    clear hap
                    go_upto_region 19 with fail
                    have hb1 : decide ((a : Int) < (x : Int) + (y : Int)) = true := decide_eq_true (by omega)
                    have hb2 : decide ((x : Int) < (a : Int) + (k : Int)) = false := decide_eq_false (by omega)
                    go_quiet (fail)
                    go_wp2_with fail
                    go_roundg (m - (d + 1))
                    case measure => omega
                    case rel => exact ⟨d + 1, nd + nq, rfl, by omega, by go_num, by first | rfl | simp⟩
                  · clear hap
                    go_upto_region 19 with fail
                    have hb1 : decide ((a : Int) < (x : Int) + (y : Int)) = false := decide_eq_false (by omega)
                    go_quiet (fail)
                    go_wp2_with fail
                    go_roundg (m - (d + 1))
                    case measure => omega
                    case rel => exact ⟨d + 1, nd + nq, rfl, by omega, by go_num, by first | rfl | simp⟩
                · obtain rfl : d = m := by omega
                  go_wp2_with fail
                  go_meet
                  exact ⟨nd, rfl⟩
            case rest =>
              obtain ⟨nd, rfl⟩ := hcut
              have hp3 : IsPages (w2.drewN nd) q p g (span L true a k) := HP2.out
              have ho3 : Own (w2.drewN nd) w1.heap.size (.slice A1 m cp1) AS := HO12.out
              have ho4 : Own (w2.drewN nd) w1.heap.size (.slice A2 m cp2) SS := HO22.out
              have hu3 : Upd [] w (w2.drewN nd) := HU2.out.drewN nd
              have hs3 : w1.heap.size ≤ (w2.drewN nd).heap.size := HS2.out
              obtain ⟨w3, hw3⟩ : ∃ w3, w2.drewN nd = w3 := ⟨_, rfl⟩
              rw [hw3] at hp3 ho3 ho4 hu3 hs3 ⊢
              have HP3 := Lib.hid hp3
              have HO3 := Lib.hid ho3
              have HO4 := Lib.hid ho4
              have HU3 := Lib.hid hu3
              have HS3 := Lib.hid hs3
              clear hp3 ho3 ho4 hu3 hs3 hw3 HP2 HO12 HO22 HU2 HS2 HI1 HI2
              go_wp2_with (at_builtin; refine wpList_push2 rfl _ _ rfl w1.heap.size _ (.slice A2 m cp2) AS SS rfl (HO3.out.alloc _) (HO4.out.alloc _) HAP.out w3.heap.size a rfl (Blk.new _ _ _) (by rw [HM1.out]; omega) (by have := HS3.out; simp; omega) ?_)
              intro v1' w4 E1 ho5 ho6 hap5 hE1 hu5
              have HO5 := Lib.hid ho5
              have HO6 := Lib.hid ho6
              have HAP5 := Lib.hid hap5
              have HP5 := Lib.hid ((HP3.out.upd (E := []) ((Upd.refl [] w3).alloc _) (by simp) (by simp) (by simp)).upd hu5 (fun hm => by have := hE1 _ hm; have := HG.out; omega) (fun hm => by have := hE1 _ hm; have := HG.out; omega) (fun hm => by have := hE1 _ hm; have := HG.out; omega))
              have HU5 := Lib.hid ((HU3.out.alloc _).step hu5 (fun i hi => .inr (by have := hE1 i hi; have := HG.out; omega)))
              have HS5 := Lib.hid (Nat.le_trans HS3.out (Nat.le_trans (Nat.le_succ _) (by have := hu5.size; simpa using this)))
              clear ho5 ho6 hap5 hE1 hu5 HP3 HO3 HO4 HU3 HS3 HAP
              go_wp2_with (at_builtin; refine wpList_push2 rfl _ _ rfl w1.heap.size _ v1' SS (AS ++ [(a : Int)]) rfl (HO6.out.alloc _) (HO5.out.alloc _) HAP5.out.symm w4.heap.size k rfl (Blk.new _ _ _) (by rw [HM2.out]; omega) (by have := HS5.out; simp; omega) ?_)
              intro v2' w5 E2 ho7 ho8 hap7 hE2 hu7
              have HO7 := Lib.hid ho7
              have HO8 := Lib.hid ho8
              have HAP7 := Lib.hid hap7.symm
              have HP7 := Lib.hid ((HP5.out.upd (E := []) ((Upd.refl [] w4).alloc _) (by simp) (by simp) (by simp)).upd hu7 (fun hm => by have := hE2 _ hm; have := HG.out; omega) (fun hm => by have := hE2 _ hm; have := HG.out; omega) (fun hm => by have := hE2 _ hm; have := HG.out; omega))
              have HU7 := Lib.hid ((HU5.out.alloc _).step hu7 (fun i hi => .inr (by have := hE2 i hi; have := HG.out; omega)))
              have HS7 := Lib.hid (Nat.le_trans HS5.out (Nat.le_trans (Nat.le_succ _) (by have := hu7.size; simpa using this)))
              clear ho7 ho8 hap7 hE2 hu7 HP5 HO5 HO6 HU5 HS5 HAP5
              go_wp2_with fail
              go_roundg (n - (j + 1))
              case measure => omega
              case rel =>
                refine ⟨j + 1, m + 1, lv - k, span L true a k, AS ++ [(a : Int)], SS ++ [(k : Int)], rfl, by omega, by omega, by omega, by omega, by go_num, by go_num, Lib.hid (by rw [span_length, HL.out]), Lib.hid (by have := HC.out; have := HCT.out; omega), Lib.hid ?_, Lib.hid (by simp [HM1.out]), Lib.hid (by simp [HM2.out]), Lib.hid (taken_step HT.out (by rw [HM1.out, HM2.out]) HL.out ha1 hk1 hk9 hak), HP7, HO8, HO7, HAP7, HU7, HS7⟩
                rw [span_get _ _ _ _ _ (by rw [HL.out]; omega)]
                split
                · rfl
                · exact H0.out
        · obtain rfl : j = 20 := by omega
          go_wp2_with fail
          go_meet
          exact ⟨L, AS, SS, m, lv, rfl, by omega, hlv, HL, HC, HM1, HM2, HT, HP, HO1, HO2, HU⟩
      · obtain rfl : j = n := by omega
        go_wp2_with fail
        go_meet
        exact ⟨L, AS, SS, m, lv, rfl, by omega, hlv, HL, HC, HM1, HM2, HT, HP, HO1, HO2, HU⟩
  case rest =>
    clear HA HN HX H
    obtain ⟨L, AS, SS, m, lv, rfl, hm20, hlv, HL, HC, HM1, HM2, HT, HP, HO1, HO2, HU⟩ := hcut
    obtain ⟨A1, cp1, hv1, hI1, _⟩ := HO1.out.form
    obtain ⟨A2, cp2, hv2', hI2, _⟩ := HO2.out.form
    rw [HM1.out] at hv1
    rw [HM2.out] at hv2'
    subst hv1 hv2'
    have HI1 := Lib.hid hI1
    have HI2 := Lib.hid hI2
    clear hI1 hI2 HO1 HO2
    have hleft := left_any q p g L wc HP.out (by rw [HL.out]; omega)
    rw [HL.out, show ((64 : Nat) : Int) - countB L = (lv : Int) by have := HC.out; omega] at hleft
    have HLEFT := Lib.hid hleft
    clear hleft
    go_wp2_with fail
    refine (HLEFT.out).mono ?_
    rintro e w' ⟨rfl, n1, rfl⟩
    have hP3 : IsPages (wc.drewN n1) q p g L := HP.out
    have hI1 : IsInts (wc.drewN n1) A1 AS := HI1.out
    have hI2 : IsInts (wc.drewN n1) A2 SS := HI2.out
    have hU3 : Upd [] w (wc.drewN n1) := HU.out.drewN n1
    obtain ⟨w3, hw3⟩ : ∃ w3, wc.drewN n1 = w3 := ⟨_, rfl⟩
    rw [hw3] at hP3 hI1 hI2 hU3 ⊢
    have HP3 := Lib.hid hP3
    have HI1 := Lib.hid hI1
    have HI2 := Lib.hid hI2
    have HU3 := Lib.hid hU3
    clear hP3 hI1 hI2 hU3 hw3 HP HU HLEFT
    by_cases hm0 : m = 0
    · subst hm0
      go_wp2_with fail
      refine (awake3_calls _).mono ?_
      rintro e w9 ⟨rfl, hb⟩
      have HE := Lib.hid (HU3.out.step (Upd.of_below hb : Upd [] _ _) (by simp))
      clear hb
      go_wp2_with fail
      go_ret
      exact ⟨rfl, HE.out.below⟩
    · have hm1 : 1 ≤ m := by omega
      clear hm0
      obtain ⟨j, hj⟩ : ∃ j : Nat, (W : Int) % (m : Int) = j := ⟨W % m, by omega⟩
      have hjm : j < m := by
        have := Int.emod_lt_of_pos (W : Int) (show (0 : Int) < m by omega)
        omega
      have HJ := Lib.hid hj
      clear hj
      obtain ⟨x, y, e1, e2, e3, e4, e5, e6, e7⟩ := HT.out j (by rw [HM1.out]; exact hjm)
      obtain ⟨b1, o1, rfl, hbb1, hc1⟩ := HI1.out.at (j := j) (by rw [HM1.out]; exact hjm)
      obtain ⟨b2, o2, rfl, hbb2, hc2⟩ := HI2.out.at (j := j) (by rw [HM2.out]; exact hjm)
      have hc1 := hc1 j (by rw [HM1.out]; exact hjm)
      have hc2 := hc2 j (by rw [HM2.out]; exact hjm)
      rw [e1] at hc1
      rw [e2] at hc2
      have hgk1 : b1 ≠ g := by
        rintro rfl
        have h4 := HP3.out.2.2.cell (o1 + j)
        rw [hc1, bools_at] at h4
        rcases h5 : L[o1 + j]? with _ | z <;> rw [h5] at h4 <;> simp at h4
      have hgk2 : b2 ≠ g := by
        rintro rfl
        have h4 := HP3.out.2.2.cell (o2 + j)
        rw [hc2, bools_at] at h4
        rcases h5 : L[o2 + j]? with _ | z <;> rw [h5] at h4 <;> simp at h4
      have hfull : fullB L x y = true := fullB_true.2 e7
      have hct := count_give' (l := L) (a := x) (k := y) (by rw [HL.out]; exact e6) hfull
      have HFULL := Lib.hid hfull
      have HGK := Lib.hid (And.intro hgk1 hgk2)
      have HBB := Lib.hid (And.intro hbb1 hbb2)
      have HCT := Lib.hid hct
      clear e1 e2 e7 hfull hct HT hgk1 hgk2 hbb1 hbb2
      go_upto_region 29 with fail
      simp only [HJ.out]
      have hd1 : w3.drew.cell? ⟨b1, o1 + j, none⟩ = some (.int .i64 x) := hc1
      have hd2 : w3.drew.cell? ⟨b2, o2 + j, none⟩ = some (.int .i64 y) := hc2
      have HPd : Hid (IsPages w3.drew q p g L) := Lib.hid HP3.out
      go_region_held3 (fun w' => w'.cell? ⟨b1, o1 + j, none⟩ = some (.int .i64 x) ∧ w'.cell? ⟨b2, o2 + j, none⟩ = some (.int .i64 y)) (first | exact ⟨hd1, hd2⟩ | exact ⟨f1, f2⟩)
        (first
          | (go_at_call 53; refine (pgive_yes q p g L x y _ HPd.out (by rw [HL.out]; omega) e4 e3 (by rw [HL.out]; exact e6) HFULL.out).mono ?_; rintro e w4 ⟨rfl, hp, hu⟩
             have f1 := (hu.cell (p := ⟨b1, o1 + j, none⟩) HBB.out.1 (by have := HGK.out; simp; omega)).trans hd1
             have f2 := (hu.cell (p := ⟨b2, o2 + j, none⟩) HBB.out.2 (by have := HGK.out; simp; omega)).trans hd2
             have HP4 := Lib.hid hp
             have HU4 := Lib.hid (HU3.out.drew.step hu (by have := HG.out; simp; omega))
             clear hp hu))
      have hL2 : (span L false x y).length = 64 := by rw [span_length, HL.out]
      have hno : fullB (span L false x y) x y = false := by
        cases hf : fullB (span L false x y) x y with
        | false => rfl
        | true =>
          have := fullB_true.1 hf x (by omega) (by omega)
          rw [span_get _ _ _ _ _ (by rw [HL.out]; omega), if_pos (by omega)] at this
          cases this
      have hfree : freeB (span L false x y) x y = true := freeB_true.2 fun z h1 h2 => by rw [span_get _ _ _ _ _ (by rw [HL.out]; omega), if_pos ⟨h1, h2⟩]
      obtain ⟨a, ha, hax⟩ := run_le e4 (by rw [hL2]; exact e6) hfree
      have HL2 := Lib.hid hL2
      have HNO := Lib.hid hno
      have HA := Lib.hid ha
      obtain ⟨w5, rfl⟩ : ∃ w5 : World, w5 = w4 := ⟨_, rfl⟩
      clear hL2 hno hfree ha
      go_upto_region 30 with fail
      have hd3 : w5.drew.cell? ⟨b1, o1 + j, none⟩ = some (.int .i64 x) := f1
      have hd4 : w5.drew.cell? ⟨b2, o2 + j, none⟩ = some (.int .i64 y) := f2
      have HPd5 : Hid (IsPages w5.drew q p g (span L false x y)) := Lib.hid HP4.out
      go_region_held3 (fun w' => w'.cell? ⟨b1, o1 + j, none⟩ = some (.int .i64 x) ∧ w'.cell? ⟨b2, o2 + j, none⟩ = some (.int .i64 y)) (first | exact ⟨hd3, hd4⟩)
        (first
          | (go_at_call 53; refine (pgive_no q p g _ x y _ HPd5.out (by rw [HL2.out]; omega) e4 e3 (by rw [HL2.out]; exact e6) HNO.out).mono ?_; rintro e w' ⟨rfl, rfl⟩))
      obtain ⟨z, hz⟩ : ∃ z : Nat, (lv : Int) + (y : Int) = z := ⟨lv + y, by omega⟩
      have hleft := left_any q p g (span L false x y) w5.drew HPd5.out (by rw [HL2.out]; omega)
      rw [HL2.out, show ((64 : Nat) : Int) - countB (span L false x y) = (z : Int) by have := HC.out; have := HCT.out; omega] at hleft
      have HLEFT := Lib.hid hleft
      have HZ := Lib.hid hz
      clear hleft hz
      go_wp2_with fail
      refine (HLEFT.out).mono ?_
      rintro e w' ⟨rfl, n2, rfl⟩
      have hP7 : IsPages (w5.drew.drewN n2) q p g (span L false x y) := HP4.out
      have hU7 : Upd [] w (w5.drew.drewN n2) := HU4.out.drew.drewN n2
      have h71 : (w5.drew.drewN n2).cell? ⟨b1, o1 + j, none⟩ = some (.int .i64 x) := f1
      have h72 : (w5.drew.drewN n2).cell? ⟨b2, o2 + j, none⟩ = some (.int .i64 y) := f2
      obtain ⟨w7, hw7⟩ : ∃ w7, w5.drew.drewN n2 = w7 := ⟨_, rfl⟩
      rw [hw7] at hP7 hU7 h71 h72 ⊢
      have HP7 := Lib.hid hP7
      have HU7 := Lib.hid hU7
      clear hP7 hU7 hw7
      go_wp2_with fail
      refine (ptake_yes q p g _ y a _ HP7.out (by rw [HL2.out]; omega) e4 HA.out).mono ?_
      rintro e w8 ⟨rfl, _, hu⟩
      have HU8 := Lib.hid (HU7.out.step hu (by have := HG.out; simp; omega))
      have h81 := (hu.cell (p := ⟨b1, o1 + j, none⟩) (World.block_lt_of_cell? _ _ h71) (by have := HGK.out; simp; omega)).trans h71
      have h82 := (hu.cell (p := ⟨b2, o2 + j, none⟩) (World.block_lt_of_cell? _ _ h72) (by have := HGK.out; simp; omega)).trans h72
      clear hu
      have hz := HZ.out
      go_wp2_with fail
      refine (ptake_nil 1 _).mono ?_
      rintro e w' ⟨rfl, rfl⟩
      go_wp2_with fail
      refine (err0 _).mono ?_
      rintro e w' ⟨rfl, rfl⟩
      go_wp2_with fail
      refine (err2 _).mono ?_
      rintro e w' ⟨rfl, rfl⟩
      go_wp2_with fail
      refine (err0 _).mono ?_
      rintro e w' ⟨rfl, rfl⟩
      go_wp2_with fail
      refine (err2 _).mono ?_
      rintro e w' ⟨rfl, rfl⟩
      go_wp2_with fail
      refine (pgive_nil 1 1 _).mono ?_
      rintro e w' ⟨rfl, rfl⟩
      go_wp2_with fail
      refine (err2 _).mono ?_
      rintro e w' ⟨rfl, rfl⟩
      go_wp2_with fail
      refine (left_nil _).mono ?_
      rintro e w' ⟨rfl, rfl⟩
      go_wp2_with fail
      refine (awake3_calls _).mono ?_
      rintro e w9 ⟨rfl, hb⟩
      have HE := Lib.hid (HU8.out.step (Upd.of_below hb : Upd [] _ _) (by simp))
      clear hb
      go_wp2_with fail
      go_ret
      exact ⟨rfl, HE.out.below⟩
end Go.Proofs.Ytnphkgiiondjkaa
