/- The walk of BitsRuns: at every input the law returns true, and nothing that was there has turned. -/
import Derived.Test.YtnphkgiiondjkaaBits3
import Derived.Test.YtnphkgiiondjkaaOpen2
import Derived.Test.YtnphkgiiondjkaaRef1
import Derived.Deep.LoopGhost
import Derived.Deep.CutBlock
import Derived.Deep.DeepCutAuto
import Derived.Deep.RegionHeld3
namespace Go.Proofs.Ytnphkgiiondjkaa
open Go Go.RowKit

def Asks2 (w : World) (A : Option Addr) (len : Nat) : Prop := len = 0 ∨ ∃ b off, A = some ⟨b, off, none⟩ ∧ b < w.heap.size ∧ ∀ k, k < len → ∃ r, AskAt w b (off + k * 4) r

set_option maxRecDepth 100000 in
theorem bruns_no (n : Int) (A : Option Addr) (len cap : Nat) (w : World) (h : n < 0 ∨ 16384 < n) :
    Calls Try.prog 9 #[.int .i64 n, .slice A len cap] w fun e w' => e = .returned (.bool true) ∧ Below w.heap.size w w' := by
  have hn := bits_new_no n w h
  have HN := Lib.hid hn
  clear hn
  rcases h with h | h
  · go_enter Try.func9, Try.ntmps9
    go_wp2_with fail
    refine (HN.out).mono ?_
    rintro e w' ⟨rfl, rfl⟩
    go_wp2_with fail
    refine (err1 _).mono ?_
    rintro e w' ⟨rfl, rfl⟩
    go_wp2_with fail
    refine (awake2_calls _).mono ?_
    rintro e w6 ⟨rfl, hb⟩
    have HB := Lib.hid hb
    clear hb
    go_wp2_with fail
    go_ret
    exact ⟨rfl, HB.out⟩
  · have h' : ¬ n < 0 := by omega
    go_enter Try.func9, Try.ntmps9
    go_wp2_with fail
    refine (HN.out).mono ?_
    rintro e w' ⟨rfl, rfl⟩
    go_wp2_with fail
    refine (err1 _).mono ?_
    rintro e w' ⟨rfl, rfl⟩
    go_wp2_with fail
    refine (awake2_calls _).mono ?_
    rintro e w6 ⟨rfl, hb⟩
    have HB := Lib.hid hb
    clear hb
    go_wp2_with fail
    go_ret
    exact ⟨rfl, HB.out⟩

set_option maxRecDepth 100000 in
theorem bruns_long (n : Nat) (A : Option Addr) (len cap : Nat) (w : World) (h : n ≤ 16384) (hl : 300 < n ∨ 40 < len) :
    Calls Try.prog 9 #[.int .i64 n, .slice A len cap] w fun e w' => e = .returned (.bool true) ∧ Below w.heap.size w w' := by
  by_cases h3 : 300 < n
  all_goals
    go_enter Try.func9, Try.ntmps9
    go_wp2_with fail
    refine (bits_new_yes n _ h).mono ?_
    rintro e w1 ⟨p, g, rfl, hA, hp, hg, hb⟩
    have HB := Lib.hid hb
    clear hb hA hp hg
    have hl2 : 300 < n ∨ 40 < len := hl
    clear hl
    go_wp2_with fail
    refine (err0 _).mono ?_
    rintro e w' ⟨rfl, rfl⟩
    have hl3 : ¬ 300 < n → 40 < len := fun h => by omega
    clear hl2
    try (have hl4 := hl3 h3)
    clear hl3
    go_wp2_with fail
    refine (err0 _).mono ?_
    rintro e w' ⟨rfl, rfl⟩
    go_wp2_with fail
    refine (awake2_calls _).mono ?_
    rintro e w6 ⟨rfl, hb⟩
    have HF := Lib.hid ((Upd.of_below HB.out : Upd [] w w1).step (Upd.of_below hb : Upd [] _ _) (by simp))
    clear hb
    go_wp2_with fail
    go_ret
    exact ⟨rfl, HF.out.below⟩

theorem IsInts.keep {w w' : World} {A : Option Addr} {xs : List Int} {g : Nat} {l : List Bool} (h : IsInts w A xs) (hu : Upd [g] w w') (hg : Blk w g 4 (bools l)) : IsInts w' A xs := by
  rcases Nat.eq_zero_or_pos xs.length with h0 | h0
  · exact .inl (List.eq_nil_of_length_eq_zero h0)
  refine h.upd hu (.inr fun a ha => ?_)
  rcases h with rfl | ⟨b, off, h1, h2, h3⟩
  · simp at h0
  · rw [ha] at h1
    simp only [Option.some.injEq] at h1
    subst h1
    intro hm
    rw [List.mem_singleton] at hm
    simp only at hm
    subst hm
    have h4 := hg.cell (off + 0)
    rw [h3 0 h0, bools_at] at h4
    rcases h5 : l[off + 0]? with _ | y <;> rw [h5] at h4 <;> simp at h4

set_option maxRecDepth 100000 in
set_option maxHeartbeats 8000000 in
theorem bruns_yes (n : Nat) (A : Option Addr) (len cap : Nat) (w : World) (h : n ≤ 300) (hl : len ≤ 40) (hA : Asks2 w A len) :
    Calls Try.prog 9 #[.int .i64 n, .slice A len cap] w fun e w' => e = .returned (.bool true) ∧ Below w.heap.size w w' := by
  have hmk := fun W => run_make_all (P := Try.prog) 52 4 (.bool false) 1 Try.underlying52 bool_info rfl (n : Int) n rfl (by omega) (by omega) W
  have HA := Lib.hid hA
  clear hA
  go_enter Try.func9, Try.ntmps9
  go_wp2_with fail
  refine (bits_new_yes n _ (by omega)).mono ?_
  rintro e w1 ⟨p, g, rfl, hA, hp, hg, hb⟩
  have H := Lib.hid hA
  have HB := Lib.hid hb
  clear hA hb
  go_wp2_with fail
  refine (err0 _).mono ?_
  rintro e w' ⟨rfl, rfl⟩
  go_wp2_with fail
  obtain ⟨L0, hL0⟩ : ∃ L0, List.replicate n false = L0 := ⟨_, rfl⟩
  have HL0 : Hid (L0.length = n) := Lib.hid (by rw [← hL0]; simp)
  have HR : Hid (Blk (w1.alloc (.cells (Array.replicate n (Value.bool false)) 4)) w1.heap.size 4 (bools L0)) := Lib.hid (by rw [← hL0, bools_zero]; exact Blk.new w1 _ _)
  have H2 := Lib.hid (H.out.alloc (.cells (Array.replicate n (Value.bool false)) 4))
  rw [hL0] at H2
  have HU : Hid (Upd [] w (w1.alloc (.cells (Array.replicate n (Value.bool false)) 4))) := Lib.hid ((Upd.of_below HB.out : Upd [] w w1).alloc _)
  have HRG : Hid (w1.heap.size ≠ g ∧ w1.heap.size ≠ p ∧ w.heap.size ≤ w1.heap.size ∧ w.heap.size ≤ g) := Lib.hid ⟨by have := H.out.2.lt; omega, by have := H.out.1.lt; omega, HB.out.size, hg⟩
  clear H HB hL0 hp hg hmk
  obtain ⟨q, hq⟩ : ∃ q, w1.heap.size = q := ⟨_, rfl⟩
  obtain ⟨w2, hw2⟩ : ∃ w2, w1.alloc (.cells (Array.replicate n (Value.bool false)) 4) = w2 := ⟨_, rfl⟩
  rw [hq] at HR HRG
  rw [hw2] at HR H2 HU
  simp only [hq, hw2]
  clear hq hw2 w1
  go_loopg [8] len (fun gk i wr => ∃ (k : Nat) (L : List Bool), gk = len - k ∧ k ≤ len ∧ i = .int .i64 k ∧ Hid (L.length = n) ∧ Hid (IsBits wr p g L) ∧ Hid (Blk wr q 4 (bools L)) ∧ Hid (Upd [] w wr))
  case atStart => exact ⟨0, L0, by omega, Nat.zero_le _, rfl, HL0, H2, HR, HU⟩
  case round =>
    clear HL0 H2 HR HU L0
    obtain ⟨k, L, rfl, hk, rfl, HL, HH, HR, HU⟩ := hrel
    by_cases hlt : k < len
    · obtain ⟨b, off, rfl, hbw, hF⟩ : ∃ b off, A = some ⟨b, off, none⟩ ∧ b < w.heap.size ∧ ∀ k, k < len → ∃ r, AskAt w b (off + k * 4) r := by
        rcases HA.out with h0 | h0
        · omega
        · exact h0
      obtain ⟨⟨is, A1, cap1, xs, N, K⟩, hr⟩ := hF k hlt
      have c0 := (HU.out.cell (p := ⟨b, off + k * 4, none⟩) hbw (by simp)).trans hr.c0
      have c1 := (HU.out.cell (p := ⟨b, off + k * 4 + 1, none⟩) hbw (by simp)).trans hr.c1
      have c2 := (HU.out.cell (p := ⟨b, off + k * 4 + 2, none⟩) hbw (by simp)).trans hr.c2
      have c3 := (HU.out.cell (p := ⟨b, off + k * 4 + 3, none⟩) hbw (by simp)).trans hr.c3
      have HQ := Lib.hid hr
      clear hr hF hbw
      simp only at c0 c1 c2 c3
      obtain ⟨x, hx⟩ : ∃ x, xs.length = x := ⟨_, rfl⟩
      have HX := Lib.hid hx
      rw [hx] at c1
      clear hx
      go_upto_region 11 with fail
      have hB3 := Blk.new wr 54 #[.bool is, .slice A1 x cap1, .int .i64 N, .int .i64 K]
      have hH3 := HH.out.alloc (.cells #[.bool is, .slice A1 x cap1, .int .i64 N, .int .i64 K] 54)
      have hR3 := HR.out.alloc (.cells #[.bool is, .slice A1 x cap1, .int .i64 N, .int .i64 K] 54)
      have hU3 := HU.out.alloc (.cells #[.bool is, .slice A1 x cap1, .int .i64 N, .int .i64 K] 54)
      have hag : wr.heap.size ≠ g ∧ wr.heap.size ≠ q ∧ w.heap.size ≤ wr.heap.size := ⟨by have := HH.out.2.lt; omega, by have := HR.out.lt; omega, HU.out.size⟩
      obtain ⟨a, ha⟩ : ∃ a, wr.heap.size = a := ⟨_, rfl⟩
      obtain ⟨w3, hw3⟩ : ∃ w3, wr.alloc (.cells #[.bool is, .slice A1 x cap1, .int .i64 N, .int .i64 K] 54) = w3 := ⟨_, rfl⟩
      rw [ha] at hB3 hag
      rw [hw3] at hB3 hH3 hR3 hU3
      simp only [ha, hw3]
      have HAG := Lib.hid hag
      have H3 := Lib.hid hH3
      have R3 := Lib.hid hR3
      have U3 := Lib.hid hU3
      have B3 := Lib.hid hB3
      clear ha hw3 hag hH3 hR3 hU3 hB3 c0 c1 c2 c3 HH HR HU
      have d0 : w3.cell? ⟨a, 0, none⟩ = some (.bool is) := B3.out.cell 0
      have d1 : w3.cell? ⟨a, 1, none⟩ = some (.slice A1 x cap1) := B3.out.cell 1
      have d2 : w3.cell? ⟨a, 2, none⟩ = some (.int .i64 N) := B3.out.cell 2
      have d3 : w3.cell? ⟨a, 3, none⟩ = some (.int .i64 K) := B3.out.cell 3
      by_cases h20 : 20 < x
      · clear HA
        go_wp2_with fail
        refine (awake2_calls _).mono ?_
        rintro e w6 ⟨rfl, hb⟩
        have HF := Lib.hid (U3.out.step (Upd.of_below hb : Upd [] _ _) (by simp))
        clear hb
        go_wp2_with fail
        go_ret
        exact ⟨rfl, HF.out.below⟩
      · have HI3 : Hid (IsInts w3 A1 xs) := Lib.hid (HQ.out.xs.upd U3.out (by simp)).ints
        have HX20 : Hid (xs.length ≤ 20) := Lib.hid (by rw [HX.out]; omega)
        have BN := Lib.hid HQ.out.N
        have BK := Lib.hid HQ.out.K
        go_upto_region 13 with fail
        go_cut [142] (fun t wx => t = .bool false ∧ ∃ L' : List Bool, Hid (L'.length = n) ∧ Hid (IsBits wx p g L') ∧ Hid (Blk wx q 4 (bools L')) ∧ Hid (Upd [] w wx))
        case first =>
          by_cases hyes : ∀ v ∈ xs, placeB L v = true
          · have hs := set_yes p g L is A1 cap1 xs w3.drew H3.out.drew HI3.out (by have := HX20.out; omega) hyes
            have hr : ∀ w', Blk w' q 4 (bools L) → IsInts w' A1 xs → _ := fun w' hb hi => ref_set_yes q n L is A1 cap1 xs w' hb hi (by have := HX20.out; omega) hyes
            rw [HX.out] at hs hr
            rw [HL.out] at hr
            have HSET := Lib.hid hs
            have HREF := Lib.hid hr
            have HL2 : Hid ((setAll L is xs).length = n) := Lib.hid (by rw [setAll_length, HL.out])
            obtain ⟨M, hM⟩ : ∃ M, setAll L is xs = M := ⟨_, rfl⟩
            have HL4 : Hid (M.length ≤ 16384) := Lib.hid (by rw [← hM, HL2.out]; omega)
            rw [hM] at HSET HREF HL2
            clear hs hr hyes hM
            simp only [List.append_eq, List.cons_append, List.nil_append]
            go_region_held3 (fun w' => w'.cell? ⟨a, 0, none⟩ = some (.bool is) ∧ w'.cell? ⟨a, 1, none⟩ = some (.slice A1 x cap1) ∧ w'.cell? ⟨a, 2, none⟩ = some (.int .i64 N) ∧ w'.cell? ⟨a, 3, none⟩ = some (.int .i64 K))
              (first | exact ⟨d0, d1, d2, d3⟩ | exact ⟨e0, e1, e2, e3⟩ | exact ⟨f0, f1, f2, f3⟩)
              (first
                | (go_at_call 31; refine (HSET.out).mono ?_; rintro e w4 ⟨rfl, hset, hu⟩
                   have e0 := (hu.cell (p := ⟨a, 0, none⟩) B3.out.lt (show a ∉ [g] by have := HAG.out; simp; omega)).trans d0
                   have e1 := (hu.cell (p := ⟨a, 1, none⟩) B3.out.lt (show a ∉ [g] by have := HAG.out; simp; omega)).trans d1
                   have e2 := (hu.cell (p := ⟨a, 2, none⟩) B3.out.lt (show a ∉ [g] by have := HAG.out; simp; omega)).trans d2
                   have e3 := (hu.cell (p := ⟨a, 3, none⟩) B3.out.lt (show a ∉ [g] by have := HAG.out; simp; omega)).trans d3)
                | (go_at_call 22; refine (err0 _).mono ?_; rintro e w' ⟨rfl, rfl⟩)
                | (go_at_call 35; refine (HREF.out _ (R3.out.drew.upd hu (show q ∉ [g] by have := HRG.out; simp; omega)) (IsInts.keep (show IsInts w3.drew A1 xs from HI3.out) hu H3.out.drew.2)).mono ?_; rintro e w5 ⟨rfl, hset2, hu2⟩
                   have f0 := (hu2.cell (p := ⟨a, 0, none⟩) (Nat.lt_of_lt_of_le B3.out.lt hu.size) (show a ∉ [q] by have := HAG.out; simp; omega)).trans e0
                   have f1 := (hu2.cell (p := ⟨a, 1, none⟩) (Nat.lt_of_lt_of_le B3.out.lt hu.size) (show a ∉ [q] by have := HAG.out; simp; omega)).trans e1
                   have f2 := (hu2.cell (p := ⟨a, 2, none⟩) (Nat.lt_of_lt_of_le B3.out.lt hu.size) (show a ∉ [q] by have := HAG.out; simp; omega)).trans e2
                   have f3 := (hu2.cell (p := ⟨a, 3, none⟩) (Nat.lt_of_lt_of_le B3.out.lt hu.size) (show a ∉ [q] by have := HAG.out; simp; omega)).trans e3
                   have HH5 := Lib.hid (hset.upd hu2 (show p ∉ [q] by have := HRG.out; simp; omega) (show g ∉ [q] by have := HRG.out; simp; omega))
                   have HR5 := Lib.hid hset2
                   have HU5 : Hid (Upd [] w w5) := Lib.hid ((U3.out.drew.step hu (by have := HRG.out; simp; omega)).step hu2 (by have := HRG.out; simp; omega))
                   clear hset2 hu2)
                | (go_at_call 29; refine (next_any p g M N is _ HH5.out BN.out HL4.out).mono ?_; rintro e w' ⟨rfl, rfl⟩)
                | (go_at_call 36; have hc := ref_next q n M N is _ HR5.out BN.out HL4.out; rw [HL2.out] at hc; refine hc.mono ?_; clear hc; rintro e w' ⟨rfl, rfl⟩)
                | (go_at_call 30; refine (run_any p g M N K _ HH5.out BN.out BK.out HL4.out).mono ?_; rintro e w' ⟨rfl, rfl⟩)
                | (go_at_call 37; have hc := ref_run q n M N K _ HR5.out BN.out HL4.out; rw [HL2.out] at hc; refine hc.mono ?_; clear hc; rintro e w' ⟨rfl, rfl⟩)
                | (go_at_call 32; refine (bits_has p g M N _ HH5.out).mono ?_; rintro e w' ⟨rfl, rfl⟩)
                | (go_at_call 38; have hc := ref_has q n M N _ HR5.out; rw [HL2.out] at hc; refine hc.mono ?_; clear hc; rintro e w' ⟨rfl, rfl⟩)
                | (go_at_call 34; refine (count_any p g M _ HH5.out HL4.out).mono ?_; rintro e w' ⟨rfl, rfl⟩)
                | (go_at_call 39; have hc := ref_count q n M _ HR5.out HL4.out; rw [HL2.out] at hc; refine hc.mono ?_; clear hc; rintro e w' ⟨rfl, rfl⟩)
                | (go_at_call 40; have hc := bits_size p g M _ HH5.out; rw [HL2.out] at hc; refine hc.mono ?_; clear hc; rintro e w' ⟨rfl, rfl⟩))
            all_goals
              go_wp2_with fail
              go_meet
              exact ⟨rfl, M, HL2, HH5, HR5, HU5⟩
          · have hex : ∃ v ∈ xs, placeB L v = false := by
              rcases Classical.not_forall.1 hyes with ⟨v, hv⟩
              rcases Classical.not_imp.1 hv with ⟨hm, hp⟩
              exact ⟨v, hm, by simpa using hp⟩
            have hs := set_no p g L is A1 cap1 xs w3.drew H3.out.drew HI3.out (by have := HX20.out; omega) hex
            have hr : ∀ w', Blk w' q 4 (bools L) → IsInts w' A1 xs → _ := fun w' hb hi => ref_set_no q n L is A1 cap1 xs w' hb hi (by have := HX20.out; omega) hex
            rw [HX.out] at hs hr
            rw [HL.out] at hr
            have HSET := Lib.hid hs
            have HREF := Lib.hid hr
            obtain ⟨M, rfl⟩ : ∃ M, M = L := ⟨L, rfl⟩
            have HL2 : Hid (M.length = n) := HL
            have HL4 : Hid (M.length ≤ 16384) := Lib.hid (by rw [HL2.out]; omega)
            clear hs hr hyes hex
            simp only [List.append_eq, List.cons_append, List.nil_append]
            go_region_held3 (fun w' => w'.cell? ⟨a, 0, none⟩ = some (.bool is) ∧ w'.cell? ⟨a, 1, none⟩ = some (.slice A1 x cap1) ∧ w'.cell? ⟨a, 2, none⟩ = some (.int .i64 N) ∧ w'.cell? ⟨a, 3, none⟩ = some (.int .i64 K))
              (first | exact ⟨d0, d1, d2, d3⟩ | exact ⟨e0, e1, e2, e3⟩)
              (first
                | (go_at_call 31; refine (HSET.out).mono ?_; rintro e w5 ⟨rfl, hu⟩
                   have e0 := (hu.cell (p := ⟨a, 0, none⟩) B3.out.lt).trans d0
                   have e1 := (hu.cell (p := ⟨a, 1, none⟩) B3.out.lt).trans d1
                   have e2 := (hu.cell (p := ⟨a, 2, none⟩) B3.out.lt).trans d2
                   have e3 := (hu.cell (p := ⟨a, 3, none⟩) B3.out.lt).trans d3
                   have HH5 := Lib.hid (H3.out.drew.below hu H3.out.1.lt H3.out.2.lt)
                   have HR5 := Lib.hid (R3.out.drew.below hu R3.out.lt)
                   have HU5 : Hid (Upd [] w w5) := Lib.hid (U3.out.drew.step (Upd.of_below hu : Upd [] _ _) (by simp))
                   have HI5 : Hid (IsInts w5 A1 xs) := Lib.hid ((show IsInts w3.drew A1 xs from HI3.out).upd (Upd.of_below hu : Upd [] _ _) (.inr (by simp)))
                   clear hu)
                | (go_at_call 22; refine (err2 _).mono ?_; rintro e w' ⟨rfl, rfl⟩)
                | (go_at_call 35; refine (HREF.out _ HR5.out HI5.out).mono ?_; rintro e w' ⟨rfl, rfl⟩)
                | (go_at_call 29; refine (next_any p g M N is _ HH5.out BN.out HL4.out).mono ?_; rintro e w' ⟨rfl, rfl⟩)
                | (go_at_call 36; have hc := ref_next q n M N is _ HR5.out BN.out HL4.out; rw [HL2.out] at hc; refine hc.mono ?_; clear hc; rintro e w' ⟨rfl, rfl⟩)
                | (go_at_call 30; refine (run_any p g M N K _ HH5.out BN.out BK.out HL4.out).mono ?_; rintro e w' ⟨rfl, rfl⟩)
                | (go_at_call 37; have hc := ref_run q n M N K _ HR5.out BN.out HL4.out; rw [HL2.out] at hc; refine hc.mono ?_; clear hc; rintro e w' ⟨rfl, rfl⟩)
                | (go_at_call 32; refine (bits_has p g M N _ HH5.out).mono ?_; rintro e w' ⟨rfl, rfl⟩)
                | (go_at_call 38; have hc := ref_has q n M N _ HR5.out; rw [HL2.out] at hc; refine hc.mono ?_; clear hc; rintro e w' ⟨rfl, rfl⟩)
                | (go_at_call 34; refine (count_any p g M _ HH5.out HL4.out).mono ?_; rintro e w' ⟨rfl, rfl⟩)
                | (go_at_call 39; have hc := ref_count q n M _ HR5.out HL4.out; rw [HL2.out] at hc; refine hc.mono ?_; clear hc; rintro e w' ⟨rfl, rfl⟩)
                | (go_at_call 40; have hc := bits_size p g M _ HH5.out; rw [HL2.out] at hc; refine hc.mono ?_; clear hc; rintro e w' ⟨rfl, rfl⟩))
            all_goals
              go_wp2_with fail
              go_meet
              exact ⟨rfl, M, HL2, HH5, HR5, HU5⟩
        case rest =>
          obtain ⟨rfl, M, HL2, HH5, HR5, HU5⟩ := hcut
          go_wp2_with fail
          go_roundg (len - (k + 1))
          case measure => omega
          case rel => exact ⟨k + 1, M, rfl, by omega, by go_num, HL2, HH5, HR5, HU5⟩
    · obtain rfl : k = len := by omega
      clear HA
      obtain ⟨w4, rfl⟩ : ∃ w4 : World, w4 = wr := ⟨_, rfl⟩
      go_wp2_with fail
      go_loopg [10] (n + 2) (fun gk i wl => ∃ j : Nat, gk = n + 2 - j ∧ j ≤ n + 2 ∧ i = .int .i64 ((j : Int) - 1) ∧ w4 = wl)
      case atStart => exact ⟨0, rfl, by omega, rfl, rfl⟩
      case round =>
        obtain ⟨j, rfl, hj, rfl, rfl⟩ := hrel
        by_cases hlt : j ≤ n + 1
        · have hle : (j : Int) - 1 ≤ (n : Int) := by omega
          obtain ⟨v, hv⟩ : ∃ v, hasB L ((j : Int) - 1) = v := ⟨_, rfl⟩
          have h1 := bits_has p g L ((j : Int) - 1) w4 HH.out
          have h2 := ref_has q n L ((j : Int) - 1) w4 HR.out
          rw [hv] at h1 h2
          rw [HL.out] at h2
          have H1 := Lib.hid h1
          have H2 := Lib.hid h2
          clear h1 h2 hv
          go_wp2_with fail
          refine (H1.out).mono ?_
          rintro e w' ⟨rfl, rfl⟩
          go_wp2_with fail
          refine (H2.out).mono ?_
          rintro e w' ⟨rfl, rfl⟩
          go_wp2_with fail
          go_roundg (n + 2 - (j + 1))
          case measure => omega
          case rel => exact ⟨j + 1, rfl, by omega, by go_num, rfl⟩
        · have hle : ¬ (j : Int) - 1 ≤ (n : Int) := by omega
          go_wp2_with fail
          refine (awake2_calls _).mono ?_
          rintro e w6 ⟨rfl, hb⟩
          have HF := Lib.hid (HU.out.step (Upd.of_below hb : Upd [] _ _) (by simp))
          clear hb
          go_wp2_with fail
          go_ret
          exact ⟨rfl, HF.out.below⟩

theorem bruns_all (n : Int) (A : Option Addr) (len cap : Nat) (w : World) (hA : Asks2 w A len) :
    Calls Try.prog 9 #[.int .i64 n, .slice A len cap] w fun e w' => e = .returned (.bool true) ∧ Below w.heap.size w w' := by
  by_cases hn : n < 0 ∨ 16384 < n
  · exact bruns_no n A len cap w hn
  · obtain ⟨n, rfl⟩ := Int.eq_ofNat_of_zero_le (show 0 ≤ n by omega)
    by_cases hl : 300 < n ∨ 40 < len
    · exact bruns_long n A len cap w (by omega) hl
    · exact bruns_yes n A len cap w (by omega) (by omega) hA
end Go.Proofs.Ytnphkgiiondjkaa
