/- The walk of RootRuns: at every input the law returns true, and nothing that was there has turned. -/
import Derived.Test.YtnhgmmjlhhgdoaaRootTwo
import Derived.Deep.RegionHeld3
namespace Go.Proofs.Ytnhgmmjlhhgdoaa
open Go Go.RowKit

set_option maxRecDepth 100000 in
set_option maxHeartbeats 8000000 in
theorem rruns_walk (A1 A2 : Option Addr) (n m cp1 cp2 : Nat) (zs ys : List Int) (w : World) (hn : zs.length = n) (hm : ys.length = m) (hl1 : n ≤ 9223372036854775807) (hl2 : m ≤ 9223372036854775807) (hA1 : Reads w .i64 A1 zs) (hA2 : Reads w .i64 A2 ys)
    (hb1 : ∀ v ∈ zs, -9223372036854775808 ≤ v ∧ v ≤ 9223372036854775807) (hb2 : ∀ v ∈ ys, -9223372036854775808 ≤ v ∧ v ≤ 9223372036854775807) :
    Calls Try.prog 9 #[.slice A1 n cp1, .slice A2 m cp2] w fun e w' => e = .returned (.bool true) ∧ Below w.heap.size w w' := by
  have hmk := fun W => run_make_all (P := Try.prog) 22 3 (.int .i64 0) 8 Try.underlying22 int_info rfl (16 : Int) 16 rfl (by omega) (by omega) W
  have HN := Lib.hid hn
  have HM := Lib.hid hm
  have HA1 := Lib.hid hA1
  have HA2 := Lib.hid hA2
  have HX1 := Lib.hid hb1
  have HX2 := Lib.hid hb2
  clear hn hm hA1 hA2 hb1 hb2
  go_enter Try.func9, Try.ntmps9
  go_wp2_with fail
  refine (root_new _).mono ?_
  rintro e w1 ⟨r, rfl, hr, hrs, hu⟩
  have HR := Lib.hid hr
  have HU := Lib.hid hu
  have HRS := Lib.hid hrs
  clear hr hu hrs
  go_upto_block 0 with fail
  have hW : Blk (w1.alloc (.cells (Array.replicate 16 (Value.int .i64 0)) 3)) w1.heap.size 3 (ints (List.replicate 16 0)) := by rw [ints_zero]; exact Blk.new w1 _ _
  have hR2 := HR.out.upd ((Upd.refl [] w1).alloc (.cells (Array.replicate 16 (Value.int .i64 0)) 3)) (by simp)
  have hU2 := HU.out.alloc (.cells (Array.replicate 16 (Value.int .i64 0)) 3)
  have hF : w1.heap.size ≠ r ∧ w.heap.size ≤ w1.heap.size := ⟨by have := HR.out.1.lt; omega, HU.out.size⟩
  obtain ⟨f, hf⟩ : ∃ f, w1.heap.size = f := ⟨_, rfl⟩
  obtain ⟨w2, hw2⟩ : ∃ w2, w1.alloc (.cells (Array.replicate 16 (Value.int .i64 0)) 3) = w2 := ⟨_, rfl⟩
  rw [hf] at hW hF
  rw [hw2] at hW hR2 hU2
  simp only [hf, hw2]
  obtain ⟨l0, hl0⟩ : ∃ l0 : List Int, List.replicate 16 0 = l0 := ⟨_, rfl⟩
  rw [hl0] at hW hR2
  have HW := Lib.hid hW
  have HR2 := Lib.hid hR2
  have HU2 := Lib.hid hU2
  have HF := Lib.hid hF
  clear hW hR2 hU2 hF hf hw2 HR HU hmk hl0
  go_cut [7, 8, 9, 10] (fun _ _ _ _ wx => ∃ l : List Int, Hid (IsRoots wx r l) ∧ Hid (Blk wx f 3 (ints l)) ∧ Hid (Upd [] w wx))
  case first =>
    go_wp2_with fail
    go_loopg [7] n (fun gk i wr => ∃ (j : Nat) (l : List Int), gk = n - j ∧ j ≤ n ∧ j ≤ m ∧ j ≤ 60 ∧ i = .int .i64 j ∧ Hid (IsRoots wr r l) ∧ Hid (Blk wr f 3 (ints l)) ∧ Hid (Upd [] w wr))
    case atStart => exact ⟨0, l0, rfl, by omega, by omega, by omega, rfl, HR2, HW, HU2⟩
    case round =>
      clear HR2 HW HU2 l0
      obtain ⟨j, l, rfl, hj, hjm, hj60, rfl, HR, HW, HU⟩ := hrel
      by_cases hlt : j < n
      · by_cases hlm : j < m
        · by_cases h60 : j < 60
          · obtain ⟨b1, o1, rfl, hbw1, hcell1⟩ := HA1.out.at HN.out hlt
            obtain ⟨b2, o2, rfl, hbw2, hcell2⟩ := HA2.out.at HM.out hlm
            have c1 := (HU.out.cell (p := ⟨b1, o1 + j, none⟩) hbw1 (by simp)).trans hcell1
            have c2 := (HU.out.cell (p := ⟨b2, o2 + j, none⟩) hbw2 (by simp)).trans hcell2
            have hv1 := HX1.out _ (getD_mem (by rw [HN.out]; exact hlt))
            have hv2 := HX2.out _ (getD_mem (by rw [HM.out]; exact hlm))
            obtain ⟨a, ha⟩ : ∃ a, zs.getD j 0 = a := ⟨_, rfl⟩
            obtain ⟨x, hx⟩ : ∃ x, ys.getD j 0 = x := ⟨_, rfl⟩
            rw [ha] at c1 hv1
            rw [hx] at c2 hv2
            obtain ⟨hv11, hv12⟩ := hv1
            obtain ⟨hv21, hv22⟩ := hv2
            have h1f : b1 ≠ f := by have := HF.out; omega
            have h2f : b2 ≠ f := by have := HF.out; omega
            have HBW := Lib.hid (And.intro hbw1 hbw2)
            clear hcell1 hcell2 ha hx hbw1 hbw2
            by_cases ha0 : a < 0
            · go_upto_region 8 with fail
              have hd1 : wr.drew.cell? ⟨b1, o1 + j, none⟩ = some (.int .i64 a) := c1
              have hd2 : wr.drew.cell? ⟨b2, o2 + j, none⟩ = some (.int .i64 x) := c2
              go_region_held3 (fun w' => w'.cell? ⟨b1, o1 + j, none⟩ = some (.int .i64 a) ∧ w'.cell? ⟨b2, o2 + j, none⟩ = some (.int .i64 x)) (first | exact ⟨hd1, hd2⟩)
                (first
                  | (go_at_call 27; refine (rput_no r a x _ (by omega)).mono ?_; rintro e w' ⟨rfl, rfl⟩)
                  | (go_at_call 26; refine (err1 _).mono ?_; rintro e w' ⟨rfl, rfl⟩))
              have hR3 : IsRoots wr.drew r l := HR.out
              have hW3 : Blk wr.drew f 3 (ints l) := HW.out
              have hU3 : Upd [] w wr.drew := HU.out.drew
              obtain ⟨w3, hw3⟩ : ∃ w3, wr.drew = w3 := ⟨_, rfl⟩
              rw [hw3] at hR3 hW3 hU3 hd1 hd2 ⊢
              have HR3 := Lib.hid hR3
              have HW3 := Lib.hid hW3
              have HU3 := Lib.hid hU3
              clear hR3 hW3 hU3 hw3 c1 c2
              go_wp2_with fail
              refine (rget_no r a _ (.inl ha0)).mono ?_
              rintro e w' ⟨rfl, rfl⟩
              go_wp2_with fail
              refine (err1 _).mono ?_
              rintro e w' ⟨rfl, rfl⟩
              go_wp2_with fail
              go_roundg (n - (j + 1))
              case measure => omega
              case rel => exact ⟨j + 1, l, rfl, by omega, by omega, by omega, by go_num, HR3, HW3, HU3⟩
            · by_cases ha16 : 16 ≤ a
              · go_upto_region 8 with fail
                have hd1 : wr.drew.cell? ⟨b1, o1 + j, none⟩ = some (.int .i64 a) := c1
                have hd2 : wr.drew.cell? ⟨b2, o2 + j, none⟩ = some (.int .i64 x) := c2
                go_region_held3 (fun w' => w'.cell? ⟨b1, o1 + j, none⟩ = some (.int .i64 a) ∧ w'.cell? ⟨b2, o2 + j, none⟩ = some (.int .i64 x)) (first | exact ⟨hd1, hd2⟩)
                  (first
                    | (go_at_call 27; refine (rput_no r a x _ (by omega)).mono ?_; rintro e w' ⟨rfl, rfl⟩)
                    | (go_at_call 26; refine (err1 _).mono ?_; rintro e w' ⟨rfl, rfl⟩))
                have hR3 : IsRoots wr.drew r l := HR.out
                have hW3 : Blk wr.drew f 3 (ints l) := HW.out
                have hU3 : Upd [] w wr.drew := HU.out.drew
                obtain ⟨w3, hw3⟩ : ∃ w3, wr.drew = w3 := ⟨_, rfl⟩
                rw [hw3] at hR3 hW3 hU3 hd1 hd2 ⊢
                have HR3 := Lib.hid hR3
                have HW3 := Lib.hid hW3
                have HU3 := Lib.hid hU3
                clear hR3 hW3 hU3 hw3 c1 c2
                go_wp2_with fail
                refine (rget_no r a _ (.inr ha16)).mono ?_
                rintro e w' ⟨rfl, rfl⟩
                go_wp2_with fail
                refine (err1 _).mono ?_
                rintro e w' ⟨rfl, rfl⟩
                go_wp2_with fail
                go_roundg (n - (j + 1))
                case measure => omega
                case rel => exact ⟨j + 1, l, rfl, by omega, by omega, by omega, by go_num, HR3, HW3, HU3⟩
              · obtain ⟨k, rfl⟩ := Int.eq_ofNat_of_zero_le (show 0 ≤ a by omega)
                have hk16 : k < 16 := by omega
                by_cases hx0 : x < 0
                · go_upto_region 8 with fail
                  have hd1 : wr.drew.cell? ⟨b1, o1 + j, none⟩ = some (.int .i64 k) := c1
                  have hd2 : wr.drew.cell? ⟨b2, o2 + j, none⟩ = some (.int .i64 x) := c2
                  go_region_held3 (fun w' => w'.cell? ⟨b1, o1 + j, none⟩ = some (.int .i64 k) ∧ w'.cell? ⟨b2, o2 + j, none⟩ = some (.int .i64 x)) (first | exact ⟨hd1, hd2⟩)
                    (first
                      | (go_at_call 27; refine (rput_no r k x _ (by omega)).mono ?_; rintro e w' ⟨rfl, rfl⟩)
                      | (go_at_call 26; refine (err1 _).mono ?_; rintro e w' ⟨rfl, rfl⟩))
                  have hR3 : IsRoots wr.drew r l := HR.out
                  have hW3 : Blk wr.drew f 3 (ints l) := HW.out
                  have hU3 : Upd [] w wr.drew := HU.out.drew
                  obtain ⟨w3, hw3⟩ : ∃ w3, wr.drew = w3 := ⟨_, rfl⟩
                  rw [hw3] at hR3 hW3 hU3 hd1 hd2 ⊢
                  have HR3 := Lib.hid hR3
                  have HW3 := Lib.hid hW3
                  have HU3 := Lib.hid hU3
                  clear hR3 hW3 hU3 hw3 c1 c2
                  have c5 := HW3.out.int k (by rw [HR3.out.2]; exact hk16)
                  obtain ⟨y, hy⟩ : ∃ y, l.getD k 0 = y := ⟨_, rfl⟩
                  have HY := Lib.hid hy
                  rw [hy] at c5
                  clear hy
                  go_wp2_with fail
                  have hq := rget_yes r k l w3 HR3.out hk16
                  rw [HY.out] at hq
                  refine hq.mono ?_
                  clear hq
                  rintro e w' ⟨rfl, rfl⟩
                  go_wp2_with fail
                  refine (err0 _).mono ?_
                  rintro e w' ⟨rfl, rfl⟩
                  go_wp2_with fail
                  go_roundg (n - (j + 1))
                  case measure => omega
                  case rel => exact ⟨j + 1, l, rfl, by omega, by omega, by omega, by go_num, HR3, HW3, HU3⟩
                · go_upto_region 8 with fail
                  have hd1 : wr.drew.cell? ⟨b1, o1 + j, none⟩ = some (.int .i64 k) := c1
                  have hd2 : wr.drew.cell? ⟨b2, o2 + j, none⟩ = some (.int .i64 x) := c2
                  have HRd : Hid (IsRoots wr.drew r l) := Lib.hid HR.out
                  have HWd : Hid (Blk wr.drew f 3 (ints l)) := Lib.hid HW.out
                  have HUd : Hid (Upd [] w wr.drew) := Lib.hid HU.out.drew
                  clear HR HW HU
                  go_region_held3 (fun w' => w'.cell? ⟨b1, o1 + j, none⟩ = some (.int .i64 k) ∧ w'.cell? ⟨b2, o2 + j, none⟩ = some (.int .i64 x)) (first | exact ⟨hd1, hd2⟩ | exact ⟨e1, e2⟩)
                    (first
                      | (go_at_call 27; refine (rput_yes r k x l _ HRd.out hk16 (by omega)).mono ?_; rintro e w4 ⟨rfl, hr, hu⟩
                         have e1 := (hu.cell (p := ⟨b1, o1 + j, none⟩) (World.block_lt_of_cell? _ _ hd1) (show b1 ∉ [r] by have := HBW.out; have := HRS.out; simp; omega)).trans hd1
                         have e2 := (hu.cell (p := ⟨b2, o2 + j, none⟩) (World.block_lt_of_cell? _ _ hd2) (show b2 ∉ [r] by have := HBW.out; have := HRS.out; simp; omega)).trans hd2
                         have HR4 := Lib.hid hr
                         have HW4 := Lib.hid (HWd.out.upd hu (show f ∉ [r] by have := HF.out; simp; omega))
                         have HU4 := Lib.hid (HUd.out.step hu (by have := HRS.out; simp; omega))
                         clear hr hu)
                      | (go_at_call 26; refine (err0 _).mono ?_; rintro e w' ⟨rfl, rfl⟩))
                  clear hd1 hd2 HRd HWd HUd c1 c2
                  have c5 := HW4.out.int k (by have := HR4.out.2; rw [List.length_set] at this; rw [this]; exact hk16)
                  have c6 := HW4.out.frozen k
                  go_upto_region 14 with fail
                  have g1 : w4.drew.cell? ⟨b1, o1 + j, none⟩ = some (.int .i64 k) := e1
                  have g2 : w4.drew.cell? ⟨b2, o2 + j, none⟩ = some (.int .i64 x) := e2
                  have g5 : w4.drew.cell? ⟨f, k, none⟩ = some (.int .i64 (l.getD k 0)) := c5
                  have g6 : w4.drew.frozen? ⟨f, k, none⟩ = false := c6
                  have h1 : (w4.drew.setCell ⟨f, k, none⟩ (.int .i64 x)).cell? ⟨b1, o1 + j, none⟩ = some (.int .i64 k) := by rw [World.cell?_setCell_other _ _ _ _ (by intro h; injection h with h _ _; exact h1f h.symm)]; exact e1
                  have h2 : (w4.drew.setCell ⟨f, k, none⟩ (.int .i64 x)).cell? ⟨b2, o2 + j, none⟩ = some (.int .i64 x) := by rw [World.cell?_setCell_other _ _ _ _ (by intro h; injection h with h _ _; exact h2f h.symm)]; exact e2
                  go_region_held3 (fun w' => w'.cell? ⟨b1, o1 + j, none⟩ = some (.int .i64 k) ∧ w'.cell? ⟨b2, o2 + j, none⟩ = some (.int .i64 x)) (first | exact ⟨g1, g2⟩ | exact ⟨h1, h2⟩ | go_keep) (first | fail)
                  have hR5 : IsRoots (w4.setCell ⟨f, k, none⟩ (.int .i64 x)).drew r (l.set k x) := HR4.out.upd (E := [f]) ((Upd.refl [f] w4).setCell (p := ⟨f, k, none⟩) (.inl (by simp)) _).drew (by have := HF.out; simp; omega)
                  have hW5 : Blk (w4.setCell ⟨f, k, none⟩ (.int .i64 x)).drew f 3 (ints (l.set k x)) := by rw [← ints_set_]; exact (HW4.out.set_ k _).drew
                  have hU5 : Upd [] w (w4.setCell ⟨f, k, none⟩ (.int .i64 x)).drew := (HU4.out.setCell (p := ⟨f, k, none⟩) (.inr HF.out.2) _).drew
                  have h3 : (w4.setCell ⟨f, k, none⟩ (.int .i64 x)).drew.cell? ⟨b1, o1 + j, none⟩ = some (.int .i64 k) := h1
                  have h4 : (w4.setCell ⟨f, k, none⟩ (.int .i64 x)).drew.cell? ⟨b2, o2 + j, none⟩ = some (.int .i64 x) := h2
                  obtain ⟨w5, hw5⟩ : ∃ w5, (w4.setCell ⟨f, k, none⟩ (.int .i64 x)).drew = w5 := ⟨_, rfl⟩
                  rw [hw5] at hR5 hW5 hU5 h3 h4 ⊢
                  have hgt : (l.set k x).getD k 0 = x := by
                    rw [List.getD_eq_getElem?_getD, List.getElem?_set, if_pos rfl, if_pos (by have := HR4.out.2; rw [List.length_set] at this; omega)]
                    rfl
                  have c7 := hW5.int k (by rw [hR5.2]; exact hk16)
                  rw [hgt] at c7
                  have HGT := Lib.hid hgt
                  have HR5 := Lib.hid hR5
                  have HW5 := Lib.hid hW5
                  have HU5 := Lib.hid hU5
                  clear hR5 hW5 hU5 hw5 hgt g1 g2 g5 g6 c5 c6 h1 h2
                  go_wp2_with fail
                  have hq := rget_yes r k (l.set k x) w5 HR5.out hk16
                  rw [HGT.out] at hq
                  refine hq.mono ?_
                  clear hq
                  rintro e w' ⟨rfl, rfl⟩
                  go_wp2_with fail
                  refine (err0 _).mono ?_
                  rintro e w' ⟨rfl, rfl⟩
                  go_wp2_with fail
                  go_roundg (n - (j + 1))
                  case measure => omega
                  case rel => exact ⟨j + 1, l.set k x, rfl, by omega, by omega, by omega, by go_num, HR5, HW5, HU5⟩
          · obtain rfl : j = 60 := by omega
            go_wp2_with fail
            go_meet
            exact ⟨l, HR, HW, HU⟩
        · obtain rfl : j = m := by omega
          go_wp2_with fail
          go_meet
          exact ⟨l, HR, HW, HU⟩
      · obtain rfl : j = n := by omega
        go_wp2_with fail
        go_meet
        exact ⟨l, HR, HW, HU⟩
  case rest =>
    clear HR2 HW HU2 l0
    obtain ⟨l, HR, HW, HU⟩ := hcut
    clear HA1 HA2 HX1 HX2 HN HM
    obtain ⟨w4, rfl⟩ : ∃ w4 : World, w4 = wc := ⟨_, rfl⟩
    go_wp2_with fail
    refine (roots_any r l _ HR.out).mono ?_
    rintro e w5 ⟨v, rfl, hO, hu⟩
    have hv0 : v ≠ .slice none 0 0 := by
      rintro rfl
      rcases hO.2 with ⟨_, h0⟩ | ⟨g, cap, cur, h0, _⟩
      · rw [HR.out.2] at h0; cases h0
      · cases h0
    obtain ⟨g, cap, rfl, hbg, hgs, _, _, _, hH⟩ := Lib.holds_of_ownsRow hO hv0
    have hl16 := HR.out.2
    have hI : IsInts w5 (some ⟨g, 0, none⟩) l := .inr ⟨g, 0, rfl, hgs, fun i hi => by
      have := (hH i (by simpa using hi)).1
      rw [this, List.getD_eq_getElem?_getD, List.getElem?_eq_getElem hi]
      simp [getElem!_pos, hi]⟩
    have hGF : Hid (∀ i, w5.frozen? ⟨g, i, none⟩ = false) := Lib.hid (fun i => World.ownsRow.frozenAt hO i)
    rw [hl16]
    have HI := Lib.hid hI
    have HG : Hid (g ≠ r ∧ g ≠ f ∧ w.heap.size ≤ g) := Lib.hid ⟨by have := HR.out.1.lt; omega, by have := HW.out.lt; omega, by have := HU.out.size; omega⟩
    have HR5 := Lib.hid (HR.out.upd hu (by simp))
    have HW5 := Lib.hid (HW.out.upd hu (by simp))
    have HU5 := Lib.hid (HU.out.step hu (by simp))
    have HL := Lib.hid hl16
    clear hO hu hI hH hv0 hbg hgs hl16 HR HW HU
    go_wp2_with fail
    refine (same_calls _ _ 16 16 cap 16 l l _ HL.out HL.out HI.out (isInts_blk HW5.out) (by omega) (by omega)).mono ?_
    rintro e w6 ⟨rfl, q, rfl⟩
    have hd : decide (l = l) = true := decide_eq_true rfl
    rw [hd]
    clear hd
    have hI6 : IsInts (w5.drewN q) (some ⟨g, 0, none⟩) l := HI.out
    have hR6 : IsRoots (w5.drewN q) r l := HR5.out
    have hW6 : Blk (w5.drewN q) f 3 (ints l) := HW5.out
    have hU6 : Upd [] w (w5.drewN q) := HU5.out.drewN q
    have hF6 : ∀ i, (w5.drewN q).frozen? ⟨g, i, none⟩ = false := hGF.out
    obtain ⟨w6, hw6⟩ : ∃ w6, w5.drewN q = w6 := ⟨_, rfl⟩
    rw [hw6] at hI6 hR6 hW6 hU6 hF6 ⊢
    have HR6 := Lib.hid hR6
    have HW6 := Lib.hid hW6
    have HU6 := Lib.hid hU6
    have hx6 : ∀ i, i < 16 → ∃ y, w6.cell? ⟨g, i, none⟩ = some (.int .i64 y) := fun i hi => by
      rcases hI6 with h | ⟨b, off, h1, _, h3⟩
      · have := HL.out; rw [h] at this; cases this
      · injection h1 with h1
        injection h1 with h1 h2 _
        subst h1 h2
        have := h3 i (by rw [HL.out]; exact hi)
        rw [Nat.zero_add] at this
        exact ⟨_, this⟩
    have HX6 := Lib.hid (And.intro hx6 hF6)
    clear hI6 hR6 hW6 hU6 hw6 hF6 hx6 HI HR5 HW5 HU5 hGF
    go_upto_block 2 with fail
    go_cut [13] (fun _ wx => Hid (IsRoots wx r l) ∧ Hid (Blk wx f 3 (ints l)) ∧ Hid (Upd [] w wx))
    case first =>
      go_wp2_with fail
      go_loopg [13] 16 (fun gk i wl => ∃ j : Nat, gk = 16 - j ∧ j ≤ 16 ∧ i = .int .i64 j ∧ Hid (∀ i, i < 16 → (∃ y, wl.cell? ⟨g, i, none⟩ = some (.int .i64 y)) ∧ wl.frozen? ⟨g, i, none⟩ = false) ∧ Hid (IsRoots wl r l) ∧ Hid (Blk wl f 3 (ints l)) ∧ Hid (Upd [] w wl))
      case atStart => exact ⟨0, rfl, by omega, rfl, Lib.hid (fun i hi => ⟨HX6.out.1 i hi, HX6.out.2 i⟩), HR6, HW6, HU6⟩
      case round =>
        clear HR6 HW6 HU6 HX6
        obtain ⟨j, rfl, hj, rfl, HX, HR, HW, HU⟩ := hrel
        by_cases hlt : j < 16
        · obtain ⟨⟨y, c1⟩, c2⟩ := HX.out j hlt
          have hjl : (j : Int) < 16 := by omega
          go_wp2_with fail
          go_roundg (16 - (j + 1))
          case measure => omega
          case rel =>
            refine ⟨j + 1, rfl, by omega, by go_num, Lib.hid (fun i hi => ?_), Lib.hid (HR.out.upd (E := [g]) ((Upd.refl [g] wr).setCell (p := ⟨g, j, none⟩) (.inl (by simp)) _) (by have := HG.out; simp; omega)), Lib.hid (HW.out.far (by have := HG.out; simp; omega) _), Lib.hid (HU.out.setCell (p := ⟨g, j, none⟩) (.inr HG.out.2.2) _)⟩
            by_cases hij : i = j
            · subst hij
              refine ⟨⟨99, World.cell?_setCell_same' _ _ _ (by rw [c1]; rfl)⟩, ?_⟩
              rw [World.frozen?_setCell]
              exact c2
            · obtain ⟨⟨z, h1⟩, h2⟩ := HX.out i hi
              refine ⟨⟨z, ?_⟩, ?_⟩
              · rw [World.cell?_setCell_other _ _ _ _ (by intro h; injection h with _ h _; omega)]
                exact h1
              · rw [World.frozen?_setCell]
                exact h2
        · obtain rfl : j = 16 := by omega
          go_wp2_with fail
          go_meet
          exact ⟨HR, HW, HU⟩
    case rest =>
      clear HR6 HW6 HU6 HX6
      obtain ⟨HR, HW, HU⟩ := hcut
      go_wp2_with fail
      refine (rget_nil 0 _).mono ?_
      rintro e w' ⟨rfl, rfl⟩
      go_wp2_with fail
      refine (roots_any r l _ HR.out).mono ?_
      rintro e w7 ⟨v, rfl, hO, hu⟩
      obtain ⟨A7, c7, hv, hI, _⟩ := hO.form
      rw [HL.out] at hv
      subst hv
      have HI7 := Lib.hid hI
      have HW7 := Lib.hid (HW.out.upd hu (by simp))
      have HU7 := Lib.hid (HU.out.step hu (by simp))
      clear hO hu hI
      go_wp2_with fail
      refine (same_calls _ _ 16 16 c7 16 l l _ HL.out HL.out HI7.out (isInts_blk HW7.out) (by omega) (by omega)).mono ?_
      rintro e w8 ⟨rfl, q8, rfl⟩
      have hd : decide (l = l) = true := decide_eq_true rfl
      rw [hd]
      clear hd
      have HU8 := Lib.hid (HU7.out.drewN q8)
      go_wp2_with fail
      refine (err1 _).mono ?_
      rintro e w' ⟨rfl, rfl⟩
      go_wp2_with fail
      refine (rput_nil 0 1 _).mono ?_
      rintro e w' ⟨rfl, rfl⟩
      go_wp2_with fail
      refine (err1 _).mono ?_
      rintro e w' ⟨rfl, rfl⟩
      go_wp2_with fail
      refine (roots_nil _).mono ?_
      rintro e w' ⟨rfl, rfl⟩
      go_wp2_with fail
      refine (awake11_calls _).mono ?_
      rintro e w9 ⟨rfl, hb⟩
      have HE := Lib.hid (HU8.out.step (Upd.of_below hb : Upd [] _ _) (by simp))
      clear hb
      go_wp2_with fail
      go_ret
      exact ⟨rfl, HE.out.below⟩
end Go.Proofs.Ytnhgmmjlhhgdoaa
