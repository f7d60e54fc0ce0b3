/- The walk of BitsWalk: at every list of uint8 the law returns true, and nothing that was there has turned. -/
import Derived.Test.YtnphkgiiondjkaaBitsEnds
import Derived.Test.YtnphkgiiondjkaaReads
import Derived.Test.YtnphkgiiondjkaaRef1
namespace Go.Proofs.Ytnphkgiiondjkaa
open Go Go.RowKit

theorem countB_set (l : List Bool) (j : Nat) (hj : j < l.length) : countB (l.set j true) = countB l + (if l.getD j false = true then 0 else 1) := by
  unfold countB
  rw [List.count_set hj, List.getD_eq_getElem?_getD, List.getElem?_eq_getElem hj]
  have : l[j] = true → 0 < List.count true l := fun h => List.count_pos_iff.2 (h ▸ List.getElem_mem hj)
  cases hv : l[j] with
  | true => have := this hv; simp; omega
  | false => simp

set_option maxRecDepth 100000 in
set_option maxHeartbeats 8000000 in
theorem walk_walk (n cap : Nat) (A : Option Addr) (xs : List Int) (w : World) (hn : xs.length = n) (hl : n ≤ 9223372036854775807) (hA : Reads w .u8 A xs) (hx : ∀ v ∈ xs, 0 ≤ v ∧ v ≤ 255) :
    Calls Try.prog 8 #[.slice A n cap] w fun e w' => e = .returned (.bool true) ∧ Below w.heap.size w w' := by
  have hmk := fun W => run_make_all (P := Try.prog) 49 4 (.bool false) 1 Try.underlying49 bool_info rfl (256 : Int) 256 rfl (by omega) (by omega) W
  have HN := Lib.hid hn
  have HA := Lib.hid hA
  have HX := Lib.hid hx
  clear hn hA hx
  go_enter Try.func8, Try.ntmps8
  go_wp2_with fail
  refine (bits_new_yes 256 _ (by omega)).mono ?_
  rintro e w1 ⟨p, g, rfl, hA, hp, hg, hb⟩
  have H := Lib.hid hA
  have HB := Lib.hid hb
  clear hA hb
  go_wp2_with fail
  refine (err0 _).mono ?_
  rintro e w' ⟨rfl, rfl⟩
  go_wp2_with fail
  obtain ⟨L0, hL0⟩ : ∃ L0, List.replicate 256 false = L0 := ⟨_, rfl⟩
  have HL0 : Hid (L0.length = 256) := Lib.hid (by rw [← hL0]; simp)
  have HR : Hid (Blk (w1.alloc (.cells (Array.replicate 256 (Value.bool false)) 4)) w1.heap.size 4 (bools L0)) := Lib.hid (by rw [← hL0, bools_zero]; exact Blk.new w1 _ _)
  have H2 := Lib.hid (H.out.alloc (.cells (Array.replicate 256 (Value.bool false)) 4))
  rw [hL0] at H2
  have HU : Hid (Upd [] w (w1.alloc (.cells (Array.replicate 256 (Value.bool false)) 4))) := Lib.hid ((Upd.of_below HB.out : Upd [] w w1).alloc _)
  have HC0 : Hid (countB L0 = 0) := Lib.hid (by rw [← hL0]; decide)
  have HRG : Hid (w1.heap.size ≠ g ∧ w1.heap.size ≠ p ∧ w.heap.size ≤ w1.heap.size ∧ w.heap.size ≤ g) := Lib.hid ⟨by have := H.out.2.lt; omega, by have := H.out.1.lt; omega, HB.out.size, hg⟩
  clear H HB hL0 hp hg
  obtain ⟨q, hq⟩ : ∃ q, w1.heap.size = q := ⟨_, rfl⟩
  obtain ⟨w2, hw2⟩ : ∃ w2, w1.alloc (.cells (Array.replicate 256 (Value.bool false)) 4) = w2 := ⟨_, rfl⟩
  rw [hq] at HR HRG
  rw [hw2] at HR H2 HU
  simp only [hq, hw2]
  clear hq hw2 w1
  go_loopw [5, 7] (fun c i wr => ∃ (k c' : Nat) (L : List Bool), k ≤ n ∧ c = .int .i64 c' ∧ c' ≤ 256 ∧ i = .int .i64 k ∧ Hid (L.length = 256) ∧ Hid (c' = countB L) ∧ Hid (IsBits wr p g L) ∧ Hid (Blk wr q 4 (bools L)) ∧ Hid (Upd [] w wr)) (fun _ i _ => n - (intOf i).toNat)
  case atStart => exact ⟨0, 0, L0, Nat.zero_le _, rfl, by omega, rfl, HL0, Lib.hid HC0.out.symm, H2, HR, HU⟩
  case round =>
    clear HL0 HC0 H2 HR HU L0
    obtain ⟨k, c, L, hk, rfl, hc, rfl, HL, HC, H, HR, HU⟩ := hrel
    by_cases hlt : k < n
    · obtain ⟨b, off, rfl, hb, hcell⟩ := HA.out.at HN.out hlt
      have hcr := (HU.out.cell (p := ⟨b, off + k, none⟩) hb (by simp)).trans hcell
      have hv := HX.out _ (getD_mem (by rw [HN.out]; exact hlt))
      obtain ⟨v, hv'⟩ := Int.eq_ofNat_of_zero_le hv.1
      rw [hv'] at hcr hv
      have hv2 : v ≤ 255 := by omega
      have hbq : b ≠ q := by have := HRG.out; omega
      clear hcell hb hv' hv
      have c1 := HR.out.bool v (by rw [HL.out]; omega)
      have c2 := HR.out.frozen v
      have hcs := countB_set L v (by rw [HL.out]; omega)
      have hcl := countB_le (L.set v true)
      rw [List.length_set, HL.out] at hcl
      obtain ⟨t, ht⟩ : ∃ t, L.getD v false = t := ⟨_, rfl⟩
      rw [ht] at c1 hcs
      have HCS := Lib.hid hcs
      have HCL := Lib.hid hcl
      clear ht hcs hcl
      cases t with
      | true =>
        go_wp2_with fail
        have hI := isInts_one (wr.setCell ⟨q, v, none⟩ (.bool true)) 3 (v : Int)
        rw [show (wr.setCell ⟨q, v, none⟩ (.bool true)).heap.size = wr.heap.size from by simp [World.setCell]] at hI
        have hs := set_yes p g L true _ 1 [(v : Int)] _ ((H.out.upd ((Upd.refl [q] wr).setCell (p := ⟨q, v, none⟩) (.inl (by simp)) (.bool true)) (by have := HRG.out; simp; omega) (by have := HRG.out; simp; omega)).alloc _) hI (by simp) (fun x hx => by rw [List.mem_singleton] at hx; subst hx; exact placeB_yes (by omega) (by rw [HL.out]; omega))
        refine hs.mono ?_
        clear hs hI
        rintro e w3 ⟨rfl, hset, hu⟩
        rw [setAll_one] at hset
        have HS := Lib.hid hset
        have HR3 : Hid (Blk w3 q 4 (bools (L.set v true))) := Lib.hid (by
          rw [← bools_set]
          exact ((HR.out.set_ v (.bool true)).alloc _).upd hu (by have := HRG.out; simp; omega))
        have HU3 : Hid (Upd [] w w3) := Lib.hid (((HU.out.setCell (p := ⟨q, v, none⟩) (.inr HRG.out.2.2.1) _).alloc _).step hu (by have := HRG.out; simp; omega))
        clear hset hu
        go_wp2_with fail
        go_roundw
        case rel => exact ⟨k + 1, c, L.set v true, by omega, by go_num, by have := HCS.out; have := HCL.out; have := HC.out; simp at *; omega, by go_num, Lib.hid (by rw [List.length_set, HL.out]), Lib.hid (by rw [HCS.out, HC.out]; rfl), HS, HR3, HU3⟩
        case measure => simp [intOf]; omega
      | false =>
        go_wp2_with fail
        have hI := isInts_one (wr.setCell ⟨q, v, none⟩ (.bool true)) 3 (v : Int)
        rw [show (wr.setCell ⟨q, v, none⟩ (.bool true)).heap.size = wr.heap.size from by simp [World.setCell]] at hI
        have hs := set_yes p g L true _ 1 [(v : Int)] _ ((H.out.upd ((Upd.refl [q] wr).setCell (p := ⟨q, v, none⟩) (.inl (by simp)) (.bool true)) (by have := HRG.out; simp; omega) (by have := HRG.out; simp; omega)).alloc _) hI (by simp) (fun x hx => by rw [List.mem_singleton] at hx; subst hx; exact placeB_yes (by omega) (by rw [HL.out]; omega))
        refine hs.mono ?_
        clear hs hI
        rintro e w3 ⟨rfl, hset, hu⟩
        rw [setAll_one] at hset
        have HS := Lib.hid hset
        have HR3 : Hid (Blk w3 q 4 (bools (L.set v true))) := Lib.hid (by
          rw [← bools_set]
          exact ((HR.out.set_ v (.bool true)).alloc _).upd hu (by have := HRG.out; simp; omega))
        have HU3 : Hid (Upd [] w w3) := Lib.hid (((HU.out.setCell (p := ⟨q, v, none⟩) (.inr HRG.out.2.2.1) _).alloc _).step hu (by have := HRG.out; simp; omega))
        clear hset hu
        go_wp2_with fail
        go_roundw
        case rel => exact ⟨k + 1, (c + 1), L.set v true, by omega, by go_num, by have := HCS.out; have := HCL.out; have := HC.out; simp at *; omega, by go_num, Lib.hid (by rw [List.length_set, HL.out]), Lib.hid (by rw [HCS.out, HC.out]; rfl), HS, HR3, HU3⟩
        case measure => simp [intOf]; omega
    · obtain rfl : k = n := by omega
      clear HA HX HN hmk
      have HB := Lib.hid (HL.out ▸ countB_le L)
      have HX : Hid (∀ s : Nat, IsNext L true s (nextZ L true s)) := Lib.hid (fun s => by simpa using isNext_nextZ L true (s : Int))
      have HL4 : Hid (L.length ≤ 16384) := Lib.hid (by rw [HL.out]; omega)
      go_wp2_with fail
      refine (next_any p g L 0 true _ H.out (by omega) HL4.out).mono ?_
      rintro e w' ⟨rfl, rfl⟩
      obtain ⟨r, hr⟩ : ∃ r, nextZ L true 0 = r := ⟨_, rfl⟩
      have HN := Lib.hid hr
      rw [hr]
      clear hr
      obtain ⟨w4, rfl⟩ : ∃ w4 : World, w4 = wr := ⟨_, rfl⟩
      go_wp2_with fail
      go_loopw [8, 9, 10] (fun m la i wl => ∃ (d s : Nat) (x r : Int), m = .int .i64 d ∧ la = .int .i64 x ∧ i = .int .i64 r ∧ x + 1 = s ∧ s ≤ 256 ∧ d ≤ s ∧ (r = -1 ∨ ((s : Int) ≤ r ∧ r < 256)) ∧ w4 = wl ∧ Hid (d = countB (L.take s)) ∧ Hid (nextZ L true s = r)) (fun _ la _ _ => 257 - (intOf la + 1).toNat)
      case atStart =>
        refine ⟨0, 0, -1, r, rfl, rfl, rfl, by omega, by omega, by omega, ?_, rfl, Lib.hid rfl, HN⟩
        have h1 := nextZ_range L true 0
        rw [HN.out, HL.out] at h1
        omega
      case round =>
        obtain ⟨d, s, x, r, rfl, rfl, rfl, hxs, hs, hd, hr, rfl, HD, HR2⟩ := hrel
        have hx2 := HX.out s
        rw [HR2.out] at hx2
        have hlen := HL.out
        rcases hr with rfl | ⟨hr0, hr1⟩
        · have hcd : d = c := by
            rw [HD.out, HC.out]
            rcases hx2 with ⟨_, h2⟩ | ⟨k', h2, _⟩
            · rw [← countB_all L]
              exact (countB_flat L s L.length (by rw [hlen]; exact hs) (Nat.le_refl _) (fun j h3 h4 => h2 j h3 h4)).symm
            · omega
          subst hcd
          have hcc := HC.out
          clear hx2 hlen
          go_wp2_with fail
          have hq := count_any p g L _ H.out HL4.out
          rw [hcc.symm] at hq
          refine hq.mono ?_
          rintro e w' ⟨rfl, rfl⟩
          clear hq
          go_wp2_with fail
          have hq := next_any p g L 256 false _ H.out (by omega) HL4.out
          rw [next_past (l := L) (x := 256) (is := false) (by rw [HL.out]; omega)] at hq
          refine hq.mono ?_
          rintro e w' ⟨rfl, rfl⟩
          clear hq
          go_wp2_with fail
          refine (awake2_calls _).mono ?_
          rintro e w5 ⟨rfl, hb⟩
          have HF := Lib.hid (HU.out.step (Upd.of_below hb : Upd [] _ _) (by simp))
          clear hb
          go_wp2_with fail
          go_ret
          exact ⟨rfl, HF.out.below⟩
        · obtain ⟨y, rfl⟩ := Int.eq_ofNat_of_zero_le (show 0 ≤ r by omega)
          have hy : s ≤ y ∧ L.getD y false = true ∧ ∀ j, s ≤ j → j < y → L.getD j false ≠ true := by
            rcases hx2 with ⟨h2, _⟩ | ⟨k', h2, h3, h4, h5, h6⟩
            · omega
            · obtain rfl : y = k' := by omega
              exact ⟨h3, h5, h6⟩
          have hcnt : countB (L.take (y + 1)) = d + 1 := by
            rw [countB_take L y (by omega), if_pos hy.2.1, countB_flat L s y hy.1 (by omega) hy.2.2, HD.out]
          have HCNT := Lib.hid hcnt
          have c1 := HR.out.bool y (by omega)
          rw [hy.2.1] at c1
          have hxy : x < (y : Int) := by omega
          have hy2 : y < 256 := by omega
          have hdy : d ≤ y := by omega
          clear hy hcnt hx2 hlen
          go_wp2_with fail
          refine (next_any p g L (y + 1) true _ H.out (by omega) HL4.out).mono ?_
          rintro e w' ⟨rfl, rfl⟩
          obtain ⟨r2, hr2'⟩ : ∃ r2, nextZ L true (y + 1) = r2 := ⟨_, rfl⟩
          have HR3 := Lib.hid hr2'
          rw [hr2']
          clear hr2'
          go_wp2_with fail
          go_roundw
          case rel =>
            have hnr := nextZ_range L true (y + 1)
            have hx2 := HX.out (y + 1)
            rw [show ((y + 1 : Nat) : Int) = (y : Int) + 1 by omega, HR3.out] at hx2
            rw [HR3.out, HL.out] at hnr
            refine ⟨d + 1, y + 1, y, r2, by go_num, rfl, rfl, by omega, by omega, by omega, ?_, trivial, Lib.hid HCNT.out.symm, HR3⟩
            rcases hx2 with ⟨h2, _⟩ | ⟨k', h2, h3, h4, h5, h6⟩
            · exact .inl h2
            · exact .inr ⟨by omega, by omega⟩
          case measure => simp [intOf]; omega
end Go.Proofs.Ytnphkgiiondjkaa
