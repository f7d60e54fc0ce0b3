/- The walk of RefMakes: at every input the law returns true, and nothing that was there has turned. -/
import Derived.Test.YtendjhobemlhoaaRLaw
namespace Go.Proofs.Ytendjhobemlhoaa
open Go Go.RowKit

set_option maxRecDepth 100000 in
set_option maxHeartbeats 12800000 in
theorem makes13_walk (A : Option Addr) (cap : Nat) (xs : List Int) (c : Nat) (w : World) (hR : Reads w .u8 A xs) (hxs : ∀ x ∈ xs, 0 ≤ x ∧ x ≤ 255) (hc : c ≤ 65535) :
    Calls Try.prog 12 #[.slice A xs.length cap, .int .u16 c] w fun e w' => e = .returned (.bool true) ∧ Below w.heap.size w w' := by
  obtain ⟨N, hN⟩ : ∃ N, xs.length = N := ⟨_, rfl⟩
  rw [hN]
  have HN := Lib.hid hN
  have HRD := Lib.hid hR
  have HXS := Lib.hid hxs
  clear hN hR hxs
  go_enter Try.func12, Try.ntmps12
  go_wp2_with fail
  refine (made13 3 3 _ (by omega) (by omega)).mono ?_
  rintro e w1 ⟨h, r, q, v, l, F, O, rfl, hr, ho, he, hl3⟩
  have HR : Hid (RefO w1 r q h 40 l F [[], [], []] 0 O) := Lib.hid hr
  have HE := Lib.hid he
  have HLL := Lib.hid hl3.len
  obtain ⟨A0, cap0, hv, _, _⟩ := ho.own.form
  rw [HLL.out] at hv
  subst hv
  have HO := Lib.hid ho
  clear hr ho he hl3
  go_wp2_with fail
  go_loopg [8] 20 (fun gk i wr => ∃ (k : Nat) (L : List Int) (F : Int → Ob) (O : Nat → Prop), gk = 20 - k ∧ k ≤ 20 ∧ i = .int .i64 k ∧ Hid (RefO wr r q h 40 L F [[], [], []] k O) ∧ Hid (OwnA wr w.heap.size (.slice A0 3 cap0) l O) ∧ Hid (Env w wr O) ∧ Hid (L.length = 3 + k ∧ ∀ a ∈ l, a ∈ L))
  case atStart => exact ⟨0, l, F, O, rfl, by omega, rfl, HR, HO, HE, Lib.hid ⟨HLL.out, fun _ h => h⟩⟩
  case round =>
    clear HR HO HE
    obtain ⟨k, L, F, O, rfl, hk, rfl, HR, HO, HE, HL⟩ := hrel
    have hlast : ∀ W, Upd [] wr W → Below w.heap.size w W := fun W hu => (HE.out.upd.trans hu).below
    have HLAST := Lib.hid hlast
    clear hlast
    by_cases hlt : k < N
    · by_cases h20 : k < 20
      · obtain ⟨b, off, rfl, hb, hcell⟩ := (HRD.out.upd HE.out.upd (by simp)).at HN.out hlt
        have hy := HXS.out _ (getD_mem (by rw [HN.out]; exact hlt))
        obtain ⟨y, hyy⟩ : ∃ y : Nat, xs.getD k 0 = y := ⟨(xs.getD k 0).toNat, by omega⟩
        rw [hyy] at hcell hy
        clear hyy
        have hy255 : y ≤ 255 := by omega
        clear hy
        obtain ⟨S, hS⟩ : ∃ S : Nat, 1 + (y : Int) % 3 = S := ⟨1 + y % 3, by omega⟩
        obtain ⟨D, hD⟩ : ∃ D : Nat, (k : Int) % 3 = D := ⟨k % 3, by omega⟩
        have hS3 : 1 ≤ (S : Int) ∧ (S : Int) ≤ 3 := by omega
        have hQ3 : 0 ≤ (y : Int) / 4 % 3 ∧ (y : Int) / 4 % 3 < 3 := by omega
        have HQ3 := Lib.hid hQ3
        clear hQ3
        have hD3 : D < 3 := by omega
        obtain ⟨b0, off0, rfl, hb0, hc0⟩ : ∃ b0 off0, A0 = some ⟨b0, off0, none⟩ ∧ b0 < wr.heap.size ∧ wr.cell? ⟨b0, off0 + D, none⟩ = some (.int .i64 (l.getD D 0)) := by
          obtain ⟨A1, cap1, hv, hI, _⟩ := HO.out.own.form
          simp only [Value.slice.injEq] at hv
          rw [hv.1]
          exact Reads.at (k := .i64) hI HLL.out hD3
        have HX := Lib.hid (HL.out.2 _ (getD_mem (by rw [HLL.out]; exact hD3)))
        obtain ⟨x, hx⟩ : ∃ x, l.getD D 0 = x := ⟨_, rfl⟩
        rw [hx] at HX hc0
        have HXD := Lib.hid hx
        clear hx
        go_wp2_with fail
        go_quiet (fail)
        have HR2 := Lib.hid (HR.out.upd0 ((Upd.refl [] wr).drewN nq))
        have HE2 := Lib.hid (HE.out.upd0 ((Upd.refl [] wr).drewN nq))
        have HO2 := Lib.hid (HO.out.upd0 ((Upd.refl [] wr).drewN nq))
        go_wp2_with fail
        refine (refer_yes r q h 40 k S x ((y : Int) / 4 % 3) ((c : Int) + k) _ HR2.out (by omega) (by have := HQ3.out; simp; omega) (by have := HQ3.out; omega) HX.out (by have := HL.out.1; omega) (by omega)).mono ?_
        rintro e w2 ⟨a, O2, rfl, ha, hr, hs⟩
        have HR3 := Lib.hid hr
        have HE3 := Lib.hid (HE2.out.step hs)
        have HO3 := Lib.hid (HO2.out.step hs)
        have HA : Hid (a ∈ L ++ [a]) := Lib.hid (by simp)
        have HFA : Hid (fset F a ⟨4, S, false, valsR x ((y : Int) / 4 % 3) ((c : Int) + k) k⟩ a = ⟨4, S, false, valsR x ((y : Int) / 4 % 3) ((c : Int) + k) k⟩) := Lib.hid (fset_same ..)
        have HL3 : Hid ((L ++ [a]).length = 3 + (k + 1) ∧ ∀ b ∈ l, b ∈ L ++ [a]) := Lib.hid ⟨by rw [List.length_append, HL.out.1]; rfl, fun b hb => List.mem_append_left _ (HL.out.2 b hb)⟩
        generalize fset F a ⟨4, S, false, valsR x ((y : Int) / 4 % 3) ((c : Int) + k) k⟩ = F2 at *
        generalize L ++ [a] = L2 at *
        clear hr hs ha hcell hc0 HR HE HO HR2 HE2 HO2 hS
        obtain ⟨c0, c1, c2, c3⟩ := HR3.out.cells
        go_wp2_with fail
        refine (ref_head r q h 40 (k + 1) a 4 S 5 false _ HR3.out HA.out (by rw [HFA.out]; rfl)).mono ?_
        rintro e w3 ⟨rfl, hu⟩
        have HU3 := Lib.hid hu
        clear hu c0 c1 c2 c3
        go_wp2_with fail
        refine (err_calls 0 _ (by omega)).mono ?_
        rintro e w' ⟨rfl, rfl⟩
        go_wp2_with fail
        refine (err_calls 0 _ (by omega)).mono ?_
        rintro e w' ⟨rfl, rfl⟩
        have HW : Hid (Upd [] w3 (w3.alloc (.cells #[.int .i64 4, .int .i64 S, .int .i64 5, .bool false] 52))) := Lib.hid ((Upd.refl [] w3).alloc _)
        have hcx : (w3.alloc (.cells #[.int .i64 4, .int .i64 S, .int .i64 5, .bool false] 52)).cell? ⟨b0, off0 + D, none⟩ = some (.int .i64 x) := by
          rw [← HXD.out]
          exact owna_cell (HO3.out.upd0 (HU3.out.trans HW.out)) HLL.out hD3
        go_wp2_with fail
        refine (serial_yes r q h 40 (k + 1) _ (HR3.out.upd0 (HU3.out.trans HW.out))).mono ?_
        rintro e w' ⟨rfl, rfl⟩
        obtain ⟨V, hV⟩ : ∃ V, valsR x ((y : Int) / 4 % 3) ((c : Int) + k) k = V := ⟨_, rfl⟩
        have HV5 : Hid (V.length = 5) := Lib.hid (by rw [← hV]; rfl)
        have HBK : Hid (Blk ((w3.alloc (.cells #[.int .i64 4, .int .i64 S, .int .i64 5, .bool false] 52)).alloc (.cells #[.int .i64 x, .int .i64 ((y : Int) / 4 % 3 + 1), .int .i64 0, .int .i64 ((c : Int) + k), .int .i64 ((k : Int) + 1)] 3)) (w3.heap.size + 1) 3 (ints V)) := Lib.hid (by
          rw [← hV]
          exact Blk.newAt _ _ _ _ (by simp))
        have HVV := Lib.hid hV
        clear hV
        go_wp2_with fail
        simp only [hD]
        clear hcx hD
        go_loopg [16] 5 (fun gk m wx => ∃ j : Nat, gk = 5 - j ∧ j ≤ 5 ∧ m = .int .i64 j ∧ Hid (Upd [] w3 wx) ∧ Hid (Blk wx (w3.heap.size + 1) 3 (ints V)))
        case atStart => exact ⟨0, rfl, by omega, rfl, Lib.hid (HW.out.alloc _), HBK⟩
        case round =>
          obtain ⟨j, rfl, hj, rfl, HU4, HB4⟩ := hrel
          by_cases hlt5 : j < 5
          · obtain ⟨z, hz⟩ : ∃ z, V.getD j 0 = z := ⟨_, rfl⟩
            have hcz := HB4.out.int j (by rw [HV5.out]; exact hlt5)
            rw [hz] at hcz
            have HZ : Hid ((F2 a).ws.getD j 0 = z) := Lib.hid (by rw [HFA.out, ← hz, ← HVV.out])
            have HJ5 : Hid (j < (F2 a).ws.length) := Lib.hid (by rw [HFA.out]; simp [valsR]; omega)
            clear hz
            go_wp2_with fail
            refine (ref_get r q h 40 (k + 1) a j j z _ (HR3.out.upd0 (HU3.out.trans HU4.out)) HA.out rfl HJ5.out HZ.out).mono ?_
            rintro e w5 ⟨rfl, hu⟩
            have hcz5 : w5.cell? ⟨w3.heap.size + 1, j, none⟩ = some (.int .i64 z) := by
              rw [hu.cell (p := ⟨w3.heap.size + 1, j, none⟩) HB4.out.lt (by simp)]
              exact hcz
            have HU5 := Lib.hid (HU4.out.trans hu)
            have HB5 := Lib.hid (HB4.out.upd hu (by simp))
            clear hu hcz
            go_wp2_with fail
            refine (err_calls 0 _ (by omega)).mono ?_
            rintro e w' ⟨rfl, rfl⟩
            go_wp2_with fail
            go_roundg (5 - (j + 1))
            case measure => omega
            case rel => exact ⟨j + 1, rfl, by omega, by go_num, HU5, HB5⟩
          · obtain rfl : j = 5 := by omega
            go_wp2_with fail
            go_roundg (20 - (k + 1))
            case measure => omega
            case rel => exact ⟨k + 1, L2, F2, O2, rfl, by omega, by go_num, Lib.hid (HR3.out.upd0 (HU3.out.trans HU4.out)), Lib.hid (HO3.out.upd0 (HU3.out.trans HU4.out)), Lib.hid (HE3.out.upd0 (HU3.out.trans HU4.out)), HL3⟩
      · have h20' : ¬ (k : Int) < 20 := by omega
        go_wp2_with fail
        refine (awake13 _).mono ?_
        rintro e w9 ⟨rfl, hu⟩
        have HU9 := Lib.hid hu
        clear hu
        go_wp2_with fail
        go_ret
        exact ⟨rfl, HLAST.out _ HU9.out⟩
    · have hNk : ¬ (k : Int) < N := by omega
      go_wp2_with fail
      refine (awake13 _).mono ?_
      rintro e w9 ⟨rfl, hu⟩
      have HU9 := Lib.hid hu
      clear hu
      go_wp2_with fail
      go_ret
      exact ⟨rfl, HLAST.out _ HU9.out⟩
end Go.Proofs.Ytendjhobemlhoaa
