/- The walk of FinalTakes: at every input the law returns true, and nothing that was there has turned. -/
import Derived.Test.YtendjhobemlhoaaFPure
namespace Go.Proofs.Ytendjhobemlhoaa
open Go Go.RowKit

set_option maxRecDepth 100000 in
set_option maxHeartbeats 12800000 in
theorem takes15_walk (n m : Nat) (odd : Int) (w : World) (hn : n ≤ 255) (hm : m ≤ 255) : Calls Try.prog 4 #[.int .u8 n, .int .u8 m, .int .i64 odd] w fun e w' => e = .returned (.bool true) ∧ Below w.heap.size w w' := by
  obtain ⟨K, hK⟩ : ∃ K : Nat, 1 + (n : Int) % 8 = K := ⟨1 + n % 8, by omega⟩
  have hK8 : K ≤ 8 := by omega
  have hK1 : 1 ≤ K := by omega
  have HK := Lib.hid hK
  clear hK
  obtain ⟨J, hJ⟩ : ∃ J : Nat, (m : Int) % (K : Int) = J := ⟨((m : Int) % (K : Int)).toNat, by have := Int.emod_nonneg (m : Int) (by omega : (K : Int) ≠ 0); omega⟩
  have hJK : J < K := by
    have := Int.emod_lt_of_pos (m : Int) (by omega : (0 : Int) < K)
    omega
  have HJ := Lib.hid hJ
  clear hJ
  go_enter Try.func4, Try.ntmps4
  go_wp2_with fail
  refine (made15 8 _ (by omega)).mono ?_
  rintro e w1 ⟨h, f, v, l, F, O, rfl, hr, ho, he, hl⟩
  have HLL : Hid (l.length = 9) := Lib.hid hl.len
  obtain ⟨A0, cap0, hv, hI0, _⟩ := ho.own.form
  rw [HLL.out] at hv
  subst hv
  obtain ⟨b0, off0, rfl, hb0, _⟩ := Reads.at (k := .i64) hI0 HLL.out (by omega : 0 < 9)
  have hcap : 9 ≤ cap0 := by
    rcases own_cases ho.own with ⟨e, _⟩ | ⟨g, c, e, _, h1, _⟩
    · cases e
    · rw [HLL.out] at e h1
      simp only [Value.slice.injEq] at e
      omega
  have hKcap : K ≤ cap0 := by omega
  have HND := Lib.hid hr.nodup
  have HR : Hid (FinO w1 f h 40 l F (l.take 0) [] O) := Lib.hid hr
  have HW := Lib.hid hl.waits
  have HO := Lib.hid ho
  have HE := Lib.hid he
  have HSZ := Lib.hid he.upd.size
  have HZL : Hid ((0 : Int) ∉ l) := Lib.hid fun hm => by
    obtain ⟨Oh, hh⟩ := hr.heap
    have := (hh.pos hm).1
    omega
  clear hr ho he hl hI0
  go_wp2_with fail
  simp only [HK.out]
  go_loopg [11] K (fun gk i wr => ∃ (k : Nat) (F : Int → Ob) (O : Nat → Prop), gk = K - k ∧ k ≤ K ∧ i = .int .i64 k ∧ Hid (FinO wr f h 40 l F (l.take k) [] O) ∧ Hid (OwnA wr w.heap.size (.slice (some ⟨b0, off0, none⟩) 9 cap0) l O) ∧ Hid (Env w wr O) ∧ Hid (Waits l F 8 k) ∧ Hid (w1.heap.size ≤ wr.heap.size))
  case atStart => exact ⟨0, F, O, rfl, by omega, rfl, HR, HO, HE, HW, Lib.hid (Nat.le_refl _)⟩
  case round =>
    clear HR HO HE HW
    obtain ⟨k, F, O, rfl, hk, rfl, HR, HO, HE, HW, HZ⟩ := hrel
    by_cases hlt : k < K
    · have hc0 := owna_cell HO.out HLL.out (by omega : k < 9)
      have HD := Lib.hid (HW.out.data k (Nat.le_refl _) (by omega))
      have HA := Lib.hid (getD_mem (r := l) (i := k) (by rw [HLL.out]; omega))
      have HW2 := Lib.hid (HW.out.put HND.out (i := k) (by omega))
      have HTK := Lib.hid (take_push (l := l) (j := k) (by rw [HLL.out]; omega))
      generalize l.getD k 0 = a at *
      go_wp2_with fail
      refine (await_yes f h 40 a _ HR.out HA.out (by rw [HD.out]; simp) (by rw [HD.out]) (by rw [List.length_take]; omega)).mono ?_
      rintro e w2 ⟨rfl, O2, hr, hs⟩
      rw [HTK.out] at hr
      have HR2 := Lib.hid hr
      have HO2 := Lib.hid (HO.out.step hs)
      have HE2 := Lib.hid (HE.out.step hs)
      have HZ2 := Lib.hid (Nat.le_trans HZ.out hs.size)
      clear hr hs hc0 HR HO HE HW
      go_wp2_with fail
      go_roundg (K - (k + 1))
      case measure => omega
      case rel => exact ⟨k + 1, _, O2, rfl, by omega, by go_num, HR2, HO2, HE2, HW2, HZ2⟩
    · obtain rfl : K = k := by omega
      have HTL : Hid ((l.take K).length = K) := Lib.hid (by rw [List.length_take, HLL.out]; omega)
      go_wp2_with fail
      have hin := in_walk (some ⟨b0, off0, none⟩) l cap0 odd wr HO.out.ints (by rw [HLL.out]; omega)
      rw [HLL.out] at hin
      refine hin.mono ?_
      clear hin
      rintro e w2 ⟨rfl, rfl⟩
      by_cases hod : odd ∈ l
      · rw [decide_eq_true hod]
        clear hod
        go_wp2_with fail
        have hq1 : Hid (pendZ (l.take K, []) (l.take K) = ([], l.take K)) := Lib.hid (by rw [pendZ_all _ _ (List.Nodup.sublist (List.take_sublist K l) HND.out)]; rfl)
        refine (pend_yes f h 40 (some ⟨b0, off0, none⟩) (l.take K) K _ _ HR.out (HO.out.readsO.take K) HTL.out (by rw [HTL.out]; simp; omega) (by omega)).mono ?_
        rintro e w3 ⟨rfl, O3, hr, hs⟩
        rw [hq1.out] at hr
        have HR3 := Lib.hid hr
        have HO3 := Lib.hid (HO.out.step hs)
        have HZ3 : Hid (w1.heap.size ≤ w3.heap.size) := Lib.hid (Nat.le_trans HZ.out hs.size)
        have HE3 := Lib.hid (HE.out.step hs)
        clear hr hs hq1 HR HO HE
        have hc8 : w3.cell? ⟨b0, off0 + 8, none⟩ = some (.int .i64 (l.getD 8 0)) := owna_cell HO3.out HLL.out (by omega : 8 < 9)
        have hsz : ∀ k, O3 k → k < w3.heap.size := fun k hk => HR3.out.owned hk
        have HU3 : Hid (Upd [] w3 (w3.alloc (.cells #[.int .i64 0, .int .i64 (l.getD 8 0)] 3))) := Lib.hid ((Upd.refl [] w3).alloc _)
        have HRD3 : Hid (ReadsO (w3.alloc (.cells #[.int .i64 0, .int .i64 (l.getD 8 0)] 3)) (some ⟨w3.heap.size, 0, none⟩) [0, l.getD 8 0] O3) := Lib.hid (reads_blk (Blk.new _ _ _) fun hx => by have := hsz _ hx; omega)
        obtain ⟨z, hz⟩ : ∃ z, l.getD 8 0 = z := ⟨_, rfl⟩
        rw [hz] at hc8 HU3 HRD3
        clear hsz hz
        go_wp2_with fail
        refine (pend_yes f h 40 (some ⟨w3.heap.size, 0, none⟩) [0, z] 2 2 _ (HR3.out.upd0 HU3.out) HRD3.out rfl (by rw [HTL.out]; simp; omega) (by omega)).mono ?_
        rintro e w4 ⟨rfl, O4, hr, hs⟩
        rw [pendZ_none] at hr
        have HR4 := Lib.hid hr
        have HZ4 : Hid (w1.heap.size ≤ w4.heap.size) := Lib.hid (Nat.le_trans (Nat.le_trans HZ3.out HU3.out.size) hs.size)
        have HO4 := Lib.hid ((HO3.out.upd0 HU3.out).step hs)
        have HE4 := Lib.hid ((HE3.out.upd0 HU3.out).step hs)
        clear hr hs HR3 HO3 HE3 HU3 HRD3 hc8
        go_upto_region 13 with fail
        have HP5 := Lib.hid (fun W (hW : Upd [] w4 W) => pending_yes f h 40 W (HR4.out.upd0 hW) (by rw [HTL.out]; omega))
        have HP6 := Lib.hid (fun W (hW : Upd [] w4 W) => finals_yes f h 40 W (HR4.out.upd0 hW) (by simp))
        have HI4 := Lib.hid (HO4.out.ints.take K)
        have hKi : (K : Int) ≤ 9 := by omega
        have k4 : w4.cell? ⟨b0, off0, none⟩ = some (.int .i64 (l.getD 0 0)) := owna_cell HO4.out HLL.out (by omega : 0 < 9)
        have HK4 := Lib.hid k4
        have hb4 : b0 < w4.heap.size := (World.ownsRow.lt HO4.out.own b0 rfl).2
        have HB4 := Lib.hid hb4
        go_region_held3 (fun w' => w'.cell? ⟨b0, off0, none⟩ = some (.int .i64 (l.getD 0 0))) (first | exact k4 | exact k5 | exact k6 | exact k7)
          (first
            | (go_at_call 23; refine (HP5.out _ (Upd.refl [] w4).drew).mono ?_; rintro e w5 ⟨v5, rfl, ho5, hu5⟩
               obtain ⟨A5, cap5, hv5, hI5, _⟩ := ho5.form
               rw [HTL.out] at hv5
               subst hv5
               have HI5 := Lib.hid hI5
               have HU5 : Hid (Upd [] w4 w5) := Lib.hid ((Upd.refl [] w4).drew.trans hu5)
               have HI6 := Lib.hid (Reads.upd (k := .i64) HI4.out HU5.out (by simp))
               have k5 : w5.cell? ⟨b0, off0, none⟩ = some (.int .i64 (l.getD 0 0)) := (HU5.out.cell (p := ⟨b0, off0, none⟩) HB4.out (by simp)).trans HK4.out
               clear ho5 hI5 hu5)
            | (go_at_call 19; refine (same_calls A5 (some ⟨b0, off0, none⟩) K K cap5 _ (l.take K) (l.take K) w5 HTL.out HTL.out HI5.out HI6.out (by omega) (by omega)).mono ?_; rintro e w6 ⟨he6, q6, rfl⟩
               rw [decide_eq_true rfl] at he6
               subst he6
               have k6 : (w5.drewN q6).cell? ⟨b0, off0, none⟩ = some (.int .i64 (l.getD 0 0)) := k5)
            | (go_at_call 20; refine (HP6.out _ (HU5.out.drewN q6)).mono ?_; rintro e w7 ⟨v7, rfl, ho7, hu7⟩
               obtain ⟨A7, cap7, hv7, _⟩ := ho7.form
               have hv8 : v7 = .slice A7 0 cap7 := hv7
               subst hv8
               have HU7 : Hid (Upd [] w4 w7) := Lib.hid ((HU5.out.drewN q6).trans hu7)
               have k7 : w7.cell? ⟨b0, off0, none⟩ = some (.int .i64 (l.getD 0 0)) := (HU7.out.cell (p := ⟨b0, off0, none⟩) HB4.out (by simp)).trans HK4.out
               clear ho7 hu7 hv7))
        all_goals
          have HR7 := Lib.hid (HR4.out.upd0 HU7.out)
          have HO7 := Lib.hid (HO4.out.upd0 HU7.out)
          have HE7 := Lib.hid (HE4.out.upd0 HU7.out)
          have HS7 := Lib.hid HU7.out.size
          clear HR4 HO4 HE4 HP5 HP6 HI4 HI5 HI6 HU5 HU7 k4 k5 k6 k7 HK4 HB4 hb4
          have HXJ : Hid ((l.take K).getD J 0 = l.getD J 0) := Lib.hid (by rw [List.getD_eq_getElem?_getD, List.getD_eq_getElem?_getD, List.getElem?_take_of_lt hJK])
          have HPL : Hid (((l.take K).eraseIdx J).length = K - 1) := Lib.hid (by rw [List.length_eraseIdx_of_lt (by rw [HTL.out]; exact hJK), HTL.out])
          go_wp2_with fail
          simp only [HJ.out]
          refine (ftake_yes f h 40 J J _ HR7.out rfl (by rw [HTL.out]; exact hJK) (by rw [HTL.out]; omega)).mono ?_
          rintro e w8 ⟨rfl, O8, hr, hs⟩
          rw [HXJ.out]
          obtain ⟨xj, hxj⟩ : ∃ xj, l.getD J 0 = xj := ⟨_, rfl⟩
          rw [hxj]
          have HXE := Lib.hid hxj
          obtain ⟨L1, hL1⟩ : ∃ L1, L1 = K - 1 := ⟨_, rfl⟩
          have hL1' : (K : Int) - 1 = L1 := by omega
          have HP0 : Hid (((l.take K).eraseIdx J).length = L1) := Lib.hid (by rw [HPL.out, hL1])
          have HL1 := Lib.hid hL1'
          have hL9 : L1 ≤ 8 := by omega
          have HR8 := Lib.hid hr
          have HO8 := Lib.hid (HO7.out.step hs)
          have HE8 := Lib.hid (HE7.out.step hs)
          have HZ8 : Hid (w1.heap.size ≤ w8.heap.size) := Lib.hid (by
            exact Nat.le_trans (Nat.le_trans HZ4.out HS7.out) hs.size)
          clear hr hs HR7 HO7 HE7 hxj hL1 hL1'
          go_wp2_with fail
          go_loopg [15, 16] K (fun gk v i wr => ∃ k : Nat, gk = K - k ∧ k ≤ K ∧ i = .int .i64 k ∧ Hid (FinO wr f h 40 l F [] ((l.take K).eraseIdx J) O8) ∧ Hid (OwnA wr w.heap.size (.slice (some ⟨b0, off0, none⟩) 9 cap0) l O8) ∧ Hid (OwnA wr w1.heap.size v ((l.take k).eraseIdx J) O8) ∧ Hid (Env w wr O8) ∧ Hid (w1.heap.size ≤ wr.heap.size))
          case atStart => exact ⟨0, rfl, by omega, rfl, HR8, HO8, Lib.hid (by simpa using OwnA.nil _ _ _), HE8, HZ8⟩
          case round =>
            clear HR8 HO8 HE8 HZ8
            obtain ⟨k, rfl, hk, rfl, HR, HO, HP, HE, HZ⟩ := hrel
            by_cases hlt : k < K
            · by_cases hkj : k = J
              · subst hkj
                have HN : Hid ((l.take k).eraseIdx k = (l.take (k + 1)).eraseIdx k) := Lib.hid (wants_at (by rw [HLL.out]; omega))
                go_wp2_with fail
                go_roundg (K - (k + 1))
                case measure => omega
                case rel => exact ⟨k + 1, rfl, by omega, by go_num, HR, HO, Lib.hid (by rw [← HN.out]; exact HP.out), HE, HZ⟩
              · have hkj' : ¬ (k : Int) = J := by omega
                have HN : Hid ((l.take k).eraseIdx J ++ [l.getD k 0] = (l.take (k + 1)).eraseIdx J) := Lib.hid (wants_skip (by rw [HLL.out]; omega) hkj)
                have HLN : Hid (((l.take k).eraseIdx J).length ≤ 9) := Lib.hid (by have := List.length_eraseIdx_le (l.take k) J; rw [List.length_take] at this; omega)
                have hc0 := owna_cell HO.out HLL.out (by omega : k < 9)
                obtain ⟨a, ha⟩ : ∃ a, l.getD k 0 = a := ⟨_, rfl⟩
                rw [ha] at hc0 HN
                clear ha
                go_wp2_with (at_builtin; refine wpList_pushO rfl _ _ rfl w1.heap.size _ ((l.take k).eraseIdx J) O8 rfl (HP.out.upd0 ((Upd.refl [] wr).alloc _)) wr.heap.size a rfl (Blk.new _ _ _) (by have := HLN.out; omega) (by have := HZ.out; simp; omega) (fun k hk => by have := HR.out.owned hk; simp; omega) ?_)
                intro v' w9 E h1 h2 h3 h4
                have hE : ∀ i ∈ E, w1.heap.size ≤ i ∧ ¬ O8 i := fun i hi => ⟨(World.ownsRow.lt HP.out.own i (h2 i hi)).1, HP.out.far i (h2 i hi)⟩
                have HR9 := Lib.hid ((HR.out.upd0 ((Upd.refl [] wr).alloc _)).upd h3 fun i hi => (hE i hi).2)
                have HE9 := Lib.hid ((HE.out.upd0 ((Upd.refl [] wr).alloc _)).upd' h3 fun i hi => Nat.le_trans HSZ.out (hE i hi).1)
                have HO9 := Lib.hid ((HO.out.upd0 ((Upd.refl [] wr).alloc _)).updE h3 fun i hi e => by
                  simp only [Value.ownBlock, Option.some.injEq] at e
                  have := (hE i hi).1
                  omega)
                rw [HN.out] at h1
                have HP9 := Lib.hid h1
                have HZ9 : Hid (w1.heap.size ≤ w9.heap.size) := Lib.hid (by have := HZ.out; have := h3.size; simp at this; omega)
                clear h1 h2 h3 h4 hE hc0
                go_wp2_with fail
                go_roundg (K - (k + 1))
                case measure => omega
                case rel => exact ⟨k + 1, rfl, by omega, by go_num, HR9, HO9, HP9, HE9, HZ9⟩
            · obtain rfl : K = k := by omega
              obtain ⟨Aw, capw, hvw, hIw, _⟩ := HP.out.own.form
              rw [HP0.out] at hvw
              subst hvw
              have HIW := Lib.hid hIw
              clear hIw
              go_wp2_with fail
              simp only [HL1.out]
              refine (ftake_no f h 40 L1 _ HR.out (by rw [HP0.out]; omega) (by rw [HP0.out]; omega)).mono ?_
              rintro e w' ⟨rfl, rfl⟩
              go_wp2_with fail
              refine (ftake_no f h 40 (-1) _ HR.out (by omega) (by rw [HP0.out]; omega)).mono ?_
              rintro e w' ⟨rfl, rfl⟩
              have hcj : wr.cell? ⟨b0, off0 + J, none⟩ = some (.int .i64 xj) := by rw [← HXE.out]; exact owna_cell HO.out HLL.out (by omega : J < 9)
              go_wp2_with fail
              refine (err_calls 0 _ (by omega)).mono ?_
              rintro e w' ⟨rfl, rfl⟩
              go_wp2_with fail
              refine (err_calls 1 _ (by omega)).mono ?_
              rintro e w' ⟨rfl, rfl⟩
              go_wp2_with fail
              refine (err_calls 1 _ (by omega)).mono ?_
              rintro e w' ⟨rfl, rfl⟩
              go_wp2_with fail
              refine (pending_yes f h 40 _ HR.out (by rw [HP0.out]; omega)).mono ?_
              rintro e w9 ⟨v9, rfl, ho9, hu9⟩
              obtain ⟨A9, cap9, hv9, hI9, _⟩ := ho9.form
              rw [HP0.out] at hv9
              subst hv9
              have HI9 := Lib.hid hI9
              have HU9 := Lib.hid hu9
              have HIW9 := Lib.hid (Reads.upd (k := .i64) HIW.out hu9 (by simp))
              clear ho9 hI9 hu9 hcj
              go_wp2_with fail
              refine (same_calls A9 Aw L1 L1 cap9 _ ((l.take K).eraseIdx J) ((l.take K).eraseIdx J) w9 HP0.out HP0.out HI9.out HIW9.out (by omega) (by omega)).mono ?_
              rintro e w10 ⟨he6, q6, rfl⟩
              rw [decide_eq_true rfl] at he6
              subst he6
              go_wp2_with fail
              refine (awake15 _).mono ?_
              rintro e w11 ⟨rfl, hu⟩
              have HU11 := Lib.hid hu
              clear hu
              go_wp2_with fail
              go_ret
              exact ⟨rfl, (HE.out.upd.trans ((HU9.out.drewN q6).trans HU11.out)).below⟩
      · rw [decide_eq_false hod]
        clear hod
        go_wp2_with fail
        have hq1 : Hid (pendZ (l.take K, []) (l.take K) = ([], l.take K)) := Lib.hid (by rw [pendZ_all _ _ (List.Nodup.sublist (List.take_sublist K l) HND.out)]; rfl)
        refine (pend_yes f h 40 (some ⟨b0, off0, none⟩) (l.take K) K _ _ HR.out (HO.out.readsO.take K) HTL.out (by rw [HTL.out]; simp; omega) (by omega)).mono ?_
        rintro e w3 ⟨rfl, O3, hr, hs⟩
        rw [hq1.out] at hr
        have HR3 := Lib.hid hr
        have HO3 := Lib.hid (HO.out.step hs)
        have HZ3 : Hid (w1.heap.size ≤ w3.heap.size) := Lib.hid (Nat.le_trans HZ.out hs.size)
        have HE3 := Lib.hid (HE.out.step hs)
        clear hr hs hq1 HR HO HE
        have hc8 : w3.cell? ⟨b0, off0 + 8, none⟩ = some (.int .i64 (l.getD 8 0)) := owna_cell HO3.out HLL.out (by omega : 8 < 9)
        have hsz : ∀ k, O3 k → k < w3.heap.size := fun k hk => HR3.out.owned hk
        have HU3 : Hid (Upd [] w3 (w3.alloc (.cells #[.int .i64 odd, .int .i64 (l.getD 8 0)] 3))) := Lib.hid ((Upd.refl [] w3).alloc _)
        have HRD3 : Hid (ReadsO (w3.alloc (.cells #[.int .i64 odd, .int .i64 (l.getD 8 0)] 3)) (some ⟨w3.heap.size, 0, none⟩) [odd, l.getD 8 0] O3) := Lib.hid (reads_blk (Blk.new _ _ _) fun hx => by have := hsz _ hx; omega)
        obtain ⟨z, hz⟩ : ∃ z, l.getD 8 0 = z := ⟨_, rfl⟩
        rw [hz] at hc8 HU3 HRD3
        clear hsz hz
        go_wp2_with fail
        refine (pend_yes f h 40 (some ⟨w3.heap.size, 0, none⟩) [odd, z] 2 2 _ (HR3.out.upd0 HU3.out) HRD3.out rfl (by rw [HTL.out]; simp; omega) (by omega)).mono ?_
        rintro e w4 ⟨rfl, O4, hr, hs⟩
        rw [pendZ_none] at hr
        have HR4 := Lib.hid hr
        have HZ4 : Hid (w1.heap.size ≤ w4.heap.size) := Lib.hid (Nat.le_trans (Nat.le_trans HZ3.out HU3.out.size) hs.size)
        have HO4 := Lib.hid ((HO3.out.upd0 HU3.out).step hs)
        have HE4 := Lib.hid ((HE3.out.upd0 HU3.out).step hs)
        clear hr hs HR3 HO3 HE3 HU3 HRD3 hc8
        go_upto_region 13 with fail
        have HP5 := Lib.hid (fun W (hW : Upd [] w4 W) => pending_yes f h 40 W (HR4.out.upd0 hW) (by rw [HTL.out]; omega))
        have HP6 := Lib.hid (fun W (hW : Upd [] w4 W) => finals_yes f h 40 W (HR4.out.upd0 hW) (by simp))
        have HI4 := Lib.hid (HO4.out.ints.take K)
        have hKi : (K : Int) ≤ 9 := by omega
        have k4 : w4.cell? ⟨b0, off0, none⟩ = some (.int .i64 (l.getD 0 0)) := owna_cell HO4.out HLL.out (by omega : 0 < 9)
        have HK4 := Lib.hid k4
        have hb4 : b0 < w4.heap.size := (World.ownsRow.lt HO4.out.own b0 rfl).2
        have HB4 := Lib.hid hb4
        go_region_held3 (fun w' => w'.cell? ⟨b0, off0, none⟩ = some (.int .i64 (l.getD 0 0))) (first | exact k4 | exact k5 | exact k6 | exact k7)
          (first
            | (go_at_call 23; refine (HP5.out _ (Upd.refl [] w4).drew).mono ?_; rintro e w5 ⟨v5, rfl, ho5, hu5⟩
               obtain ⟨A5, cap5, hv5, hI5, _⟩ := ho5.form
               rw [HTL.out] at hv5
               subst hv5
               have HI5 := Lib.hid hI5
               have HU5 : Hid (Upd [] w4 w5) := Lib.hid ((Upd.refl [] w4).drew.trans hu5)
               have HI6 := Lib.hid (Reads.upd (k := .i64) HI4.out HU5.out (by simp))
               have k5 : w5.cell? ⟨b0, off0, none⟩ = some (.int .i64 (l.getD 0 0)) := (HU5.out.cell (p := ⟨b0, off0, none⟩) HB4.out (by simp)).trans HK4.out
               clear ho5 hI5 hu5)
            | (go_at_call 19; refine (same_calls A5 (some ⟨b0, off0, none⟩) K K cap5 _ (l.take K) (l.take K) w5 HTL.out HTL.out HI5.out HI6.out (by omega) (by omega)).mono ?_; rintro e w6 ⟨he6, q6, rfl⟩
               rw [decide_eq_true rfl] at he6
               subst he6
               have k6 : (w5.drewN q6).cell? ⟨b0, off0, none⟩ = some (.int .i64 (l.getD 0 0)) := k5)
            | (go_at_call 20; refine (HP6.out _ (HU5.out.drewN q6)).mono ?_; rintro e w7 ⟨v7, rfl, ho7, hu7⟩
               obtain ⟨A7, cap7, hv7, _⟩ := ho7.form
               have hv8 : v7 = .slice A7 0 cap7 := hv7
               subst hv8
               have HU7 : Hid (Upd [] w4 w7) := Lib.hid ((HU5.out.drewN q6).trans hu7)
               have k7 : w7.cell? ⟨b0, off0, none⟩ = some (.int .i64 (l.getD 0 0)) := (HU7.out.cell (p := ⟨b0, off0, none⟩) HB4.out (by simp)).trans HK4.out
               clear ho7 hu7 hv7))
        all_goals
          have HR7 := Lib.hid (HR4.out.upd0 HU7.out)
          have HO7 := Lib.hid (HO4.out.upd0 HU7.out)
          have HE7 := Lib.hid (HE4.out.upd0 HU7.out)
          have HS7 := Lib.hid HU7.out.size
          clear HR4 HO4 HE4 HP5 HP6 HI4 HI5 HI6 HU5 HU7 k4 k5 k6 k7 HK4 HB4 hb4
          have HXJ : Hid ((l.take K).getD J 0 = l.getD J 0) := Lib.hid (by rw [List.getD_eq_getElem?_getD, List.getD_eq_getElem?_getD, List.getElem?_take_of_lt hJK])
          have HPL : Hid (((l.take K).eraseIdx J).length = K - 1) := Lib.hid (by rw [List.length_eraseIdx_of_lt (by rw [HTL.out]; exact hJK), HTL.out])
          go_wp2_with fail
          simp only [HJ.out]
          refine (ftake_yes f h 40 J J _ HR7.out rfl (by rw [HTL.out]; exact hJK) (by rw [HTL.out]; omega)).mono ?_
          rintro e w8 ⟨rfl, O8, hr, hs⟩
          rw [HXJ.out]
          obtain ⟨xj, hxj⟩ : ∃ xj, l.getD J 0 = xj := ⟨_, rfl⟩
          rw [hxj]
          have HXE := Lib.hid hxj
          obtain ⟨L1, hL1⟩ : ∃ L1, L1 = K - 1 := ⟨_, rfl⟩
          have hL1' : (K : Int) - 1 = L1 := by omega
          have HP0 : Hid (((l.take K).eraseIdx J).length = L1) := Lib.hid (by rw [HPL.out, hL1])
          have HL1 := Lib.hid hL1'
          have hL9 : L1 ≤ 8 := by omega
          have HR8 := Lib.hid hr
          have HO8 := Lib.hid (HO7.out.step hs)
          have HE8 := Lib.hid (HE7.out.step hs)
          have HZ8 : Hid (w1.heap.size ≤ w8.heap.size) := Lib.hid (by
            exact Nat.le_trans (Nat.le_trans HZ4.out HS7.out) hs.size)
          clear hr hs HR7 HO7 HE7 hxj hL1 hL1'
          go_wp2_with fail
          go_loopg [15, 16] K (fun gk v i wr => ∃ k : Nat, gk = K - k ∧ k ≤ K ∧ i = .int .i64 k ∧ Hid (FinO wr f h 40 l F [] ((l.take K).eraseIdx J) O8) ∧ Hid (OwnA wr w.heap.size (.slice (some ⟨b0, off0, none⟩) 9 cap0) l O8) ∧ Hid (OwnA wr w1.heap.size v ((l.take k).eraseIdx J) O8) ∧ Hid (Env w wr O8) ∧ Hid (w1.heap.size ≤ wr.heap.size))
          case atStart => exact ⟨0, rfl, by omega, rfl, HR8, HO8, Lib.hid (by simpa using OwnA.nil _ _ _), HE8, HZ8⟩
          case round =>
            clear HR8 HO8 HE8 HZ8
            obtain ⟨k, rfl, hk, rfl, HR, HO, HP, HE, HZ⟩ := hrel
            by_cases hlt : k < K
            · by_cases hkj : k = J
              · subst hkj
                have HN : Hid ((l.take k).eraseIdx k = (l.take (k + 1)).eraseIdx k) := Lib.hid (wants_at (by rw [HLL.out]; omega))
                go_wp2_with fail
                go_roundg (K - (k + 1))
                case measure => omega
                case rel => exact ⟨k + 1, rfl, by omega, by go_num, HR, HO, Lib.hid (by rw [← HN.out]; exact HP.out), HE, HZ⟩
              · have hkj' : ¬ (k : Int) = J := by omega
                have HN : Hid ((l.take k).eraseIdx J ++ [l.getD k 0] = (l.take (k + 1)).eraseIdx J) := Lib.hid (wants_skip (by rw [HLL.out]; omega) hkj)
                have HLN : Hid (((l.take k).eraseIdx J).length ≤ 9) := Lib.hid (by have := List.length_eraseIdx_le (l.take k) J; rw [List.length_take] at this; omega)
                have hc0 := owna_cell HO.out HLL.out (by omega : k < 9)
                obtain ⟨a, ha⟩ : ∃ a, l.getD k 0 = a := ⟨_, rfl⟩
                rw [ha] at hc0 HN
                clear ha
                go_wp2_with (at_builtin; refine wpList_pushO rfl _ _ rfl w1.heap.size _ ((l.take k).eraseIdx J) O8 rfl (HP.out.upd0 ((Upd.refl [] wr).alloc _)) wr.heap.size a rfl (Blk.new _ _ _) (by have := HLN.out; omega) (by have := HZ.out; simp; omega) (fun k hk => by have := HR.out.owned hk; simp; omega) ?_)
                intro v' w9 E h1 h2 h3 h4
                have hE : ∀ i ∈ E, w1.heap.size ≤ i ∧ ¬ O8 i := fun i hi => ⟨(World.ownsRow.lt HP.out.own i (h2 i hi)).1, HP.out.far i (h2 i hi)⟩
                have HR9 := Lib.hid ((HR.out.upd0 ((Upd.refl [] wr).alloc _)).upd h3 fun i hi => (hE i hi).2)
                have HE9 := Lib.hid ((HE.out.upd0 ((Upd.refl [] wr).alloc _)).upd' h3 fun i hi => Nat.le_trans HSZ.out (hE i hi).1)
                have HO9 := Lib.hid ((HO.out.upd0 ((Upd.refl [] wr).alloc _)).updE h3 fun i hi e => by
                  simp only [Value.ownBlock, Option.some.injEq] at e
                  have := (hE i hi).1
                  omega)
                rw [HN.out] at h1
                have HP9 := Lib.hid h1
                have HZ9 : Hid (w1.heap.size ≤ w9.heap.size) := Lib.hid (by have := HZ.out; have := h3.size; simp at this; omega)
                clear h1 h2 h3 h4 hE hc0
                go_wp2_with fail
                go_roundg (K - (k + 1))
                case measure => omega
                case rel => exact ⟨k + 1, rfl, by omega, by go_num, HR9, HO9, HP9, HE9, HZ9⟩
            · obtain rfl : K = k := by omega
              obtain ⟨Aw, capw, hvw, hIw, _⟩ := HP.out.own.form
              rw [HP0.out] at hvw
              subst hvw
              have HIW := Lib.hid hIw
              clear hIw
              go_wp2_with fail
              simp only [HL1.out]
              refine (ftake_no f h 40 L1 _ HR.out (by rw [HP0.out]; omega) (by rw [HP0.out]; omega)).mono ?_
              rintro e w' ⟨rfl, rfl⟩
              go_wp2_with fail
              refine (ftake_no f h 40 (-1) _ HR.out (by omega) (by rw [HP0.out]; omega)).mono ?_
              rintro e w' ⟨rfl, rfl⟩
              have hcj : wr.cell? ⟨b0, off0 + J, none⟩ = some (.int .i64 xj) := by rw [← HXE.out]; exact owna_cell HO.out HLL.out (by omega : J < 9)
              go_wp2_with fail
              refine (err_calls 0 _ (by omega)).mono ?_
              rintro e w' ⟨rfl, rfl⟩
              go_wp2_with fail
              refine (err_calls 1 _ (by omega)).mono ?_
              rintro e w' ⟨rfl, rfl⟩
              go_wp2_with fail
              refine (err_calls 1 _ (by omega)).mono ?_
              rintro e w' ⟨rfl, rfl⟩
              go_wp2_with fail
              refine (pending_yes f h 40 _ HR.out (by rw [HP0.out]; omega)).mono ?_
              rintro e w9 ⟨v9, rfl, ho9, hu9⟩
              obtain ⟨A9, cap9, hv9, hI9, _⟩ := ho9.form
              rw [HP0.out] at hv9
              subst hv9
              have HI9 := Lib.hid hI9
              have HU9 := Lib.hid hu9
              have HIW9 := Lib.hid (Reads.upd (k := .i64) HIW.out hu9 (by simp))
              clear ho9 hI9 hu9 hcj
              go_wp2_with fail
              refine (same_calls A9 Aw L1 L1 cap9 _ ((l.take K).eraseIdx J) ((l.take K).eraseIdx J) w9 HP0.out HP0.out HI9.out HIW9.out (by omega) (by omega)).mono ?_
              rintro e w10 ⟨he6, q6, rfl⟩
              rw [decide_eq_true rfl] at he6
              subst he6
              go_wp2_with fail
              refine (awake15 _).mono ?_
              rintro e w11 ⟨rfl, hu⟩
              have HU11 := Lib.hid hu
              clear hu
              go_wp2_with fail
              go_ret
              exact ⟨rfl, (HE.out.upd.trans ((HU9.out.drewN q6).trans HU11.out)).below⟩
end Go.Proofs.Ytendjhobemlhoaa
