/- The walk of QueueOrder: at every list of numbers the law returns true, and nothing that was there has turned. -/
import Derived.Test.YtendjhobemlhoaaRows3
import Derived.Test.YtendjhobemlhoaaRefs
namespace Go.Proofs.Ytendjhobemlhoaa
open Go Go.RowKit

theorem not_taken' {l : List Int} (hn : l.Nodup) {j : Nat} (hj : j < l.length) : l.getD j 0 ∉ l.take j := fun hm => by
  obtain ⟨i, hi, e⟩ := List.mem_iff_getElem.1 hm
  rw [List.length_take] at hi
  rw [List.getElem_take] at e
  have := nodup_inj hn (i := i) (j := j) (by omega) hj (by rw [List.getD_eq_getElem?_getD, List.getElem?_eq_getElem (by omega : i < l.length)]; exact e)
  omega
theorem take_push' {l : List Int} {j : Nat} (hj : j < l.length) : l.take j ++ [l.getD j 0] = l.take (j + 1) := by
  rw [List.take_succ_eq_append_getElem hj, List.getD_eq_getElem?_getD, List.getElem?_eq_getElem hj]; rfl
theorem owna_cell' {w : World} {B : Nat} {b off n cap : Nat} {l : List Int} {O : Nat → Prop} (h : OwnA w B (.slice (some ⟨b, off, none⟩) n cap) l O) (hl : l.length = n) {i : Nat} (hi : i < n) : w.cell? ⟨b, off + i, none⟩ = some (.int .i64 (l.getD i 0)) := by
  obtain ⟨A', cap', hv', hI, _⟩ := h.own.form
  simp only [Value.slice.injEq] at hv'
  obtain ⟨b2, off2, hb2, _, hc⟩ := Reads.at (k := .i64) hI hl hi
  rw [← hv'.1] at hb2
  simp only [Option.some.injEq, Addr.mk.injEq, and_true] at hb2
  rw [hb2.1, hb2.2]
  exact hc
theorem rows3_new {w : World} {O : Nat → Prop} (hO : ∀ k, O k → k < w.heap.size) : Rows3 (w.alloc (.cells (Array.replicate 3 (.slice none 0 0)) 25)) w.heap.size w.heap.size [vnil, vnil, vnil] [[], [], []] O := by
  have e1 : ∀ i, ([vnil, vnil, vnil] : List Value).getD i vnil = vnil := fun i => by rcases i with _ | _ | _ | i <;> rfl
  have e2 : ∀ i, ([[], [], []] : List (List Int)).getD i [] = [] := fun i => by rcases i with _ | _ | _ | i <;> rfl
  exact ⟨Blk.new _ _ _, rfl, fun i _ => by rw [e1, e2]; exact Own.nil _ _, fun i _ k hk => (by rw [e1] at hk; cases hk), fun i j _ _ _ b hb => (by rw [e1] at hb; cases hb), fun hx => (by have := hO _ hx; omega), Nat.le_refl _⟩
theorem OwnA.updE' {w w' : World} {B : Nat} {v : Value} {xs : List Int} {O : Nat → Prop} {E : List Nat} (h : OwnA w B v xs O) (hu : Upd E w w') (hE : ∀ i ∈ E, v.ownBlock ≠ some i) : OwnA w' B v xs O :=
  ⟨h.own.moved fun g hg => hu.block g (World.ownsRow.lt h.own g hg).2 fun hm => hE g hm hg, h.far⟩
/-- The rows hold of the first so many alone. -/
def Holds12 (l : List Int) (R : List (List Int)) (i : Nat) : Prop := R.length = 3 ∧ ∀ j, ∀ a ∈ R.getD j [], a ∈ l.take i
theorem Holds12.put {l : List Int} {R : List (List Int)} {k K : Nat} (h : Holds12 l R k) (hk : k < l.length) (hK : K < R.length) : Holds12 l (R.set K (R.getD K [] ++ [l.getD k 0])) (k + 1) := by
  refine ⟨by rw [List.length_set]; exact h.1, fun j a ha => ?_⟩
  have hsub : ∀ a ∈ l.take k, a ∈ l.take (k + 1) := fun a ha => by rw [← take_push' hk]; exact List.mem_append_left _ ha
  rw [rows_set _ _ _ _ hK] at ha
  split at ha
  · rcases List.mem_append.1 ha with ha | ha
    · exact hsub _ (h.2 K a ha)
    · rw [List.mem_singleton.1 ha, ← take_push' hk]; simp
  · exact hsub _ (h.2 j a ha)
theorem left_head {R : List (List Int)} {j i : Nat} (hi : i < (R.getD j []).length) : (leftR R j i).getD j [] = (R.getD j []).getD i 0 :: (R.getD j []).drop (i + 1) := by
  rw [leftR_get, if_neg (by omega), if_pos rfl, List.drop_eq_getElem_cons hi, List.getD_eq_getElem?_getD (l := R.getD j []), List.getElem?_eq_getElem hi]
  rfl
set_option maxRecDepth 100000 in
set_option maxHeartbeats 12800000 in
theorem order12_walk (A : Option Addr) (cap : Nat) (xs : List Int) (w : World) (hR : Reads w .u8 A xs) (hxs : ∀ x ∈ xs, 0 ≤ x ∧ x ≤ 255) :
    Calls Try.prog 5 #[.slice A xs.length cap] w fun e w' => e = .returned (.bool true) ∧ Below w.heap.size w w' := by
  obtain ⟨N, hN⟩ : ∃ N, xs.length = N := ⟨_, rfl⟩
  rw [hN]
  have HN := Lib.hid hN
  have HRD := Lib.hid hR
  have HXS := Lib.hid hxs
  clear hN hR hxs
  have hmk := fun W => run_make_all (P := Try.prog) 46 25 (.slice none 0 0) 24 Try.underlying46 ints_info rfl (3 : Int) 3 rfl (by omega) (by omega) W
  go_enter Try.func5, Try.ntmps5
  go_wp2_with fail
  refine (heap12 20 _ (by omega)).mono ?_
  rintro e w1 ⟨h, v, l, F, O, rfl, hh, ho, he, hr⟩
  have HH := Lib.hid hh
  have HE := Lib.hid he
  have HRF := Lib.hid hr
  have HND := Lib.hid hh.nodup
  have HLL := Lib.hid hr.len
  obtain ⟨A0, cap0, hv, hI0, _⟩ := ho.own.form
  rw [HLL.out] at hv
  subst hv
  obtain ⟨b0, off0, rfl, hb0, _⟩ := Reads.at (k := .i64) hI0 HLL.out (by omega : 0 < 20)
  have HO := Lib.hid ho
  have HSZ := Lib.hid he.upd.size
  clear hh ho he hr hI0
  go_wp2_with fail
  refine (queue_new h 40 _ HH.out).mono ?_
  rintro e w2 ⟨q, O2, rfl, hq, hs⟩
  have HQ2 := Lib.hid hq
  have HE2 := Lib.hid (HE.out.step hs)
  have HO2 := Lib.hid (HO.out.step hs)
  have HZ2 := Lib.hid hs.size
  clear hq hs
  go_wp2_with fail
  go_loopg [6] 3 (fun gk i wr => ∃ (j : Nat) (O : Nat → Prop), gk = 3 - j ∧ j ≤ 3 ∧ i = .int .i64 j ∧ Hid (QueO wr q h 40 l F (List.replicate j []) O) ∧ Hid (OwnA wr w.heap.size (.slice (some ⟨b0, off0, none⟩) 20 cap0) l O) ∧ Hid (Env w wr O) ∧ Hid (w1.heap.size ≤ wr.heap.size))
  case atStart => exact ⟨0, O2, rfl, by omega, rfl, HQ2, HO2, HE2, HZ2⟩
  case round =>
    clear HH HO HE HQ2 HE2 HO2 HZ2
    obtain ⟨j, O, rfl, hj, rfl, HQ, HO, HE, HZ⟩ := hrel
    by_cases hlt : j < 3
    · have hq := qopen_yes q h 40 _ HQ.out (by rw [List.length_replicate]; omega)
      rw [List.length_replicate] at hq
      have HP := Lib.hid hq
      clear hq
      go_wp2_with fail
      refine (HP.out).mono ?_
      rintro e w3 ⟨rfl, O3, hq, hs⟩
      rw [← List.replicate_succ'] at hq
      have HQ3 := Lib.hid hq
      have HE3 := Lib.hid (HE.out.step hs)
      have HO3 := Lib.hid (HO.out.step hs)
      have HZ3 := Lib.hid (Nat.le_trans HZ.out hs.size)
      clear hq hs
      go_wp2_with fail
      refine (err_calls 0 _ (by omega)).mono ?_
      rintro e w' ⟨rfl, rfl⟩
      go_wp2_with fail
      go_roundg (3 - (j + 1))
      case measure => omega
      case rel => exact ⟨j + 1, O3, rfl, by omega, by go_num, HQ3, HO3, HE3, HZ3⟩
    · obtain rfl : j = 3 := by omega
      have HQ3 : Hid (QueO wr q h 40 l F [[], [], []] O) := HQ
      clear HQ
      obtain ⟨G, hG⟩ : ∃ G, wr.heap.size = G := ⟨_, rfl⟩
      go_wp2_with fail
      have HU4 : Hid (Upd [] wr (wr.alloc (.cells (Array.replicate 3 (.slice none 0 0)) 25))) := Lib.hid ((Upd.refl [] wr).alloc _)
      have hr4 := rows3_new (O := O) fun k hk => HQ3.out.owned hk
      rw [hG] at hr4
      have HW4 := Lib.hid hr4
      have HQ4 := Lib.hid (HQ3.out.upd0 HU4.out)
      have HE4 := Lib.hid (HE.out.upd0 HU4.out)
      have HO4 := Lib.hid (HO.out.upd0 HU4.out)
      have HGZ : Hid (w1.heap.size ≤ G ∧ w.heap.size ≤ G) := Lib.hid (by have := HZ.out; have := HSZ.out; omega)
      have HZ4 : Hid (G ≤ (wr.alloc (.cells (Array.replicate 3 (.slice none 0 0)) 25)).heap.size) := Lib.hid (by rw [← hG]; exact HU4.out.size)
      have HH4 : Hid (Holds12 l [[], [], []] 0) := Lib.hid ⟨rfl, fun j a ha => by rcases j with _ | _ | _ | j <;> simp at ha⟩
      clear hr4 hG hmk
      go_loopg [10] 20 (fun gk i wr => ∃ (k : Nat) (F : Int → Ob) (O : Nat → Prop) (R : List (List Int)) (vs : List Value), gk = 20 - k ∧ k ≤ 20 ∧ i = .int .i64 k ∧ Hid (QueO wr q h 40 l F R O) ∧ Hid (OwnA wr w.heap.size (.slice (some ⟨b0, off0, none⟩) 20 cap0) l O) ∧ Hid (Env w wr O) ∧ Hid (Rows3 wr G G vs R O) ∧ Hid (Refs12 l F 20) ∧ Hid (Holds12 l R k) ∧ Hid (G ≤ wr.heap.size))
      case atStart => exact ⟨0, F, O, _, _, rfl, by omega, rfl, HQ4, HO4, HE4, HW4, HRF, HH4, HZ4⟩
      case round =>
        clear HQ3 HO HE HZ HU4 HW4 HQ4 HE4 HO4 HZ4 HH4 HRF
        obtain ⟨k, F, O, R, vs, rfl, hk, rfl, HQ, HO, HE, HW, HRF, HH, HZ⟩ := hrel
        by_cases hltN : k < N
        · by_cases hlt20 : k < 20
          · obtain ⟨b, off, rfl, hb, hcell⟩ := (HRD.out.upd HE.out.upd (by simp)).at HN.out hltN
            have hy := HXS.out _ (getD_mem (by rw [HN.out]; exact hltN))
            obtain ⟨y, hyy⟩ : ∃ y : Nat, xs.getD k 0 = y := ⟨(xs.getD k 0).toNat, by omega⟩
            rw [hyy] at hcell hy
            clear hyy
            have hy255 : y ≤ 255 := by omega
            clear hy
            obtain ⟨K, hK⟩ : ∃ K : Nat, (y : Int) % 3 = K := ⟨y % 3, by omega⟩
            have hK3 : K < 3 := by omega
            have HKR : Hid (K < R.length) := Lib.hid (by rw [HH.out.1]; exact hK3)
            have hc0 := owna_cell' HO.out HLL.out hlt20
            have hnt := not_taken' HND.out (j := k) (by rw [HLL.out]; exact hlt20)
            have hxm : l.getD k 0 ∈ l := getD_mem (by rw [HLL.out]; exact hlt20)
            have HX := Lib.hid (And.intro hxm (And.intro (HRF.out.ref _ hxm) (fun i hi => hnt (HH.out.2 i _ hi))))
            have HH2 := Lib.hid (HH.out.put (K := K) (by rw [HLL.out]; exact hlt20) HKR.out)
            obtain ⟨x, hx⟩ : ∃ x, l.getD k 0 = x := ⟨_, rfl⟩
            rw [hx] at HX hc0 HH2
            have HXE := Lib.hid hx
            clear hxm hnt hx
            go_wp2_with fail
            refine (push_yes q h 40 K x K _ HQ.out rfl HKR.out HX.out.1 HX.out.2.1 HX.out.2.2).mono ?_
            rintro e w4 ⟨rfl, O4, hq, hs⟩
            have HQ4 := Lib.hid hq
            have HE4 := Lib.hid (HE.out.step hs)
            have HO4 := Lib.hid (HO.out.step hs)
            have HW4 := Lib.hid (HW.out.step hs)
            have HZ4 := Lib.hid (Nat.le_trans HZ.out hs.size)
            have HRF4 := Lib.hid (HRF.out.push (R.getD K []) x)
            clear hq hs hcell hc0 HQ HO HE HW HZ HRF HH
            go_wp2_with fail
            refine (err_calls 0 _ (by omega)).mono ?_
            rintro e w' ⟨rfl, rfl⟩
            obtain ⟨v, hv⟩ : ∃ v, vs.getD K vnil = v := ⟨_, rfl⟩
            have hc1 := (HW4.out.cell HKR.out).1
            rw [hv] at hc1
            have hc2 : w4.cell? ⟨b0, off0 + k, none⟩ = some (.int .i64 x) := by rw [← HXE.out]; exact owna_cell' HO4.out HLL.out hlt20
            have HVE := Lib.hid hv
            have huW : Upd [] w4 (w4.alloc (.cells #[.int .i64 x] 3)).drew := ((Upd.refl [] w4).alloc _).drew
            have HUW := Lib.hid huW
            have how := ((HW4.out.own K HKR.out).upd huW (by simp))
            rw [hv] at how
            have HOW := Lib.hid how
            have HBW : Hid (Blk (w4.alloc (.cells #[.int .i64 x] 3)).drew w4.heap.size 3 #[.int .i64 x]) := Lib.hid (Blk.new w4 _ _)
            have HRL : Hid ((R.getD K []).length ≤ 20) := Lib.hid (by
              have h1 := nodup_sub (R.getD K []) l (by
                have := HQ4.out.links.nodup K
                rw [rows_set _ _ _ _ HKR.out, if_pos rfl] at this
                exact (List.nodup_append.1 this).1) (fun a ha => (HQ4.out.links.ref K a (by rw [rows_set _ _ _ _ HKR.out, if_pos rfl]; exact List.mem_append_left _ ha)).1)
              rw [HLL.out] at h1
              exact h1)
            have hGw : G < w4.heap.size := HW4.out.blk.lt
            have hbz : b0 < w4.heap.size := by have := HGZ.out; omega
            have hKi : (K : Int) < 3 := by omega
            have hki : (k : Int) < 20 := by omega
            clear hv huW how
            go_upto_region 18 with fail
            go_region_law
              ((refine step_push1 rfl (.tmp 80) (.tmp 85) rfl G v (R.getD K []) rfl HOW.out w4.heap.size x rfl HBW.out (by have := HRL.out; omega) (by simp; omega) ?_
                intro v' w5 ho5 hu5 hv5
                have E1 : ∀ i ∈ v.ownBlock.toList, ¬ O4 i ∧ G ≤ i ∧ i ≠ G := fun i hi => by
                  have hi' : (vs.getD K vnil).ownBlock = some i := by rw [HVE.out]; simpa using hi
                  exact ⟨(HW4.out.far K HKR.out i hi').1, (World.ownsRow.lt (HW4.out.own K HKR.out) i hi').1, (HW4.out.far K HKR.out i hi').2⟩
                have hu6 : Upd [G] w5 (w5.setCell ⟨G, K, none⟩ v') := (Upd.refl [G] w5).setCell (.inl (by simp)) _
                have HQ5 := Lib.hid (((HQ4.out.upd0 HUW.out).upd hu5 fun i hi => (E1 i hi).1).upd hu6 fun i hi => by rw [List.mem_singleton.1 hi]; exact HW4.out.far0)
                have HE5 := Lib.hid (((HE4.out.upd0 HUW.out).upd' hu5 fun i hi => Nat.le_trans HGZ.out.2 (E1 i hi).2.1).upd' hu6 fun i hi => by rw [List.mem_singleton.1 hi]; exact HGZ.out.2)
                have hne0 : ∀ i, G ≤ i → (Value.slice (some ⟨b0, off0, none⟩) 20 cap0).ownBlock ≠ some i := fun i hi e => by
                  simp only [Value.ownBlock, Option.some.injEq] at e
                  have := HGZ.out
                  omega
                have HO5 := Lib.hid (((HO4.out.upd0 HUW.out).updE' hu5 fun i hi => hne0 i (E1 i hi).2.1).updE' hu6 fun i hi => by rw [List.mem_singleton.1 hi]; exact hne0 G (Nat.le_refl _))
                have hput := (HW4.out.upd0 HUW.out).put HKR.out ho5 (by rw [HVE.out]; exact hu5) (by rw [HVE.out]; exact hv5) (fun b hb => (HQ4.out.upd0 HUW.out).owned hb)
                rw [HVE.out] at hput
                have HW5 := Lib.hid hput.1
                have e1 := hput.2.1
                have e2 := hput.2.2.1
                have HZ5 : Hid (G ≤ (w5.setCell ⟨G, K, none⟩ v').heap.size) := Lib.hid (by
                  have h1 := hu5.size
                  have h2 := hu6.size
                  have h3 := HUW.out.size
                  have h4 := HZ4.out
                  omega)
                obtain ⟨A', n', cap', rfl⟩ : ∃ A n cap, v' = .slice A n cap := by
                  obtain ⟨A', cap', e⟩ := ho5.slice'
                  exact ⟨A', _, cap', e⟩
                clear ho5 hu5 hv5 E1 hu6 hne0 hput))
            all_goals
              clear hc1 hc2
              go_wp2_with fail
              clear e1 e2
              go_roundg (20 - (k + 1))
              case measure => omega
              case rel => exact ⟨k + 1, _, O4, _, _, rfl, by omega, by go_num, HQ5, HO5, HE5, HW5, HRF4, HH2, HZ5⟩
          · have h20' : ¬ (k : Int) < 20 := by omega
            go_wp2_with fail
            obtain ⟨wo, rfl⟩ : ∃ wo : World, wo = wr := ⟨_, rfl⟩
            go_loopg [12] 3 (fun gk i wr => ∃ (j : Nat) (F : Int → Ob) (O : Nat → Prop), gk = 3 - j ∧ j ≤ 3 ∧ i = .int .i64 j ∧ Hid (QueO wr q h 40 l F (leftR R j 0) O) ∧ Hid (Env w wr O) ∧ Hid (Rows3 wr G G vs R O) ∧ Hid (Refs12 l F 20))
            case atStart => exact ⟨0, F, O, rfl, by omega, rfl, Lib.hid (by rw [leftR_start]; exact HQ.out), HE, HW, HRF⟩
            case round =>
              clear HQ HE HW HRF HO HZ
              obtain ⟨j, F, O, rfl, hj, rfl, HQ, HE, HW, HRF⟩ := hrel
              by_cases hj3 : j < 3
              · have HJR : Hid (j < R.length) := Lib.hid (by rw [HH.out.1]; exact hj3)
                obtain ⟨A1, cap1, hv1⟩ := (HW.out.own j HJR.out).slice'
                obtain ⟨M, hM⟩ : ∃ M, (R.getD j []).length = M := ⟨_, rfl⟩
                rw [hM] at hv1
                have hM20 : M ≤ 20 := by
                  have h0 : (leftR R j 0).getD j [] = R.getD j [] := by rw [leftR_get, if_neg (by omega), if_pos rfl, List.drop_zero]
                  have h1 := nodup_sub (R.getD j []) l (by have := HQ.out.links.nodup j; rwa [h0] at this) (fun a ha => (HQ.out.links.ref j a (by rw [h0]; exact ha)).1)
                  rw [hM, HLL.out] at h1
                  exact h1
                have hj3i : (j : Int) < 3 := by omega
                have HM := Lib.hid hM
                have HV1 := Lib.hid hv1
                have hc1 := (HW.out.cell HJR.out).1
                rw [hv1] at hc1
                clear hM hv1
                go_wp2_with fail
                obtain ⟨wo, rfl⟩ : ∃ wo : World, wo = wr := ⟨_, rfl⟩
                clear hc1
                go_loopg [13] M (fun gk i wr => ∃ (m : Nat) (F : Int → Ob) (O : Nat → Prop), gk = M - m ∧ m ≤ M ∧ i = .int .i64 m ∧ Hid (QueO wr q h 40 l F (leftR R j m) O) ∧ Hid (Env w wr O) ∧ Hid (Rows3 wr G G vs R O) ∧ Hid (Refs12 l F 20))
                case atStart => exact ⟨0, F, O, rfl, by omega, rfl, HQ, HE, HW, HRF⟩
                case round =>
                  clear HQ HE HW HRF
                  obtain ⟨m, F, O, rfl, hm, rfl, HQ, HE, HW, HRF⟩ := hrel
                  have hc1 := (HW.out.cell HJR.out).1
                  rw [HV1.out] at hc1
                  by_cases hlt : m < M
                  · have HHD := Lib.hid (left_head (R := R) (j := j) (i := m) (by rw [HM.out]; exact hlt))
                    obtain ⟨a, ha⟩ : ∃ a, (R.getD j []).getD m 0 = a := ⟨_, rfl⟩
                    rw [ha] at HHD
                    have HAA := Lib.hid ha
                    have har := HQ.out.links.ref j a (by rw [HHD.out]; simp)
                    have HAR := Lib.hid har
                    clear ha har
                    go_wp2_with fail
                    refine (poll_yes q h 40 j a ((R.getD j []).drop (m + 1)) j _ HQ.out rfl (by rw [leftR_len]; exact HJR.out) HHD.out).mono ?_
                    rintro e w5 ⟨rfl, O5, hq, hs⟩
                    rw [leftR_poll _ _ _ HJR.out] at hq
                    obtain ⟨Oh, hh5, _⟩ := hq.heap
                    have HHP := Lib.hid hh5
                    have HQ5 := Lib.hid hq
                    have HE5 := Lib.hid (HE.out.step hs)
                    have HW5 := Lib.hid (HW.out.step hs)
                    have HRF5 := Lib.hid (HRF.out.next a 0)
                    have HF0 : Hid ((nextF F a 0 a).ws.getD 2 0 = 0 ∧ 2 < (nextF F a 0 a).ws.length) := Lib.hid (by
                      have h5 := HAR.out.2.2.2
                      rw [nextF_get, nextF_len, if_pos ⟨rfl, rfl, by omega⟩]
                      exact ⟨rfl, by omega⟩)
                    clear hq hs hh5 hc1
                    go_wp2_with fail
                    refine (get_yes h 40 a 2 2 0 _ HHP.out HAR.out.1 rfl HF0.out.2 HF0.out.1).mono ?_
                    rintro e w6 ⟨rfl, hu⟩
                    have HQ6 := Lib.hid (HQ5.out.upd0 hu)
                    have HE6 := Lib.hid (HE5.out.upd0 hu)
                    have HW6 := Lib.hid (HW5.out.upd0 hu)
                    clear hu
                    have hc1 := (HW6.out.cell HJR.out).1
                    rw [HV1.out] at hc1
                    obtain ⟨A3, cap3, hv3, hI3, _⟩ := (HW6.out.own j HJR.out).form
                    rw [HV1.out] at hv3
                    simp only [Value.slice.injEq] at hv3
                    rw [← hv3.1] at hI3
                    obtain ⟨b1, off1, hbb, hb1, hc2⟩ := Reads.at (k := .i64) hI3 HM.out hlt
                    rw [hbb] at hc1
                    rw [HAA.out] at hc2
                    clear hI3 hv3 hbb
                    go_wp2_with fail
                    refine (err_calls 0 _ (by omega)).mono ?_
                    rintro e w' ⟨rfl, rfl⟩
                    go_wp2_with fail
                    refine (err_calls 0 _ (by omega)).mono ?_
                    rintro e w' ⟨rfl, rfl⟩
                    go_wp2_with fail
                    clear hc1 hc2
                    go_roundg (M - (m + 1))
                    case measure => omega
                    case rel => exact ⟨m + 1, _, O5, rfl, by omega, by go_num, HQ6, HE6, HW6, HRF5⟩
                  · obtain rfl : M = m := by omega
                    have hq := HQ.out
                    rw [← HM.out, leftR_next] at hq
                    have HQ7 := Lib.hid hq
                    clear hq
                    go_wp2_with fail
                    refine (poll_empty q h 40 j j _ HQ7.out rfl (by rw [leftR_len]; exact HJR.out) (by rw [leftR_get, if_pos (by omega)])).mono ?_
                    rintro e w' ⟨rfl, rfl⟩
                    go_wp2_with fail
                    refine (err_calls 0 _ (by omega)).mono ?_
                    rintro e w' ⟨rfl, rfl⟩
                    go_wp2_with fail
                    clear hc1
                    go_roundg (3 - (j + 1))
                    case measure => omega
                    case rel => exact ⟨j + 1, F, O, rfl, by omega, by go_num, HQ7, HE, HW, HRF⟩
              · obtain rfl : j = 3 := by omega
                go_wp2_with fail
                refine (awake12 _).mono ?_
                rintro e w9 ⟨rfl, hu⟩
                have HU9 := Lib.hid hu
                clear hu
                go_wp2_with fail
                go_ret
                exact ⟨rfl, (HE.out.upd.trans HU9.out).below⟩
        · have hNk : ¬ (k : Int) < N := by omega
          go_wp2_with fail
          obtain ⟨wo, rfl⟩ : ∃ wo : World, wo = wr := ⟨_, rfl⟩
          go_loopg [12] 3 (fun gk i wr => ∃ (j : Nat) (F : Int → Ob) (O : Nat → Prop), gk = 3 - j ∧ j ≤ 3 ∧ i = .int .i64 j ∧ Hid (QueO wr q h 40 l F (leftR R j 0) O) ∧ Hid (Env w wr O) ∧ Hid (Rows3 wr G G vs R O) ∧ Hid (Refs12 l F 20))
          case atStart => exact ⟨0, F, O, rfl, by omega, rfl, Lib.hid (by rw [leftR_start]; exact HQ.out), HE, HW, HRF⟩
          case round =>
            clear HQ HE HW HRF HO HZ
            obtain ⟨j, F, O, rfl, hj, rfl, HQ, HE, HW, HRF⟩ := hrel
            by_cases hj3 : j < 3
            · have HJR : Hid (j < R.length) := Lib.hid (by rw [HH.out.1]; exact hj3)
              obtain ⟨A1, cap1, hv1⟩ := (HW.out.own j HJR.out).slice'
              obtain ⟨M, hM⟩ : ∃ M, (R.getD j []).length = M := ⟨_, rfl⟩
              rw [hM] at hv1
              have hM20 : M ≤ 20 := by
                have h0 : (leftR R j 0).getD j [] = R.getD j [] := by rw [leftR_get, if_neg (by omega), if_pos rfl, List.drop_zero]
                have h1 := nodup_sub (R.getD j []) l (by have := HQ.out.links.nodup j; rwa [h0] at this) (fun a ha => (HQ.out.links.ref j a (by rw [h0]; exact ha)).1)
                rw [hM, HLL.out] at h1
                exact h1
              have hj3i : (j : Int) < 3 := by omega
              have HM := Lib.hid hM
              have HV1 := Lib.hid hv1
              have hc1 := (HW.out.cell HJR.out).1
              rw [hv1] at hc1
              clear hM hv1
              go_wp2_with fail
              obtain ⟨wo, rfl⟩ : ∃ wo : World, wo = wr := ⟨_, rfl⟩
              clear hc1
              go_loopg [13] M (fun gk i wr => ∃ (m : Nat) (F : Int → Ob) (O : Nat → Prop), gk = M - m ∧ m ≤ M ∧ i = .int .i64 m ∧ Hid (QueO wr q h 40 l F (leftR R j m) O) ∧ Hid (Env w wr O) ∧ Hid (Rows3 wr G G vs R O) ∧ Hid (Refs12 l F 20))
              case atStart => exact ⟨0, F, O, rfl, by omega, rfl, HQ, HE, HW, HRF⟩
              case round =>
                clear HQ HE HW HRF
                obtain ⟨m, F, O, rfl, hm, rfl, HQ, HE, HW, HRF⟩ := hrel
                have hc1 := (HW.out.cell HJR.out).1
                rw [HV1.out] at hc1
                by_cases hlt : m < M
                · have HHD := Lib.hid (left_head (R := R) (j := j) (i := m) (by rw [HM.out]; exact hlt))
                  obtain ⟨a, ha⟩ : ∃ a, (R.getD j []).getD m 0 = a := ⟨_, rfl⟩
                  rw [ha] at HHD
                  have HAA := Lib.hid ha
                  have har := HQ.out.links.ref j a (by rw [HHD.out]; simp)
                  have HAR := Lib.hid har
                  clear ha har
                  go_wp2_with fail
                  refine (poll_yes q h 40 j a ((R.getD j []).drop (m + 1)) j _ HQ.out rfl (by rw [leftR_len]; exact HJR.out) HHD.out).mono ?_
                  rintro e w5 ⟨rfl, O5, hq, hs⟩
                  rw [leftR_poll _ _ _ HJR.out] at hq
                  obtain ⟨Oh, hh5, _⟩ := hq.heap
                  have HHP := Lib.hid hh5
                  have HQ5 := Lib.hid hq
                  have HE5 := Lib.hid (HE.out.step hs)
                  have HW5 := Lib.hid (HW.out.step hs)
                  have HRF5 := Lib.hid (HRF.out.next a 0)
                  have HF0 : Hid ((nextF F a 0 a).ws.getD 2 0 = 0 ∧ 2 < (nextF F a 0 a).ws.length) := Lib.hid (by
                    have h5 := HAR.out.2.2.2
                    rw [nextF_get, nextF_len, if_pos ⟨rfl, rfl, by omega⟩]
                    exact ⟨rfl, by omega⟩)
                  clear hq hs hh5 hc1
                  go_wp2_with fail
                  refine (get_yes h 40 a 2 2 0 _ HHP.out HAR.out.1 rfl HF0.out.2 HF0.out.1).mono ?_
                  rintro e w6 ⟨rfl, hu⟩
                  have HQ6 := Lib.hid (HQ5.out.upd0 hu)
                  have HE6 := Lib.hid (HE5.out.upd0 hu)
                  have HW6 := Lib.hid (HW5.out.upd0 hu)
                  clear hu
                  have hc1 := (HW6.out.cell HJR.out).1
                  rw [HV1.out] at hc1
                  obtain ⟨A3, cap3, hv3, hI3, _⟩ := (HW6.out.own j HJR.out).form
                  rw [HV1.out] at hv3
                  simp only [Value.slice.injEq] at hv3
                  rw [← hv3.1] at hI3
                  obtain ⟨b1, off1, hbb, hb1, hc2⟩ := Reads.at (k := .i64) hI3 HM.out hlt
                  rw [hbb] at hc1
                  rw [HAA.out] at hc2
                  clear hI3 hv3 hbb
                  go_wp2_with fail
                  refine (err_calls 0 _ (by omega)).mono ?_
                  rintro e w' ⟨rfl, rfl⟩
                  go_wp2_with fail
                  refine (err_calls 0 _ (by omega)).mono ?_
                  rintro e w' ⟨rfl, rfl⟩
                  go_wp2_with fail
                  clear hc1 hc2
                  go_roundg (M - (m + 1))
                  case measure => omega
                  case rel => exact ⟨m + 1, _, O5, rfl, by omega, by go_num, HQ6, HE6, HW6, HRF5⟩
                · obtain rfl : M = m := by omega
                  have hq := HQ.out
                  rw [← HM.out, leftR_next] at hq
                  have HQ7 := Lib.hid hq
                  clear hq
                  go_wp2_with fail
                  refine (poll_empty q h 40 j j _ HQ7.out rfl (by rw [leftR_len]; exact HJR.out) (by rw [leftR_get, if_pos (by omega)])).mono ?_
                  rintro e w' ⟨rfl, rfl⟩
                  go_wp2_with fail
                  refine (err_calls 0 _ (by omega)).mono ?_
                  rintro e w' ⟨rfl, rfl⟩
                  go_wp2_with fail
                  clear hc1
                  go_roundg (3 - (j + 1))
                  case measure => omega
                  case rel => exact ⟨j + 1, F, O, rfl, by omega, by go_num, HQ7, HE, HW, HRF⟩
            · obtain rfl : j = 3 := by omega
              go_wp2_with fail
              refine (awake12 _).mono ?_
              rintro e w9 ⟨rfl, hu⟩
              have HU9 := Lib.hid hu
              clear hu
              go_wp2_with fail
              go_ret
              exact ⟨rfl, (HE.out.upd.trans HU9.out).below⟩
end Go.Proofs.Ytendjhobemlhoaa
