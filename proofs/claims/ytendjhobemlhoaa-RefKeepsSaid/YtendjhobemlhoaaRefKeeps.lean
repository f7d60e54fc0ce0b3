/- The walk of RefKeeps: at every input the law returns true, and nothing that was there has turned. -/
import Derived.Test.YtendjhobemlhoaaRLaw
namespace Go.Proofs.Ytendjhobemlhoaa
open Go Go.RowKit

theorem OwnA.updE {w w' : World} {B : Nat} {v : Value} {xs : List Int} {O : Nat → Prop} {E : List Nat} (h : OwnA w B v xs O) (hu : Upd E w w') (hE : ∀ i ∈ E, v.ownBlock ≠ some i) : OwnA w' B v xs O :=
  ⟨h.own.moved fun g hg => hu.block g (World.ownsRow.lt h.own g hg).2 fun hm => hE g hm hg, h.far⟩
/-- References that are no phantoms; the i-th one's referent is g i. -/
structure Keeps (F : Int → Ob) (M : List Int) (g : Nat → Int) : Prop where
  ref : ∀ i, i < M.length → (F (M.getD i 0)).k = 4 ∧ 1 ≤ (F (M.getD i 0)).c ∧ (F (M.getD i 0)).c ≤ 2 ∧ (F (M.getD i 0)).ws.getD 0 0 = g i
theorem Keeps.put {F : Int → Ob} {M : List Int} {g : Nat → Int} (h : Keeps F M g) {a x c : Int} (ha : a ∉ M) (n : Nat) (hc : 1 ≤ c ∧ c ≤ 2) (hx : x = g M.length) (m : Int) : Keeps (fset F a ⟨4, c, false, valsR x m 0 n⟩) (M ++ [a]) g := by
  refine ⟨fun i hi => ?_⟩
  rw [List.length_append] at hi
  simp only [List.length_cons, List.length_nil] at hi
  rw [getD_snoc]
  by_cases e : i < M.length
  · have hne : M.getD i 0 ≠ a := fun e2 => ha (by rw [← e2]; exact getD_mem e)
    rw [if_pos e, fset_ne _ hne]
    exact h.ref i e
  · obtain rfl : i = M.length := by omega
    rw [if_neg e, if_pos rfl, fset_same]
    exact ⟨rfl, hc.1, hc.2, hx⟩
theorem Keeps.ask {F : Int → Ob} {M : List Int} {g : Nat → Int} (h : Keeps F M g) (a t : Int) : Keeps (refF F a t) M g := by
  unfold refF
  split
  · refine ⟨fun i hi => ?_⟩
    rw [putF_k, putF_c, putF_get, if_neg (by omega)]
    exact h.ref i hi
  · exact h
theorem Keeps.clear {F : Int → Ob} {M : List Int} {g : Nat → Int} (h : Keeps F M g) (hn : M.Nodup) {j : Nat} (hj : j < M.length) : Keeps (clearF F [M.getD j 0]) M (fun i => if i = j then 0 else g i) := by
  refine ⟨fun i hi => ?_⟩
  rw [clearF_k, clearF_c, clearF_get]
  obtain ⟨h1, h2, h3, h4⟩ := h.ref i hi
  refine ⟨h1, h2, h3, ?_⟩
  by_cases e : i = j
  · rw [if_pos ⟨rfl, by rw [e]; simp⟩, if_pos e]
  · rw [if_neg (fun c => e (nodup_inj hn hi hj (List.mem_singleton.1 c.2))), if_neg e]
    exact h4
theorem Keeps.tells {F : Int → Ob} {M : List Int} {g : Nat → Int} (h : Keeps F M g) {i : Nat} (hi : i < M.length) : refX (F (M.getD i 0)) = g i := by
  obtain ⟨h1, h2, h3, h4⟩ := h.ref i hi
  unfold refX
  rw [if_neg (by omega)]
  exact h4

set_option maxRecDepth 100000 in
set_option maxHeartbeats 12800000 in
theorem keeps13_walk (A : Option Addr) (cap : Nat) (xs : List Int) (j t : Nat) (w : World) (hR : Reads w .u8 A xs) (hxs : ∀ x ∈ xs, 0 ≤ x ∧ x ≤ 255) (hj : j ≤ 255) (ht : t ≤ 255) :
    Calls Try.prog 13 #[.slice A xs.length cap, .int .u8 j, .int .u8 t] w fun e w' => e = .returned (.bool true) ∧ Below w.heap.size w w' := by
  obtain ⟨N, hN⟩ : ∃ N, xs.length = N := ⟨_, rfl⟩
  rw [hN]
  have HN := Lib.hid hN
  have HRD := Lib.hid hR
  have HXS := Lib.hid hxs
  clear hN hR hxs
  obtain ⟨K, hK⟩ : ∃ K : Nat, min N 9 = K := ⟨_, rfl⟩
  have hKN : K ≤ N := by omega
  have hK9 : K ≤ 9 := by omega
  have hKI : min (N : Int) 9 = K := by omega
  clear hK
  go_enter Try.func13, Try.ntmps13
  go_wp2_with fail
  refine (made13 3 1 _ (by omega) (by omega)).mono ?_
  rintro e w1 ⟨h, r, q, v, l, F, O, rfl, hr, ho, he, hl3⟩
  have HLL := Lib.hid hl3.len
  have HR : Hid (RefO w1 r q h 40 (l ++ []) F [[]] 0 O) := Lib.hid (by rw [List.append_nil]; exact hr)
  have HE := Lib.hid he
  have HSZ := Lib.hid he.upd.size
  obtain ⟨A0, cap0, hv, hI0, _⟩ := ho.own.form
  rw [HLL.out] at hv
  subst hv
  obtain ⟨b0, off0, rfl, hb0, _⟩ := Reads.at (k := .i64) hI0 HLL.out (by omega : 0 < 3)
  have HO := Lib.hid ho
  clear hr ho he hl3 hI0
  go_wp2_with fail
  clear hKI
  go_loopg [11, 12] K (fun gk va i wr => ∃ (k : Nat) (M : List Int) (F : Int → Ob) (O : Nat → Prop), gk = K - k ∧ k ≤ K ∧ i = .int .i64 k ∧ Hid (RefO wr r q h 40 (l ++ M) F [[]] k O) ∧ Hid (OwnA wr w.heap.size (.slice (some ⟨b0, off0, none⟩) 3 cap0) l O) ∧ Hid (OwnA wr w1.heap.size va M O) ∧ Hid (Env w wr O) ∧ Hid (Keeps F M (fun i => l.getD (i % 3) 0)) ∧ Hid (M.length = k) ∧ Hid (w1.heap.size ≤ wr.heap.size))
  case atStart => exact ⟨0, [], F, O, rfl, by omega, rfl, HR, HO, Lib.hid (OwnA.nil _ _ _), HE, Lib.hid ⟨by simp⟩, Lib.hid rfl, Lib.hid (Nat.le_refl _)⟩
  case round =>
    clear HR HO HE
    obtain ⟨k, M, F, O, rfl, hk, rfl, HR, HO, HP, HE, HW, HML, HZ⟩ := hrel
    by_cases hlt : k < K
    · have hltN : k < N := by omega
      obtain ⟨b, off, rfl, hbw, hcw⟩ := HRD.out.at HN.out hltN
      have hy := HXS.out _ (getD_mem (by rw [HN.out]; exact hltN))
      obtain ⟨y, hyy⟩ : ∃ y : Nat, xs.getD k 0 = y := ⟨(xs.getD k 0).toNat, by omega⟩
      rw [hyy] at hcw hy
      clear hyy
      have hy255 : y ≤ 255 := by omega
      clear hy
      have hcell : wr.cell? ⟨b, off + k, none⟩ = some (.int .u8 y) := (HE.out.upd.cell (p := ⟨b, off + k, none⟩) hbw (by simp)).trans hcw
      have HCW := Lib.hid (And.intro hbw hcw)
      clear hbw hcw
      obtain ⟨D, hD⟩ : ∃ D : Nat, (k : Int) % 3 = D := ⟨k % 3, by omega⟩
      have hD3 : D < 3 := by omega
      have HDN : Hid (k % 3 = D) := Lib.hid (by omega)
      have hc0 : wr.cell? ⟨b0, off0 + D, none⟩ = some (.int .i64 (l.getD D 0)) := owna_cell HO.out HLL.out hD3
      obtain ⟨x, hx⟩ : ∃ x, l.getD D 0 = x := ⟨_, rfl⟩
      rw [hx] at hc0
      have HX : Hid (x ∈ l ++ M) := Lib.hid (by rw [← hx]; exact List.mem_append_left _ (getD_mem (by rw [HLL.out]; exact hD3)))
      have HXG : Hid (x = (fun i => l.getD (i % 3) 0) M.length) := Lib.hid (by show x = l.getD (M.length % 3) 0; rw [HML.out, HDN.out, hx])
      have HXE := Lib.hid hx
      have HS13 : Hid (1 ≤ 1 + (y : Int) % 2 ∧ 1 + (y : Int) % 2 ≤ 3) := Lib.hid (by omega)
      have HS12 : Hid (1 ≤ 1 + (y : Int) % 2 ∧ 1 + (y : Int) % 2 ≤ 2) := Lib.hid (by omega)
      have hbz : b0 < wr.heap.size := Nat.lt_of_lt_of_le hb0 HZ.out
      clear hx
      have hT1 : (k : Int).tmod 3 = (D : Int) := by rw [Int.tmod_eq_emod_of_nonneg (by omega)]; exact hD
      have HWY : Hid (IntKind.i64.wrap (1 + (IntKind.i64.wrap (y : Int)).tmod 2) = 1 + (y : Int) % 2) := Lib.hid (by
        have e1 : IntKind.i64.wrap (y : Int) = y := IntWalk.i64_in _ (by omega)
        rw [e1, Int.tmod_eq_emod_of_nonneg (by omega)]
        exact IntWalk.i64_in _ (by omega))
      have hTD : (D : Int).toNat = D := by omega
      have hDi : (D : Int) < 3 := by omega
      have hD0 : (0 : Int) ≤ D := by omega
      clear hD
      go_upto_region 9 with fail
      go_region_held3 (fun w' => w'.cell? ⟨b, off + k, none⟩ = some (.int .u8 y) ∧ w'.cell? ⟨b0, off0 + D, none⟩ = some (.int .i64 x)) (first | exact ⟨hcell, hc0⟩ | exact ⟨e0, e1⟩)
        ((go_at_call 40
          rw [HWY.out]
          have hq := refer_yes r q h 40 k (1 + (y : Int) % 2) x 0 0 wr.drew (HR.out.upd0 (Upd.refl [] wr).drew) HS13.out (by simp) (by have := HS13.out; omega) HX.out (by rw [List.length_append, HLL.out, HML.out]; omega) (by omega)
          refine hq.mono ?_
          clear hq
          rintro e w2 ⟨a, O2, rfl, ha, hr, hs⟩
          have HW2 := Lib.hid (HW.out.put (fun e => ha (List.mem_append_right _ e)) k HS12.out HXG.out (((0 : Int))))
          have HR2 := Lib.hid hr
          have HE2 := Lib.hid ((HE.out.upd0 (Upd.refl [] wr).drew).step hs)
          have HO2 := Lib.hid ((HO.out.upd0 (Upd.refl [] wr).drew).step hs)
          have HP2 := Lib.hid ((HP.out.upd0 (Upd.refl [] wr).drew).step hs)
          have HZ2 : Hid (w1.heap.size ≤ w2.heap.size) := Lib.hid (Nat.le_trans HZ.out hs.size)
          have e0 : w2.cell? ⟨b, off + k, none⟩ = some (.int .u8 y) := (HE2.out.upd.cell (p := ⟨b, off + k, none⟩) HCW.out.1 (by simp)).trans HCW.out.2
          have e1 : w2.cell? ⟨b0, off0 + D, none⟩ = some (.int .i64 x) := by rw [← HXE.out]; exact owna_cell HO2.out HLL.out hD3
          clear hr hs ha))
      all_goals
        clear e0 e1 hcell hc0 hT1 hTD hDi hD0 HR HO HP HE HZ
        go_wp2_with fail
        refine (err_calls 0 _ (by omega)).mono ?_
        rintro e w' ⟨rfl, rfl⟩
        go_wp2_with (at_builtin; refine wpList_pushO rfl _ _ rfl w1.heap.size _ M O2 rfl (HP2.out.upd0 ((Upd.refl [] w2).alloc _)) w2.heap.size a rfl (Blk.new _ _ _) (by rw [HML.out]; omega) (by have := HZ2.out; simp; omega) (fun k hk => by have := HR2.out.owned hk; simp; omega) ?_)
        intro v' w3 E h1 h2 h3 h4
        have hE : ∀ i ∈ E, w1.heap.size ≤ i ∧ ¬ O2 i := fun i hi => ⟨(World.ownsRow.lt HP2.out.own i (h2 i hi)).1, HP2.out.far i (h2 i hi)⟩
        have HR3 := Lib.hid ((HR2.out.upd0 ((Upd.refl [] w2).alloc _)).upd h3 fun i hi => (hE i hi).2)
        rw [List.append_assoc] at HR3
        have HE3 := Lib.hid ((HE2.out.upd0 ((Upd.refl [] w2).alloc _)).upd' h3 fun i hi => Nat.le_trans HSZ.out (hE i hi).1)
        have HO3 := Lib.hid ((HO2.out.upd0 ((Upd.refl [] w2).alloc _)).updE h3 fun i hi e => by
          simp only [Value.ownBlock, Option.some.injEq] at e
          have := (hE i hi).1
          omega)
        have HP3 := Lib.hid h1
        have HZ3 : Hid (w1.heap.size ≤ w3.heap.size) := Lib.hid (by have := HZ2.out; have := h3.size; simp at this; omega)
        have HML3 : Hid ((M ++ [a]).length = k + 1) := Lib.hid (by rw [List.length_append, HML.out]; rfl)
        clear h1 h2 h3 h4 hE
        go_wp2_with fail
        go_roundg (K - (k + 1))
        case measure => omega
        case rel => exact ⟨k + 1, _, _, O2, rfl, by omega, by go_num, HR3, HO3, HP3, HE3, HW2, HML3, HZ3⟩
    · obtain rfl : K = k := by omega
      have HT0 := Lib.hid (HE.out.upd)
      by_cases hK0 : K = 0
      · subst hK0
        go_wp2_with fail
        refine (awake13 _).mono ?_
        rintro e w9 ⟨rfl, hu⟩
        have HU9 := Lib.hid hu
        clear hu
        go_wp2_with fail
        go_ret
        exact ⟨rfl, (HT0.out.trans HU9.out).below⟩
      · have hK1 : 1 ≤ K := by omega
        have hKne : ¬ (K : Int) = 0 := by omega
        have hKpos : (0 : Int) < K := by omega
        have hKb : ((K : Int) == 0) = false := by simp; omega
        obtain ⟨J, hJ⟩ : ∃ J : Nat, (j : Int) % (K : Int) = J := ⟨((j : Int) % (K : Int)).toNat, by have := Int.emod_nonneg (j : Int) (by omega : (K : Int) ≠ 0); omega⟩
        have hJK : J < K := by
          have := Int.emod_lt_of_pos (j : Int) hKpos
          omega
        have HJ := Lib.hid hJ
        obtain ⟨T, hT⟩ : ∃ T : Nat, 1 + (t : Int) % 4 = T := ⟨1 + t % 4, by omega⟩
        have hT5 : T < 5 := by omega
        have HT := Lib.hid hT
        clear hT hK0 hJ
        obtain ⟨A2, cap2, hv2, _⟩ := HP.out.reads
        rw [HML.out] at hv2
        subst hv2
        go_wp2_with fail
        simp only [HJ.out]
        go_loopg [16] T (fun gk i wr => ∃ (m : Nat) (F : Int → Ob) (O : Nat → Prop), gk = T - m ∧ m ≤ T ∧ i = .int .i64 m ∧ Hid (RefO wr r q h 40 (l ++ M) F [[]] K O) ∧ Hid (OwnA wr w.heap.size (.slice (some ⟨b0, off0, none⟩) 3 cap0) l O) ∧ Hid (OwnA wr w1.heap.size (.slice A2 K cap2) M O) ∧ Hid (Env w wr O) ∧ Hid (Keeps F M (fun i => l.getD (i % 3) 0)))
        case atStart => exact ⟨0, F, O, rfl, by omega, rfl, HR, HO, HP, HE, HW⟩
        case round =>
          clear HR HO HP HE HW
          obtain ⟨m, F, O, rfl, hm, rfl, HR, HO, HP, HE, HW⟩ := hrel
          by_cases hmt : m < T
          · have hmt' : (m : Int) < 1 + (t : Int) % 4 := by have := HT.out; omega
            go_wp2_with fail
            obtain ⟨wo, rfl⟩ : ∃ wo : World, wo = wr := ⟨_, rfl⟩
            go_loopg [17] K (fun gk i wr => ∃ (i' : Nat) (F : Int → Ob) (O : Nat → Prop), gk = K - i' ∧ i' ≤ K ∧ i = .int .i64 i' ∧ Hid (RefO wr r q h 40 (l ++ M) F [[]] K O) ∧ Hid (OwnA wr w.heap.size (.slice (some ⟨b0, off0, none⟩) 3 cap0) l O) ∧ Hid (OwnA wr w1.heap.size (.slice A2 K cap2) M O) ∧ Hid (Env w wr O) ∧ Hid (Keeps F M (fun i => l.getD (i % 3) 0)))
            case atStart => exact ⟨0, F, O, rfl, by omega, rfl, HR, HO, HP, HE, HW⟩
            case round =>
              clear HR HO HP HE HW
              obtain ⟨i, F, O, rfl, hi, rfl, HR, HO, HP, HE, HW⟩ := hrel
              by_cases hlt : i < K
              · obtain ⟨A3, cap3, hv3, hI3, _⟩ := HP.out.own.form
                simp only [Value.slice.injEq] at hv3
                rw [← hv3.1] at hI3
                obtain ⟨b2, off2, hbb, hb2, hc2⟩ := Reads.at (k := .i64) hI3 HML.out hlt
                (first | subst hbb | (simp only [Option.some.injEq, Addr.mk.injEq, and_true] at hbb; obtain ⟨rfl, rfl⟩ := hbb))
                have HA := Lib.hid (List.mem_append_right l (getD_mem (r := M) (i := i) (by rw [HML.out]; exact hlt)))
                have HK4 := Lib.hid (HW.out.ref i (by rw [HML.out]; exact hlt)).1
                have HTL := Lib.hid (HW.out.tells (i := i) (by rw [HML.out]; exact hlt))
                obtain ⟨D, hD⟩ : ∃ D : Nat, (i : Int) % 3 = D := ⟨i % 3, by omega⟩
                have hD3 : D < 3 := by omega
                have HDN : Hid (i % 3 = D) := Lib.hid (by omega)
                obtain ⟨x, hx⟩ : ∃ x, l.getD D 0 = x := ⟨_, rfl⟩
                have HXE := Lib.hid hx
                clear hI3 hv3 hx
                generalize M.getD i 0 = a at *
                have HTX : Hid (refX (F a) = x) := Lib.hid (by rw [HTL.out]; show l.getD (i % 3) 0 = x; rw [HDN.out, HXE.out])
                go_wp2_with fail
                refine (referent_yes r q h 40 K a m _ HR.out HA.out HK4.out).mono ?_
                rintro e w6 ⟨rfl, O6, hr, hs⟩
                rw [HTX.out]
                have HR6 := Lib.hid hr
                have HO6 := Lib.hid (HO.out.step hs)
                have HP6 := Lib.hid (HP.out.step hs)
                have HE6 := Lib.hid (HE.out.step hs)
                have HW6 := Lib.hid (HW.out.ask a m)
                have hc6 : w6.cell? ⟨b0, off0 + D, none⟩ = some (.int .i64 x) := by rw [← HXE.out]; exact owna_cell HO6.out HLL.out hD3
                clear hr hs hc2 HR HO HP HE HW
                go_wp2_with fail
                refine (err_calls 0 _ (by omega)).mono ?_
                rintro e w' ⟨rfl, rfl⟩
                go_wp2_with fail
                go_roundg (K - (i + 1))
                case measure => omega
                case rel => exact ⟨i + 1, _, O6, rfl, by omega, by go_num, HR6, HO6, HP6, HE6, HW6⟩
              · obtain rfl : K = i := by omega
                go_wp2_with fail
                go_roundg (T - (m + 1))
                case measure => omega
                case rel => exact ⟨m + 1, F, O, rfl, by omega, by go_num, HR, HO, HP, HE, HW⟩
          · have hmt' : ¬ (m : Int) < 1 + (t : Int) % 4 := by have := HT.out; omega
            obtain ⟨A3, cap3, hv3, hI3, _⟩ := HP.out.own.form
            simp only [Value.slice.injEq] at hv3
            rw [← hv3.1] at hI3
            obtain ⟨b2, off2, rfl, hb2, hc2⟩ := Reads.at (k := .i64) hI3 HML.out hJK
            have hmj := HW.out.ref J (by rw [HML.out]; exact hJK)
            have HMJ : Hid (M.getD J 0 ∈ l ++ M ∧ (F (M.getD J 0)).k = 4) := Lib.hid ⟨List.mem_append_right _ (getD_mem (by rw [HML.out]; exact hJK)), hmj.1⟩
            have HND : Hid M.Nodup := Lib.hid (List.nodup_append.1 HR.out.nodup).2.1
            have HW2 := Lib.hid (HW.out.clear HND.out (j := J) (by rw [HML.out]; exact hJK))
            have hro := fun W (hW : Upd [] wr W) => HR.out.upd0 hW
            have HRO := Lib.hid hro
            have hsz : ∀ k, O k → k < wr.heap.size := fun k hk => HR.out.owned hk
            have HRD2 : Hid (ReadsO (wr.alloc (.cells #[.int .i64 (M.getD J 0)] 3)) (some ⟨wr.heap.size, 0, none⟩) [M.getD J 0] O) := Lib.hid (reads_one (Blk.new _ _ _) fun hx => by have := hsz _ hx; omega)
            have HUA : Hid (Upd [] wr (wr.alloc (.cells #[.int .i64 (M.getD J 0)] 3))) := Lib.hid ((Upd.refl [] wr).alloc _)
            obtain ⟨z, hz⟩ : ∃ z, M.getD J 0 = z := ⟨_, rfl⟩
            rw [hz] at hc2 HMJ HW2 HRD2 HUA
            clear hI3 hv3 hmj hro hsz hz
            go_wp2_with fail
            refine (clear_yes r q h 40 K (some ⟨wr.heap.size, 0, none⟩) [z] 1 1 _ (HRO.out _ HUA.out) HRD2.out (fun a ha => by rw [List.mem_singleton.1 ha]; exact HMJ.out) rfl (by omega)).mono ?_
            rintro e w5 ⟨rfl, O5, hr, hs⟩
            have HR5 := Lib.hid hr
            have HO5 := Lib.hid ((HO.out.upd0 HUA.out).step hs)
            have HP5 := Lib.hid ((HP.out.upd0 HUA.out).step hs)
            have HE5 := Lib.hid ((HE.out.upd0 HUA.out).step hs)
            clear hr hs hc2 HR HO HP HE HW HRO HUA HRD2
            go_wp2_with fail
            generalize clearF F [z] = F5 at *
            go_loopg [21] K (fun gk i wr => ∃ (i' : Nat) (F : Int → Ob) (O : Nat → Prop), gk = K - i' ∧ i' ≤ K ∧ i = .int .i64 i' ∧ Hid (RefO wr r q h 40 (l ++ M) F [[]] K O) ∧ Hid (OwnA wr w.heap.size (.slice (some ⟨b0, off0, none⟩) 3 cap0) l O) ∧ Hid (OwnA wr w1.heap.size (.slice (some ⟨b2, off2, none⟩) K cap2) M O) ∧ Hid (Env w wr O) ∧ Hid (Keeps F M (fun i => if i = J then 0 else l.getD (i % 3) 0)))
            case atStart => exact ⟨0, F5, O5, rfl, by omega, rfl, HR5, HO5, HP5, HE5, HW2⟩
            case round =>
              clear HR5 HO5 HP5 HE5 HW2
              obtain ⟨i, F, O, rfl, hi, rfl, HR, HO, HP, HE, HW⟩ := hrel
              by_cases hlt : i < K
              · by_cases hij : i = J
                · subst hij
                  obtain ⟨A3, cap3, hv3, hI3, _⟩ := HP.out.own.form
                  simp only [Value.slice.injEq] at hv3
                  rw [← hv3.1] at hI3
                  obtain ⟨b2, off2, hbb, hb2, hc2⟩ := Reads.at (k := .i64) hI3 HML.out hlt
                  (first | subst hbb | (simp only [Option.some.injEq, Addr.mk.injEq, and_true] at hbb; obtain ⟨rfl, rfl⟩ := hbb))
                  have HA := Lib.hid (List.mem_append_right l (getD_mem (r := M) (i := i) (by rw [HML.out]; exact hlt)))
                  have HK4 := Lib.hid (HW.out.ref i (by rw [HML.out]; exact hlt)).1
                  have HTL := Lib.hid (HW.out.tells (i := i) (by rw [HML.out]; exact hlt))
                  obtain ⟨D, hD⟩ : ∃ D : Nat, (i : Int) % 3 = D := ⟨i % 3, by omega⟩
                  have hD3 : D < 3 := by omega
                  have HDN : Hid (i % 3 = D) := Lib.hid (by omega)
                  obtain ⟨x, hx⟩ : ∃ x, l.getD D 0 = x := ⟨_, rfl⟩
                  have HXE := Lib.hid hx
                  clear hI3 hv3 hx
                  generalize M.getD i 0 = a at *
                  have HTX : Hid (refX (F a) = 0) := Lib.hid (by rw [HTL.out]; exact if_pos rfl)
                  go_wp2_with fail
                  refine (referent_yes r q h 40 K a 9 _ HR.out HA.out HK4.out).mono ?_
                  rintro e w6 ⟨rfl, O6, hr, hs⟩
                  rw [HTX.out]
                  have HR6 := Lib.hid hr
                  have HO6 := Lib.hid (HO.out.step hs)
                  have HP6 := Lib.hid (HP.out.step hs)
                  have HE6 := Lib.hid (HE.out.step hs)
                  have HW6 := Lib.hid (HW.out.ask a 9)
                  have hc6 : w6.cell? ⟨b0, off0 + D, none⟩ = some (.int .i64 x) := by rw [← HXE.out]; exact owna_cell HO6.out HLL.out hD3
                  clear hr hs hc2 HR HO HP HE HW
                  go_wp2_with fail
                  refine (err_calls 0 _ (by omega)).mono ?_
                  rintro e w' ⟨rfl, rfl⟩
                  go_wp2_with fail
                  go_roundg (K - (i + 1))
                  case measure => omega
                  case rel => exact ⟨i + 1, _, O6, rfl, by omega, by go_num, HR6, HO6, HP6, HE6, HW6⟩
                · obtain ⟨A3, cap3, hv3, hI3, _⟩ := HP.out.own.form
                  simp only [Value.slice.injEq] at hv3
                  rw [← hv3.1] at hI3
                  obtain ⟨b2, off2, hbb, hb2, hc2⟩ := Reads.at (k := .i64) hI3 HML.out hlt
                  (first | subst hbb | (simp only [Option.some.injEq, Addr.mk.injEq, and_true] at hbb; obtain ⟨rfl, rfl⟩ := hbb))
                  have HA := Lib.hid (List.mem_append_right l (getD_mem (r := M) (i := i) (by rw [HML.out]; exact hlt)))
                  have HK4 := Lib.hid (HW.out.ref i (by rw [HML.out]; exact hlt)).1
                  have HTL := Lib.hid (HW.out.tells (i := i) (by rw [HML.out]; exact hlt))
                  obtain ⟨D, hD⟩ : ∃ D : Nat, (i : Int) % 3 = D := ⟨i % 3, by omega⟩
                  have hD3 : D < 3 := by omega
                  have HDN : Hid (i % 3 = D) := Lib.hid (by omega)
                  obtain ⟨x, hx⟩ : ∃ x, l.getD D 0 = x := ⟨_, rfl⟩
                  have HXE := Lib.hid hx
                  clear hI3 hv3 hx
                  generalize M.getD i 0 = a at *
                  have HTX : Hid (refX (F a) = x) := Lib.hid (by rw [HTL.out, ← HXE.out, ← HDN.out]; exact if_neg hij)
                  go_wp2_with fail
                  refine (referent_yes r q h 40 K a 9 _ HR.out HA.out HK4.out).mono ?_
                  rintro e w6 ⟨rfl, O6, hr, hs⟩
                  rw [HTX.out]
                  have HR6 := Lib.hid hr
                  have HO6 := Lib.hid (HO.out.step hs)
                  have HP6 := Lib.hid (HP.out.step hs)
                  have HE6 := Lib.hid (HE.out.step hs)
                  have HW6 := Lib.hid (HW.out.ask a 9)
                  have hc6 : w6.cell? ⟨b0, off0 + D, none⟩ = some (.int .i64 x) := by rw [← HXE.out]; exact owna_cell HO6.out HLL.out hD3
                  clear hr hs hc2 HR HO HP HE HW
                  have hij' : ¬ (i : Int) = J := by omega
                  go_wp2_with fail
                  refine (err_calls 0 _ (by omega)).mono ?_
                  rintro e w' ⟨rfl, rfl⟩
                  go_wp2_with fail
                  go_roundg (K - (i + 1))
                  case measure => omega
                  case rel => exact ⟨i + 1, _, O6, rfl, by omega, by go_num, HR6, HO6, HP6, HE6, HW6⟩
              · obtain rfl : K = i := by omega
                go_wp2_with fail
                refine (err_calls 0 _ (by omega)).mono ?_
                rintro e w' ⟨rfl, rfl⟩
                go_wp2_with fail
                refine (awake13 _).mono ?_
                rintro e w9 ⟨rfl, hu⟩
                have HU9 := Lib.hid hu
                clear hu
                go_wp2_with fail
                go_ret
                exact ⟨rfl, (HE.out.upd.trans HU9.out).below⟩
end Go.Proofs.Ytendjhobemlhoaa
