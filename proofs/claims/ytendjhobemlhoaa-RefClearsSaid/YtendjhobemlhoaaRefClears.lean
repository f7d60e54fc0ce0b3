/- The walk of RefClears: at every input the law returns true, and nothing that was there has turned. -/
import Derived.Test.YtendjhobemlhoaaRLaw
import Derived.Test.YtendjhobemlhoaaStepP
namespace Go.Proofs.Ytendjhobemlhoaa
open Go Go.RowKit

theorem OwnA.updE {w w' : World} {B : Nat} {v : Value} {xs : List Int} {O : Nat → Prop} {E : List Nat} (h : OwnA w B v xs O) (hu : Upd E w w') (hE : ∀ i ∈ E, v.ownBlock ≠ some i) : OwnA w' B v xs O :=
  ⟨h.own.moved fun g hg => hu.block g (World.ownsRow.lt h.own g hg).2 fun hm => hE g hm hg, h.far⟩
/-- Weak references to x, and y is none. -/
structure Weaks (F : Int → Ob) (M : List Int) (x y : Int) (n : Nat) : Prop where
  len : M.length = n
  ref : ∀ a ∈ M, (F a).k = 4 ∧ (F a).c = 2 ∧ (F a).ws.getD 0 0 = x
  fy : (F y).k = 3
theorem Weaks.put {F : Int → Ob} {M : List Int} {x y : Int} {n : Nat} (h : Weaks F M x y n) {a : Int} (ha : a ∉ [x, y] ++ M) (m : Nat) : Weaks (fset F a ⟨4, 2, false, valsR x 0 0 m⟩) (M ++ [a]) x y (n + 1) := by
  have hm : a ∉ M := fun e => ha (List.mem_append_right _ e)
  have hy : y ≠ a := fun e => ha (by simp [e])
  refine ⟨by rw [List.length_append, h.len]; rfl, fun b hb => ?_, by rw [fset_ne _ hy]; exact h.fy⟩
  by_cases e : b = a
  · rw [e, fset_same]; exact ⟨rfl, rfl, rfl⟩
  · rw [fset_ne _ e]
    rcases List.mem_append.1 hb with hb | hb
    · exact h.ref b hb
    · exact absurd (List.mem_singleton.1 hb) e
theorem isInts_blk {w : World} {g : Nat} {xs : List Int} (h : Blk w g 3 (ints xs)) : IsInts w (some ⟨g, 0, none⟩) xs :=
  .inr ⟨g, 0, rfl, h.lt, fun i hi => by rw [Nat.zero_add]; exact h.int i hi⟩

set_option maxRecDepth 100000 in
set_option maxHeartbeats 12800000 in
theorem clears13_walk (n : Nat) (odd : Bool) (w : World) (hn : n ≤ 255) : Calls Try.prog 14 #[.int .u8 n, .bool odd] w fun e w' => e = .returned (.bool true) ∧ Below w.heap.size w w' := by
  obtain ⟨K, hK⟩ : ∃ K : Nat, 1 + (n : Int) % 9 = K := ⟨1 + n % 9, by omega⟩
  have hK9 : K < 10 := by omega
  have hK1 : 1 ≤ K := by omega
  have HK := Lib.hid hK
  clear hK
  go_enter Try.func14, Try.ntmps14
  go_wp2_with fail
  refine (made13 2 1 _ (by omega) (by omega)).mono ?_
  rintro e w1 ⟨h, r, q, v0, l, F, O, rfl, hr, ho, he, hl⟩
  obtain ⟨x, y, rfl⟩ : ∃ x y, l = [x, y] := by
    have := hl.len
    match l, this with
    | [x, y], _ => exact ⟨x, y, rfl⟩
  have HR : Hid (RefO w1 r q h 40 ([x, y] ++ []) F [[]] 0 O) := Lib.hid hr
  have HE := Lib.hid he
  have HW0 : Hid (Weaks F [] x y 0) := Lib.hid ⟨rfl, by simp, (hl.kind y (by simp)).1⟩
  obtain ⟨A, cap, hv, hI, _⟩ := ho.own.form
  have hv' : v0 = .slice A 2 cap := hv
  subst hv'
  obtain ⟨b0, off, rfl, hb, _⟩ := Reads.at (k := .i64) hI (rfl : [x, y].length = 2) (by omega : 0 < 2)
  have HO := Lib.hid ho
  have HSZ := Lib.hid he.upd.size
  clear hr ho he hl hI hv
  go_wp2_with fail
  simp only [HK.out]
  go_loopg [9, 10] K (fun gk va i wr => ∃ (k : Nat) (M : List Int) (F : Int → Ob) (O : Nat → Prop), gk = K - k ∧ k ≤ K ∧ i = .int .i64 k ∧ Hid (RefO wr r q h 40 ([x, y] ++ M) F [[]] k O) ∧ Hid (OwnA wr w.heap.size (.slice (some ⟨b0, off, none⟩) 2 cap) [x, y] O) ∧ Hid (OwnA wr w1.heap.size va M O) ∧ Hid (Env w wr O) ∧ Hid (Weaks F M x y k) ∧ Hid (w1.heap.size ≤ wr.heap.size))
  case atStart => exact ⟨0, [], F, O, rfl, by omega, rfl, HR, HO, Lib.hid (OwnA.nil _ _ _), HE, HW0, Lib.hid (Nat.le_refl _)⟩
  case round =>
    clear HR HO HE HW0
    obtain ⟨k, M, F, O, rfl, hk, rfl, HR, HO, HP, HE, HW, HZ⟩ := hrel
    by_cases hlt : k < K
    · have hcx : wr.cell? ⟨b0, off, none⟩ = some (.int .i64 x) := owna_cell HO.out rfl (by omega : 0 < 2)
      go_wp2_with fail
      refine (refer_yes r q h 40 k 2 x 0 0 _ HR.out (by omega) (by simp) (by omega) (by simp) (by have := HW.out.len; simp; omega) (by omega)).mono ?_
      rintro e w2 ⟨a, O2, rfl, ha, hr, hs⟩
      have HW2 := Lib.hid (HW.out.put ha k)
      have HR2 : Hid (RefO w2 r q h 40 ([x, y] ++ (M ++ [a])) (fset F a ⟨4, 2, false, valsR x 0 0 k⟩) [[]] (k + 1) O2) := Lib.hid hr
      generalize fset F a ⟨4, 2, false, valsR x 0 0 k⟩ = F2 at *
      have HE2 := Lib.hid (HE.out.step hs)
      have HO2 := Lib.hid (HO.out.step hs)
      have HP2 := Lib.hid (HP.out.step hs)
      have HZ2 := Lib.hid (Nat.le_trans HZ.out hs.size)
      clear hr hs ha hcx HR HE HO HZ
      go_wp2_with fail
      refine (err_calls 0 _ (by omega)).mono ?_
      rintro e w' ⟨rfl, rfl⟩
      go_wp2_with (at_builtin; refine wpList_pushO rfl _ _ rfl w1.heap.size _ M O2 rfl (HP2.out.upd0 ((Upd.refl [] w2).alloc _)) w2.heap.size a rfl (Blk.new _ _ _) (by rw [HW.out.len]; omega) (by have := HZ2.out; simp; omega) (fun k hk => by have := HR2.out.owned hk; simp; omega) ?_)
      intro v' w3 E h1 h2 h3 h4
      have hE : ∀ i ∈ E, w1.heap.size ≤ i ∧ ¬ O2 i := fun i hi => ⟨(World.ownsRow.lt HP2.out.own i (h2 i hi)).1, HP2.out.far i (h2 i hi)⟩
      have HR3 := Lib.hid ((HR2.out.upd0 ((Upd.refl [] w2).alloc _)).upd h3 fun i hi => (hE i hi).2)
      have HE3 := Lib.hid ((HE2.out.upd0 ((Upd.refl [] w2).alloc _)).upd' h3 fun i hi => Nat.le_trans HSZ.out (hE i hi).1)
      have HO3 := Lib.hid ((HO2.out.upd0 ((Upd.refl [] w2).alloc _)).updE h3 fun i hi e => by
        simp only [Value.ownBlock, Option.some.injEq] at e
        have := (hE i hi).1
        omega)
      have HP3 := Lib.hid h1
      have HZ3 : Hid (w1.heap.size ≤ w3.heap.size) := Lib.hid (by have := HZ2.out; have := h3.size; simp at this; omega)
      clear h1 h2 h3 h4 hE
      go_wp2_with fail
      go_roundg (K - (k + 1))
      case measure => omega
      case rel => exact ⟨k + 1, _, _, O2, rfl, by omega, by go_num, HR3, HO3, HP3, HE3, HW2, HZ3⟩
    · obtain rfl : K = k := by omega
      have HML := Lib.hid HW.out.len
      obtain ⟨A2, cap2, hv2, hR2⟩ := HP.out.reads
      rw [HML.out] at hv2
      subst hv2
      have HRD := Lib.hid hR2
      clear hR2
      cases odd
      · go_wp2_with fail
        refine (clear_yes r q h 40 K A2 M K cap2 _ HR.out HRD.out (fun a ha => ⟨List.mem_append_right _ ha, (HW.out.ref a ha).1⟩) HML.out (by omega)).mono ?_
        rintro e w4 ⟨rfl, O4, hr, hs⟩
        obtain ⟨FF, hFF⟩ : ∃ FF, clearF F M = FF := ⟨_, rfl⟩
        have HFF : Hid (∀ a ∈ M, (FF a).k = 4 ∧ (FF a).c = 2 ∧ (FF a).ws.getD 0 0 = 0) := Lib.hid fun a ha => by
          rw [← hFF, clearF_k, clearF_c, clearF_get, if_pos ⟨rfl, ha⟩]
          exact ⟨(HW.out.ref a ha).1, (HW.out.ref a ha).2.1, rfl⟩
        rw [hFF] at hr
        have HR5 := Lib.hid hr
        have HO5 := Lib.hid (HO.out.step hs)
        have HP5 := Lib.hid (HP.out.step hs)
        have HE5 := Lib.hid (HE.out.step hs)
        clear hr hs hFF HR HO HP HE HRD
        go_wp2_with fail
        refine (err_calls 0 _ (by omega)).mono ?_
        rintro e w' ⟨rfl, rfl⟩
        go_wp2_with fail
        obtain ⟨wo, rfl⟩ : ∃ wo : World, wo = wr := ⟨_, rfl⟩
        go_loopg [15] K (fun gk i wr => ∃ (k : Nat) (O' : Nat → Prop), gk = K - k ∧ k ≤ K ∧ i = .int .i64 k ∧ Hid (RefO wr r q h 40 ([x, y] ++ M) FF [[]] K O') ∧ Hid (OwnA wr w.heap.size (.slice (some ⟨b0, off, none⟩) 2 cap) [x, y] O') ∧ Hid (OwnA wr w1.heap.size (.slice A2 K cap2) M O') ∧ Hid (Env w wr O'))
        case atStart => exact ⟨0, _, rfl, by omega, rfl, HR5, HO5, HP5, HE5⟩
        case round =>
          clear HR5 HO5 HP5 HE5
          obtain ⟨k, O5, rfl, hk, rfl, HR5, HO5, HP5, HE5⟩ := hrel
          by_cases hlt : k < K
          · have hcx : wr.cell? ⟨b0, off, none⟩ = some (.int .i64 x) := owna_cell HO5.out rfl (by omega : 0 < 2)
            obtain ⟨A3, cap3, hv3, hI3, _⟩ := HP5.out.own.form
            simp only [Value.slice.injEq] at hv3
            rw [← hv3.1] at hI3
            obtain ⟨b2, off2, rfl, hb2, hc2⟩ := Reads.at (k := .i64) hI3 HML.out hlt
            have HA := Lib.hid (getD_mem (r := M) (i := k) (by rw [HML.out]; exact hlt))
            clear hI3 hv3
            generalize M.getD k 0 = a at *
            have HG := Lib.hid (HFF.out a HA.out)
            have HRX : Hid (refX (FF a) = 0) := Lib.hid (by unfold refX; rw [HG.out.2.1, if_neg (by omega)]; exact HG.out.2.2)
            have HRF : Hid (refF FF a 0 = FF) := Lib.hid (by unfold refF; rw [HG.out.2.1]; exact if_neg (by simp))
            go_wp2_with fail
            refine (referent_yes r q h 40 K a 0 _ HR5.out (List.mem_append_right _ HA.out) HG.out.1).mono ?_
            rintro e w6 ⟨rfl, O6, hr, hs⟩
            rw [HRF.out] at hr
            rw [HRX.out]
            have HR6 := Lib.hid hr
            have HO6 := Lib.hid (HO5.out.step hs)
            have HP6 := Lib.hid (HP5.out.step hs)
            have HE6 := Lib.hid (HE5.out.step hs)
            have hcx6 : w6.cell? ⟨b0, off, none⟩ = some (.int .i64 x) := owna_cell HO6.out rfl (by omega : 0 < 2)
            clear hr hs hc2 hcx
            go_wp2_with fail
            refine (err_calls 0 _ (by omega)).mono ?_
            rintro e w' ⟨rfl, rfl⟩
            go_wp2_with fail
            go_roundg (K - (k + 1))
            case measure => omega
            case rel => exact ⟨k + 1, O6, rfl, by omega, by go_num, HR6, HO6, HP6, HE6⟩
          · obtain rfl : k = K := by omega
            obtain ⟨c0, c1, c2, c3⟩ := HR5.out.cells
            go_wp2_with fail
            refine (ref_list r q h 40 k 0 0 _ HR5.out rfl (by simp)).mono ?_
            rintro e w6 ⟨vr, rfl, ho, hu⟩
            have ho' : Own w6 wr.heap.size vr [] := ho
            obtain ⟨A6, cap6, hv6, _, _⟩ := ho'.form
            have hv7 : vr = .slice A6 0 cap6 := hv6
            subst hv7
            have HR6 := Lib.hid (HR5.out.upd0 hu)
            have HE6 := Lib.hid (HE5.out.upd0 hu)
            clear ho ho' hv6 hu c0 c1 c2 c3
            go_wp2_with fail
            refine (err_calls 0 _ (by omega)).mono ?_
            rintro e w' ⟨rfl, rfl⟩
            go_wp2_with fail
            refine (clear_yes r q h 40 k none [] 0 0 _ HR6.out (.inl rfl) (by simp) rfl (by omega)).mono ?_
            rintro e w7 ⟨rfl, O7, hr, hs⟩
            have HE7 := Lib.hid (HE6.out.step hs)
            clear hr hs
            go_wp2_with fail
            refine (err_calls 0 _ (by omega)).mono ?_
            rintro e w' ⟨rfl, rfl⟩
            go_wp2_with fail
            refine (awake13 _).mono ?_
            rintro e w9 ⟨rfl, hu⟩
            have HU9 := Lib.hid hu
            clear hu
            go_wp2_with fail
            go_ret
            exact ⟨rfl, (HE7.out.upd.trans HU9.out).below⟩
      · have hyl : y ∈ [x, y] ++ M := by simp
        have HYK : Hid (y ∈ [x, y] ++ M ∧ (F y).k ≠ 4) := Lib.hid ⟨hyl, by rw [HW.out.fy]; omega⟩
        have HLEN : Hid ((M ++ [y]).length = K + 1) := Lib.hid (by rw [List.length_append, HML.out]; rfl)
        have hcy : wr.cell? ⟨b0, off + 1, none⟩ = some (.int .i64 y) := owna_cell HO.out rfl (by omega : 1 < 2)
        have hbz : b0 < wr.heap.size := Nat.lt_of_lt_of_le hb HZ.out
        have HCY := Lib.hid (And.intro hcy hbz)
        have hIM : IsInts wr A2 M := by
          obtain ⟨A3, cap3, hv3, hI3, _⟩ := HP.out.own.form
          simp only [Value.slice.injEq] at hv3
          rw [hv3.1]; exact hI3
        have hNM : A2 = none → M.length = 0 ∧ cap2 = 0 := fun e => by
          obtain ⟨A3, cap3, hv3, _, hn3⟩ := HP.out.own.form
          simp only [Value.slice.injEq] at hv3
          have := hn3 (hv3.1 ▸ e)
          omega
        have HN1 := Lib.hid hNM
        clear hyl hNM
        go_upto_region 15 with fail
        have s1 : (wr.alloc (.cells #[] 3)).heap.size = wr.heap.size + 1 := by simp
        have s2 : (wr.alloc (.cells #[.int .i64 y] 3)).heap.size = wr.heap.size + 1 := by simp
        have huA : Upd [] wr (wr.alloc (.cells #[] 3)).drew := ((Upd.refl [] wr).alloc _).drew
        have huB : Upd [] wr ((wr.alloc (.cells #[] 3)).alloc (.cells #[.int .i64 y] 3)).drew := (((Upd.refl [] wr).alloc _).alloc _).drew
        have huC : Upd [] wr ((wr.alloc (.cells #[.int .i64 y] 3)).alloc (.cells #[] 3)).drew := (((Upd.refl [] wr).alloc _).alloc _).drew
        have hoA : Own (wr.alloc (.cells #[] 3)).drew wr.heap.size (.slice (some ⟨wr.heap.size, 0, none⟩) 0 0) [] := Own.empty wr (Nat.le_refl _)
        have hoB : Own ((wr.alloc (.cells #[] 3)).alloc (.cells #[.int .i64 y] 3)).drew wr.heap.size (.slice (some ⟨wr.heap.size, 0, none⟩) 0 0) [] := (Own.empty wr (Nat.le_refl _)).alloc _
        have hoC : Own ((wr.alloc (.cells #[.int .i64 y] 3)).alloc (.cells #[] 3)).drew wr.heap.size (.slice (some ⟨wr.heap.size + 1, 0, none⟩) 0 0) [] := by
          have := Own.empty (B := wr.heap.size) (wr.alloc (.cells #[.int .i64 y] 3)) (by simp)
          rw [s2] at this
          exact this
        have hbB : Blk ((wr.alloc (.cells #[] 3)).alloc (.cells #[.int .i64 y] 3)).drew (wr.heap.size + 1) 3 (ints [y]) := by
          have := Blk.new (wr.alloc (.cells #[] 3)) 3 (ints [y])
          rw [s1] at this
          exact this
        have hbC : Blk ((wr.alloc (.cells #[.int .i64 y] 3)).alloc (.cells #[] 3)).drew wr.heap.size 3 (ints [y]) := (Blk.new wr 3 (ints [y])).alloc _
        have HHA := Lib.hid (And.intro hoA (And.intro (Reads.upd hIM huA (by simp)) huA))
        have HHB := Lib.hid (And.intro hoB (And.intro (Reads.upd hIM huB (by simp)) (And.intro huB hbB)))
        have HHC := Lib.hid (And.intro hoC (And.intro (Reads.upd hIM huC (by simp)) (And.intro huC hbC)))
        clear hoA huA hoB huB hbB hoC huC hbC hIM s1 s2
        go_region_law (first
          | (refine step_pushes wr rfl (.tmp 53) (.tmp 54) rfl wr.heap.size _ [] rfl HHA.out.1 A2 cap2 M K HML.out rfl HHA.out.2.1 HN1.out (by rw [HML.out]; simp; omega) (Nat.le_refl _) HHA.out.2.2 HHA.out.2.2.size ?_; intro v4 w4 ho4 hu4 hs4 hx4
             have HO4 := Lib.hid ho4
             have HU4 := Lib.hid hu4
             have e4 : w4.cell? ⟨b0, off + 1, none⟩ = some (.int .i64 y) := (hu4.cell (p := ⟨b0, off + 1, none⟩) HCY.out.2 (by simp)).trans HCY.out.1
             clear ho4 hu4 hx4)
          | (refine step_pushes wr rfl (.tmp 53) (.tmp 54) rfl wr.heap.size (.slice (some ⟨wr.heap.size, 0, none⟩) 0 0) [] rfl HHB.out.1 A2 cap2 M K HML.out rfl HHB.out.2.1 HN1.out (by rw [HML.out]; simp; omega) (Nat.le_refl _) HHB.out.2.2.1 HHB.out.2.2.1.size ?_; intro v4 w4 ho4 hu4 hs4 hx4
             have HO4 := Lib.hid ho4
             have HU4 := Lib.hid hu4
             have HBX : Hid (IsInts w4 (some ⟨wr.heap.size + 1, 0, none⟩) [y]) := Lib.hid (isInts_blk (HHB.out.2.2.2.upd hx4 (by simp [Value.ownBlock])))
             clear ho4 hu4 hx4)
          | (refine step_pushes wr rfl (.tmp 53) (.tmp 54) rfl wr.heap.size (.slice (some ⟨wr.heap.size + 1, 0, none⟩) 0 0) [] rfl HHC.out.1 A2 cap2 M K HML.out rfl HHC.out.2.1 HN1.out (by rw [HML.out]; simp; omega) (Nat.le_refl _) HHC.out.2.2.1 HHC.out.2.2.1.size ?_; intro v4 w4 ho4 hu4 hs4 hx4
             have HO4 := Lib.hid ho4
             have HU4 := Lib.hid hu4
             have HBX : Hid (IsInts w4 (some ⟨wr.heap.size, 0, none⟩) [y]) := Lib.hid (isInts_blk (HHC.out.2.2.2.upd hx4 (by simp [Value.ownBlock])))
             clear ho4 hu4 hx4)
          | (refine step_pushes wr rfl (.tmp 55) (.tmp 59) rfl wr.heap.size _ _ rfl (HO4.out.alloc _) (some ⟨w4.heap.size, 0, none⟩) 1 [y] 1 rfl rfl (isInts_blk (Blk.new w4 3 (ints [y]))) (fun h => by cases h) (by simp [HML.out]; omega) (Nat.le_refl _) (HU4.out.alloc _) (by have := HU4.out.size; simp; omega) ?_; intro v7 w7 ho7 hu7 hs7 hx7
             have HO7 := Lib.hid ho7
             have HU7 := Lib.hid hu7
             clear ho7 hu7 hx7)
          | (refine step_pushes wr rfl (.tmp 55) (.tmp 59) rfl wr.heap.size _ _ rfl HO4.out _ 1 [y] 1 rfl rfl HBX.out (fun h => by cases h) (by simp [HML.out]; omega) (Nat.le_refl _) HU4.out HU4.out.size ?_; intro v7 w7 ho7 hu7 hs7 hx7
             have HO7 := Lib.hid ho7
             have HU7 := Lib.hid hu7
             clear ho7 hu7 hx7))
        all_goals
          have ho7 := HO7.out
          rw [List.nil_append] at ho7
          obtain ⟨A5, cap5, hv5, hR5⟩ := (OwnA.fresh (O := O) ho7 (Nat.le_refl _) (fun k hk => HR.out.owned hk)).reads
          rw [HLEN.out] at hv5
          subst hv5
          have HRD5 := Lib.hid hR5
          obtain ⟨FF, rfl⟩ : ∃ FF, FF = F := ⟨_, rfl⟩
          have HFF : Hid (∀ a ∈ M, (FF a).k = 4 ∧ (FF a).c = 2 ∧ (FF a).ws.getD 0 0 = x) := Lib.hid HW.out.ref
          clear ho7 hR5 hcy hs4 hs7
          go_wp2_with fail
          have hq := clear_no r q h 40 K A5 M [] y cap5 _ (HR.out.upd0 HU7.out) HRD5.out (fun a ha => ⟨List.mem_append_right _ ha, (HFF.out a ha).1⟩) (.inr HYK.out) (by rw [HLEN.out]; omega)
          rw [HLEN.out] at hq
          refine hq.mono ?_
          clear hq
          rintro e w8 ⟨rfl, hu⟩
          have HR5 := Lib.hid (HR.out.upd0 (HU7.out.trans hu))
          have HO5 := Lib.hid (HO.out.upd0 (HU7.out.trans hu))
          have HP5 := Lib.hid (HP.out.upd0 (HU7.out.trans hu))
          have HE5 := Lib.hid (HE.out.upd0 (HU7.out.trans hu))
          clear hu HR HO HP HE HRD HU7 HO7 HRD5 HO4 HU4
          (try clear e4)
          (try clear HBX)
          go_wp2_with fail
          refine (err_calls 5 _ (by omega)).mono ?_
          rintro e w' ⟨rfl, rfl⟩
          go_wp2_with fail
          obtain ⟨wo, rfl⟩ : ∃ wo : World, wo = wr := ⟨_, rfl⟩
          go_loopg [15] K (fun gk i wr => ∃ (k : Nat) (O' : Nat → Prop), gk = K - k ∧ k ≤ K ∧ i = .int .i64 k ∧ Hid (RefO wr r q h 40 ([x, y] ++ M) FF [[]] K O') ∧ Hid (OwnA wr w.heap.size (.slice (some ⟨b0, off, none⟩) 2 cap) [x, y] O') ∧ Hid (OwnA wr w1.heap.size (.slice A2 K cap2) M O') ∧ Hid (Env w wr O'))
          case atStart => exact ⟨0, _, rfl, by omega, rfl, HR5, HO5, HP5, HE5⟩
          case round =>
            clear HR5 HO5 HP5 HE5
            obtain ⟨k, O5, rfl, hk, rfl, HR5, HO5, HP5, HE5⟩ := hrel
            by_cases hlt : k < K
            · have hcx : wr.cell? ⟨b0, off, none⟩ = some (.int .i64 x) := owna_cell HO5.out rfl (by omega : 0 < 2)
              obtain ⟨A3, cap3, hv3, hI3, _⟩ := HP5.out.own.form
              simp only [Value.slice.injEq] at hv3
              rw [← hv3.1] at hI3
              obtain ⟨b2, off2, rfl, hb2, hc2⟩ := Reads.at (k := .i64) hI3 HML.out hlt
              have HA := Lib.hid (getD_mem (r := M) (i := k) (by rw [HML.out]; exact hlt))
              clear hI3 hv3
              generalize M.getD k 0 = a at *
              have HG := Lib.hid (HFF.out a HA.out)
              have HRX : Hid (refX (FF a) = x) := Lib.hid (by unfold refX; rw [HG.out.2.1, if_neg (by omega)]; exact HG.out.2.2)
              have HRF : Hid (refF FF a 0 = FF) := Lib.hid (by unfold refF; rw [HG.out.2.1]; exact if_neg (by simp))
              go_wp2_with fail
              refine (referent_yes r q h 40 K a 0 _ HR5.out (List.mem_append_right _ HA.out) HG.out.1).mono ?_
              rintro e w6 ⟨rfl, O6, hr, hs⟩
              rw [HRF.out] at hr
              rw [HRX.out]
              have HR6 := Lib.hid hr
              have HO6 := Lib.hid (HO5.out.step hs)
              have HP6 := Lib.hid (HP5.out.step hs)
              have HE6 := Lib.hid (HE5.out.step hs)
              have hcx6 : w6.cell? ⟨b0, off, none⟩ = some (.int .i64 x) := owna_cell HO6.out rfl (by omega : 0 < 2)
              clear hr hs hc2 hcx
              go_wp2_with fail
              refine (err_calls 0 _ (by omega)).mono ?_
              rintro e w' ⟨rfl, rfl⟩
              go_wp2_with fail
              go_roundg (K - (k + 1))
              case measure => omega
              case rel => exact ⟨k + 1, O6, rfl, by omega, by go_num, HR6, HO6, HP6, HE6⟩
            · obtain rfl : k = K := by omega
              obtain ⟨c0, c1, c2, c3⟩ := HR5.out.cells
              go_wp2_with fail
              refine (ref_list r q h 40 k 0 0 _ HR5.out rfl (by simp)).mono ?_
              rintro e w6 ⟨vr, rfl, ho, hu⟩
              have ho' : Own w6 wr.heap.size vr [] := ho
              obtain ⟨A6, cap6, hv6, _, _⟩ := ho'.form
              have hv7 : vr = .slice A6 0 cap6 := hv6
              subst hv7
              have HR6 := Lib.hid (HR5.out.upd0 hu)
              have HE6 := Lib.hid (HE5.out.upd0 hu)
              clear ho ho' hv6 hu c0 c1 c2 c3
              go_wp2_with fail
              refine (err_calls 0 _ (by omega)).mono ?_
              rintro e w' ⟨rfl, rfl⟩
              go_wp2_with fail
              refine (clear_yes r q h 40 k none [] 0 0 _ HR6.out (.inl rfl) (by simp) rfl (by omega)).mono ?_
              rintro e w7 ⟨rfl, O7, hr, hs⟩
              have HE7 := Lib.hid (HE6.out.step hs)
              clear hr hs
              go_wp2_with fail
              refine (err_calls 0 _ (by omega)).mono ?_
              rintro e w' ⟨rfl, rfl⟩
              go_wp2_with fail
              refine (awake13 _).mono ?_
              rintro e w9 ⟨rfl, hu⟩
              have HU9 := Lib.hid hu
              clear hu
              go_wp2_with fail
              go_ret
              exact ⟨rfl, (HE7.out.upd.trans HU9.out).below⟩
end Go.Proofs.Ytendjhobemlhoaa
