/- The walk of RefAsks: at every input the law returns true, and nothing that was there has turned. -/
import Derived.Test.YtendjhobemlhoaaRLaw
namespace Go.Proofs.Ytendjhobemlhoaa
open Go Go.RowKit

structure Asks (F : Int → Ob) (x y s v p c : Int) : Prop where
  fs : F s = ⟨4, 1, false, valsR x 0 c 0⟩
  fv : F v = ⟨4, 2, false, valsR x (-1) c 1⟩
  fp : F p = ⟨4, 3, false, valsR y 0 c 2⟩
  fx : (F x).k = 3 ∧ (F x).ws.length = 2
theorem Asks.made {F : Int → Ob} {x y s v p : Int} (c : Int) (hx : (F x).k = 3 ∧ (F x).ws.length = 2) (h1 : s ∉ [x, y]) (h2 : v ∉ [x, y, s]) (h3 : p ∉ [x, y, s, v]) :
    Asks (fset (fset (fset F s ⟨4, 1, false, valsR x 0 c 0⟩) v ⟨4, 2, false, valsR x (-1) c 1⟩) p ⟨4, 3, false, valsR y 0 c 2⟩) x y s v p c := by
  simp only [List.mem_cons, List.not_mem_nil, or_false, not_or] at h1 h2 h3
  obtain ⟨a1, a2⟩ := h1
  obtain ⟨b1, b2, b3⟩ := h2
  obtain ⟨d1, d2, d3, d4⟩ := h3
  refine ⟨?_, ?_, fset_same .., ?_⟩
  · rw [fset_ne _ (Ne.symm d3), fset_ne _ (Ne.symm b3), fset_same]
  · rw [fset_ne _ (Ne.symm d4), fset_same]
  · rw [fset_ne _ (Ne.symm d1), fset_ne _ (Ne.symm b1), fset_ne _ (Ne.symm a1)]; exact hx
/-- Behind the question: the stamp is the time. -/
structure Asked (F : Int → Ob) (x y s v p c t : Int) : Prop where
  fs : F s = ⟨4, 1, false, [x, 1, 0, t, 1]⟩
  fv : F v = ⟨4, 2, false, valsR x (-1) c 1⟩
  fp : F p = ⟨4, 3, false, valsR y 0 c 2⟩
  fx : (F x).k = 3 ∧ (F x).ws.length = 2
theorem Asks.asked {F : Int → Ob} {x y s v p c : Int} (h : Asks F x y s v p c) (t : Int) (hx0 : x ≠ 0) (hsv : s ≠ v) (hsp : s ≠ p) (hsx : s ≠ x) : Asked (refF F s t) x y s v p c t := by
  have e : refF F s t = putF F s 3 t := by unfold refF; rw [if_pos]; rw [h.fs]; exact ⟨rfl, hx0⟩
  have hp : ∀ b, b ≠ s → putF F s 3 t b = F b := fun b hb => by unfold putF; exact fset_ne _ hb
  rw [e]
  refine ⟨?_, ?_, ?_, ?_⟩
  · unfold putF; rw [fset_same, h.fs]; rfl
  · rw [hp _ (Ne.symm hsv)]; exact h.fv
  · rw [hp _ (Ne.symm hsp)]; exact h.fp
  · rw [hp _ (Ne.symm hsx)]; exact h.fx
section
variable {F : Int → Ob} {x y s v p c t : Int}
theorem Asked.refv (h : Asked F x y s v p c t) (u : Int) : refF F v u = F ∧ refX (F v) = x := by
  unfold refF refX; rw [h.fv]; exact ⟨if_neg (by simp), by simp [valsR]⟩
theorem Asked.refp (h : Asked F x y s v p c t) (u : Int) : refF F p u = F ∧ refX (F p) = 0 := by
  unfold refF refX; rw [h.fp]; exact ⟨if_neg (by simp), by simp⟩
end
set_option maxRecDepth 100000 in
set_option maxHeartbeats 12800000 in
theorem asks13_walk (c d : Nat) (w : World) (hc : c ≤ 65535) (hd : d ≤ 65535) : Calls Try.prog 11 #[.int .u16 c, .int .u16 d] w fun e w' => e = .returned (.bool true) ∧ Below w.heap.size w w' := by
  go_enter Try.func11, Try.ntmps11
  go_wp2_with fail
  refine (made13 2 1 _ (by omega) (by omega)).mono ?_
  rintro e w1 ⟨h, r, q, v0, l, F, O, rfl, hr, ho, he, hl⟩
  obtain ⟨x, y, rfl⟩ : ∃ x y, l = [x, y] := by
    have := hl.len
    match l, this with
    | [x, y], _ => exact ⟨x, y, rfl⟩
  have HR : Hid (RefO w1 r q h 40 [x, y] F [[]] 0 O) := Lib.hid hr
  have HE := Lib.hid he
  have HX := Lib.hid (hl.kind x (by simp))
  obtain ⟨Oh, hh⟩ := hr.heap
  have HX0 : Hid (x ≠ 0) := Lib.hid (by have := (hh.pos (a := x) (by simp)).1; omega)
  have hx64 : 64 ≤ x ∧ x ≤ 16384 := by have := hh.pos (a := x) (by simp); omega
  obtain ⟨A, cap, hv, hI, _⟩ := ho.own.form
  have hv' : v0 = .slice A 2 cap := hv
  subst hv'
  obtain ⟨b0, off, rfl, hb, _⟩ := Reads.at (k := .i64) hI (rfl : [x, y].length = 2) (by omega : 0 < 2)
  have hc1 : w1.cell? ⟨b0, off, none⟩ = some (.int .i64 x) := owna_cell ho rfl (by omega : 0 < 2)
  have HO := Lib.hid ho
  clear hr ho he hl hI hv hh Oh
  go_wp2_with fail
  refine (refer_yes r q h 40 0 1 x 0 c _ HR.out (by omega) (by simp) (by omega) (by simp) (by simp) (by omega)).mono ?_
  rintro e w2 ⟨s, O2, rfl, ha, hr, hs⟩
  have HR2 : Hid (RefO w2 r q h 40 [x, y, s] (fset F s ⟨4, 1, false, valsR x 0 c 0⟩) [[]] 1 O2) := Lib.hid hr
  have HE2 := Lib.hid (HE.out.step hs)
  have HO2 := Lib.hid (HO.out.step hs)
  have HN1 := Lib.hid ha
  have hc2 : w2.cell? ⟨b0, off, none⟩ = some (.int .i64 x) := owna_cell HO2.out rfl (by omega : 0 < 2)
  clear hr hs hc1 ha
  go_wp2_with fail
  refine (refer_yes r q h 40 1 2 x (-1) c _ HR2.out (by omega) (by simp) (by omega) (by simp) (by simp) (by omega)).mono ?_
  rintro e w3 ⟨v, O3, rfl, ha, hr, hs⟩
  have HR3 : Hid (RefO w3 r q h 40 [x, y, s, v] (fset (fset F s ⟨4, 1, false, valsR x 0 c 0⟩) v ⟨4, 2, false, valsR x (-1) c 1⟩) [[]] 2 O3) := Lib.hid hr
  have HE3 := Lib.hid (HE2.out.step hs)
  have HO3 := Lib.hid (HO2.out.step hs)
  have HN2 := Lib.hid ha
  have hc3 : w3.cell? ⟨b0, off + 1, none⟩ = some (.int .i64 y) := owna_cell HO3.out rfl (by omega : 1 < 2)
  clear hr hs hc2 ha
  go_wp2_with fail
  refine (refer_yes r q h 40 2 3 y 0 c _ HR3.out (by omega) (by simp) (by omega) (by simp) (by simp) (by omega)).mono ?_
  rintro e w4 ⟨p, O4, rfl, ha, hr, hs⟩
  have HR4 : Hid (RefO w4 r q h 40 [x, y, s, v, p] (fset (fset (fset F s ⟨4, 1, false, valsR x 0 c 0⟩) v ⟨4, 2, false, valsR x (-1) c 1⟩) p ⟨4, 3, false, valsR y 0 c 2⟩) [[]] 3 O4) := Lib.hid hr
  have HE4 := Lib.hid (HE3.out.step hs)
  have HO4 := Lib.hid (HO3.out.step hs)
  have HN3 := Lib.hid ha
  have HF4 := Lib.hid (Asks.made c HX.out HN1.out HN2.out HN3.out)
  have HNE : Hid (s ≠ v ∧ s ≠ p ∧ s ≠ x) := Lib.hid (by
    have h1 := HN1.out
    have h2 := HN2.out
    have h3 := HN3.out
    simp only [List.mem_cons, List.not_mem_nil, or_false, not_or] at h1 h2 h3
    exact ⟨Ne.symm h2.2.2, Ne.symm h3.2.2.1, h1.1⟩)
  clear hr hs hc3 ha HR HR2 HR3 HE HE2 HE3 HO HO2 HO3 HN1 HN2 HN3 HX
  generalize fset (fset (fset F s ⟨4, 1, false, valsR x 0 c 0⟩) v ⟨4, 2, false, valsR x (-1) c 1⟩) p ⟨4, 3, false, valsR y 0 c 2⟩ = F4 at *
  go_wp2_with fail
  refine (err_calls 0 _ (by omega)).mono ?_
  rintro e w' ⟨rfl, rfl⟩
  go_wp2_with fail
  refine (err_calls 0 _ (by omega)).mono ?_
  rintro e w' ⟨rfl, rfl⟩
  go_wp2_with fail
  refine (err_calls 0 _ (by omega)).mono ?_
  rintro e w' ⟨rfl, rfl⟩
  obtain ⟨T, hT⟩ : ∃ T : Int, (c : Int) + d = T := ⟨_, rfl⟩
  have HT := Lib.hid hT
  clear hT
  have HFA := Lib.hid (HF4.out.asked T HX0.out HNE.out.1 HNE.out.2.1 HNE.out.2.2)
  have HS0 : Hid (refX (F4 s) = x) := Lib.hid (by rw [HF4.out.fs]; simp [refX, valsR])
  go_wp2_with fail
  simp only [HT.out]
  refine (referent_yes r q h 40 3 s T _ HR4.out (by simp) (by rw [HF4.out.fs])).mono ?_
  rintro e w5 ⟨rfl, O5, hr, hs⟩
  rw [HS0.out]
  have HR5 := Lib.hid hr
  have HE5 := Lib.hid (HE4.out.step hs)
  have HO5 := Lib.hid (HO4.out.step hs)
  clear hr hs HR4 HE4 HO4 HS0 HF4
  generalize refF F4 s T = F5 at *
  have HV5 := Lib.hid (HFA.out.refv T)
  have HP5 := Lib.hid (HFA.out.refp T)
  go_wp2_with fail
  refine (referent_yes r q h 40 3 v T _ HR5.out (by simp) (by rw [HFA.out.fv])).mono ?_
  rintro e w6 ⟨rfl, O6, hr, hs⟩
  rw [HV5.out.2]
  rw [HV5.out.1] at hr
  have HR6 := Lib.hid hr
  have HE6 := Lib.hid (HE5.out.step hs)
  have HO6 := Lib.hid (HO5.out.step hs)
  clear hr hs
  go_wp2_with fail
  refine (referent_yes r q h 40 3 p T _ HR6.out (by simp) (by rw [HFA.out.fp])).mono ?_
  rintro e w7 ⟨rfl, O7, hr, hs⟩
  rw [HP5.out.2]
  rw [HP5.out.1] at hr
  have HR7 := Lib.hid hr
  have HE7 := Lib.hid (HE6.out.step hs)
  have HO7 := Lib.hid (HO6.out.step hs)
  clear hr hs HR5 HE5 HO5 HR6 HE6 HO6 HV5 HP5
  go_wp2_with fail
  refine (ref_get r q h 40 3 s 3 3 T _ HR7.out (by simp) rfl (by rw [HFA.out.fs]; simp) (by rw [HFA.out.fs]; rfl)).mono ?_
  rintro e w8 ⟨rfl, hu⟩
  have HU8 := Lib.hid hu
  clear hu
  go_wp2_with fail
  refine (ref_get r q h 40 3 v 3 3 c _ (HR7.out.upd0 HU8.out) (by simp) rfl (by rw [HFA.out.fv]; simp [valsR]) (by rw [HFA.out.fv]; rfl)).mono ?_
  rintro e w9 ⟨rfl, hu⟩
  have HU9 := Lib.hid (HU8.out.trans hu)
  clear hu
  go_wp2_with fail
  refine (refer_no r 0 0 9 0 1 _ (by omega) ((rmay_arg r 0 0 9 _ (by omega)).mono fun e w' h => ⟨h.1, h.2 ▸ Upd.refl _ _⟩)).mono ?_
  rintro e w10 ⟨rfl, hu⟩
  have HU10 := Lib.hid (HU9.out.trans hu)
  clear hu
  go_wp2_with fail
  refine (refer_no r 2 0 9 0 2 _ (by omega) ((rmay_none r q h 40 3 2 0 9 _ (HR7.out.upd0 HU10.out) (by omega) (by simp)).mono fun e w' h => ⟨h.1, h.2 ▸ Upd.refl _ _⟩)).mono ?_
  rintro e w11 ⟨rfl, hu⟩
  have HU11 := Lib.hid (HU10.out.trans hu)
  clear hu
  go_wp2_with fail
  refine (refer_no r 3 0 (-1) 0 1 _ (by omega) ((rmay_phantom r q h 40 3 0 _ (HR7.out.upd0 HU11.out)).mono fun e w' h => ⟨h.1, h.2 ▸ Upd.refl _ _⟩)).mono ?_
  rintro e w12 ⟨rfl, hu⟩
  have HU12 := Lib.hid (HU11.out.trans hu)
  clear hu
  have hc5 : w12.cell? ⟨b0, off, none⟩ = some (.int .i64 x) := owna_cell (HO7.out.upd0 HU12.out) rfl (by omega : 0 < 2)
  have HIN : Hid (x + 1 ∉ [x, y, s, v, p]) := Lib.hid (by
    obtain ⟨Oh, hh⟩ := HR7.out.heap
    exact hh.inner (by simp) (by omega) (by rw [HFA.out.fx.2]; omega))
  go_wp2_with fail
  refine (refer_no r 2 (x + 1) (-1) 0 2 _ (by omega) (rmay_head r q h 40 3 2 (x + 1) (-1) _ (HR7.out.upd0 HU12.out) (by omega) (by simp) (by omega) HIN.out)).mono ?_
  rintro e w13 ⟨rfl, hu⟩
  have HU13 := Lib.hid (HU12.out.trans hu)
  clear hu hc5
  have hc6 : w13.cell? ⟨b0, off, none⟩ = some (.int .i64 x) := owna_cell (HO7.out.upd0 HU13.out) rfl (by omega : 0 < 2)
  go_wp2_with fail
  refine (referent_no r q h 40 3 x 1 _ (HR7.out.upd0 HU13.out) (.inr ⟨by simp, by rw [HFA.out.fx.1]; simp⟩)).mono ?_
  rintro e w14 ⟨rfl, hu⟩
  have HU14 := Lib.hid (HU13.out.trans hu)
  clear hu hc6
  have hc7 : w14.cell? ⟨b0, off, none⟩ = some (.int .i64 x) := owna_cell (HO7.out.upd0 HU14.out) rfl (by omega : 0 < 2)
  go_wp2_with fail
  refine (referent_nil 64 1 _).mono ?_
  rintro e w' ⟨rfl, rfl⟩
  go_wp2_with fail
  refine (refer_nil 2 64 (-1) 0 _).mono ?_
  rintro e w' ⟨rfl, rfl⟩
  go_wp2_with fail
  refine (err_calls 0 _ (by omega)).mono ?_
  rintro e w' ⟨rfl, rfl⟩
  go_wp2_with fail
  refine (err_calls 0 _ (by omega)).mono ?_
  rintro e w' ⟨rfl, rfl⟩
  go_wp2_with fail
  refine (err_calls 0 _ (by omega)).mono ?_
  rintro e w' ⟨rfl, rfl⟩
  go_wp2_with fail
  refine (err_calls 1 _ (by omega)).mono ?_
  rintro e w' ⟨rfl, rfl⟩
  go_wp2_with fail
  refine (err_calls 2 _ (by omega)).mono ?_
  rintro e w' ⟨rfl, rfl⟩
  go_wp2_with fail
  refine (err_calls 1 _ (by omega)).mono ?_
  rintro e w' ⟨rfl, rfl⟩
  go_wp2_with fail
  refine (err_calls 2 _ (by omega)).mono ?_
  rintro e w' ⟨rfl, rfl⟩
  go_wp2_with fail
  refine (err_calls 5 _ (by omega)).mono ?_
  rintro e w' ⟨rfl, rfl⟩
  go_wp2_with fail
  refine (err_calls 5 _ (by omega)).mono ?_
  rintro e w' ⟨rfl, rfl⟩
  go_wp2_with fail
  refine (err_calls 2 _ (by omega)).mono ?_
  rintro e w' ⟨rfl, rfl⟩
  go_wp2_with fail
  refine (serial_nil _).mono ?_
  rintro e w' ⟨rfl, rfl⟩
  go_wp2_with fail
  refine (ref_new_nil _).mono ?_
  rintro e w' ⟨rfl, rfl⟩
  go_wp2_with fail
  refine (serial_yes r q h 40 3 _ (HR7.out.upd0 HU14.out)).mono ?_
  rintro e w' ⟨rfl, rfl⟩
  go_wp2_with fail
  refine (awake13 _).mono ?_
  rintro e w15 ⟨rfl, hu⟩
  have HU15 := Lib.hid hu
  clear hu
  go_wp2_with fail
  go_ret
  exact ⟨rfl, (HE7.out.upd.trans (HU14.out.trans HU15.out)).below⟩
end Go.Proofs.Ytendjhobemlhoaa
