/- The walk of RefOnce: at every input the law returns true, and nothing that was there has turned. -/
import Derived.Test.YtendjhobemlhoaaRLaw
namespace Go.Proofs.Ytendjhobemlhoaa
open Go Go.RowKit

/-- A reference that was put to its queue, and one that has none. -/
structure Once (F : Int → Ob) (a b : Int) : Prop where
  ka : (F a).k = 4
  kb : (F b).k = 4
  a0 : (F a).ws.getD 0 0 = 0
  a1 : (F a).ws.getD 1 0 = -1
  b1 : (F b).ws.getD 1 0 = 0
theorem Once.clear {F : Int → Ob} {a b : Int} (h : Once F a b) (z : Int) : Once (clearF F [z]) a b :=
  ⟨by rw [clearF_k]; exact h.ka, by rw [clearF_k]; exact h.kb, by rw [clearF_get]; split; rfl; exact h.a0, by rw [clearF_get, if_neg (by omega)]; exact h.a1, by rw [clearF_get, if_neg (by omega)]; exact h.b1⟩
theorem Once.next {F : Int → Ob} {a b : Int} (h : Once F a b) (z x : Int) : Once (nextF F z x) a b :=
  ⟨by rw [nextF_k]; exact h.ka, by rw [nextF_k]; exact h.kb, by rw [nextF_get, if_neg (by omega)]; exact h.a0, by rw [nextF_get, if_neg (by omega)]; exact h.a1, by rw [nextF_get, if_neg (by omega)]; exact h.b1⟩
theorem Once.made (F : Int → Ob) {a b x : Int} (s t : Int) (hab : b ≠ a) : Once (enqF (fset (fset F a ⟨4, s, false, valsR x 0 1 0⟩) b ⟨4, t, false, valsR x (-1) 1 1⟩) [] a) a b := by
  have ha : fset (fset F a ⟨4, s, false, valsR x 0 1 0⟩) b ⟨4, t, false, valsR x (-1) 1 1⟩ a = ⟨4, s, false, valsR x 0 1 0⟩ := by rw [fset_ne _ (Ne.symm hab), fset_same]
  have hb : fset (fset F a ⟨4, s, false, valsR x 0 1 0⟩) b ⟨4, t, false, valsR x (-1) 1 1⟩ b = ⟨4, t, false, valsR x (-1) 1 1⟩ := fset_same ..
  generalize fset (fset F a ⟨4, s, false, valsR x 0 1 0⟩) b ⟨4, t, false, valsR x (-1) 1 1⟩ = G at *
  unfold enqF pushF
  rw [if_pos rfl]
  refine ⟨?_, ?_, ?_, ?_, ?_⟩
  · rw [putF_k, nextF_k, clearF_k, ha]
  · rw [putF_k, nextF_k, clearF_k, hb]
  · rw [putF_get, if_neg (by omega), nextF_get, if_neg (by omega), clearF_get, if_pos (by simp)]
  · rw [putF_get, if_pos ⟨rfl, rfl, by rw [nextF_len, clearF_len, ha]; simp [valsR]⟩]
  · rw [putF_get, if_neg (fun e => hab e.1), nextF_get, if_neg (by omega), clearF_get, if_neg (by omega), hb]; rfl

set_option maxRecDepth 100000 in
set_option maxHeartbeats 12800000 in
theorem once13_walk (s n : Nat) (p : Bool) (w : World) (hs : s ≤ 255) (hn : n ≤ 255) : Calls Try.prog 15 #[.int .u8 s, .int .u8 n, .bool p] w fun e w' => e = .returned (.bool true) ∧ Below w.heap.size w w' := by
  obtain ⟨S, hS⟩ : ∃ S : Nat, 1 + (s : Int) % 3 = S := ⟨1 + s % 3, by omega⟩
  obtain ⟨T, hT⟩ : ∃ T : Nat, 1 + (s : Int) % 2 = T := ⟨1 + s % 2, by omega⟩
  obtain ⟨N, hN⟩ : ∃ N : Nat, (n : Int) % 9 = N := ⟨n % 9, by omega⟩
  have hS3 : 1 ≤ (S : Int) ∧ (S : Int) ≤ 3 := by omega
  have hT3 : 1 ≤ (T : Int) ∧ (T : Int) ≤ 2 := by omega
  have hN9 : N < 9 := by omega
  have HS := Lib.hid hS
  have HT := Lib.hid hT
  have HN := Lib.hid hN
  have HSB := Lib.hid hS3
  have HTB := Lib.hid hT3
  clear hS hT hN hS3 hT3
  go_enter Try.func15, Try.ntmps15
  go_wp2_with fail
  refine (made13 1 1 _ (by omega) (by omega)).mono ?_
  rintro e w1 ⟨h, r, q, v, l, F, O, rfl, hr, ho, he, hl⟩
  obtain ⟨x, rfl⟩ : ∃ x, l = [x] := List.length_eq_one_iff.1 hl.len
  have HR : Hid (RefO w1 r q h 40 [x] F [[]] 0 O) := Lib.hid hr
  have HE := Lib.hid he
  obtain ⟨A, cap, hv, hI, _⟩ := ho.own.form
  have hv' : v = .slice A 1 cap := hv
  subst hv'
  obtain ⟨b0, off, rfl, hb, hc⟩ := Reads.at (k := .i64) hI (rfl : [x].length = 1) (by omega : 0 < 1)
  have hc' : w1.cell? ⟨b0, off, none⟩ = some (.int .i64 x) := hc
  have HO := Lib.hid ho
  clear hr ho he hl hI hv hc
  go_wp2_with fail
  simp only [HS.out]
  refine (refer_yes r q h 40 0 S x 0 1 _ HR.out (by have := HSB.out; omega) (by simp) (by omega) (by simp) (by simp) (by omega)).mono ?_
  rintro e w2 ⟨a, O2, rfl, ha, hr, hs⟩
  have HR2 : Hid (RefO w2 r q h 40 [x, a] (fset F a ⟨4, S, false, valsR x 0 1 0⟩) [[]] 1 O2) := Lib.hid hr
  have HE2 := Lib.hid (HE.out.step hs)
  have HO2 := HO.out.step hs
  have hc2 : w2.cell? ⟨b0, off, none⟩ = some (.int .i64 x) := owna_cell HO2 rfl (by omega : 0 < 1)
  clear hr hs hc' HO2
  go_wp2_with fail
  simp only [HT.out]
  refine (refer_yes r q h 40 1 T x (-1) 1 _ HR2.out (by have := HTB.out; omega) (by simp) (by have := HTB.out; omega) (by simp) (by simp) (by omega)).mono ?_
  rintro e w3 ⟨b, O3, rfl, hb3, hr, hs⟩
  have HR3 : Hid (RefO w3 r q h 40 [x, a, b] (fset (fset F a ⟨4, S, false, valsR x 0 1 0⟩) b ⟨4, T, false, valsR x (-1) 1 1⟩) [[]] 2 O3) := Lib.hid hr
  have HE3 := Lib.hid (HE2.out.step hs)
  have hba : b ≠ a := fun e => hb3 (by rw [e]; simp)
  have HBA := Lib.hid hba
  clear hr hs hb3 hba ha
  go_wp2_with fail
  refine (err_calls 0 _ (by omega)).mono ?_
  rintro e w' ⟨rfl, rfl⟩
  go_wp2_with fail
  refine (err_calls 0 _ (by omega)).mono ?_
  rintro e w' ⟨rfl, rfl⟩
  have HFA : Hid (fset (fset F a ⟨4, S, false, valsR x 0 1 0⟩) b ⟨4, T, false, valsR x (-1) 1 1⟩ a = ⟨4, S, false, valsR x 0 1 0⟩) := Lib.hid (by rw [fset_ne _ (Ne.symm HBA.out), fset_same])
  go_wp2_with fail
  refine (enqueue_yes r q h 40 2 a 0 _ HR3.out (by simp) (by rw [HFA.out]) (by rw [HFA.out]; rfl) (by simp) (fun i => by rw [row_one]; simp)).mono ?_
  rintro e w4 ⟨rfl, O4, hr, hs⟩
  have HR4 : Hid (RefO w4 r q h 40 [x, a, b] (enqF (fset (fset F a ⟨4, S, false, valsR x 0 1 0⟩) b ⟨4, T, false, valsR x (-1) 1 1⟩) [] a) [[a]] 2 O4) := Lib.hid hr
  have HE4 := Lib.hid (HE3.out.step hs)
  have HF4 := Lib.hid (Once.made F (x := x) S T HBA.out)
  clear hr hs HFA
  generalize enqF (fset (fset F a ⟨4, S, false, valsR x 0 1 0⟩) b ⟨4, T, false, valsR x (-1) 1 1⟩) [] a = F4 at *
  obtain ⟨c0, c1, c2, c3⟩ := HR4.out.cells
  clear HR HE HR2 HE2 HR3 HE3 HO hc2
  cases p
  · have HR6 := HR4
    have HE6 := HE4
    have HF6 := HF4
    clear HR4 HE4 HF4
    go_wp2_with fail
    refine (err_calls 0 _ (by omega)).mono ?_
    rintro e w' ⟨rfl, rfl⟩
    clear c0 c1 c2 c3
    go_wp2_with fail
    go_loopg [18] N (fun gk i wr => ∃ (k : Nat) (F : Int → Ob) (O : Nat → Prop), gk = N - k ∧ k ≤ N ∧ i = .int .i64 k ∧ Hid (RefO wr r q h 40 [x, a, b] F [[a]] 2 O) ∧ Hid (Env w wr O) ∧ Hid (Once F a b))
    case atStart => exact ⟨0, _, _, rfl, by omega, rfl, HR6, HE6, HF6⟩
    case round =>
      clear HR6 HE6 HF6
      obtain ⟨k, F, O, rfl, hk, rfl, HR, HE, HF⟩ := hrel
      by_cases hlt : k < N
      · have hlt' : (k : Int) < (n : Int) % 9 := by have := HN.out; omega
        go_wp2_with fail
        refine (enqueue_none r q h 40 2 a (-1) _ HR.out (by simp) HF.out.ka HF.out.a1 (by omega)).mono ?_
        rintro e w7 ⟨rfl, O7, hr, hs⟩
        have HR7 := Lib.hid hr
        have HE7 := Lib.hid (HE.out.step hs)
        have HF7 := Lib.hid (HF.out.clear a)
        clear hr hs
        go_wp2_with fail
        refine (enqueue_none r q h 40 2 b 0 _ HR7.out (by simp) HF7.out.kb HF7.out.b1 (by omega)).mono ?_
        rintro e w8 ⟨rfl, O8, hr, hs⟩
        have HR8 := Lib.hid hr
        have HE8 := Lib.hid (HE7.out.step hs)
        have HF8 := Lib.hid (HF7.out.clear b)
        clear hr hs
        go_wp2_with fail
        refine (err_calls 0 _ (by omega)).mono ?_
        rintro e w' ⟨rfl, rfl⟩
        go_wp2_with fail
        refine (err_calls 0 _ (by omega)).mono ?_
        rintro e w' ⟨rfl, rfl⟩
        go_wp2_with fail
        go_roundg (N - (k + 1))
        case measure => omega
        case rel => exact ⟨k + 1, _, O8, rfl, by omega, by go_num, HR8, HE8, HF8⟩
      · obtain rfl : k = N := by omega
        have hlt' : ¬ (k : Int) < (n : Int) % 9 := by have := HN.out; omega
        have HX : Hid (refX (F a) = 0) := Lib.hid (by unfold refX; split; rfl; exact HF.out.a0)
        go_wp2_with fail
        refine (referent_yes r q h 40 2 a 5 _ HR.out (by simp) HF.out.ka).mono ?_
        rintro e w7 ⟨rfl, O7, hr, hs⟩
        have HR7 := Lib.hid hr
        have HE7 := Lib.hid (HE.out.step hs)
        rw [HX.out]
        obtain ⟨c0, c1, c2, c3⟩ := hr.cells
        clear hr hs
        go_wp2_with fail
        refine (ref_list r q h 40 2 0 0 _ HR7.out rfl (by simp)).mono ?_
        rintro e w8 ⟨vr, rfl, ho, hu⟩
        have ho' : Own w8 w7.heap.size vr [a] := ho
        obtain ⟨A2, cap2, hv2, _, _⟩ := ho'.form
        have hv3 : vr = .slice A2 1 cap2 := hv2
        subst hv3
        have HE8 := Lib.hid (HE7.out.upd0 hu)
        clear ho ho' hv2 hu
        go_wp2_with fail
        refine (err_calls 0 _ (by omega)).mono ?_
        rintro e w' ⟨rfl, rfl⟩
        go_wp2_with fail
        refine (err_calls 0 _ (by omega)).mono ?_
        rintro e w' ⟨rfl, rfl⟩
        go_wp2_with fail
        refine (awake13 _).mono ?_
        rintro e w9 ⟨rfl, hu⟩
        have HU9 := Lib.hid hu
        clear hu
        go_wp2_with fail
        go_ret
        exact ⟨rfl, (HE8.out.upd.trans HU9.out).below⟩
  · go_wp2_with fail
    refine (err_calls 0 _ (by omega)).mono ?_
    rintro e w' ⟨rfl, rfl⟩
    go_wp2_with fail
    refine (ref_poll r q h 40 2 0 a [] 0 _ HR4.out rfl (by simp) rfl).mono ?_
    rintro e w5 ⟨rfl, O5, hr, hs⟩
    have HR6 : Hid (RefO w5 r q h 40 [x, a, b] (nextF F4 a 0) [[]] 2 O5) := Lib.hid hr
    have HE6 := Lib.hid (HE4.out.step hs)
    have HF6 := Lib.hid (HF4.out.next a 0)
    clear hr hs HR4 HE4 HF4 c0 c1 c2 c3
    go_wp2_with fail
    refine (err_calls 0 _ (by omega)).mono ?_
    rintro e w' ⟨rfl, rfl⟩
    go_wp2_with fail
    go_loopg [18] N (fun gk i wr => ∃ (k : Nat) (F : Int → Ob) (O : Nat → Prop), gk = N - k ∧ k ≤ N ∧ i = .int .i64 k ∧ Hid (RefO wr r q h 40 [x, a, b] F [[]] 2 O) ∧ Hid (Env w wr O) ∧ Hid (Once F a b))
    case atStart => exact ⟨0, _, _, rfl, by omega, rfl, HR6, HE6, HF6⟩
    case round =>
      clear HR6 HE6 HF6
      obtain ⟨k, F, O, rfl, hk, rfl, HR, HE, HF⟩ := hrel
      by_cases hlt : k < N
      · have hlt' : (k : Int) < (n : Int) % 9 := by have := HN.out; omega
        go_wp2_with fail
        refine (enqueue_none r q h 40 2 a (-1) _ HR.out (by simp) HF.out.ka HF.out.a1 (by omega)).mono ?_
        rintro e w7 ⟨rfl, O7, hr, hs⟩
        have HR7 := Lib.hid hr
        have HE7 := Lib.hid (HE.out.step hs)
        have HF7 := Lib.hid (HF.out.clear a)
        clear hr hs
        go_wp2_with fail
        refine (enqueue_none r q h 40 2 b 0 _ HR7.out (by simp) HF7.out.kb HF7.out.b1 (by omega)).mono ?_
        rintro e w8 ⟨rfl, O8, hr, hs⟩
        have HR8 := Lib.hid hr
        have HE8 := Lib.hid (HE7.out.step hs)
        have HF8 := Lib.hid (HF7.out.clear b)
        clear hr hs
        go_wp2_with fail
        refine (err_calls 0 _ (by omega)).mono ?_
        rintro e w' ⟨rfl, rfl⟩
        go_wp2_with fail
        refine (err_calls 0 _ (by omega)).mono ?_
        rintro e w' ⟨rfl, rfl⟩
        go_wp2_with fail
        go_roundg (N - (k + 1))
        case measure => omega
        case rel => exact ⟨k + 1, _, O8, rfl, by omega, by go_num, HR8, HE8, HF8⟩
      · obtain rfl : k = N := by omega
        have hlt' : ¬ (k : Int) < (n : Int) % 9 := by have := HN.out; omega
        have HX : Hid (refX (F a) = 0) := Lib.hid (by unfold refX; split; rfl; exact HF.out.a0)
        go_wp2_with fail
        refine (referent_yes r q h 40 2 a 5 _ HR.out (by simp) HF.out.ka).mono ?_
        rintro e w7 ⟨rfl, O7, hr, hs⟩
        have HR7 := Lib.hid hr
        have HE7 := Lib.hid (HE.out.step hs)
        rw [HX.out]
        obtain ⟨c0, c1, c2, c3⟩ := hr.cells
        clear hr hs
        go_wp2_with fail
        refine (ref_list r q h 40 2 0 0 _ HR7.out rfl (by simp)).mono ?_
        rintro e w8 ⟨vr, rfl, ho, hu⟩
        have ho' : Own w8 w7.heap.size vr [] := ho
        obtain ⟨A2, cap2, hv2, _, _⟩ := ho'.form
        have hv3 : vr = .slice A2 0 cap2 := hv2
        subst hv3
        have HE8 := Lib.hid (HE7.out.upd0 hu)
        clear ho ho' hv2 hu
        go_wp2_with fail
        refine (err_calls 0 _ (by omega)).mono ?_
        rintro e w' ⟨rfl, rfl⟩
        go_wp2_with fail
        refine (err_calls 0 _ (by omega)).mono ?_
        rintro e w' ⟨rfl, rfl⟩
        go_wp2_with fail
        refine (awake13 _).mono ?_
        rintro e w9 ⟨rfl, hu⟩
        have HU9 := Lib.hid hu
        clear hu
        go_wp2_with fail
        go_ret
        exact ⟨rfl, (HE8.out.upd.trans HU9.out).below⟩
end Go.Proofs.Ytendjhobemlhoaa
