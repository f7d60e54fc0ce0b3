/- The walk of QueueAgain: at every input the law returns true, and nothing that was there has turned. -/
import Derived.Test.YtendjhobemlhoaaQueueNone
namespace Go.Proofs.Ytendjhobemlhoaa
open Go Go.RowKit

theorem two_set {J : Nat} (hJ : J < 2) (r : List Int) : (([[], []] : List (List Int)).set J r).set J [] = [[], []] ∧ (([[], []] : List (List Int)).set J r).getD J [] = r ∧ ∀ i, ([[], []] : List (List Int)).getD i [] = [] := by
  refine ⟨?_, ?_, fun i => ?_⟩
  · have : J = 0 ∨ J = 1 := by omega
    rcases this with rfl | rfl <;> rfl
  · have : J = 0 ∨ J = 1 := by omega
    rcases this with rfl | rfl <;> rfl
  · rcases i with _ | _ | i <;> rfl

theorem owna_cell {w : World} {B : Nat} {b off n cap : Nat} {l : List Int} {O : Nat → Prop} (h : OwnA w B (.slice (some ⟨b, off, none⟩) n cap) l O) (hl : l.length = n) {i : Nat} (hi : i < n) : w.cell? ⟨b, off + i, none⟩ = some (.int .i64 (l.getD i 0)) := by
  obtain ⟨A', cap', hv', hI, _⟩ := h.own.form
  simp only [Value.slice.injEq] at hv'
  obtain ⟨b2, off2, hb2, _, hc⟩ := Reads.at (k := .i64) hI hl hi
  rw [← hv'.1] at hb2
  simp only [Option.some.injEq, Addr.mk.injEq, and_true] at hb2
  rw [hb2.1, hb2.2]
  exact hc
theorem own_one {w : World} {B : Nat} {v : Value} {x : Int} (h : Own w B v [x]) : ∃ g cap, v = .slice (some ⟨g, 0, none⟩) 1 cap ∧ B ≤ g ∧ w.cell? ⟨g, 0, none⟩ = some (.int .i64 x) ∧ w.frozen? ⟨g, 0, none⟩ = false := by
  have h0 := h
  rcases h.2 with ⟨_, h2⟩ | ⟨g, cap, cur, rfl, hb, _⟩
  · simp at h2
  · exact ⟨g, cap, rfl, hb, World.ownsRow.cellAt h0 0 (by simp), World.ownsRow.frozenAt h0 0⟩
set_option maxRecDepth 100000 in
set_option maxHeartbeats 12800000 in
theorem again12_walk (n : Nat) (w : World) (hn : n ≤ 255) : Calls Try.prog 8 #[.int .u8 n] w fun e w' => e = .returned (.bool true) ∧ Below w.heap.size w w' := by
  obtain ⟨M, hM⟩ : ∃ M : Nat, 1 + (n : Int) % 9 = M := ⟨1 + n % 9, by omega⟩
  have hM9 : M < 10 := by omega
  have HM := Lib.hid hM
  clear hM
  go_enter Try.func8, Try.ntmps8
  go_wp2_with fail
  refine (heap12 3 _ (by omega)).mono ?_
  rintro e w1 ⟨h, v, l, F, O, rfl, hh, ho, he, hr⟩
  have HH := Lib.hid hh
  have HO := Lib.hid ho
  have HE := Lib.hid he
  have HR := Lib.hid hr
  have HLL := Lib.hid hr.len
  clear hh ho he hr
  go_wp2_with fail
  refine (queue_new h 40 _ HH.out).mono ?_
  rintro e w2 ⟨q, O2, rfl, hq, hs⟩
  have HQ2 := Lib.hid hq
  have HE2 := Lib.hid (HE.out.step hs)
  have HO2 := Lib.hid (HO.out.step hs)
  clear hq hs
  go_wp2_with fail
  refine (qopen_yes q h 40 _ HQ2.out (by simp)).mono ?_
  rintro e w3 ⟨rfl, O3, hq, hs⟩
  have HQ3 := Lib.hid hq
  have HE3 := Lib.hid (HE2.out.step hs)
  have HO3 := Lib.hid (HO2.out.step hs)
  clear hq hs
  go_wp2_with fail
  refine (qopen_yes q h 40 _ HQ3.out (by simp)).mono ?_
  rintro e w4 ⟨rfl, O4, hq, hs⟩
  have HQ4 : Hid (QueO w4 q h 40 l F [[], []] O4) := Lib.hid hq
  have HE4 := Lib.hid (HE3.out.step hs)
  have HO4 := Lib.hid (HO3.out.step hs)
  clear hq hs
  obtain ⟨A, cap, hv, hI, _⟩ := HO4.out.own.form
  rw [HLL.out] at hv
  subst hv
  clear hI
  go_wp2_with fail
  go_loopg [6] M (fun gk i wr => ∃ (k : Nat) (F : Int → Ob) (O : Nat → Prop), gk = M - k ∧ k ≤ M ∧ i = .int .i64 k ∧ Hid (QueO wr q h 40 l F [[], []] O) ∧ Hid (OwnA wr w.heap.size (.slice A 3 cap) l O) ∧ Hid (Env w wr O) ∧ Hid (Refs12 l F 3))
  case atStart => exact ⟨0, F, O4, rfl, by omega, rfl, HQ4, HO4, HE4, HR⟩
  case round =>
    clear HH HO HE HQ2 HE2 HO2 HQ3 HE3 HO3 HQ4 HE4 HO4 HR
    obtain ⟨k, F, O, rfl, hk, rfl, HQ, HO, HE, HR⟩ := hrel
    by_cases hlt : k < M
    · have hlt' : (k : Int) < 1 + (n : Int) % 9 := by have := HM.out; omega
      obtain ⟨J, hJ⟩ : ∃ J : Nat, (k : Int) % 2 = J := ⟨k % 2, by omega⟩
      obtain ⟨D, hD⟩ : ∃ D : Nat, (k : Int) % 3 = D := ⟨k % 3, by omega⟩
      have hJ2 : J < 2 := by omega
      have hD3 : D < 3 := by omega
      obtain ⟨A', cap', hv', hI, _⟩ := HO.out.own.form
      simp only [Value.slice.injEq] at hv'
      rw [← hv'.1] at hI
      obtain ⟨b, off, rfl, hb, hc⟩ := Reads.at (k := .i64) hI HLL.out hD3
      have hx : l.getD D 0 ∈ l := getD_mem (by rw [HLL.out]; omega)
      have HX := Lib.hid (And.intro hx (HR.out.ref _ hx))
      clear hx hI hv'
      obtain ⟨x, hx⟩ : ∃ x, l.getD D 0 = x := ⟨_, rfl⟩
      rw [hx] at HX hc
      have HXD := Lib.hid hx
      clear hx
      go_wp2_with fail
      refine (push_yes q h 40 J x J _ HQ.out rfl hJ2 HX.out.1 HX.out.2 (fun i => by rw [(two_set hJ2 []).2.2]; simp)).mono ?_
      rintro e w5 ⟨rfl, O5, hq, hs⟩
      rw [(two_set hJ2 []).2.2] at hq
      have HQ5 : Hid (QueO w5 q h 40 l (pushF F [] x) (([[], []] : List (List Int)).set J [x]) O5) := Lib.hid hq
      have HE5 := Lib.hid (HE.out.step hs)
      have HO5 := Lib.hid (HO.out.step hs)
      clear hq hs
      go_wp2_with fail
      refine (list_yes q h 40 J J _ HQ5.out rfl (by simpa using hJ2)).mono ?_
      rintro e w6 ⟨vr, rfl, ho, hu⟩
      rw [(two_set hJ2 [x]).2.1] at ho
      obtain ⟨g, cap2, rfl, hg, g1, g2⟩ := own_one ho
      have c1 := owna_cell (HO5.out.upd0 hu) HLL.out hD3
      rw [HXD.out] at c1
      have HV := Lib.hid hu
      have HG := Lib.hid hg
      clear ho hu hg hc
      go_wp2_with fail
      go_quiet ((go_at_call 17; exact Calls.quiet_of_same ((err_calls 0 _ (by omega)).mono fun e w' h => ⟨h.1, h.2.symm⟩)))
      have HV7 : Hid (Upd [] w5 ((w6.drewN nq).setCell ⟨g, 0, none⟩ (.int .i64 (-1)))) := Lib.hid ((HV.out.drewN nq).setCell (.inr HG.out) _)
      go_wp2_with fail
      refine (poll_yes q h 40 J x [] J _ (HQ5.out.upd0 HV7.out) rfl (by simpa using hJ2) (two_set hJ2 [x]).2.1).mono ?_
      rintro e w8 ⟨rfl, O8, hq, hs⟩
      rw [(two_set hJ2 [x]).1] at hq
      have HQ8 := Lib.hid hq
      have HE8 := Lib.hid ((HE5.out.upd0 HV7.out).step hs)
      have hO8 := (HO5.out.upd0 HV7.out).step hs
      have c2 := owna_cell hO8 HLL.out hD3
      rw [HXD.out] at c2
      have HO8 := Lib.hid hO8
      clear hq hs hO8
      go_wp2_with fail
      refine (err_calls 0 _ (by omega)).mono ?_
      rintro e w' ⟨rfl, rfl⟩
      go_wp2_with fail
      go_roundg (M - (k + 1))
      case measure => omega
      case rel => exact ⟨k + 1, _, O8, rfl, by omega, by go_num, HQ8, HO8, HE8, Lib.hid ((HR.out.push _ _).next _ _)⟩
    · obtain rfl : k = M := by omega
      have hlt' : ¬ (k : Int) < 1 + (n : Int) % 9 := by have := HM.out; omega
      go_wp2_with fail
      refine (awake12 _).mono ?_
      rintro e w9 ⟨rfl, hu⟩
      have HU9 := Lib.hid hu
      clear hu
      go_wp2_with fail
      go_ret
      exact ⟨rfl, (HE.out.upd.trans HU9.out).below⟩
end Go.Proofs.Ytendjhobemlhoaa
