/- The walk of QueueLinks: at every input the law returns true, and nothing that was there has turned. -/
import Derived.Test.YtendjhobemlhoaaQueueNone
namespace Go.Proofs.Ytendjhobemlhoaa
open Go Go.RowKit

theorem take_push {l : List Int} {j : Nat} (hj : j < l.length) : l.take j ++ [l.getD j 0] = l.take (j + 1) := by
  rw [List.take_succ_eq_append_getElem hj, List.getD_eq_getElem?_getD, List.getElem?_eq_getElem hj]; rfl
theorem not_taken {l : List Int} (hn : l.Nodup) {j : Nat} (hj : j < l.length) : l.getD j 0 ∉ l.take j := fun hm => by
  obtain ⟨i, hi, e⟩ := List.mem_iff_getElem.1 hm
  rw [List.length_take] at hi
  rw [List.getElem_take] at e
  have := nodup_inj hn (i := i) (j := j) (by omega) hj (by rw [List.getD_eq_getElem?_getD, List.getElem?_eq_getElem (by omega : i < l.length)]; exact e)
  omega
theorem row_one (r : List Int) (i : Nat) : ([r].getD i []) = if i = 0 then r else [] := by
  cases i with
  | zero => rfl
  | succ i => rfl
theorem drop_head {l : List Int} {k p : Nat} (hp : p < k) (hk : k ≤ l.length) : (l.take k).drop p = l.getD p 0 :: (l.take k).drop (p + 1) := by
  have hlt : p < (l.take k).length := by rw [List.length_take]; omega
  rw [List.drop_eq_getElem_cons hlt, List.getElem_take, List.getD_eq_getElem?_getD, List.getElem?_eq_getElem (by omega : p < l.length)]
  rfl

set_option maxRecDepth 100000 in
set_option maxHeartbeats 12800000 in
theorem links12_walk (n m : Nat) (w : World) (hn : n ≤ 255) (hm : m ≤ 255) : Calls Try.prog 7 #[.int .u8 n, .int .u8 m] w fun e w' => e = .returned (.bool true) ∧ Below w.heap.size w w' := by
  obtain ⟨K, hK⟩ : ∃ K : Nat, (n : Int) % 20 = K := ⟨n % 20, by omega⟩
  have hK20 : K < 20 := by omega
  obtain ⟨P, hP⟩ : ∃ P : Nat, (m : Int) % ((K : Int) + 1) = P := ⟨((m : Int) % ((K : Int) + 1)).toNat, by have := Int.emod_nonneg (m : Int) (by omega : (K : Int) + 1 ≠ 0); omega⟩
  have hPK : P < K + 1 := by
    have := Int.emod_lt_of_pos (m : Int) (by omega : (0 : Int) < (K : Int) + 1)
    omega
  have HK := Lib.hid hK
  have HP := Lib.hid hP
  clear hK hP
  go_enter Try.func7, Try.ntmps7
  go_wp2_with fail
  refine (heap12 20 _ (by omega)).mono ?_
  rintro e w1 ⟨h, v, l, F, O, rfl, hh, ho, he, hr⟩
  have HND := Lib.hid hh.nodup
  have HH := Lib.hid hh
  have HO := Lib.hid ho
  have HE := Lib.hid he
  have HR := Lib.hid hr
  clear hh ho he hr
  go_wp2_with fail
  refine (queue_new h 40 _ HH.out).mono ?_
  rintro e w2 ⟨q, O2, rfl, hq, hs⟩
  have HQ2 := Lib.hid hq
  have HE2 := Lib.hid (HE.out.step hs)
  have HO2 := Lib.hid (HO.out.step hs)
  clear hq hs
  go_wp2_with fail
  refine (qopen_yes q h 40 _ HQ2.out (by simp)).mono ?_
  rintro e w3 ⟨rfl, O3, hq, hs⟩
  have HQ3 := Lib.hid hq
  have HE3 := Lib.hid (HE2.out.step hs)
  have HO3 := Lib.hid (HO2.out.step hs)
  clear hq hs
  go_wp2_with fail
  simp only [HK.out]
  go_loopg [9] K (fun gk i wr => ∃ (j : Nat) (F : Int → Ob) (O : Nat → Prop), gk = K - j ∧ j ≤ K ∧ i = .int .i64 j ∧ Hid (QueO wr q h 40 l F [l.take j] O) ∧ Hid (OwnA wr w.heap.size v l O) ∧ Hid (Env w wr O) ∧ Hid (Refs12 l F 20))
  case atStart => exact ⟨0, F, O3, rfl, by omega, rfl, by simpa using HQ3, HO3, HE3, HR⟩
  case round =>
    clear HH HO HE HQ2 HE2 HO2 HQ3 HE3 HO3 HR
    obtain ⟨j, F, O, rfl, hj, rfl, HQ, HO, HE, HR⟩ := hrel
    obtain ⟨A, cap, hv, hI, _⟩ := HO.out.own.form
    rw [HR.out.len] at hv
    subst hv
    by_cases hlt : j < K
    · obtain ⟨b, off, rfl, hb, hc⟩ := Reads.at (k := .i64) hI HR.out.len (by omega : j < 20)
      have hx : l.getD j 0 ∈ l := getD_mem (by rw [HR.out.len]; omega)
      have hnt := not_taken HND.out (j := j) (by rw [HR.out.len]; omega)
      have HT := Lib.hid (take_push (l := l) (j := j) (by rw [HR.out.len]; omega))
      have HX := Lib.hid (And.intro hx (And.intro (HR.out.ref _ hx) hnt))
      clear hx hnt hI
      generalize l.getD j 0 = x at *
      go_wp2_with fail
      refine (push_yes q h 40 0 x 0 _ HQ.out rfl (by simp) HX.out.1 HX.out.2.1 (fun i => by rw [row_one]; split <;> simp [HX.out.2.2])).mono ?_
      rintro e w4 ⟨rfl, O4, hq, hs⟩
      have HQ4 : Hid (QueO w4 q h 40 l (pushF F (l.take j) x) [l.take (j + 1)] O4) := Lib.hid (by rw [← HT.out]; exact hq)
      have HE4 := Lib.hid (HE.out.step hs)
      have HO4 := Lib.hid (HO.out.step hs)
      clear hq hs
      go_wp2_with fail
      refine (err_calls 0 _ (by omega)).mono ?_
      rintro e w' ⟨rfl, rfl⟩
      go_wp2_with fail
      go_roundg (K - (j + 1))
      case measure => omega
      case rel => exact ⟨j + 1, _, O4, rfl, by omega, by go_num, HQ4, HO4, HE4, Lib.hid (HR.out.push _ _)⟩
    · obtain rfl : j = K := by omega
      go_wp2_with fail
      simp only [HP.out]
      obtain ⟨K, rfl⟩ : ∃ K, K = j := ⟨_, rfl⟩
      clear hI
      have HLL := Lib.hid HR.out.len
      go_loopg [11] P (fun gk i wr => ∃ (p : Nat) (F : Int → Ob) (O : Nat → Prop), gk = P - p ∧ p ≤ P ∧ i = .int .i64 p ∧ Hid (QueO wr q h 40 l F [(l.take K).drop p] O) ∧ Hid (OwnA wr w.heap.size (.slice A 20 cap) l O) ∧ Hid (Env w wr O))
      case atStart => exact ⟨0, F, O, rfl, by omega, rfl, HQ, HO, HE⟩
      case round =>
        clear HQ HO HE HR
        obtain ⟨p, F, O, rfl, hp, rfl, HQ, HO, HE⟩ := hrel
        by_cases hlt : p < P
        · have HD := Lib.hid (drop_head (l := l) (k := K) (p := p) (by omega) (by rw [HLL.out]; omega))
          go_wp2_with fail
          refine (poll_yes q h 40 0 (l.getD p 0) ((l.take K).drop (p + 1)) 0 _ HQ.out rfl (by simp) HD.out).mono ?_
          rintro e w4 ⟨rfl, O4, hq, hs⟩
          have HQ4 : Hid (QueO w4 q h 40 l (nextF F (l.getD p 0) 0) [(l.take K).drop (p + 1)] O4) := Lib.hid hq
          have HE4 := Lib.hid (HE.out.step hs)
          have HO4 := Lib.hid (HO.out.step hs)
          clear hq hs
          go_wp2_with fail
          go_roundg (P - (p + 1))
          case measure => omega
          case rel => exact ⟨p + 1, _, O4, rfl, by omega, by go_num, HQ4, HO4, HE4⟩
        · obtain rfl : p = P := by omega
          obtain ⟨P, rfl⟩ : ∃ P, P = p := ⟨_, rfl⟩
          go_wp2_with fail
          refine (list_yes q h 40 0 0 _ HQ.out rfl (by simp)).mono ?_
          rintro e w4 ⟨vr, rfl, ho, hu⟩
          have hI1 : IsInts w4 A l := by
            obtain ⟨A', cap', hv', hI', _⟩ := (HO.out.upd0 hu).own.form
            simp only [Value.slice.injEq] at hv'
            rw [hv'.1]; exact hI'
          have ho' : Own w4 wr.heap.size vr ((l.take K).drop P) := ho
          obtain ⟨N, hN⟩ : ∃ N : Nat, ((l.take K).drop P).length = N := ⟨_, rfl⟩
          have hNK : N = K - P := by rw [← hN, List.length_drop, List.length_take, HLL.out]; omega
          have HGET : Hid (∀ i, i < N → ((l.take K).drop P).getD i 0 = l.getD (P + i) 0) := Lib.hid fun i hi => by
            rw [List.getD_eq_getElem?_getD, List.getD_eq_getElem?_getD, List.getElem?_drop, List.getElem?_take_of_lt (by omega)]
          obtain ⟨A2, cap2, hv2, hI2, _⟩ := ho'.form
          rw [hN] at hv2
          subst hv2
          have HI2 := Lib.hid hI2
          have HI := Lib.hid (hI1)
          have hlk := HQ.out.upd0 hu
          obtain ⟨v5, O5, H5, rfl⟩ := hlk
          have HFLD : Hid (∀ k W, k < N → Upd [] w4 W → Calls Try.prog 32 #[.pointer (some ⟨h, 0, none⟩), .int .i64 (((l.take K).drop P).getD k 0), .int .i64 2] W fun e w' => e = .returned (.tuple #[.int .i64 (((l.take K).drop P).getD (k + 1) 0), .int .i64 0]) ∧ Upd [] W w') := Lib.hid fun k W hk hW => by
            have h1 := H5.links.ref 0 (((l.take K).drop P).getD k 0) (getD_mem (by show k < ((l.take K).drop P).length; omega))
            exact get_yes h 40 _ 2 2 _ W (H5.raw.heap.upd0 hW) h1.1 rfl (by omega) (H5.links.link 0 k (by show k < ((l.take K).drop P).length; omega))
          have HEND : Hid (((l.take K).drop P).getD N 0 = 0) := Lib.hid (by rw [List.getD_eq_getElem?_getD, List.getElem?_eq_none (by omega)]; rfl)
          have HE4 := Lib.hid (HE.out.upd0 hu)
          have HN := Lib.hid hN
          have hNi : (K : Int) - P = N := by omega
          have hNP : N + P ≤ K := by omega
          clear hNK
          generalize (l.take K).drop P = R at *
          clear ho ho' hu hI2 hI1 hN HQ HE HO H5
          go_wp2_with fail
          refine (err_calls 0 _ (by omega)).mono ?_
          rintro e w' ⟨rfl, rfl⟩
          go_wp2_with fail
          clear hNi
          go_loopg [14] N (fun gk i wr => ∃ k : Nat, gk = N - k ∧ k ≤ N ∧ i = .int .i64 k ∧ Hid (Upd [] w4 wr))
          case atStart => exact ⟨0, rfl, by omega, rfl, Lib.hid (Upd.refl _ _)⟩
          case round =>
            obtain ⟨k, rfl, hk, rfl, HV⟩ := hrel
            by_cases hlt2 : k < N
            · obtain ⟨b2, o2, rfl, hb2, hd2⟩ := (Reads.upd (k := .i64) HI2.out HV.out (by simp)).at HN.out hlt2
              have hwr : IntKind.i64.wrap ((P : Int) + (k : Int)) = ((P + k : Nat) : Int) := by rw [IntWalk.i64_in _ (by omega)]; omega
              have hP20 : P + k < 20 := by omega
              have hkN := HGET.out k hlt2
              have HF := Lib.hid (fun W hu => HFLD.out k W hlt2 hu)
              have hnext : k + 1 < N ∨ (¬ k + 1 < N ∧ R.getD (k + 1) 0 = 0) := by
                by_cases h1 : k + 1 < N
                · exact .inl h1
                · have : k + 1 = N := by omega
                  exact .inr ⟨h1, by rw [this]; exact HEND.out⟩
              obtain ⟨x, hx⟩ : ∃ x, R.getD k 0 = x := ⟨_, rfl⟩
              rw [hx] at HF hd2 hkN
              have hd1 : ∃ b1 o1, A = some ⟨b1, o1, none⟩ ∧ b1 < wr.heap.size ∧ wr.cell? ⟨b1, o1 + (P + k), none⟩ = some (.int .i64 x) := by
                have := (Reads.upd (k := .i64) HI.out HV.out (by simp)).at HLL.out hP20
                rw [← hkN] at this
                exact this
              obtain ⟨b1, o1, rfl, hb1, hd1⟩ := hd1
              clear hx hkN
              rcases hnext with h1 | ⟨h1, h2⟩
              · obtain ⟨b3, o3, hbb, _, hd3⟩ := (Reads.upd (k := .i64) HI2.out HV.out (by simp)).at HN.out h1
                simp only [Option.some.injEq, Addr.mk.injEq, and_true] at hbb
                obtain ⟨rfl, rfl⟩ := hbb
                generalize R.getD (k + 1) 0 = y at *
                have h1' : (k : Int) + 1 < N := by omega
                go_wp2_with fail
                refine (HF.out _ HV.out).mono ?_
                rintro e w5 ⟨rfl, hu⟩
                have e1 : w5.cell? ⟨b2, o2 + k, none⟩ = some (.int .i64 x) := by rw [hu.cell (p := ⟨b2, o2 + k, none⟩) hb2 (by simp)]; exact hd2
                have e2 : w5.cell? ⟨b1, o1 + (P + k), none⟩ = some (.int .i64 x) := by rw [hu.cell (p := ⟨b1, o1 + (P + k), none⟩) hb1 (by simp)]; exact hd1
                have e3 := fun y (hy : wr.cell? ⟨b2, o2 + (k + 1), none⟩ = some (.int .i64 y)) => (show w5.cell? ⟨b2, o2 + (k + 1), none⟩ = some (.int .i64 y) by rw [hu.cell (p := ⟨b2, o2 + (k + 1), none⟩) hb2 (by simp)]; exact hy)
                have HV5 := Lib.hid (HV.out.trans hu)
                (try have e4 := e3 _ hd3)
                clear hu e3 hd1 hd2 hd3
                go_wp2_with fail
                go_quiet ((go_at_call 17; exact Calls.quiet_of_same ((err_calls 0 _ (by omega)).mono fun e w' h => ⟨h.1, h.2.symm⟩)))
                go_wp2_with fail
                go_roundg (N - (k + 1))
                case measure => omega
                case rel => exact ⟨k + 1, rfl, by omega, by go_num, Lib.hid (HV5.out.drewN nq)⟩
              · rw [h2] at HF
                clear h2
                have h1' : ¬ (k : Int) + 1 < N := by omega
                have hd3 : True := trivial
                go_wp2_with fail
                refine (HF.out _ HV.out).mono ?_
                rintro e w5 ⟨rfl, hu⟩
                have e1 : w5.cell? ⟨b2, o2 + k, none⟩ = some (.int .i64 x) := by rw [hu.cell (p := ⟨b2, o2 + k, none⟩) hb2 (by simp)]; exact hd2
                have e2 : w5.cell? ⟨b1, o1 + (P + k), none⟩ = some (.int .i64 x) := by rw [hu.cell (p := ⟨b1, o1 + (P + k), none⟩) hb1 (by simp)]; exact hd1
                have e3 := fun y (hy : wr.cell? ⟨b2, o2 + (k + 1), none⟩ = some (.int .i64 y)) => (show w5.cell? ⟨b2, o2 + (k + 1), none⟩ = some (.int .i64 y) by rw [hu.cell (p := ⟨b2, o2 + (k + 1), none⟩) hb2 (by simp)]; exact hy)
                have HV5 := Lib.hid (HV.out.trans hu)
                (try have e4 := e3 _ hd3)
                clear hu e3 hd1 hd2 hd3
                go_wp2_with fail
                go_quiet ((go_at_call 17; exact Calls.quiet_of_same ((err_calls 0 _ (by omega)).mono fun e w' h => ⟨h.1, h.2.symm⟩)))
                go_wp2_with fail
                go_roundg (N - (k + 1))
                case measure => omega
                case rel => exact ⟨k + 1, rfl, by omega, by go_num, Lib.hid (HV5.out.drewN nq)⟩
            · obtain rfl : k = N := by omega
              go_wp2_with fail
              refine (awake12 _).mono ?_
              rintro e w9 ⟨rfl, hu⟩
              have HU9 := Lib.hid hu
              clear hu
              go_wp2_with fail
              go_ret
              exact ⟨rfl, ((HE4.out.upd.trans HV.out).trans HU9.out).below⟩
end Go.Proofs.Ytendjhobemlhoaa
