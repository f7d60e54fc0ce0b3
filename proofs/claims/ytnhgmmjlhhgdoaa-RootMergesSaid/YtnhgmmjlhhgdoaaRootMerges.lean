/- The walk of RootMerges: at every input the law returns true, and nothing that was there has turned. -/
import Derived.Test.YtnhgmmjlhhgdoaaWith
namespace Go.Proofs.Ytnhgmmjlhhgdoaa
open Go Go.RowKit

theorem lists_one3 {w : World} {A1 A2 A3 : Option Addr} {c1 c2 c3 : Nat} {xs ys zs : List Int} (h1 : IsInts w A1 xs) (h2 : IsInts w A2 ys) (h3 : IsInts w A3 zs) (n1 : A1 = none → xs.length = 0 ∧ c1 = 0) (n2 : A2 = none → ys.length = 0 ∧ c2 = 0) (n3 : A3 = none → zs.length = 0 ∧ c3 = 0) :
    Lists (w.alloc (.cells #[.slice A1 xs.length c1, .slice A2 ys.length c2, .slice A3 zs.length c3] 22)) (some ⟨w.heap.size, 0, none⟩) [xs, ys, zs] := by
  have hu := (Upd.refl [] w).alloc (.cells #[.slice A1 xs.length c1, .slice A2 ys.length c2, .slice A3 zs.length c3] 22)
  refine lists_blk (Blk.new w 22 _) fun i hi => ?_
  have hi2 : i = 0 ∨ i = 1 ∨ i = 2 := by simp at hi; omega
  rcases hi2 with rfl | rfl | rfl
  · exact ⟨_, _, rfl, Reads.upd h1 hu (by simp), n1⟩
  · exact ⟨_, _, rfl, Reads.upd h2 hu (by simp), n2⟩
  · exact ⟨_, _, rfl, Reads.upd h3 hu (by simp), n3⟩
theorem lists_one2 {w : World} {A1 A2 : Option Addr} {c1 c2 : Nat} {xs ys : List Int} (h1 : IsInts w A1 xs) (h2 : IsInts w A2 ys) (n1 : A1 = none → xs.length = 0 ∧ c1 = 0) (n2 : A2 = none → ys.length = 0 ∧ c2 = 0) :
    Lists (w.alloc (.cells #[.slice A1 xs.length c1, .slice A2 ys.length c2] 22)) (some ⟨w.heap.size, 0, none⟩) [xs, ys] := by
  have hu := (Upd.refl [] w).alloc (.cells #[.slice A1 xs.length c1, .slice A2 ys.length c2] 22)
  refine lists_blk (Blk.new w 22 _) fun i hi => ?_
  have hi2 : i = 0 ∨ i = 1 := by simp at hi; omega
  rcases hi2 with rfl | rfl
  · exact ⟨_, _, rfl, Reads.upd h1 hu (by simp), n1⟩
  · exact ⟨_, _, rfl, Reads.upd h2 hu (by simp), n2⟩
theorem merge_again (xs ys zs : List Int) : mergeZ (mergeZ (xs ++ (ys ++ zs)) ++ xs) = mergeZ (xs ++ (ys ++ zs)) := mergeZ_eq (mergeZ_spec _).1 fun x => by
  rw [List.mem_append, (mergeZ_spec _).2, List.mem_append]
  constructor
  · rintro ⟨h1, h2⟩; exact ⟨.inl ⟨h1, h2⟩, h2⟩
  · rintro ⟨⟨h1, _⟩ | h1, h2⟩
    · exact ⟨h1, h2⟩
    · exact ⟨.inl h1, h2⟩
theorem merge_back (xs ys zs : List Int) : mergeZ (zs ++ (ys ++ xs)) = mergeZ (xs ++ (ys ++ zs)) := mergeZ_eq (mergeZ_spec _).1 fun x => by
  rw [(mergeZ_spec _).2]
  simp only [List.mem_append]
  constructor
  · rintro ⟨h1 | h1 | h1, h2⟩
    · exact ⟨.inr (.inr h1), h2⟩
    · exact ⟨.inr (.inl h1), h2⟩
    · exact ⟨.inl h1, h2⟩
  · rintro ⟨h1 | h1 | h1, h2⟩
    · exact ⟨.inr (.inr h1), h2⟩
    · exact ⟨.inr (.inl h1), h2⟩
    · exact ⟨.inl h1, h2⟩

set_option maxRecDepth 100000 in
theorem rmerges_long (A1 A2 A3 : Option Addr) (n1 n2 n3 c1 c2 c3 : Nat) (w : World) (h : 60 < n1 ∨ 60 < n2 ∨ 60 < n3) :
    Calls Try.prog 7 #[.slice A1 n1 c1, .slice A2 n2 c2, .slice A3 n3 c3] w fun e w' => e = .returned (.bool true) ∧ Below w.heap.size w w' := by
  by_cases h1 : 60 < n1
  · clear h
    go_enter Try.func7, Try.ntmps7
    go_wp2_with fail
    refine (awake11_calls _).mono ?_
    rintro e w9 ⟨rfl, hb⟩
    have HE := Lib.hid hb
    clear hb
    go_wp2_with fail
    go_ret
    exact ⟨rfl, HE.out⟩
  · by_cases h2 : 60 < n2
    · clear h
      go_enter Try.func7, Try.ntmps7
      go_wp2_with fail
      refine (awake11_calls _).mono ?_
      rintro e w9 ⟨rfl, hb⟩
      have HE := Lib.hid hb
      clear hb
      go_wp2_with fail
      go_ret
      exact ⟨rfl, HE.out⟩
    · have h3 : 60 < n3 := by omega
      clear h
      go_enter Try.func7, Try.ntmps7
      go_wp2_with fail
      refine (awake11_calls _).mono ?_
      rintro e w9 ⟨rfl, hb⟩
      have HE := Lib.hid hb
      clear hb
      go_wp2_with fail
      go_ret
      exact ⟨rfl, HE.out⟩

set_option maxRecDepth 100000 in
set_option maxHeartbeats 8000000 in
theorem rmerges_walk (A1 A2 A3 : Option Addr) (n1 n2 n3 c1 c2 c3 : Nat) (xs ys zs : List Int) (w : World) (h1 : xs.length = n1) (h2 : ys.length = n2) (h3 : zs.length = n3) (hA1 : Reads w .i64 A1 xs) (hA2 : Reads w .i64 A2 ys) (hA3 : Reads w .i64 A3 zs)
    (hN1 : A1 = none → n1 = 0 ∧ c1 = 0) (hN2 : A2 = none → n2 = 0 ∧ c2 = 0) (hN3 : A3 = none → n3 = 0 ∧ c3 = 0)
    (hb1 : ∀ v ∈ xs, -9223372036854775808 ≤ v ∧ v ≤ 9223372036854775807) (hb2 : ∀ v ∈ ys, -9223372036854775808 ≤ v ∧ v ≤ 9223372036854775807) (hb3 : ∀ v ∈ zs, -9223372036854775808 ≤ v ∧ v ≤ 9223372036854775807) :
    Calls Try.prog 7 #[.slice A1 n1 c1, .slice A2 n2 c2, .slice A3 n3 c3] w fun e w' => e = .returned (.bool true) ∧ Below w.heap.size w w' := by
  by_cases hlong : 60 < n1 ∨ 60 < n2 ∨ 60 < n3
  · exact rmerges_long A1 A2 A3 n1 n2 n3 c1 c2 c3 w hlong
  have l1 : n1 ≤ 60 := by omega
  have l2 : n2 ≤ 60 := by omega
  have l3 : n3 ≤ 60 := by omega
  clear hlong
  have N1 : A1 = none → xs.length = 0 ∧ c1 = 0 := by rw [h1]; exact hN1
  have N2 : A2 = none → ys.length = 0 ∧ c2 = 0 := by rw [h2]; exact hN2
  have N3 : A3 = none → zs.length = 0 ∧ c3 = 0 := by rw [h3]; exact hN3
  have hf1 : ([xs, ys, zs] : List (List Int)).flatten = xs ++ (ys ++ zs) := by simp
  have hf3 : ([zs, ys, xs] : List (List Int)).flatten = zs ++ (ys ++ xs) := by simp
  have ht1 : total [xs, ys, zs] ≤ 180 := by unfold total; rw [hf1]; simp; omega
  have ht3 : total [zs, ys, xs] ≤ 180 := by unfold total; rw [hf3]; simp; omega
  have hme := merge_again xs ys zs
  have hmb := merge_back xs ys zs
  have hml := mergeZ_length (xs ++ (ys ++ zs))
  obtain ⟨M, hM⟩ : ∃ M, mergeZ (xs ++ (ys ++ zs)) = M := ⟨_, rfl⟩
  rw [hM] at hme hmb hml
  have hml2 : M.length ≤ 180 := by simp at hml; omega
  obtain ⟨m, hm⟩ : ∃ m, M.length = m := ⟨_, rfl⟩
  have hmm : m ≤ 180 := by omega
  have HM := Lib.hid hm
  have K1 := fun (W : World) (u : Upd [] w W) => by
    have := merge_calls (some ⟨W.heap.size, 0, none⟩) 3 3 [xs, ys, zs] _ rfl (lists_one3 (c1 := c1) (c2 := c2) (c3 := c3) (Reads.upd hA1 u (by simp)) (Reads.upd hA2 u (by simp)) (Reads.upd hA3 u (by simp)) N1 N2 N3) (by omega) (by omega)
    rw [hf1, hM, h1, h2, h3] at this
    exact this
  have K2 := fun (W : World) (u : Upd [] w W) => by
    have := rmerge_calls (some ⟨W.heap.size, 0, none⟩) 3 3 [xs, ys, zs] _ rfl (lists_one3 (c1 := c1) (c2 := c2) (c3 := c3) (Reads.upd hA1 u (by simp)) (Reads.upd hA2 u (by simp)) (Reads.upd hA3 u (by simp)) N1 N2 N3) (by omega) (by omega) (fun l hl x hx => by
      simp only [List.mem_cons, List.not_mem_nil, or_false] at hl
      rcases hl with rfl | rfl | rfl
      · exact hb1 x hx
      · exact hb2 x hx
      · exact hb3 x hx)
    rw [hf1, hM, h1, h2, h3, hm] at this
    exact this
  have K3 := fun (W : World) (u : Upd [] w W) => by
    have := merge_calls (some ⟨W.heap.size, 0, none⟩) 3 3 [zs, ys, xs] _ rfl (lists_one3 (c1 := c3) (c2 := c2) (c3 := c1) (Reads.upd hA3 u (by simp)) (Reads.upd hA2 u (by simp)) (Reads.upd hA1 u (by simp)) N3 N2 N1) (by omega) (by omega)
    rw [hf3, hmb, h1, h2, h3] at this
    exact this
  have K4 := fun (W : World) (u : Upd [] w W) (A : Option Addr) (c : Nat) (hA : IsInts W A M) (hN : A = none → M.length = 0 ∧ c = 0) => by
    have := merge_calls (some ⟨W.heap.size, 0, none⟩) 2 2 [M, xs] _ rfl (lists_one2 (c1 := c) (c2 := c1) hA (Reads.upd hA1 u (by simp)) hN N1) (by unfold total; simp; omega) (by omega)
    rw [show ([M, xs] : List (List Int)).flatten = M ++ xs from by simp, hme, h1, hm] at this
    exact this
  have K5 := fun (W : World) => by
    have := merge_calls none 0 0 [] W rfl (.inl rfl) (by decide) (by omega)
    rw [show ([] : List (List Int)).flatten = [] from rfl, mergeZ_nil] at this
    exact this
  have HK1 := Lib.hid K1
  have HK2 := Lib.hid K2
  have HK3 := Lib.hid K3
  have HK4 := Lib.hid K4
  have HK5 := Lib.hid K5
  clear K1 K2 K3 K4 K5 hA1 hA2 hA3 hN1 hN2 hN3 N1 N2 N3 hb1 hb2 hb3 hf1 hf3 ht1 ht3 hme hmb hml hml2 hM hm h1 h2 h3
  go_enter Try.func7, Try.ntmps7
  go_wp2_with fail
  refine (HK1.out w (Upd.refl _ _)).mono ?_
  rintro e w1 ⟨v, rfl, hO, hu⟩
  obtain ⟨Av, cv, hv, hI, hN⟩ := hO.form
  rw [HM.out] at hv
  subst hv
  have HI := Lib.hid hI
  have HN := Lib.hid hN
  have HU := Lib.hid (((Upd.refl [] w).alloc _).step hu (by simp))
  clear hO hu hI hN
  go_wp2_with fail
  refine (HK2.out w1 HU.out).mono ?_
  rintro e w2 ⟨A2', c2', rfl, hI2, hu⟩
  have hu1 := ((Upd.refl [] w1).alloc (.cells #[.slice A1 n1 c1, .slice A2 n2 c2, .slice A3 n3 c3] 22)).step hu (by simp)
  have HI2 := Lib.hid hI2
  have HIv2 := Lib.hid (Reads.upd HI.out hu1 (by simp))
  have HU2 := Lib.hid (HU.out.step hu1 (by simp))
  clear hu hu1 hI2
  go_wp2_with fail
  refine (same_calls Av A2' m m cv c2' M M w2 HM.out HM.out HIv2.out HI2.out (by omega) (by omega)).mono ?_
  rintro e w' ⟨rfl, q1, rfl⟩
  have hd : decide (M = M) = true := decide_eq_true rfl
  rw [hd]
  have HIv3 : Hid (IsInts (w2.drewN q1) Av M) := Lib.hid HIv2.out
  have HU3 : Hid (Upd [] w (w2.drewN q1)) := Lib.hid (HU2.out.drewN q1)
  obtain ⟨w3, hw3⟩ : ∃ w3, w2.drewN q1 = w3 := ⟨_, rfl⟩
  rw [hw3] at HIv3 HU3 ⊢
  clear hw3 HI2 HIv2 HU2 hd
  go_wp2_with fail
  refine (HK4.out w3 HU3.out Av cv HIv3.out HN.out).mono ?_
  rintro e w4 ⟨v4, rfl, hO, hu⟩
  obtain ⟨A4, c4, hv, hI4, _⟩ := hO.form
  rw [HM.out] at hv
  subst hv
  have hu1 := ((Upd.refl [] w3).alloc (.cells #[.slice Av m cv, .slice A1 n1 c1] 22)).step hu (by simp)
  have HI4 := Lib.hid hI4
  have HIv4 := Lib.hid (Reads.upd HIv3.out hu1 (by simp))
  have HU4 := Lib.hid (HU3.out.step hu1 (by simp))
  clear hO hu hI4 hu1
  go_wp2_with fail
  refine (same_calls A4 Av m m c4 cv M M w4 HM.out HM.out HI4.out HIv4.out (by omega) (by omega)).mono ?_
  rintro e w' ⟨rfl, q2, rfl⟩
  have hd : decide (M = M) = true := decide_eq_true rfl
  rw [hd]
  have HIv5 : Hid (IsInts (w4.drewN q2) Av M) := Lib.hid HIv4.out
  have HU5 : Hid (Upd [] w (w4.drewN q2)) := Lib.hid (HU4.out.drewN q2)
  obtain ⟨w5, hw5⟩ : ∃ w5, w4.drewN q2 = w5 := ⟨_, rfl⟩
  rw [hw5] at HIv5 HU5 ⊢
  clear hw5 HI4 HIv4 HU4 hd
  go_wp2_with fail
  refine (HK3.out w5 HU5.out).mono ?_
  rintro e w6 ⟨v6, rfl, hO, hu⟩
  obtain ⟨A6, c6, hv, hI6, _⟩ := hO.form
  rw [HM.out] at hv
  subst hv
  have hu1 := ((Upd.refl [] w5).alloc (.cells #[.slice A3 n3 c3, .slice A2 n2 c2, .slice A1 n1 c1] 22)).step hu (by simp)
  have HI6 := Lib.hid hI6
  have HIv6 := Lib.hid (Reads.upd HIv5.out hu1 (by simp))
  have HU6 := Lib.hid (HU5.out.step hu1 (by simp))
  clear hO hu hI6 hu1
  go_wp2_with fail
  refine (same_calls A6 Av m m c6 cv M M w6 HM.out HM.out HI6.out HIv6.out (by omega) (by omega)).mono ?_
  rintro e w' ⟨rfl, q3, rfl⟩
  have hd : decide (M = M) = true := decide_eq_true rfl
  rw [hd]
  have HU7 : Hid (Upd [] w (w6.drewN q3)) := Lib.hid (HU6.out.drewN q3)
  obtain ⟨w7, hw7⟩ : ∃ w7, w6.drewN q3 = w7 := ⟨_, rfl⟩
  rw [hw7] at HU7 ⊢
  clear hw7 hd
  go_wp2_with fail
  refine (HK5.out w7).mono ?_
  rintro e w8 ⟨v8, rfl, hO, hu⟩
  obtain ⟨A8, c8, hv⟩ := Own.empty_form hO
  subst hv
  have HU8 := Lib.hid (HU7.out.step hu (by simp))
  clear hO hu
  go_wp2_with fail
  refine (awake11_calls _).mono ?_
  rintro e w9 ⟨rfl, hb⟩
  have HE := Lib.hid (HU8.out.step (Upd.of_below hb : Upd [] _ _) (by simp))
  clear hb
  go_wp2_with fail
  go_ret
  exact ⟨rfl, HE.out.below⟩
end Go.Proofs.Ytnhgmmjlhhgdoaa
