/- The walk of BitsEnds, and of layer 2's example: at every input the law returns true, and nothing that was there has turned. -/
import Derived.Test.YtnphkgiiondjkaaBits2
import Derived.Test.YtnphkgiiondjkaaArenaTwo
namespace Go.Proofs.Ytnphkgiiondjkaa
open Go Go.RowKit

theorem rep_get (m i : Nat) : (List.replicate m false).getD i false = false := by
  rw [List.getD_eq_getElem?_getD, List.getElem?_replicate]
  split <;> rfl
theorem one_get (m j i : Nat) (h : j < m) : ((List.replicate m false).set j true).getD i false = decide (i = j) := by
  rw [List.getD_eq_getElem?_getD, List.getElem?_set]
  by_cases hij : j = i
  · subst hij; simp [h]
  · rw [if_neg hij, List.getElem?_replicate]
    have : ¬ i = j := fun h => hij h.symm
    split <;> simp [this]
section
variable {m : Nat}
theorem rep_true (x : Int) : nextZ (List.replicate m false) true x = -1 := nextZ_eq (.inl ⟨rfl, fun j _ _ => by rw [rep_get]; simp⟩)
theorem rep_false {x : Int} (h : x ≤ 0) (hm : 1 ≤ m) : nextZ (List.replicate m false) false x = 0 := nextZ_eq (.inr ⟨0, rfl, by omega, by simp; omega, rep_get _ _, fun j h1 h2 => by omega⟩)
theorem next_past {l : List Bool} {is : Bool} {x : Int} (h : l.length ≤ x) : nextZ l is x = -1 := nextZ_eq (.inl ⟨rfl, fun j h1 h2 => by omega⟩)
theorem rep_run {x : Int} {K : Nat} (h : x ≤ 0) (h1 : 1 ≤ K) (hm : K ≤ m) : runZ (List.replicate m false) x K = 0 := runZ_eq (by omega) (.inr ⟨0, rfl, by omega, by simp; omega, fun j _ _ => rep_get _ _, fun j h1 h2 => by omega⟩)
theorem run_past {l : List Bool} {x k : Int} (hk : 1 ≤ k) (h : l.length ≤ x) : runZ l x k = -1 := runZ_eq hk (.inl ⟨rfl, fun a h1 h2 => by omega⟩)
theorem run_long {l : List Bool} {x k : Int} (h : l.length < k) : runZ l x k = -1 := runZ_eq (by omega) (.inl ⟨rfl, fun a h1 h2 => by omega⟩)
variable {j : Nat}
theorem one_true {x : Int} (hj : j < m) (h : x ≤ 0) : nextZ ((List.replicate m false).set j true) true x = j :=
  nextZ_eq (.inr ⟨j, rfl, by omega, by simpa using hj, by rw [one_get _ _ _ hj]; simp, fun i h1 h2 => by rw [one_get _ _ _ hj]; simp; omega⟩)
theorem one_after (hj : j < m) : nextZ ((List.replicate m false).set j true) true ((j : Int) + 1) = -1 :=
  nextZ_eq (.inl ⟨rfl, fun i h1 h2 => by rw [one_get _ _ _ hj]; simp; omega⟩)
theorem one_false {x : Int} (hj : j < m) (h0 : 0 < j) (h : x ≤ 0) : nextZ ((List.replicate m false).set j true) false x = 0 :=
  nextZ_eq (.inr ⟨0, rfl, by omega, by simp; omega, by rw [one_get _ _ _ hj]; simp; omega, fun i h1 h2 => by omega⟩)
theorem one_false1 {x : Int} (hm : 1 < m) (h : x ≤ 0) : nextZ ((List.replicate m false).set 0 true) false x = 1 :=
  nextZ_eq (.inr ⟨1, rfl, by omega, by simpa using hm, by rw [one_get _ _ _ (by omega)]; simp, fun i h1 h2 => by rw [one_get _ _ _ (by omega)]; simp; omega⟩)
theorem one_false0 {x : Int} : nextZ ((List.replicate 1 false).set 0 true) false x = -1 :=
  nextZ_eq (.inl ⟨rfl, fun i h1 h2 => by rw [one_get _ _ _ (by omega)]; simp at h2; simp [h2]⟩)
theorem one_run_all (hj : j < m) : runZ ((List.replicate m false).set j true) 0 m = -1 :=
  runZ_eq (by omega) (.inl ⟨rfl, fun a h1 h2 => ⟨j, by simp at h2; omega, by simp at h2; omega, by rw [one_get _ _ _ hj]; simp⟩⟩)
theorem one_run_ahead (hj : j < m) (h0 : 0 < j) : runZ ((List.replicate m false).set j true) 0 j = 0 :=
  runZ_eq (by omega) (.inr ⟨0, rfl, by omega, by simp; omega, fun i h1 h2 => by rw [one_get _ _ _ hj]; simp; omega, fun i h1 h2 => by omega⟩)
theorem one_run_behind {K : Nat} (h0 : 0 < K) (h : j + 1 + K = m) : runZ ((List.replicate m false).set j true) j K = (j : Int) + 1 :=
  runZ_eq (by omega) (.inr ⟨j + 1, by omega, by omega, by simp; omega, fun i h1 h2 => by rw [one_get _ _ _ (by omega)]; simp; omega,
    fun i h1 h2 => ⟨j, by omega, by omega, by rw [one_get _ _ _ (by omega)]; simp⟩⟩)
end

set_option maxHeartbeats 800000 in
theorem awake2_calls (w : World) : Calls Try.prog 33 #[] w fun e w' => e = .returned (.bool true) ∧ Below w.heap.size w w' := by
  have hL : (List.replicate 3 false).length = 3 := by simp
  go_enter Try.func33, Try.ntmps33
  go_wp2_with fail
  refine (bits_new_yes 3 _ (by omega)).mono ?_
  rintro e w1 ⟨p, g, rfl, ha, hp, hg, hb⟩
  have H := Lib.hid ha
  have HB := Lib.hid hb
  have HL := Lib.hid hL
  clear ha hb hL
  go_wp2_with fail
  refine (err0 _).mono ?_
  rintro e w' ⟨rfl, rfl⟩
  go_wp2_with fail
  have hq := run_any p g _ 0 3 _ H.out (by omega) (by omega) (by rw [HL.out]; omega)
  rw [show runZ (List.replicate 3 false) 0 3 = 0 from by decide] at hq
  refine hq.mono ?_
  rintro e w' ⟨rfl, rfl⟩
  clear hq
  go_wp2_with fail
  have hq := run_any p g _ 0 4 _ H.out (by omega) (by omega) (by rw [HL.out]; omega)
  rw [show runZ (List.replicate 3 false) 0 4 = -1 from by decide] at hq
  refine hq.mono ?_
  rintro e w' ⟨rfl, rfl⟩
  clear hq
  go_wp2_with fail
  have hq := bits_size p g _ _ H.out
  rw [HL.out] at hq
  refine hq.mono ?_
  rintro e w' ⟨rfl, rfl⟩
  clear hq
  go_wp2_with fail
  go_ret
  exact ⟨rfl, HB.out⟩

theorem isInts_one (w : World) (t : TypeId) (x : Int) : IsInts (w.alloc (.cells #[.int .i64 x] t)) (some ⟨w.heap.size, 0, none⟩) [x] := by
  refine .inr ⟨_, 0, rfl, by simp, fun i hi => ?_⟩
  simp only [List.length_cons, List.length_nil, Nat.zero_add] at hi
  obtain rfl : i = 0 := by omega
  exact (Blk.new w t _).one
theorem setAll_one (l : List Bool) (is : Bool) (j : Nat) : setAll l is [(j : Int)] = l.set j is := by simp [setAll]

set_option maxRecDepth 100000 in
set_option maxHeartbeats 16000000 in
theorem ends_walk (N a : Nat) (f k : Int) (w : World) (hN : N ≤ 255) (ha : a ≤ 255) (BF : -9223372036854775808 ≤ f ∧ f ≤ 9223372036854775807) (BK : -9223372036854775808 ≤ k ∧ k ≤ 9223372036854775807) :
    Calls Try.prog 7 #[.int .u8 N, .int .i64 f, .int .i64 k, .int .u8 a] w fun e w' => e = .returned (.bool true) ∧ Below w.heap.size w w' := by
  obtain ⟨m, hm⟩ : ∃ m : Nat, 1 + (N : Int) % 100 = m := ⟨1 + N % 100, by omega⟩
  obtain ⟨j, hj⟩ : ∃ j : Nat, (a : Int) % (m : Int) = j := ⟨a % m, by omega⟩
  have hm1 : 1 ≤ m := by omega
  have hm2 : m ≤ 100 := by omega
  have hjm : j < m := by
    have := Int.emod_lt_of_pos (a : Int) (show (0 : Int) < m by omega)
    omega
  obtain ⟨BF1, BF2⟩ := BF
  obtain ⟨BK1, BK2⟩ := BK
  obtain ⟨low, hlow⟩ : ∃ x : Int, (if (0 : Int) < f then 0 else f) = x := ⟨_, rfl⟩
  obtain ⟨high, hhigh⟩ : ∃ x : Int, (if f < (m : Int) then (m : Int) else f) = x := ⟨_, rfl⟩
  obtain ⟨mx, hmx⟩ : ∃ x : Int, (if k < (m : Int) + 1 then (m : Int) + 1 else k) = x := ⟨_, rfl⟩
  obtain ⟨mn, hmn⟩ : ∃ x : Int, (if (0 : Int) < k then 0 else k) = x := ⟨_, rfl⟩
  obtain ⟨x, hx⟩ : ∃ x, wrap64 (low - 1) = x := ⟨_, rfl⟩
  have l1 : low ≤ 0 ∧ -9223372036854775808 ≤ low := by rw [← hlow]; split <;> omega
  have l2 : (m : Int) ≤ high ∧ high ≤ 9223372036854775807 := by rw [← hhigh]; split <;> omega
  have l3 : (m : Int) + 1 ≤ mx ∧ mx ≤ 9223372036854775807 := by rw [← hmx]; split <;> omega
  have l4 : mn ≤ 0 ∧ -9223372036854775808 ≤ mn := by rw [← hmn]; split <;> omega
  obtain ⟨l1, l1'⟩ := l1
  obtain ⟨l2, l2'⟩ := l2
  have L3 := Lib.hid l3
  have L4 := Lib.hid l4
  have hx' : x < 0 ∨ 16384 ≤ x := by rw [← hx]; unfold wrap64; omega
  have HX := Lib.hid hx'
  clear l3 l4 hx'
  go_enter Try.func7, Try.ntmps7
  go_wp2_with fail
  refine (bits_new_yes m _ (by omega)).mono ?_
  rintro e w1 ⟨p, g, rfl, hA, hp, hg, hb⟩
  have H := Lib.hid hA
  have HB := Lib.hid hb
  have HL : Hid ((List.replicate m false).length = m) := Lib.hid (by simp)
  clear hA hb
  go_wp2_with fail
  refine (err0 _).mono ?_
  rintro e w' ⟨rfl, rfl⟩
  go_wp2_with fail
  simp only [hj]
  clear hm hj hlow hhigh BF1 BF2
  have hq := next_any p g _ low true _ H.out (by omega) (by rw [HL.out]; omega)
  rw [rep_true] at hq
  refine hq.mono ?_
  rintro e w' ⟨rfl, rfl⟩
  clear hq
  go_wp2_with fail
  have hq := next_any p g _ low false _ H.out (by omega) (by rw [HL.out]; omega)
  rw [rep_false (m := m) (x := low) (by omega) (by omega)] at hq
  refine hq.mono ?_
  rintro e w' ⟨rfl, rfl⟩
  clear hq
  go_wp2_with fail
  have hq := next_any p g _ high false _ H.out (by omega) (by rw [HL.out]; omega)
  rw [next_past (l := List.replicate m false) (x := high) (is := false) (by rw [HL.out]; omega)] at hq
  refine hq.mono ?_
  rintro e w' ⟨rfl, rfl⟩
  clear hq
  go_wp2_with fail
  have hq := run_any p g _ low m _ H.out (by omega) (by omega) (by rw [HL.out]; omega)
  rw [rep_run (m := m) (K := m) (x := low) (by omega) (by omega) (by omega)] at hq
  refine hq.mono ?_
  rintro e w' ⟨rfl, rfl⟩
  clear hq
  go_wp2_with fail
  have hq := run_any p g _ high 1 _ H.out (by omega) (by omega) (by rw [HL.out]; omega)
  rw [run_past (l := List.replicate m false) (x := high) (k := 1) (by omega) (by rw [HL.out]; omega)] at hq
  refine hq.mono ?_
  rintro e w' ⟨rfl, rfl⟩
  clear hq
  go_wp2_with fail
  have hq := run_any p g _ 0 mx _ H.out (by omega) (by have := L3.out; omega) (by rw [HL.out]; omega)
  rw [run_long (l := List.replicate m false) (x := 0) (k := mx) (by rw [HL.out]; have := L3.out; omega)] at hq
  refine hq.mono ?_
  rintro e w' ⟨rfl, rfl⟩
  clear hq
  go_wp2_with fail
  have hq := run_any p g _ 0 mn _ H.out (by omega) (by have := L4.out; omega) (by rw [HL.out]; omega)
  rw [runZ_no (l := List.replicate m false) (i := 0) (k := mn) (by have := L4.out; omega)] at hq
  refine hq.mono ?_
  rintro e w' ⟨rfl, rfl⟩
  clear hq
  clear hmx hmn
  go_wp2_with fail
  have hs := set_yes p g _ true (some ⟨w1.heap.size, 0, none⟩) 1 [(j : Int)] _ (H.out.alloc _) (isInts_one w1 3 (j : Int)) (by simp) (fun x hx => by rw [List.mem_singleton] at hx; subst hx; exact placeB_yes (by omega) (by rw [HL.out]; omega))
  refine hs.mono ?_
  clear hs
  rintro e w2 ⟨rfl, hset, hu⟩
  rw [setAll_one] at hset
  have HS := Lib.hid hset
  have HU : Hid (Upd [] w w2) := Lib.hid (((Upd.of_below HB.out : Upd [] w w1).alloc _).step hu (by simpa using hg))
  clear hset hu HB H HL hN ha BK1 BK2 hp hg
  obtain ⟨L, hL⟩ : ∃ L, (List.replicate m false).set j true = L := ⟨_, rfl⟩
  have HL : Hid (L.length = m) := Lib.hid (by rw [← hL]; simp)
  have F1 : Hid (nextZ L true low = j) := Lib.hid (by rw [← hL]; exact one_true hjm (by omega))
  have F2 : Hid (nextZ L true ((j : Int) + 1) = -1) := Lib.hid (by rw [← hL]; exact one_after hjm)
  have F4 : Hid (runZ L 0 m = -1) := Lib.hid (by rw [← hL]; exact one_run_all hjm)
  rw [hL] at HS
  have H := HS
  clear HS
  by_cases hj0 : j = 0
  · subst hj0
    have F2 : Hid (nextZ L true 1 = -1) := Lib.hid (by have := F2.out; simpa using this)
    by_cases hm1' : m = 1
    · have F3 : Hid (nextZ L false low = -1) := Lib.hid (by rw [← hL, hm1']; exact one_false0)
      have hml : m ≤ 1 := by omega
      have hK1 : (m : Int) - 1 = 0 := by omega
      clear hL hm1'
      go_wp2_with fail
      have hq := next_any p g L low true _ H.out (by omega) (by rw [HL.out]; omega)
      rw [F1.out] at hq
      refine hq.mono ?_
      rintro e w' ⟨rfl, rfl⟩
      clear hq
      go_wp2_with fail
      have hq := next_any p g L 1 true _ H.out (by omega) (by rw [HL.out]; omega)
      rw [F2.out] at hq
      refine hq.mono ?_
      rintro e w' ⟨rfl, rfl⟩
      clear hq
      go_wp2_with fail
      have hq := next_any p g L low false _ H.out (by omega) (by rw [HL.out]; omega)
      rw [F3.out] at hq
      refine hq.mono ?_
      rintro e w' ⟨rfl, rfl⟩
      clear hq
      go_wp2_with fail
      have hq := run_any p g L 0 m _ H.out (by omega) (by omega) (by rw [HL.out]; omega)
      rw [F4.out] at hq
      refine hq.mono ?_
      rintro e w' ⟨rfl, rfl⟩
      clear hq
      go_wp2_with fail
      have hq := bits_has p g L x _ H.out
      rw [hasB_no (l := L) (i := x) (by have := HX.out; rw [HL.out]; omega)] at hq
      refine hq.mono ?_
      rintro e w' ⟨rfl, rfl⟩
      clear hq
      go_wp2_with fail
      have hq := bits_has p g L high _ H.out
      rw [hasB_no (l := L) (i := high) (.inr (by rw [HL.out]; omega))] at hq
      refine hq.mono ?_
      rintro e w' ⟨rfl, rfl⟩
      clear hq
      go_wp2_with fail
      refine (awake2_calls _).mono ?_
      rintro e w3 ⟨rfl, hb⟩
      have HF := Lib.hid (HU.out.step (Upd.of_below hb : Upd [] _ _) (by simp))
      clear hb
      go_wp2_with fail
      go_ret
      exact ⟨rfl, HF.out.below⟩
    · have F3 : Hid (nextZ L false low = 1) := Lib.hid (by rw [← hL]; exact one_false1 (by omega) (by omega))
      obtain ⟨K, hK⟩ : ∃ K : Nat, m = 0 + 1 + K := ⟨m - 1, by omega⟩
      have hK0 : 0 < K := by omega
      have F5 : Hid (runZ L 0 K = 1) := Lib.hid (by rw [← hL]; exact one_run_behind (j := 0) hK0 hK.symm)
      clear hL
      have hK1 : (m : Int) - 1 = K := by omega
      clear hK
      go_wp2_with fail
      have hq := next_any p g L low true _ H.out (by omega) (by rw [HL.out]; omega)
      rw [F1.out] at hq
      refine hq.mono ?_
      rintro e w' ⟨rfl, rfl⟩
      clear hq
      go_wp2_with fail
      have hq := next_any p g L 1 true _ H.out (by omega) (by rw [HL.out]; omega)
      rw [F2.out] at hq
      refine hq.mono ?_
      rintro e w' ⟨rfl, rfl⟩
      clear hq
      go_wp2_with fail
      have hq := next_any p g L low false _ H.out (by omega) (by rw [HL.out]; omega)
      rw [F3.out] at hq
      refine hq.mono ?_
      rintro e w' ⟨rfl, rfl⟩
      clear hq
      go_wp2_with fail
      have hq := run_any p g L 0 m _ H.out (by omega) (by omega) (by rw [HL.out]; omega)
      rw [F4.out] at hq
      refine hq.mono ?_
      rintro e w' ⟨rfl, rfl⟩
      clear hq
      go_wp2_with fail
      have hq := run_any p g L 0 K _ H.out (by omega) (by omega) (by rw [HL.out]; omega)
      rw [F5.out] at hq
      refine hq.mono ?_
      rintro e w' ⟨rfl, rfl⟩
      clear hq
      go_wp2_with fail
      have hq := bits_has p g L x _ H.out
      rw [hasB_no (l := L) (i := x) (by have := HX.out; rw [HL.out]; omega)] at hq
      refine hq.mono ?_
      rintro e w' ⟨rfl, rfl⟩
      clear hq
      go_wp2_with fail
      have hq := bits_has p g L high _ H.out
      rw [hasB_no (l := L) (i := high) (.inr (by rw [HL.out]; omega))] at hq
      refine hq.mono ?_
      rintro e w' ⟨rfl, rfl⟩
      clear hq
      go_wp2_with fail
      refine (awake2_calls _).mono ?_
      rintro e w3 ⟨rfl, hb⟩
      have HF := Lib.hid (HU.out.step (Upd.of_below hb : Upd [] _ _) (by simp))
      clear hb
      go_wp2_with fail
      go_ret
      exact ⟨rfl, HF.out.below⟩
  · have F3 : Hid (nextZ L false low = 0) := Lib.hid (by rw [← hL]; exact one_false hjm (by omega) (by omega))
    have F6 : Hid (runZ L 0 j = 0) := Lib.hid (by rw [← hL]; exact one_run_ahead hjm (by omega))
    by_cases hmj : m = j + 1
    · clear hL
      have hK1 : (m : Int) - 1 - (j : Int) = 0 := by omega
      clear hmj
      go_wp2_with fail
      have hq := next_any p g L low true _ H.out (by omega) (by rw [HL.out]; omega)
      rw [F1.out] at hq
      refine hq.mono ?_
      rintro e w' ⟨rfl, rfl⟩
      clear hq
      go_wp2_with fail
      have hq := next_any p g L (j + 1) true _ H.out (by omega) (by rw [HL.out]; omega)
      rw [F2.out] at hq
      refine hq.mono ?_
      rintro e w' ⟨rfl, rfl⟩
      clear hq
      go_wp2_with fail
      have hq := next_any p g L low false _ H.out (by omega) (by rw [HL.out]; omega)
      rw [F3.out] at hq
      refine hq.mono ?_
      rintro e w' ⟨rfl, rfl⟩
      clear hq
      go_wp2_with fail
      have hq := run_any p g L 0 m _ H.out (by omega) (by omega) (by rw [HL.out]; omega)
      rw [F4.out] at hq
      refine hq.mono ?_
      rintro e w' ⟨rfl, rfl⟩
      clear hq
      go_wp2_with fail
      have hq := run_any p g L 0 j _ H.out (by omega) (by omega) (by rw [HL.out]; omega)
      rw [F6.out] at hq
      refine hq.mono ?_
      rintro e w' ⟨rfl, rfl⟩
      clear hq
      go_wp2_with fail
      have hq := bits_has p g L x _ H.out
      rw [hasB_no (l := L) (i := x) (by have := HX.out; rw [HL.out]; omega)] at hq
      refine hq.mono ?_
      rintro e w' ⟨rfl, rfl⟩
      clear hq
      go_wp2_with fail
      have hq := bits_has p g L high _ H.out
      rw [hasB_no (l := L) (i := high) (.inr (by rw [HL.out]; omega))] at hq
      refine hq.mono ?_
      rintro e w' ⟨rfl, rfl⟩
      clear hq
      go_wp2_with fail
      refine (awake2_calls _).mono ?_
      rintro e w3 ⟨rfl, hb⟩
      have HF := Lib.hid (HU.out.step (Upd.of_below hb : Upd [] _ _) (by simp))
      clear hb
      go_wp2_with fail
      go_ret
      exact ⟨rfl, HF.out.below⟩
    · obtain ⟨K, hK⟩ : ∃ K : Nat, m = j + 1 + K := ⟨m - 1 - j, by omega⟩
      have hK0 : 0 < K := by omega
      have F5 : Hid (runZ L j K = (j : Int) + 1) := Lib.hid (by rw [← hL]; exact one_run_behind hK0 hK.symm)
      clear hL
      have hK1 : (m : Int) - 1 - (j : Int) = K := by omega
      clear hK
      go_wp2_with fail
      have hq := next_any p g L low true _ H.out (by omega) (by rw [HL.out]; omega)
      rw [F1.out] at hq
      refine hq.mono ?_
      rintro e w' ⟨rfl, rfl⟩
      clear hq
      go_wp2_with fail
      have hq := next_any p g L (j + 1) true _ H.out (by omega) (by rw [HL.out]; omega)
      rw [F2.out] at hq
      refine hq.mono ?_
      rintro e w' ⟨rfl, rfl⟩
      clear hq
      go_wp2_with fail
      have hq := next_any p g L low false _ H.out (by omega) (by rw [HL.out]; omega)
      rw [F3.out] at hq
      refine hq.mono ?_
      rintro e w' ⟨rfl, rfl⟩
      clear hq
      go_wp2_with fail
      have hq := run_any p g L 0 m _ H.out (by omega) (by omega) (by rw [HL.out]; omega)
      rw [F4.out] at hq
      refine hq.mono ?_
      rintro e w' ⟨rfl, rfl⟩
      clear hq
      go_wp2_with fail
      have hq := run_any p g L 0 j _ H.out (by omega) (by omega) (by rw [HL.out]; omega)
      rw [F6.out] at hq
      refine hq.mono ?_
      rintro e w' ⟨rfl, rfl⟩
      clear hq
      go_wp2_with fail
      have hq := run_any p g L j K _ H.out (by omega) (by omega) (by rw [HL.out]; omega)
      rw [F5.out] at hq
      refine hq.mono ?_
      rintro e w' ⟨rfl, rfl⟩
      clear hq
      go_wp2_with fail
      have hq := bits_has p g L x _ H.out
      rw [hasB_no (l := L) (i := x) (by have := HX.out; rw [HL.out]; omega)] at hq
      refine hq.mono ?_
      rintro e w' ⟨rfl, rfl⟩
      clear hq
      go_wp2_with fail
      have hq := bits_has p g L high _ H.out
      rw [hasB_no (l := L) (i := high) (.inr (by rw [HL.out]; omega))] at hq
      refine hq.mono ?_
      rintro e w' ⟨rfl, rfl⟩
      clear hq
      go_wp2_with fail
      refine (awake2_calls _).mono ?_
      rintro e w3 ⟨rfl, hb⟩
      have HF := Lib.hid (HU.out.step (Upd.of_below hb : Upd [] _ _) (by simp))
      clear hb
      go_wp2_with fail
      go_ret
      exact ⟨rfl, HF.out.below⟩
end Go.Proofs.Ytnphkgiiondjkaa
