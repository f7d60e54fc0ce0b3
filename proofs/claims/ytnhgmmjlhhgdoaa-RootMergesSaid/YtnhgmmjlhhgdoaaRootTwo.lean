/- Layer 11's example; the walk of RootTwo: at every input the law returns true, and nothing that was there has turned. -/
import Derived.Test.YtnhgmmjlhhgdoaaRoot
namespace Go.Proofs.Ytnhgmmjlhhgdoaa
open Go Go.RowKit

theorem isInts_blk {w : World} {b : Nat} {xs : List Int} (h : Blk w b 3 (ints xs)) : IsInts w (some ⟨b, 0, none⟩) xs := .inr ⟨b, 0, rfl, h.lt, fun i hi => by rw [Nat.zero_add]; exact h.int i hi⟩
/-- Slices of numbers in a row of slices. -/
theorem lists_blk {w : World} {b : Nat} {t : TypeId} {cs : Array Value} {LS : List (List Int)} (h : Blk w b t cs) (hc : ∀ i, i < LS.length → ∃ Ai ci, cs[i]? = some (.slice Ai (LS.getD i []).length ci) ∧ IsInts w Ai (LS.getD i []) ∧ (Ai = none → (LS.getD i []).length = 0 ∧ ci = 0)) : Lists w (some ⟨b, 0, none⟩) LS := by
  refine .inr ⟨b, 0, rfl, h.lt, fun i hi => ?_⟩
  obtain ⟨Ai, ci, h1, h2, h3⟩ := hc i hi
  exact ⟨Ai, ci, by rw [Nat.zero_add, h.cell i]; exact h1, h2, h3⟩

theorem lists_two (w : World) (xs ys : List Int) : Lists (((w.alloc (.cells (ints xs) 3)).alloc (.cells (ints ys) 3)).alloc (.cells #[.slice (some ⟨w.heap.size, 0, none⟩) xs.length xs.length, .slice (some ⟨w.heap.size + 1, 0, none⟩) ys.length ys.length] 22)) (some ⟨w.heap.size + 1 + 1, 0, none⟩) [xs, ys] := by
  have s1 : (w.alloc (.cells (ints xs) 3)).heap.size = w.heap.size + 1 := by simp
  have s2 : ((w.alloc (.cells (ints xs) 3)).alloc (.cells (ints ys) 3)).heap.size = w.heap.size + 1 + 1 := by simp
  have h1 := ((Blk.new w 3 (ints xs)).alloc (.cells (ints ys) 3)).alloc (.cells #[.slice (some ⟨w.heap.size, 0, none⟩) xs.length xs.length, .slice (some ⟨w.heap.size + 1, 0, none⟩) ys.length ys.length] 22)
  have h2 := (Blk.new (w.alloc (.cells (ints xs) 3)) 3 (ints ys)).alloc (.cells #[.slice (some ⟨w.heap.size, 0, none⟩) xs.length xs.length, .slice (some ⟨w.heap.size + 1, 0, none⟩) ys.length ys.length] 22)
  have h3 := Blk.new ((w.alloc (.cells (ints xs) 3)).alloc (.cells (ints ys) 3)) 22 #[.slice (some ⟨w.heap.size, 0, none⟩) xs.length xs.length, .slice (some ⟨w.heap.size + 1, 0, none⟩) ys.length ys.length]
  rw [s1] at h2
  rw [s2] at h3
  refine lists_blk h3 fun i hi => ?_
  have hi2 : i = 0 ∨ i = 1 := by simp at hi; omega
  rcases hi2 with rfl | rfl
  · exact ⟨_, _, rfl, isInts_blk h1, fun h => by cases h⟩
  · exact ⟨_, _, rfl, isInts_blk h2, fun h => by cases h⟩

set_option maxHeartbeats 1600000 in
theorem awake11_calls (w : World) : Calls Try.prog 21 #[] w fun e w' => e = .returned (.bool true) ∧ Below w.heap.size w w' := by
  go_enter Try.func21, Try.ntmps21
  go_wp2_with fail
  refine (root_new _).mono ?_
  rintro e w1 ⟨r, rfl, hr, _, hu⟩
  have HR := Lib.hid hr
  have HU := Lib.hid hu
  clear hr hu
  go_wp2_with fail
  refine (roots_any r _ _ HR.out).mono ?_
  rintro e w2 ⟨v, rfl, hO, hu⟩
  obtain ⟨A2, c2, hv, hI, _⟩ := hO.form
  subst hv
  have HU2 := Lib.hid (HU.out.step hu (by simp))
  clear hu hO hI
  go_wp2_with fail
  refine (merge_calls _ 2 2 [[3, 0], [1, 3]] _ rfl (lists_two w2 [3, 0] [1, 3]) (by decide) (by omega)).mono ?_
  rintro e w3 ⟨v, rfl, hO, hu⟩
  rw [show ([[3, 0], [1, 3]] : List (List Int)).flatten = [3, 0, 1, 3] from rfl, mergeZ_example] at hO
  obtain ⟨A3, c3, hv, hI, _⟩ := hO.form
  subst hv
  have HI := Lib.hid hI
  have HU3 := Lib.hid ((((HU2.out.alloc _).alloc _).alloc _).step hu (by simp))
  clear hu hO hI
  go_wp2_with fail
  refine (same_calls A3 _ 2 2 c3 2 [1, 3] [1, 3] _ rfl rfl (Reads.upd HI.out ((Upd.refl [] w3).alloc _) (by simp)) (isInts_blk (Blk.new w3 3 (ints [1, 3]))) (by omega) (by omega)).mono ?_
  rintro e w4 ⟨rfl, q, rfl⟩
  have HF := Lib.hid ((HU3.out.alloc (.cells #[.int .i64 1, .int .i64 3] 3)).drewN q)
  go_wp2_with fail
  go_ret
  exact ⟨rfl, HF.out.below⟩

set_option maxRecDepth 100000 in
set_option maxHeartbeats 8000000 in
theorem rtwo_walk (I x y : Nat) (w : World) (hI : I ≤ 255) (hx : x ≤ 65535) (hy : y ≤ 65535) :
    Calls Try.prog 10 #[.int .u8 I, .int .u16 x, .int .u16 y] w fun e w' => e = .returned (.bool true) ∧ Below w.heap.size w w' := by
  obtain ⟨k, hk⟩ : ∃ k : Nat, (I : Int) % 16 = k := ⟨I % 16, by omega⟩
  have hk16 : k < 16 := by omega
  go_enter Try.func10, Try.ntmps10
  go_wp2_with fail
  refine (root_new _).mono ?_
  rintro e w1 ⟨r, rfl, hr, hrs, hu⟩
  have HR := Lib.hid hr
  have HU := Lib.hid hu
  have HS := Lib.hid hrs
  clear hr hu hrs
  go_wp2_with fail
  refine (root_new _).mono ?_
  rintro e w2 ⟨s, rfl, hs, hss, hu⟩
  have HRS : Hid (r ≠ s) := Lib.hid (by have := HR.out.1.lt; omega)
  have HR2 := Lib.hid (HR.out.upd hu (by simp))
  have HS2 := Lib.hid hs
  have HU2 := Lib.hid (HU.out.step hu (by simp))
  clear hs hu hss HR HU
  go_wp2_with fail
  simp only [hk]
  refine (rput_yes r k x _ _ HR2.out hk16 (by omega)).mono ?_
  rintro e w3 ⟨rfl, hr, hu⟩
  have HR3 := Lib.hid hr
  have HS3 := Lib.hid (HS2.out.upd hu (by have := HRS.out; simp; omega))
  have HU3 := Lib.hid (HU2.out.step hu (by have := HS.out; simp; omega))
  clear hr hu
  go_wp2_with fail
  refine (rput_yes r k y _ _ HR3.out hk16 (by omega)).mono ?_
  rintro e w4 ⟨rfl, hr, hu⟩
  have HR4 := Lib.hid hr
  have HS4 := Lib.hid (HS3.out.upd hu (by have := HRS.out; simp; omega))
  have HU4 := Lib.hid (HU3.out.step hu (by have := HS.out; simp; omega))
  clear hr hu
  have hget : (((List.replicate 16 (0 : Int)).set k x).set k y).getD k 0 = y := by
    rw [List.set_set, List.getD_eq_getElem?_getD, List.getElem?_set, if_pos rfl, if_pos (by simpa using hk16)]
    rfl
  have hget0 : (List.replicate 16 (0 : Int)).getD k 0 = 0 := by
    rw [List.getD_eq_getElem?_getD, List.getElem?_replicate]
    split <;> rfl
  have HG1 := Lib.hid hget
  have HG2 := Lib.hid hget0
  clear hget hget0
  go_wp2_with fail
  have hq := rget_yes r k _ w4 HR4.out hk16
  rw [HG1.out] at hq
  refine hq.mono ?_
  rintro e w' ⟨rfl, rfl⟩
  clear hq
  go_wp2_with fail
  have hq := rget_yes s k _ w4 HS4.out hk16
  rw [HG2.out] at hq
  refine hq.mono ?_
  rintro e w' ⟨rfl, rfl⟩
  clear hq
  go_wp2_with fail
  refine (rput_yes r k 0 _ _ HR4.out hk16 (by omega)).mono ?_
  rintro e w5 ⟨rfl, hr, hu⟩
  have HR5 := Lib.hid hr
  have HU5 := Lib.hid (HU4.out.step hu (by have := HS.out; simp; omega))
  clear hr hu
  have hget : ((((List.replicate 16 (0 : Int)).set k x).set k y).set k 0).getD k 0 = 0 := by
    rw [List.getD_eq_getElem?_getD, List.getElem?_set, if_pos rfl]
    split <;> rfl
  have HG3 := Lib.hid hget
  clear hget
  go_wp2_with fail
  have hq := rget_yes r k _ w5 HR5.out hk16
  rw [HG3.out] at hq
  refine hq.mono ?_
  rintro e w' ⟨rfl, rfl⟩
  clear hq
  go_wp2_with fail
  refine (err0 _).mono ?_
  rintro e w' ⟨rfl, rfl⟩
  go_wp2_with fail
  refine (err0 _).mono ?_
  rintro e w' ⟨rfl, rfl⟩
  go_wp2_with fail
  refine (err0 _).mono ?_
  rintro e w' ⟨rfl, rfl⟩
  go_wp2_with fail
  refine (err0 _).mono ?_
  rintro e w' ⟨rfl, rfl⟩
  go_wp2_with fail
  refine (err0 _).mono ?_
  rintro e w' ⟨rfl, rfl⟩
  go_wp2_with fail
  refine (err0 _).mono ?_
  rintro e w' ⟨rfl, rfl⟩
  go_wp2_with fail
  refine (rput_no r 16 1 _ (.inr (.inl (by omega)))).mono ?_
  rintro e w' ⟨rfl, rfl⟩
  go_wp2_with fail
  refine (err1 _).mono ?_
  rintro e w' ⟨rfl, rfl⟩
  go_wp2_with fail
  refine (rput_no r 0 (-1) _ (.inr (.inr (by omega)))).mono ?_
  rintro e w' ⟨rfl, rfl⟩
  go_wp2_with fail
  refine (err1 _).mono ?_
  rintro e w' ⟨rfl, rfl⟩
  go_wp2_with fail
  refine (awake11_calls _).mono ?_
  rintro e w9 ⟨rfl, hb⟩
  have HE := Lib.hid (HU5.out.step (Upd.of_below hb : Upd [] _ _) (by simp))
  clear hb
  go_wp2_with fail
  go_ret
  exact ⟨rfl, HE.out.below⟩
end Go.Proofs.Ytnhgmmjlhhgdoaa
