/- The contracts of the queues of references; Enqueue. -/
import Derived.Test.YtendjhobemlhoaaRefs5
namespace Go.Proofs.Ytendjhobemlhoaa
open Go Go.RowKit

def enqF (F : Int → Ob) (r : List Int) (a : Int) : Int → Ob := putF (pushF (clearF F [a]) r a) a 1 (-1)
section
variable {l : List Int} {F : Int → Ob} {rows : List (List Int)} {O : Nat → Prop} {w w' : World} {r q h np n : Nat}
theorem ref_push (r q h np n : Nat) (i a : Int) (j : Nat) (w : World) (H : RefO w r q h np l F rows n O) (hi : i = j) (hj : j < rows.length) (ha : a ∈ l) (hk : (F a).k = 4) (hn : ∀ i, a ∉ rows.getD i []) :
    Calls Try.prog 30 #[.pointer (some ⟨q, 0, none⟩), .int .i64 i, .int .i64 a] w fun e w' =>
      e = .returned (.int .i64 0) ∧ ∃ O', RefO w' r q h np l (pushF F (rows.getD j []) a) (rows.set j (rows.getD j [] ++ [a])) n O' ∧ StepO O w O' w' := by
  obtain ⟨Oq, H, rfl⟩ := H
  refine (push_yes q h np i a j w H.que hi hj ha hk hn).mono ?_
  rintro e w' ⟨rfl, O', hq, hs⟩
  exact ⟨rfl, _, H.queued hq hs⟩
theorem ref_poll (r q h np n : Nat) (i a : Int) (t : List Int) (j : Nat) (w : World) (H : RefO w r q h np l F rows n O) (hi : i = j) (hj : j < rows.length) (hr : rows.getD j [] = a :: t) :
    Calls Try.prog 31 #[.pointer (some ⟨q, 0, none⟩), .int .i64 i] w fun e w' =>
      e = .returned (.tuple #[.int .i64 a, .int .i64 0]) ∧ ∃ O', RefO w' r q h np l (nextF F a 0) (rows.set j t) n O' ∧ StepO O w O' w' := by
  obtain ⟨Oq, H, rfl⟩ := H
  refine (poll_yes q h np i a t j w H.que hi hj hr).mono ?_
  rintro e w' ⟨rfl, O', hq, hs⟩
  exact ⟨rfl, _, H.queued hq hs⟩
theorem ref_open (r q h np n : Nat) (w : World) (H : RefO w r q h np l F rows n O) (hn : rows.length < 8) : Calls Try.prog 29 #[.pointer (some ⟨q, 0, none⟩)] w fun e w' =>
    e = .returned (.tuple #[.int .i64 rows.length, .int .i64 0]) ∧ ∃ O', RefO w' r q h np l F (rows ++ [[]]) n O' ∧ StepO O w O' w' := by
  obtain ⟨Oq, H, rfl⟩ := H
  refine (qopen_yes q h np w H.que hn).mono ?_
  rintro e w' ⟨rfl, O', hq, hs⟩
  exact ⟨rfl, _, H.queued hq hs⟩
theorem ref_list (r q h np n : Nat) (i : Int) (j : Nat) (w : World) (H : RefO w r q h np l F rows n O) (hi : i = j) (hj : j < rows.length) :
    Calls Try.prog 36 #[.pointer (some ⟨q, 0, none⟩), .int .i64 i] w fun e w' => ∃ v, e = .returned (.tuple #[v, .int .i64 0]) ∧ Own w' w.heap.size v (rows.getD j []) ∧ Upd [] w w' := by
  obtain ⟨Oq, H, rfl⟩ := H
  exact list_yes q h np i j w H.que hi hj

theorem enqueue_no (r q h np n : Nat) (a : Int) (w : World) (H : RefO w r q h np l F rows n O) (ha : a ∉ l ∨ a ∈ l ∧ (F a).k ≠ 4) :
    Calls Try.prog 46 #[.pointer (some ⟨r, 0, none⟩), .int .i64 a] w fun e w' => e = .returned (.tuple #[.bool false, .int .i64 5]) ∧ Upd [] w w' := by
  have hsz : ∀ k, O k → k < w.heap.size := fun k hk => H.owned hk
  have HU0 : Hid (Upd [] w (w.alloc (.cells #[.int .i64 a] 3))) := Lib.hid ((Upd.refl [] w).alloc _)
  have HR := Lib.hid (H.upd0 HU0.out)
  have HA := Lib.hid ha
  have HRD : Hid (ReadsO (w.alloc (.cells #[.int .i64 a] 3)) (some ⟨w.heap.size, 0, none⟩) [a] O) := Lib.hid (reads_one (Blk.new _ _ _) fun hx => by have := hsz _ hx; omega)
  clear H ha hsz
  go_enter Try.func46, Try.ntmps46
  go_wp2_with fail
  refine (clear_no r q h np n (some ⟨w.heap.size, 0, none⟩) [] [] a 1 _ HR.out HRD.out (by simp) HA.out (by simp)).mono ?_
  rintro e w1 ⟨rfl, hu⟩
  have HU1 := Lib.hid (HU0.out.trans hu)
  clear hu
  go_wp2_with fail
  go_ret2
  exact ⟨rfl, HU1.out⟩
set_option maxRecDepth 100000 in
set_option maxHeartbeats 1600000 in
theorem enqueue_none (r q h np n : Nat) (a y : Int) (w : World) (H : RefO w r q h np l F rows n O) (ha : a ∈ l) (hk : (F a).k = 4) (hq : (F a).ws.getD 1 0 = y) (hy : y < 1) :
    Calls Try.prog 46 #[.pointer (some ⟨r, 0, none⟩), .int .i64 a] w fun e w' => e = .returned (.tuple #[.bool false, .int .i64 0]) ∧ ∃ O', RefO w' r q h np l (clearF F [a]) rows n O' ∧ StepO O w O' w' := by
  have hsz : ∀ k, O k → k < w.heap.size := fun k hk => H.owned hk
  have h5 := (H.ref5 ha hk).1
  have HU0 : Hid (Upd [] w (w.alloc (.cells #[.int .i64 a] 3))) := Lib.hid ((Upd.refl [] w).alloc _)
  have HR := Lib.hid (H.upd0 HU0.out)
  have HRD : Hid (ReadsO (w.alloc (.cells #[.int .i64 a] 3)) (some ⟨w.heap.size, 0, none⟩) [a] O) := Lib.hid (reads_one (Blk.new _ _ _) fun hx => by have := hsz _ hx; omega)
  have HA := Lib.hid (And.intro ha hk)
  have HL5 : Hid (1 < (clearF F [a] a).ws.length) := Lib.hid (by rw [clearF_len]; omega)
  have HQ : Hid ((clearF F [a] a).ws.getD 1 0 = y) := Lib.hid (by rw [clearF_get, if_neg (by omega)]; exact hq)
  have HK : Hid ((clearF F [a] a).k = 4) := Lib.hid (by rw [clearF_k]; exact hk)
  clear H ha hk hsz h5 hq
  go_enter Try.func46, Try.ntmps46
  go_wp2_with fail
  refine (clear_yes r q h np n (some ⟨w.heap.size, 0, none⟩) [a] 1 1 _ HR.out HRD.out (fun x hx => by rw [List.mem_singleton.1 hx]; exact HA.out) rfl (by omega)).mono ?_
  rintro e w1 ⟨rfl, O1, hr, hs⟩
  obtain ⟨c0, c1, c2, c3⟩ := hr.cells
  have HR1 := Lib.hid hr
  have HS1 := Lib.hid (StepO.behind HU0.out hs)
  clear hr hs
  go_wp2_with fail
  refine (ref_get r q h np n a 1 1 y _ HR1.out HA.out.1 rfl HL5.out HQ.out).mono ?_
  rintro e w2 ⟨rfl, hu⟩
  have HR2 := Lib.hid (HR1.out.upd0 hu)
  have HS2 := Lib.hid (HS1.out.then hu)
  clear hu c0 c1 c2 c3
  obtain ⟨c0, c1, c2, c3⟩ := HR2.out.cells
  go_wp2_with fail
  go_ret2
  exact ⟨rfl, O1, HR2.out, HS2.out⟩
set_option maxRecDepth 100000 in
set_option maxHeartbeats 1600000 in
theorem enqueue_yes (r q h np n : Nat) (a : Int) (j : Nat) (w : World) (H : RefO w r q h np l F rows n O) (ha : a ∈ l) (hk : (F a).k = 4) (hq : (F a).ws.getD 1 0 = (j : Int) + 1) (hj : j < rows.length) (hn : ∀ i, a ∉ rows.getD i []) :
    Calls Try.prog 46 #[.pointer (some ⟨r, 0, none⟩), .int .i64 a] w fun e w' => e = .returned (.tuple #[.bool true, .int .i64 0]) ∧ ∃ O', RefO w' r q h np l (enqF F (rows.getD j []) a) (rows.set j (rows.getD j [] ++ [a])) n O' ∧ StepO O w O' w' := by
  obtain ⟨y, hy⟩ : ∃ y : Int, (j : Int) + 1 = y := ⟨_, rfl⟩
  have hj8 : rows.length ≤ 8 := by
    obtain ⟨Oq, H5, _⟩ := H
    obtain ⟨v, Oh, H6, _⟩ := H5.que
    exact H6.few
  rw [hy] at hq
  have HJ := Lib.hid hj
  have HN := Lib.hid hn
  have y1 : 1 ≤ y := by omega
  have y2 : y ≤ 8 := by omega
  have hyj : y - 1 = j := by omega
  have HYJ := Lib.hid hyj
  clear hj hn hy hyj hj8
  have hsz : ∀ k, O k → k < w.heap.size := fun k hk => H.owned hk
  have h5 := (H.ref5 ha hk).1
  have HU0 : Hid (Upd [] w (w.alloc (.cells #[.int .i64 a] 3))) := Lib.hid ((Upd.refl [] w).alloc _)
  have HR := Lib.hid (H.upd0 HU0.out)
  have HRD : Hid (ReadsO (w.alloc (.cells #[.int .i64 a] 3)) (some ⟨w.heap.size, 0, none⟩) [a] O) := Lib.hid (reads_one (Blk.new _ _ _) fun hx => by have := hsz _ hx; omega)
  have HA := Lib.hid (And.intro ha hk)
  have HL5 : Hid (1 < (clearF F [a] a).ws.length) := Lib.hid (by rw [clearF_len]; omega)
  have HQ : Hid ((clearF F [a] a).ws.getD 1 0 = y) := Lib.hid (by rw [clearF_get, if_neg (by omega)]; exact hq)
  have HK : Hid ((clearF F [a] a).k = 4) := Lib.hid (by rw [clearF_k]; exact hk)
  clear H ha hk hsz h5 hq
  go_enter Try.func46, Try.ntmps46
  go_wp2_with fail
  refine (clear_yes r q h np n (some ⟨w.heap.size, 0, none⟩) [a] 1 1 _ HR.out HRD.out (fun x hx => by rw [List.mem_singleton.1 hx]; exact HA.out) rfl (by omega)).mono ?_
  rintro e w1 ⟨rfl, O1, hr, hs⟩
  obtain ⟨c0, c1, c2, c3⟩ := hr.cells
  have HR1 := Lib.hid hr
  have HS1 := Lib.hid (StepO.behind HU0.out hs)
  clear hr hs
  go_wp2_with fail
  refine (ref_get r q h np n a 1 1 y _ HR1.out HA.out.1 rfl HL5.out HQ.out).mono ?_
  rintro e w2 ⟨rfl, hu⟩
  have HR2 := Lib.hid (HR1.out.upd0 hu)
  have HS2 := Lib.hid (HS1.out.then hu)
  clear hu c0 c1 c2 c3
  obtain ⟨c0, c1, c2, c3⟩ := HR2.out.cells
  go_wp2_with fail
  refine (ref_push r q h np n (y - 1) a j _ HR2.out HYJ.out HJ.out HA.out.1 HK.out HN.out).mono ?_
  rintro e w3 ⟨rfl, O3, hr, hs⟩
  have HR3 := Lib.hid hr
  have HS3 := Lib.hid (HS2.out.trans hs)
  clear hr hs c0 c1 c2 c3
  obtain ⟨c0, c1, c2, c3⟩ := HR3.out.cells
  have HL3 : Hid (1 < (pushF (clearF F [a]) (rows.getD j []) a a).ws.length) := Lib.hid (by
    have : (pushF (clearF F [a]) (rows.getD j []) a a).ws.length = (clearF F [a] a).ws.length := by unfold pushF; split <;> simp only [nextF_len]
    rw [this]; exact HL5.out)
  go_wp2_with fail
  refine (ref_put r q h np n a 1 1 (-1) _ HR3.out HA.out.1 rfl HL3.out (by omega)).mono ?_
  rintro e w4 ⟨rfl, O4, hr, hs⟩
  have HR4 := Lib.hid hr
  have HS4 := Lib.hid (HS3.out.trans hs)
  clear hr hs
  go_wp2_with fail
  go_ret2
  exact ⟨rfl, O4, HR4.out, HS4.out⟩
end
end Go.Proofs.Ytendjhobemlhoaa
