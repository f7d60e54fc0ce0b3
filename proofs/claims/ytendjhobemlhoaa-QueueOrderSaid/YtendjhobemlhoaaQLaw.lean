/- A law's own heap of references; the laws' example. -/
import Derived.Test.YtendjhobemlhoaaP3
namespace Go.Proofs.Ytendjhobemlhoaa
open Go Go.RowKit

/-- What Heap(n) gives: n references. -/
structure Refs12 (l : List Int) (F : Int → Ob) (n : Nat) : Prop where
  len : l.length = n
  ref : ∀ a ∈ l, (F a).k = 4
theorem Refs12.put {l : List Int} {F : Int → Ob} {n : Nat} (h : Refs12 l F n) {a : Int} (_ : a ∉ l) (o : Ob) (ho : o.k = 4) : Refs12 (l ++ [a]) (fset F a o) (n + 1) :=
  ⟨by rw [List.length_append, h.len]; rfl, fun x hx => by
    by_cases e : x = a
    · rw [e, fset_same]; exact ho
    · rw [fset_ne _ e]
      rcases List.mem_append.1 hx with hx | hx
      · exact h.ref x hx
      · exact absurd (List.mem_singleton.1 hx) e⟩
theorem Refs12.next {l : List Int} {F : Int → Ob} {n : Nat} (h : Refs12 l F n) (a x : Int) : Refs12 l (nextF F a x) n := ⟨h.len, fun b hb => by rw [nextF_k]; exact h.ref b hb⟩
theorem Refs12.push {l : List Int} {F : Int → Ob} {n : Nat} (h : Refs12 l F n) (r : List Int) (a : Int) : Refs12 l (pushF F r a) n := by
  unfold pushF
  split
  · exact h.next _ _
  · exact (h.next _ _).next _ _

set_option maxRecDepth 100000 in
set_option maxHeartbeats 1600000 in
theorem heap12 (n : Nat) (w : World) (hn : n ≤ 20) : Calls Try.prog 27 #[.int .i64 n] w fun e w' =>
    ∃ h v l F O, e = .returned (.tuple #[.pointer (some ⟨h, 0, none⟩), v]) ∧ HeapO w' h 40 l F O ∧ OwnA w' w.heap.size v l O ∧ Env w w' O ∧ Refs12 l F n := by
  go_enter Try.func27, Try.ntmps27
  go_wp2_with fail
  refine (heap_new 40 _ (by omega) (by omega)).mono ?_
  rintro e w1 ⟨h, O, rfl, hh, ho, hu⟩
  have HH := Lib.hid hh
  have HE : Hid (Env w w1 O) := Lib.hid ⟨ho, hu⟩
  clear hh ho hu
  go_wp2_with fail
  refine (whole_yes h 40 _ HH.out).mono ?_
  rintro e w2 ⟨rfl, hu⟩
  have HH2 := Lib.hid (HH.out.upd0 hu)
  have HE2 := Lib.hid (HE.out.upd0 hu)
  clear hu
  go_wp2_with fail
  refine (err_calls 0 _ (by omega)).mono ?_
  rintro e w' ⟨rfl, rfl⟩
  go_wp2_with fail
  go_loopg [6, 7] n (fun gk v i wr => ∃ (k : Nat) (l : List Int) (F : Int → Ob) (O : Nat → Prop), gk = n - k ∧ k ≤ n ∧ i = .int .i64 k ∧ Hid (HeapO wr h 40 l F O) ∧ Hid (OwnA wr w.heap.size v l O) ∧ Hid (Env w wr O) ∧ Hid (Refs12 l F k))
  case atStart => exact ⟨0, [], F00, O, rfl, by omega, rfl, HH2, Lib.hid (OwnA.nil _ _ _), HE2, Lib.hid ⟨rfl, by simp⟩⟩
  case round =>
    clear HH HE HH2 HE2
    obtain ⟨k, l, F, O, rfl, hk, rfl, HH, HO, HE, HR⟩ := hrel
    by_cases hlt : k < n
    · obtain ⟨c, hc⟩ : ∃ c : Nat, (k : Int) % 3 = c := ⟨k % 3, by omega⟩
      have hc3 : c < 3 := by omega
      have HC := Lib.hid hc
      clear hc
      go_wp2_with fail
      simp only [HC.out]
      refine (heap_make h 40 4 (1 + c) 5 wr HH.out (kref_may _ (by omega) (by omega)) (by omega) (by omega) (by rw [HR.out.len]; omega)).mono ?_
      rintro e w3 ⟨a, O3, rfl, ha1, ha2, ha3, hh, hs⟩
      have HH3 := Lib.hid hh
      have HO3 := Lib.hid (HO.out.step hs)
      have HE3 := Lib.hid (HE.out.step hs)
      have HR3 := Lib.hid (HR.out.put ha3 ⟨4, 1 + c, false, List.replicate 5 0⟩ rfl)
      clear hh hs ha3
      go_wp2_with fail
      refine (err_calls 0 _ (by omega)).mono ?_
      rintro e w' ⟨rfl, rfl⟩
      go_wp2_with (at_builtin; refine wpList_pushO rfl _ _ rfl w.heap.size _ l O3 rfl (HO3.out.upd0 ((Upd.refl [] w3).alloc _)) w3.heap.size a rfl (Blk.new _ _ _) (by rw [HR.out.len]; omega) (by have := HE3.out.upd.size; simp; omega) (fun k hk => by have := HH3.out.owned hk; simp; omega) ?_)
      intro v' w4 E h1 h2 h3 h4
      have hE : ∀ i ∈ E, w.heap.size ≤ i ∧ ¬ O3 i := fun i hi => ⟨(World.ownsRow.lt HO3.out.own i (h2 i hi)).1, HO3.out.far i (h2 i hi)⟩
      have HH4 : Hid (HeapO w4 h 40 (l ++ [a]) (fset F a ⟨4, 1 + c, false, List.replicate 5 0⟩) O3) := Lib.hid ((HH3.out.alloc _).upd h3 fun i hi => (hE i hi).2)
      have HE4 : Hid (Env w w4 O3) := Lib.hid ((HE3.out.upd0 ((Upd.refl [] w3).alloc _)).upd' h3 fun i hi => (hE i hi).1)
      have HO4 := Lib.hid h1
      clear h1 h2 h3 h4 hE
      go_wp2_with fail
      go_roundg (n - (k + 1))
      case measure => omega
      case rel => exact ⟨k + 1, _, _, O3, rfl, by omega, by go_num, HH4, HO4, HE4, HR3⟩
    · obtain rfl : k = n := by omega
      go_wp2_with fail
      go_ret2
      exact ⟨h, _, l, F, O, rfl, HH.out, HO.out, HE.out, HR.out⟩

set_option maxRecDepth 100000 in
theorem awake12 (w : World) : Calls Try.prog 33 #[] w fun e w' => e = .returned (.bool true) ∧ Upd [] w w' := by
  go_enter Try.func33, Try.ntmps33
  go_wp2_with fail
  refine (heap12 0 _ (by omega)).mono ?_
  rintro e w1 ⟨h, v, l, F, O, rfl, hh, ho, he, hr⟩
  have HH := Lib.hid hh
  have HE := Lib.hid he
  clear hh ho he hr
  go_wp2_with fail
  refine (queue_new h 40 _ HH.out).mono ?_
  rintro e w2 ⟨q, O2, rfl, hq, hs⟩
  have HQ := Lib.hid hq
  have HE2 := Lib.hid (HE.out.step hs)
  clear hq hs
  go_wp2_with fail
  refine (qopen_yes q h 40 _ HQ.out (by simp)).mono ?_
  rintro e w3 ⟨rfl, O3, hq, hs⟩
  have HQ3 := Lib.hid hq
  have HE3 := Lib.hid (HE2.out.step hs)
  clear hq hs
  go_wp2_with fail
  refine (poll_empty q h 40 _ 0 _ HQ3.out rfl (by simp) rfl).mono ?_
  rintro e w' ⟨rfl, rfl⟩
  go_wp2_with fail
  refine (err_calls 0 _ (by omega)).mono ?_
  rintro e w' ⟨rfl, rfl⟩
  go_wp2_with fail
  refine (err_calls 0 _ (by omega)).mono ?_
  rintro e w' ⟨rfl, rfl⟩
  go_wp2_with fail
  refine (queue_new_nil _).mono ?_
  rintro e w' ⟨rfl, rfl⟩
  go_wp2_with fail
  go_ret
  exact ⟨by first | rfl | (simp; done), HE3.out.upd⟩
end Go.Proofs.Ytendjhobemlhoaa
