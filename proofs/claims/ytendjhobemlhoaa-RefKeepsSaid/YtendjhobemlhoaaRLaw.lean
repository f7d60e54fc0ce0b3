/- A law's own references: what Made gives; the laws' example. -/
import Derived.Test.YtendjhobemlhoaaRefs6
namespace Go.Proofs.Ytendjhobemlhoaa
open Go Go.RowKit

/-- What Made(n, m) gives: n objects of numbers. -/
structure Objs13 (l : List Int) (F : Int → Ob) (n : Nat) : Prop where
  len : l.length = n
  kind : ∀ a ∈ l, (F a).k = 3 ∧ (F a).ws.length = 2
theorem row_one (i : Nat) : (([[]] : List (List Int)).getD i []) = [] := by
  rcases i with _ | i <;> rfl
/-- A word within an object is no other object's place. -/
theorem HeapO.inner {w : World} {h np : Nat} {l : List Int} {F : Int → Ob} {O : Nat → Prop} (H : HeapO w h np l F O) {a d : Int} (ha : a ∈ l) (h0 : 0 < d) (hd : d ≤ (F a).ws.length) : a + d ∉ l := fun hm => by
  obtain ⟨t, s, L, S, H, _, rfl⟩ := H
  obtain ⟨m, hm1, hst⟩ := H.objs.ob a ha
  obtain ⟨m2, hm2, _⟩ := H.objs.ob (a + d) hm
  have fb := find_block H.space.wf hm1
  have := fb.2.2.2.2 (a + d) (by omega) (by have := hst.room; omega)
  rw [hm2] at this
  simp only [Prod.mk.injEq] at this
  omega
theorem Objs13.put {l : List Int} {F : Int → Ob} {n : Nat} (h : Objs13 l F n) {a : Int} (_ : a ∉ l) (o : Ob) (ho : o.k = 3 ∧ o.ws.length = 2) : Objs13 (l ++ [a]) (fset F a o) (n + 1) :=
  ⟨by rw [List.length_append, h.len]; rfl, fun x hx => by
    by_cases e : x = a
    · rw [e, fset_same]; exact ho
    · rw [fset_ne _ e]
      rcases List.mem_append.1 hx with hx | hx
      · exact h.kind x hx
      · exact absurd (List.mem_singleton.1 hx) e⟩
theorem owna_cell {w : World} {B : Nat} {b off n cap : Nat} {l : List Int} {O : Nat → Prop} (h : OwnA w B (.slice (some ⟨b, off, none⟩) n cap) l O) (hl : l.length = n) {i : Nat} (hi : i < n) : w.cell? ⟨b, off + i, none⟩ = some (.int .i64 (l.getD i 0)) := by
  obtain ⟨A', cap', hv', hI, _⟩ := h.own.form
  simp only [Value.slice.injEq] at hv'
  obtain ⟨b2, off2, hb2, _, hc⟩ := Reads.at (k := .i64) hI hl hi
  rw [← hv'.1] at hb2
  simp only [Option.some.injEq, Addr.mk.injEq, and_true] at hb2
  rw [hb2.1, hb2.2]
  exact hc

set_option maxRecDepth 100000 in
set_option maxHeartbeats 3200000 in
theorem made13 (n m : Nat) (w : World) (hn : n ≤ 4) (hm : m ≤ 3) : Calls Try.prog 39 #[.int .i64 n, .int .i64 m] w fun e w' =>
    ∃ h r q v l F O, e = .returned (.tuple #[.pointer (some ⟨h, 0, none⟩), .pointer (some ⟨r, 0, none⟩), v]) ∧ RefO w' r q h 40 l F (List.replicate m []) 0 O ∧ OwnA w' w.heap.size v l O ∧ Env w w' O ∧ Objs13 l F n := by
  go_enter Try.func39, Try.ntmps39
  go_wp2_with fail
  refine (heap_new 40 _ (by omega) (by omega)).mono ?_
  rintro e w1 ⟨h, O, rfl, hh, ho, hu⟩
  have HH := Lib.hid hh
  have HE : Hid (Env w w1 O) := Lib.hid ⟨ho, hu⟩
  clear hh ho hu
  go_wp2_with fail
  refine (whole_yes h 40 _ HH.out).mono ?_
  rintro e w2 ⟨rfl, hu⟩
  have HH2 := Lib.hid (HH.out.upd0 hu)
  have HE2 := Lib.hid (HE.out.upd0 hu)
  clear hu
  go_wp2_with fail
  refine (err_calls 0 _ (by omega)).mono ?_
  rintro e w' ⟨rfl, rfl⟩
  go_wp2_with fail
  refine (ref_new h 40 _ HH2.out).mono ?_
  rintro e w3 ⟨r, q, O3, rfl, hr, hs⟩
  have HR3 := Lib.hid hr
  have HE3 := Lib.hid (HE2.out.step hs)
  obtain ⟨c0, c1, c2, c3⟩ := hr.cells
  clear hr hs
  go_wp2_with fail
  clear c0 c1 c2 c3
  go_loopg [10, 11] n (fun gk v i wr => ∃ (k : Nat) (l : List Int) (F : Int → Ob) (O : Nat → Prop), gk = n - k ∧ k ≤ n ∧ i = .int .i64 k ∧ Hid (RefO wr r q h 40 l F [] 0 O) ∧ Hid (OwnA wr w.heap.size v l O) ∧ Hid (Env w wr O) ∧ Hid (Objs13 l F k))
  case atStart => exact ⟨0, [], F00, O3, rfl, by omega, rfl, HR3, Lib.hid (OwnA.nil _ _ _), HE3, Lib.hid ⟨rfl, by simp⟩⟩
  case round =>
    clear HH HE HH2 HE2 HR3 HE3
    obtain ⟨k, l, F, O, rfl, hk, rfl, HR, HO, HE, HL⟩ := hrel
    by_cases hlt : k < n
    · go_wp2_with fail
      refine (ref_make r q h 40 0 3 0 2 _ HR.out (by decide) (by omega) (by omega) (by rw [HL.out.len]; omega)).mono ?_
      rintro e w4 ⟨a, O4, rfl, ha1, ha2, ha3, hh, hs⟩
      have HR4 := Lib.hid hh
      have HO4 := Lib.hid (HO.out.step hs)
      have HE4 := Lib.hid (HE.out.step hs)
      have HL4 := Lib.hid (HL.out.put ha3 ⟨3, 0, false, List.replicate 2 0⟩ ⟨rfl, rfl⟩)
      clear hh hs ha3
      go_wp2_with fail
      refine (err_calls 0 _ (by omega)).mono ?_
      rintro e w' ⟨rfl, rfl⟩
      go_wp2_with (at_builtin; refine wpList_pushO rfl _ _ rfl w.heap.size _ l O4 rfl (HO4.out.upd0 ((Upd.refl [] w4).alloc _)) w4.heap.size a rfl (Blk.new _ _ _) (by rw [HL.out.len]; omega) (by have := HE4.out.upd.size; simp; omega) (fun k hk => by have := HR4.out.owned hk; simp; omega) ?_)
      intro v' w5 E h1 h2 h3 h4
      have hE : ∀ i ∈ E, w.heap.size ≤ i ∧ ¬ O4 i := fun i hi => ⟨(World.ownsRow.lt HO4.out.own i (h2 i hi)).1, HO4.out.far i (h2 i hi)⟩
      have HR5 : Hid (RefO w5 r q h 40 (l ++ [a]) (fset F a ⟨3, 0, false, List.replicate 2 0⟩) [] 0 O4) := Lib.hid ((HR4.out.upd0 ((Upd.refl [] w4).alloc _)).upd h3 fun i hi => (hE i hi).2)
      have HE5 : Hid (Env w w5 O4) := Lib.hid ((HE4.out.upd0 ((Upd.refl [] w4).alloc _)).upd' h3 fun i hi => (hE i hi).1)
      have HO5 := Lib.hid h1
      clear h1 h2 h3 h4 hE
      go_wp2_with fail
      go_roundg (n - (k + 1))
      case measure => omega
      case rel => exact ⟨k + 1, _, _, O4, rfl, by omega, by go_num, HR5, HO5, HE5, HL4⟩
    · obtain rfl : k = n := by omega
      go_wp2_with fail
      go_loopg [14] m (fun gk i wr => ∃ (j : Nat) (O : Nat → Prop), gk = m - j ∧ j ≤ m ∧ i = .int .i64 j ∧ Hid (RefO wr r q h 40 l F (List.replicate j []) 0 O) ∧ Hid (OwnA wr w.heap.size u10 l O) ∧ Hid (Env w wr O))
      case atStart => exact ⟨0, O, rfl, by omega, rfl, HR, HO, HE⟩
      case round =>
        clear HR HO HE
        obtain ⟨j, O, rfl, hj, rfl, HR, HO, HE⟩ := hrel
        by_cases hlt : j < m
        · obtain ⟨c0, c1, c2, c3⟩ := HR.out.cells
          go_wp2_with fail
          refine (ref_open r q h 40 0 _ HR.out (by rw [List.length_replicate]; omega)).mono ?_
          rintro e w3 ⟨rfl, O4, hq, hs⟩
          rw [← List.replicate_succ'] at hq
          have HR4 := Lib.hid hq
          have HE4 := Lib.hid (HE.out.step hs)
          have HO4 := Lib.hid (HO.out.step hs)
          clear hq hs
          go_wp2_with fail
          go_roundg (m - (j + 1))
          case measure => omega
          case rel => exact ⟨j + 1, O4, rfl, by omega, by go_num, HR4, HO4, HE4⟩
        · obtain rfl : j = m := by omega
          go_wp2_with fail
          go_ret3
          exact ⟨h, r, q, _, l, F, O, rfl, HR.out, HO.out, HE.out, HL.out⟩

set_option maxRecDepth 100000 in
set_option maxHeartbeats 1600000 in
theorem awake13 (w : World) : Calls Try.prog 44 #[] w fun e w' => e = .returned (.bool true) ∧ Upd [] w w' := by
  go_enter Try.func44, Try.ntmps44
  go_wp2_with fail
  refine (made13 1 1 _ (by omega) (by omega)).mono ?_
  rintro e w1 ⟨h, r, q, v, l, F, O, rfl, hr, ho, he, hl⟩
  obtain ⟨a, rfl⟩ : ∃ a, l = [a] := List.length_eq_one_iff.1 hl.len
  have HR : Hid (RefO w1 r q h 40 [a] F [[]] 0 O) := Lib.hid hr
  have HO := Lib.hid ho
  have HE := Lib.hid he
  clear hr ho he hl
  obtain ⟨A, cap, hv, hI, _⟩ := HO.out.own.form
  have hv' : v = .slice A 1 cap := hv
  subst hv'
  obtain ⟨b, off, rfl, hb, hc⟩ := Reads.at (k := .i64) hI (rfl : [a].length = 1) (by omega : 0 < 1)
  have hc' : w1.cell? ⟨b, off, none⟩ = some (.int .i64 a) := hc
  clear hI hv hc
  go_wp2_with fail
  refine (refer_yes r q h 40 0 3 a 0 5 _ HR.out (by omega) (by simp) (by omega) (by simp) (by simp) (by omega)).mono ?_
  rintro e w2 ⟨x, O2, rfl, hx, hr, hs⟩
  have HR2 := Lib.hid hr
  have HE2 := Lib.hid (HE.out.step hs)
  clear hr hs hc'
  go_wp2_with fail
  refine (referent_yes r q h 40 1 x 9 _ HR2.out (by simp) (by rw [fset_same])).mono ?_
  rintro e w3 ⟨rfl, O3, hr, hs⟩
  have hX : refX (fset F x ⟨4, 3, false, valsR a 0 5 0⟩ x) = 0 := by rw [fset_same]; rfl
  rw [hX]
  have HR3 := Lib.hid hr
  have HE3 := Lib.hid (HE2.out.step hs)
  clear hr hs hX
  go_wp2_with fail
  refine (err_calls 0 _ (by omega)).mono ?_
  rintro e w' ⟨rfl, rfl⟩
  go_wp2_with fail
  refine (err_calls 0 _ (by omega)).mono ?_
  rintro e w' ⟨rfl, rfl⟩
  go_wp2_with fail
  refine (serial_yes r q h 40 1 _ HR3.out).mono ?_
  rintro e w' ⟨rfl, rfl⟩
  go_wp2_with fail
  go_ret
  exact ⟨by first | rfl | (simp; done), HE3.out.upd⟩
end Go.Proofs.Ytendjhobemlhoaa
