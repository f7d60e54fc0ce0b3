/- A law's own finalizers: what Made gives; the laws' example. -/
import Derived.Test.YtendjhobemlhoaaFin3
namespace Go.Proofs.Ytendjhobemlhoaa
open Go Go.RowKit

/-- What Made(n) gives: n objects of a number, and a reference. -/
structure Objs15 (l : List Int) (F : Int → Ob) (n : Nat) : Prop where
  len : l.length = n + 1
  data : ∀ j, j < n → F (l.getD j 0) = ⟨3, 0, false, [0]⟩
  ref : (F (l.getD n 0)).k = 4
theorem owna_cell {w : World} {B : Nat} {b off n cap : Nat} {l : List Int} {O : Nat → Prop} (h : OwnA w B (.slice (some ⟨b, off, none⟩) n cap) l O) (hl : l.length = n) {i : Nat} (hi : i < n) : w.cell? ⟨b, off + i, none⟩ = some (.int .i64 (l.getD i 0)) := by
  obtain ⟨A', cap', hv', hI, _⟩ := h.own.form
  simp only [Value.slice.injEq] at hv'
  obtain ⟨b2, off2, hb2, _, hc⟩ := Reads.at (k := .i64) hI hl hi
  rw [← hv'.1] at hb2
  simp only [Option.some.injEq, Addr.mk.injEq, and_true] at hb2
  rw [hb2.1, hb2.2]
  exact hc
section
variable {l : List Int} {F : Int → Ob} {ws ps : List Int} {O : Nat → Prop} {w : World} {f h np : Nat}
theorem fin_make (f h np : Nat) (k c : Int) (n : Nat) (w : World) (H : FinO w f h np l F ws ps O) (hm : mayB k c n false = true) (hk : k ≠ 1) (hn : n ≤ 31) (hroom : l.length + 1 < np) :
    Calls Try.prog 34 #[.pointer (some ⟨h, 0, none⟩), .agg #[.int .i64 k, .int .i64 c, .int .i64 n, .bool false]] w fun e w' =>
      ∃ a O', e = .returned (.tuple #[.int .i64 a, .int .i64 0]) ∧ a ∉ l ∧ FinO w' f h np (l ++ [a]) (fset F a ⟨k, c, false, List.replicate n 0⟩) ws ps O' ∧ StepO O w O' w' := by
  obtain ⟨vw, vp, Oh, H, rfl⟩ := H
  refine (heap_make h np k c n w H.heap hm hk hn hroom).mono ?_
  rintro e w' ⟨a, O', rfl, _, _, h3, hh, hs⟩
  exact ⟨a, _, rfl, h3, ⟨_, _, _, H.heaped hh hs, rfl⟩, hs.finals⟩
theorem fin_put (f h np : Nat) (a i : Int) (j : Nat) (x : Int) (w : World) (H : FinO w f h np l F ws ps O) (ha : a ∈ l) (hi : i = j) (hj : j < (F a).ws.length) :
    Calls Try.prog 37 #[.pointer (some ⟨h, 0, none⟩), .int .i64 a, .int .i64 i, .int .i64 x] w fun e w' => e = .returned (.int .i64 0) ∧ ∃ O', FinO w' f h np l (putF F a j x) ws ps O' ∧ StepO O w O' w' := by
  obtain ⟨vw, vp, Oh, H, rfl⟩ := H
  refine (put_yes h np a i j x w H.heap ha hi hj).mono ?_
  rintro e w' ⟨rfl, O', hh, hs⟩
  exact ⟨rfl, _, ⟨_, _, _, H.heaped hh hs, rfl⟩, hs.finals⟩
theorem fin_get (f h np : Nat) (a i : Int) (j : Nat) (x : Int) (w : World) (H : FinO w f h np l F ws ps O) (ha : a ∈ l) (hi : i = j) (hj : j < (F a).ws.length) (hx : (F a).ws.getD j 0 = x) :
    Calls Try.prog 32 #[.pointer (some ⟨h, 0, none⟩), .int .i64 a, .int .i64 i] w fun e w' => e = .returned (.tuple #[.int .i64 x, .int .i64 0]) ∧ Upd [] w w' := by
  obtain ⟨Oh, hh⟩ := H.heap
  exact get_yes h np a i j x w hh ha hi hj hx
theorem fin_head (f h np : Nat) (a k c m : Int) (b : Bool) (w : World) (H : FinO w f h np l F ws ps O) (ha : a ∈ l) (ho : (F a).head = .agg #[.int .i64 k, .int .i64 c, .int .i64 m, .bool b]) :
    Calls Try.prog 38 #[.pointer (some ⟨h, 0, none⟩), .int .i64 a] w fun e w' => e = .returned (.tuple #[.agg #[.int .i64 k, .int .i64 c, .int .i64 m, .bool b], .int .i64 0]) ∧ Upd [] w w' := by
  obtain ⟨Oh, hh⟩ := H.heap
  exact head_yes h np a k c m b w hh ha ho
theorem FinO.nodup (H : FinO w f h np l F ws ps O) : l.Nodup := by
  obtain ⟨Oh, hh⟩ := H.heap
  exact hh.nodup
end
theorem getD_in {l l' : List Int} {j : Nat} (hj : j < l.length) : (l ++ l').getD j 0 = l.getD j 0 := by
  rw [List.getD_eq_getElem?_getD, List.getD_eq_getElem?_getD, List.getElem?_append_left hj]
theorem getD_end {l : List Int} {a : Int} : (l ++ [a]).getD l.length 0 = a := by
  rw [List.getD_eq_getElem?_getD, List.getElem?_append_right (Nat.le_refl _)]; simp
/-- The objects made so far. -/
structure Part15 (l : List Int) (F : Int → Ob) (n k : Nat) : Prop where
  len : l.length = k
  data : ∀ j, j < k → j < n → F (l.getD j 0) = ⟨3, 0, false, [0]⟩
  ref : k = n + 1 → (F (l.getD n 0)).k = 4
theorem Part15.put {l : List Int} {F : Int → Ob} {n k : Nat} (h : Part15 l F n k) {a : Int} (ha : a ∉ l) (o : Ob) (h1 : k < n → o = ⟨3, 0, false, [0]⟩) (h2 : k = n → o.k = 4) (hk : k ≤ n) : Part15 (l ++ [a]) (fset F a o) n (k + 1) := by
  have hlk := h.len
  have hne : ∀ j, j < k → l.getD j 0 ≠ a := fun j hj e => ha (by rw [← e]; exact getD_mem (by omega))
  refine ⟨by rw [List.length_append, h.len]; rfl, fun j hj hjn => ?_, fun e => ?_⟩
  · by_cases e : j < k
    · rw [getD_in (by omega), fset_ne _ (hne j e)]
      exact h.data j e hjn
    · obtain rfl : j = k := by omega
      rw [← hlk, getD_end, fset_same]
      exact h1 hjn
  · obtain rfl : k = n := by omega
    rw [← hlk, getD_end, fset_same]
    exact h2 rfl
set_option maxRecDepth 100000 in
set_option maxHeartbeats 6400000 in
theorem made15 (n : Nat) (w : World) (hn : n ≤ 8) : Calls Try.prog 16 #[.int .i64 n] w fun e w' =>
    ∃ h f v l F O, e = .returned (.tuple #[.pointer (some ⟨h, 0, none⟩), .pointer (some ⟨f, 0, none⟩), v]) ∧ FinO w' f h 40 l F [] [] O ∧ OwnA w' w.heap.size v l O ∧ Env w w' O ∧ Objs15 l F n := by
  go_enter Try.func16, Try.ntmps16
  go_wp2_with fail
  refine (heap_new 40 _ (by omega) (by omega)).mono ?_
  rintro e w1 ⟨h, O, rfl, hh, ho, hu⟩
  have HH := Lib.hid hh
  have HE : Hid (Env w w1 O) := Lib.hid ⟨ho, hu⟩
  clear hh ho hu
  go_wp2_with fail
  refine (whole_yes h 40 _ HH.out).mono ?_
  rintro e w2 ⟨rfl, hu⟩
  have HH2 := Lib.hid (HH.out.upd0 hu)
  have HE2 := Lib.hid (HE.out.upd0 hu)
  clear hu
  go_wp2_with fail
  refine (err_calls 0 _ (by omega)).mono ?_
  rintro e w' ⟨rfl, rfl⟩
  go_wp2_with fail
  refine (fin_new h 40 _ HH2.out).mono ?_
  rintro e w3 ⟨f, O3, rfl, hr, hs⟩
  have HR3 := Lib.hid hr
  have HE3 := Lib.hid (HE2.out.step hs)
  clear hr hs
  go_wp2_with fail
  go_loopg [8, 9] (n + 1) (fun gk v i wr => ∃ (k : Nat) (l : List Int) (F : Int → Ob) (O : Nat → Prop), gk = n + 1 - k ∧ k ≤ n + 1 ∧ i = .int .i64 k ∧ Hid (FinO wr f h 40 l F [] [] O) ∧ Hid (OwnA wr w.heap.size v l O) ∧ Hid (Env w wr O) ∧ Hid (Part15 l F n k))
  case atStart => exact ⟨0, [], F00, O3, rfl, by omega, rfl, HR3, Lib.hid (OwnA.nil _ _ _), HE3, Lib.hid ⟨rfl, by omega, by omega⟩⟩
  case round =>
    clear HH HE HH2 HE2 HR3 HE3
    obtain ⟨k, l, F, O, rfl, hk, rfl, HR, HO, HE, HL⟩ := hrel
    by_cases hlt : k ≤ n
    · by_cases hkn : k = n
      · obtain rfl : n = k := hkn.symm
        have HUX : Hid (Upd [] wr (wr.alloc (.cells #[.int .i64 4, .int .i64 2, .int .i64 5, .bool false] 52))) := Lib.hid ((Upd.refl [] wr).alloc _)
        go_wp2_with fail
        refine (fin_make f h 40 4 2 5 _ (HR.out.upd0 HUX.out) (by decide) (by omega) (by omega) (by rw [HL.out.len]; omega)).mono ?_
        rintro e w4 ⟨a, O4, rfl, ha3, hh, hs⟩
        have HL4 := Lib.hid (HL.out.put ha3 ⟨4, 2, false, List.replicate 5 0⟩ (by omega) (fun _ => rfl) hlt)
        have HR4 := Lib.hid hh
        have HO4 := Lib.hid ((HO.out.upd0 HUX.out).step hs)
        have HE4 := Lib.hid ((HE.out.upd0 HUX.out).step hs)
        clear hh hs ha3
        go_wp2_with fail
        refine (err_calls 0 _ (by omega)).mono ?_
        rintro e w' ⟨rfl, rfl⟩
        go_wp2_with (at_builtin; refine wpList_pushO rfl _ _ rfl w.heap.size _ l O4 rfl (HO4.out.upd0 ((Upd.refl [] w4).alloc _)) w4.heap.size a rfl (Blk.new _ _ _) (by rw [HL.out.len]; omega) (by have := HE4.out.upd.size; simp; omega) (fun k hk => by have := HR4.out.owned hk; simp; omega) ?_)
        intro v' w5 E h1 h2 h3 h4
        have hE : ∀ i ∈ E, w.heap.size ≤ i ∧ ¬ O4 i := fun i hi => ⟨(World.ownsRow.lt HO4.out.own i (h2 i hi)).1, HO4.out.far i (h2 i hi)⟩
        have HR5 := Lib.hid ((HR4.out.upd0 ((Upd.refl [] w4).alloc _)).upd h3 fun i hi => (hE i hi).2)
        have HE5 := Lib.hid ((HE4.out.upd0 ((Upd.refl [] w4).alloc _)).upd' h3 fun i hi => (hE i hi).1)
        have HO5 := Lib.hid h1
        clear h1 h2 h3 h4 hE
        go_wp2_with fail
        go_roundg (n + 1 - (n + 1))
        case measure => omega
        case rel => exact ⟨n + 1, _, _, O4, rfl, by omega, by go_num, HR5, HO5, HE5, HL4⟩
      · have hkn' : ¬ (k : Int) = n := by omega
        have hltn : k < n := by omega
        have HUX : Hid (Upd [] wr (wr.alloc (.cells #[.int .i64 3, .int .i64 0, .int .i64 1, .bool false] 52))) := Lib.hid ((Upd.refl [] wr).alloc _)
        go_wp2_with fail
        refine (fin_make f h 40 3 0 1 _ (HR.out.upd0 HUX.out) (by decide) (by omega) (by omega) (by rw [HL.out.len]; omega)).mono ?_
        rintro e w4 ⟨a, O4, rfl, ha3, hh, hs⟩
        have HL4 := Lib.hid (HL.out.put ha3 ⟨3, 0, false, List.replicate 1 0⟩ (fun _ => rfl) (by omega) hlt)
        have HR4 := Lib.hid hh
        have HO4 := Lib.hid ((HO.out.upd0 HUX.out).step hs)
        have HE4 := Lib.hid ((HE.out.upd0 HUX.out).step hs)
        clear hh hs ha3
        go_wp2_with fail
        refine (err_calls 0 _ (by omega)).mono ?_
        rintro e w' ⟨rfl, rfl⟩
        go_wp2_with (at_builtin; refine wpList_pushO rfl _ _ rfl w.heap.size _ l O4 rfl (HO4.out.upd0 ((Upd.refl [] w4).alloc _)) w4.heap.size a rfl (Blk.new _ _ _) (by rw [HL.out.len]; omega) (by have := HE4.out.upd.size; simp; omega) (fun k hk => by have := HR4.out.owned hk; simp; omega) ?_)
        intro v' w5 E h1 h2 h3 h4
        have hE : ∀ i ∈ E, w.heap.size ≤ i ∧ ¬ O4 i := fun i hi => ⟨(World.ownsRow.lt HO4.out.own i (h2 i hi)).1, HO4.out.far i (h2 i hi)⟩
        have HR5 := Lib.hid ((HR4.out.upd0 ((Upd.refl [] w4).alloc _)).upd h3 fun i hi => (hE i hi).2)
        have HE5 := Lib.hid ((HE4.out.upd0 ((Upd.refl [] w4).alloc _)).upd' h3 fun i hi => (hE i hi).1)
        have HO5 := Lib.hid h1
        clear h1 h2 h3 h4 hE
        go_wp2_with fail
        go_roundg (n + 1 - (k + 1))
        case measure => omega
        case rel => exact ⟨k + 1, _, _, O4, rfl, by omega, by go_num, HR5, HO5, HE5, HL4⟩
    · obtain rfl : k = n + 1 := by omega
      go_wp2_with fail
      go_ret3
      exact ⟨h, f, _, l, F, O, rfl, HR.out, HO.out, HE.out, ⟨HL.out.len, fun j hj => HL.out.data j (by omega) hj, HL.out.ref rfl⟩⟩

set_option maxRecDepth 100000 in
set_option maxHeartbeats 1600000 in
theorem awake15 (w : World) : Calls Try.prog 26 #[] w fun e w' => e = .returned (.bool true) ∧ Upd [] w w' := by
  go_enter Try.func26, Try.ntmps26
  go_wp2_with fail
  refine (made15 1 _ (by omega)).mono ?_
  rintro e w1 ⟨h, f, v, l, F, O, rfl, hr, ho, he, hl⟩
  obtain ⟨x, y, rfl⟩ : ∃ x y, l = [x, y] := by
    have := hl.len
    match l, this with
    | [x, y], _ => exact ⟨x, y, rfl⟩
  have HR := Lib.hid hr
  have HE := Lib.hid he
  have HX : Hid (F x = ⟨3, 0, false, [0]⟩) := Lib.hid (hl.data 0 (by omega))
  obtain ⟨A, cap, hv, hI, _⟩ := ho.own.form
  have hv' : v = .slice A 2 cap := hv
  subst hv'
  obtain ⟨b, off, rfl, hb, hc⟩ := Reads.at (k := .i64) hI (rfl : [x, y].length = 2) (by omega : 0 < 2)
  have hc' : w1.cell? ⟨b, off, none⟩ = some (.int .i64 x) := hc
  clear hr ho he hl hI hv hc
  go_wp2_with fail
  refine (ftake_no f h 40 0 _ HR.out (by simp) (by simp)).mono ?_
  rintro e w' ⟨rfl, rfl⟩
  go_wp2_with fail
  refine (await_yes f h 40 x _ HR.out (by simp) (by rw [HX.out]; simp) (by rw [HX.out]) (by simp)).mono ?_
  rintro e w2 ⟨rfl, O2, hr, hs⟩
  have HR2 := Lib.hid hr
  have HE2 := Lib.hid (HE.out.step hs)
  clear hr hs hc'
  go_wp2_with fail
  refine (err_calls 1 _ (by omega)).mono ?_
  rintro e w' ⟨rfl, rfl⟩
  go_wp2_with fail
  refine (err_calls 0 _ (by omega)).mono ?_
  rintro e w' ⟨rfl, rfl⟩
  go_wp2_with fail
  refine (finals_yes f h 40 _ HR2.out (by simp)).mono ?_
  rintro e w3 ⟨vf, rfl, ho, hu⟩
  obtain ⟨A3, cap3, hv3, _⟩ := ho.form
  have hv4 : vf = .slice A3 1 cap3 := hv3
  subst hv4
  have HE3 := Lib.hid (HE2.out.upd0 hu)
  clear ho hu hv3
  go_wp2_with fail
  go_ret
  exact ⟨by first | rfl | (simp; done), HE3.out.upd⟩
end Go.Proofs.Ytendjhobemlhoaa
