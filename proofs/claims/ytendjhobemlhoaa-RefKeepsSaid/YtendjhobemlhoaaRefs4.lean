/- The contracts of references: Field, Referent. -/
import Derived.Test.YtendjhobemlhoaaRefs3
namespace Go.Proofs.Ytendjhobemlhoaa
open Go Go.RowKit

theorem HeapO.ref5 {w : World} {h np : Nat} {l : List Int} {F : Int → Ob} {O : Nat → Prop} (H : HeapO w h np l F O) {a : Int} (ha : a ∈ l) (hk : (F a).k = 4) : (F a).ws.length = 5 ∧ 1 ≤ (F a).c ∧ (F a).c ≤ 3 ∧ (F a).f = false := by
  have := H.may ha
  unfold mayB at this
  rw [hk] at this
  simp only [Int.reduceEq, if_false, or_self, if_true] at this
  split at this
  · cases this
  · simp only [Bool.and_eq_true, decide_eq_true_eq, Bool.not_eq_true'] at this
    obtain ⟨⟨x1, x2, x3⟩, x4⟩ := this
    exact ⟨by omega, x1, x2, x4⟩
/-- What a reference tells, and what asking does. -/
def refX (o : Ob) : Int := if o.c = 3 then 0 else o.ws.getD 0 0
def refF (F : Int → Ob) (a t : Int) : Int → Ob := if (F a).c = 1 ∧ (F a).ws.getD 0 0 ≠ 0 then putF F a 3 t else F
section
variable {l : List Int} {F : Int → Ob} {rows : List (List Int)} {O : Nat → Prop} {w w' : World} {r q h np n : Nat}
theorem RefO.ref5 (H : RefO w r q h np l F rows n O) {a : Int} (ha : a ∈ l) (hk : (F a).k = 4) : (F a).ws.length = 5 ∧ 1 ≤ (F a).c ∧ (F a).c ≤ 3 ∧ (F a).f = false := by
  obtain ⟨Oh, hh⟩ := H.heap
  exact hh.ref5 ha hk
theorem RefO.nodup (H : RefO w r q h np l F rows n O) : l.Nodup := by
  obtain ⟨Oh, hh⟩ := H.heap
  exact hh.nodup
theorem ref_get (r q h np n : Nat) (a i : Int) (j : Nat) (x : Int) (w : World) (H : RefO w r q h np l F rows n O) (ha : a ∈ l) (hi : i = j) (hj : j < (F a).ws.length) (hx : (F a).ws.getD j 0 = x) :
    Calls Try.prog 32 #[.pointer (some ⟨h, 0, none⟩), .int .i64 a, .int .i64 i] w fun e w' => e = .returned (.tuple #[.int .i64 x, .int .i64 0]) ∧ Upd [] w w' := by
  obtain ⟨Oh, hh⟩ := H.heap
  exact get_yes h np a i j x w hh ha hi hj hx
theorem ref_head (r q h np n : Nat) (a k c m : Int) (f : Bool) (w : World) (H : RefO w r q h np l F rows n O) (ha : a ∈ l) (ho : (F a).head = .agg #[.int .i64 k, .int .i64 c, .int .i64 m, .bool f]) :
    Calls Try.prog 38 #[.pointer (some ⟨h, 0, none⟩), .int .i64 a] w fun e w' => e = .returned (.tuple #[.agg #[.int .i64 k, .int .i64 c, .int .i64 m, .bool f], .int .i64 0]) ∧ Upd [] w w' := by
  obtain ⟨Oh, hh⟩ := H.heap
  exact head_yes h np a k c m f w hh ha ho

theorem referent_nil (a t : Int) (w : World) : Calls Try.prog 41 #[.pointer none, .int .i64 a, .int .i64 t] w fun e w' => e = .returned (.tuple #[.int .i64 0, .int .i64 5]) ∧ w = w' := by
  go_enter Try.func41, Try.ntmps41
  go_wp2_with fail
  refine (strength_nil a _).mono ?_
  rintro e w' ⟨rfl, rfl⟩
  go_wp2_with fail
  go_ret2
  exact ⟨rfl, rfl⟩
theorem referent_no (r q h np n : Nat) (a t : Int) (w : World) (H : RefO w r q h np l F rows n O) (ha : a ∉ l ∨ a ∈ l ∧ (F a).k ≠ 4) :
    Calls Try.prog 41 #[.pointer (some ⟨r, 0, none⟩), .int .i64 a, .int .i64 t] w fun e w' => e = .returned (.tuple #[.int .i64 0, .int .i64 5]) ∧ Upd [] w w' := by
  have HS := Lib.hid (strength_no r q h np n a w H ha)
  clear H ha
  go_enter Try.func41, Try.ntmps41
  go_wp2_with fail
  refine (HS.out).mono ?_
  rintro e w1 ⟨rfl, hu⟩
  have HU := Lib.hid hu
  clear hu
  go_wp2_with fail
  go_ret2
  exact ⟨rfl, HU.out⟩
set_option maxRecDepth 100000 in
set_option maxHeartbeats 1600000 in
theorem referent_yes (r q h np n : Nat) (a t : Int) (w : World) (H : RefO w r q h np l F rows n O) (ha : a ∈ l) (hk : (F a).k = 4) :
    Calls Try.prog 41 #[.pointer (some ⟨r, 0, none⟩), .int .i64 a, .int .i64 t] w fun e w' =>
      e = .returned (.tuple #[.int .i64 (refX (F a)), .int .i64 0]) ∧ ∃ O', RefO w' r q h np l (refF F a t) rows n O' ∧ StepO O w O' w' := by
  obtain ⟨h5, b1, b3, _⟩ := H.ref5 ha hk
  obtain ⟨x, hx⟩ : ∃ x, (F a).ws.getD 0 0 = x := ⟨_, rfl⟩
  have HG := Lib.hid (fun W (hu : Upd [] w W) => ref_get r q h np n a 0 0 x W (H.upd0 hu) ha rfl (by omega) hx)
  rcases (show (F a).c = 3 ∨ (F a).c = 2 ∨ (F a).c = 1 by omega) with hc | hc | hc
  · have HS := Lib.hid (strength_yes r q h np n a 3 w H ha hk hc)
    rw [show refX (F a) = 0 by unfold refX; first | rw [if_pos hc] | rw [if_neg (by rw [hc]; omega), hx]]
    have HR := Lib.hid H
    have HX := Lib.hid hx
    have HC := Lib.hid hc
    have HA := Lib.hid (And.intro ha (show 3 < (F a).ws.length by omega))
    clear H ha hk h5 hc hx
    go_enter Try.func41, Try.ntmps41
    go_wp2_with fail
    refine (HS.out).mono ?_
    rintro e w1 ⟨rfl, hu⟩
    obtain ⟨c0, c1, c2, c3⟩ := (HR.out.upd0 hu).cells
    have HU := Lib.hid hu
    clear hu
    go_wp2_with fail
    go_ret2
    refine ⟨rfl, O, ?_, .upd O HU.out⟩
    unfold refF
    rw [if_neg (by rw [HC.out]; simp)]
    exact HR.out.upd0 HU.out
  · have HS := Lib.hid (strength_yes r q h np n a 2 w H ha hk hc)
    rw [show refX (F a) = x by unfold refX; first | rw [if_pos hc] | rw [if_neg (by rw [hc]; omega), hx]]
    have HR := Lib.hid H
    have HX := Lib.hid hx
    have HC := Lib.hid hc
    have HA := Lib.hid (And.intro ha (show 3 < (F a).ws.length by omega))
    clear H ha hk h5 hc hx
    go_enter Try.func41, Try.ntmps41
    go_wp2_with fail
    refine (HS.out).mono ?_
    rintro e w1 ⟨rfl, hu⟩
    obtain ⟨c0, c1, c2, c3⟩ := (HR.out.upd0 hu).cells
    have HU := Lib.hid hu
    clear hu
    go_wp2_with fail
    refine (HG.out _ HU.out).mono ?_
    rintro e w2 ⟨rfl, hu⟩
    have HU2 := Lib.hid (HU.out.trans hu)
    clear c0 c1 c2 c3
    obtain ⟨c0, c1, c2, c3⟩ := (HR.out.upd0 HU2.out).cells
    clear hu
    go_wp2_with fail
    go_ret2
    refine ⟨rfl, O, ?_, .upd O HU2.out⟩
    unfold refF
    rw [if_neg (by rw [HC.out]; simp)]
    exact HR.out.upd0 HU2.out
  · by_cases h0 : x = 0
    · subst h0
      have HS := Lib.hid (strength_yes r q h np n a 1 w H ha hk hc)
      rw [show refX (F a) = 0 by unfold refX; first | rw [if_pos hc] | rw [if_neg (by rw [hc]; omega), hx]]
      have HR := Lib.hid H
      have HX := Lib.hid hx
      have HC := Lib.hid hc
      have HA := Lib.hid (And.intro ha (show 3 < (F a).ws.length by omega))
      clear H ha hk h5 hc hx
      go_enter Try.func41, Try.ntmps41
      go_wp2_with fail
      refine (HS.out).mono ?_
      rintro e w1 ⟨rfl, hu⟩
      obtain ⟨c0, c1, c2, c3⟩ := (HR.out.upd0 hu).cells
      have HU := Lib.hid hu
      clear hu
      go_wp2_with fail
      refine (HG.out _ HU.out).mono ?_
      rintro e w2 ⟨rfl, hu⟩
      have HU2 := Lib.hid (HU.out.trans hu)
      clear c0 c1 c2 c3
      obtain ⟨c0, c1, c2, c3⟩ := (HR.out.upd0 HU2.out).cells
      clear hu
      go_wp2_with fail
      go_ret2
      refine ⟨rfl, O, ?_, .upd O HU2.out⟩
      unfold refF
      rw [if_neg (by rw [HX.out]; simp)]
      exact HR.out.upd0 HU2.out
    · have HS := Lib.hid (strength_yes r q h np n a 1 w H ha hk hc)
      rw [show refX (F a) = x by unfold refX; first | rw [if_pos hc] | rw [if_neg (by rw [hc]; omega), hx]]
      have HR := Lib.hid H
      have HX := Lib.hid hx
      have HC := Lib.hid hc
      have HA := Lib.hid (And.intro ha (show 3 < (F a).ws.length by omega))
      clear H ha hk h5 hc hx
      go_enter Try.func41, Try.ntmps41
      go_wp2_with fail
      refine (HS.out).mono ?_
      rintro e w1 ⟨rfl, hu⟩
      obtain ⟨c0, c1, c2, c3⟩ := (HR.out.upd0 hu).cells
      have HU := Lib.hid hu
      clear hu
      go_wp2_with fail
      refine (HG.out _ HU.out).mono ?_
      rintro e w2 ⟨rfl, hu⟩
      have HU2 := Lib.hid (HU.out.trans hu)
      clear c0 c1 c2 c3
      obtain ⟨c0, c1, c2, c3⟩ := (HR.out.upd0 HU2.out).cells
      clear hu
      go_wp2_with fail
      refine (ref_put r q h np n a 3 3 t _ (HR.out.upd0 HU2.out) HA.out.1 rfl HA.out.2 (by omega)).mono ?_
      rintro e w3 ⟨rfl, O3, hr, hs⟩
      have HR3 := Lib.hid hr
      have HS3 := Lib.hid (StepO.behind HU2.out hs)
      clear hr hs
      go_wp2_with fail
      go_ret2
      refine ⟨rfl, O3, ?_, HS3.out⟩
      unfold refF
      rw [if_pos ⟨HC.out, by rw [HX.out]; exact h0⟩]
      exact HR3.out
end
end Go.Proofs.Ytendjhobemlhoaa
