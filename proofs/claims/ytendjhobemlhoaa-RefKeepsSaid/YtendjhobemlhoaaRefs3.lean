/- The contract of Refer. -/
import Derived.Test.YtendjhobemlhoaaRefs2
import Derived.Test.YtendjhobemlhoaaQueueMany0
namespace Go.Proofs.Ytendjhobemlhoaa
open Go Go.RowKit

theorem putF_fset (F : Int → Ob) (a : Int) (o : Ob) (j : Nat) (x : Int) : putF (fset F a o) a j x = fset F a { o with ws := o.ws.set j x } := by
  unfold putF
  rw [fset_same]
  funext y
  unfold fset
  split <;> rfl
section
variable {l : List Int} {F : Int → Ob} {rows : List (List Int)} {O : Nat → Prop}
theorem ref_make (r q h np m : Nat) (k c : Int) (n : Nat) (w : World) (H : RefO w r q h np l F rows m O) (hm : mayB k c n false = true) (hk : k ≠ 1) (hn : n ≤ 31) (hroom : l.length + 1 < np) :
    Calls Try.prog 34 #[.pointer (some ⟨h, 0, none⟩), .agg #[.int .i64 k, .int .i64 c, .int .i64 n, .bool false]] w fun e w' =>
      ∃ a O', e = .returned (.tuple #[.int .i64 a, .int .i64 0]) ∧ 64 ≤ a ∧ a ≤ 16384 ∧ a ∉ l ∧ RefO w' r q h np (l ++ [a]) (fset F a ⟨k, c, false, List.replicate n 0⟩) rows m O' ∧ StepO O w O' w' := by
  obtain ⟨Oq, H, rfl⟩ := H
  refine (que_make q h np k c n w H.que hm hk hn hroom).mono ?_
  rintro e w' ⟨a, O', rfl, h1, h2, h3, hq, hs⟩
  exact ⟨a, _, rfl, h1, h2, h3, H.queued hq hs⟩
theorem RefO.serial {w : World} {r q h np n : Nat} (H : RefO w r q h np l F rows n O) (m : Nat) : RefO (w.setCell ⟨r, 1, none⟩ (.int .i64 m)) r q h np l F rows m O ∧ O r := by
  obtain ⟨Oq, H, rfl⟩ := H
  exact ⟨⟨Oq, ⟨H.que.moved fun k hk => Below.heap_setCell _ _ _ _ (fun e => H.far (by rw [← show k = r from e]; exact hk)), H.box.set_ 1 _, H.far⟩, rfl⟩, .inr rfl⟩
theorem refer_nil (s a b c : Int) (w : World) : Calls Try.prog 40 #[.pointer none, .int .i64 s, .int .i64 a, .int .i64 b, .int .i64 c] w fun e w' => e = .returned (.tuple #[.int .i64 0, .int .i64 2]) ∧ w = w' := by
  go_enter Try.func40, Try.ntmps40
  go_wp2_with fail
  go_ret2
  exact ⟨rfl, rfl⟩
/-- What may says is told. -/
theorem refer_no (r : Nat) (s a b c y : Int) (w : World) (hy : y = 1 ∨ y = 2) (hm : Calls Try.prog 62 #[.pointer (some ⟨r, 0, none⟩), .int .i64 s, .int .i64 a, .int .i64 b] w fun e w' => e = .returned (.int .i64 y) ∧ Upd [] w w') :
    Calls Try.prog 40 #[.pointer (some ⟨r, 0, none⟩), .int .i64 s, .int .i64 a, .int .i64 b, .int .i64 c] w fun e w' => e = .returned (.tuple #[.int .i64 0, .int .i64 y]) ∧ Upd [] w w' := by
  have HM := Lib.hid hm
  clear hm
  have hy0 : y ≠ 0 := by omega
  clear hy
  go_enter Try.func40, Try.ntmps40
  go_wp2_with fail
  refine (HM.out).mono ?_
  rintro e w1 ⟨rfl, hu⟩
  have HU := Lib.hid hu
  clear hu
  go_wp2_with fail
  go_ret2
  exact ⟨rfl, HU.out⟩

theorem arr_at (a b c d e : Int) (i : Nat) (hi : i < 5) (W : World) : (Instr.index 110 (.agg #[.int .i64 a, .int .i64 b, .int .i64 c, .int .i64 d, .int .i64 e]) (.int .i64 i)).run Try.prog W = .ok (.int .i64 ([a, b, c, d, e].getD i 0)) W := by
  have : i = 0 ∨ i = 1 ∨ i = 2 ∨ i = 3 ∨ i = 4 := by omega
  rcases this with rfl | rfl | rfl | rfl | rfl
  all_goals simp [Instr.index, run_underlying Try.underlying110, asIntOf, go_sem]
def valsR (a b c : Int) (n : Nat) : List Int := [a, b + 1, 0, c, (n : Int) + 1]
def partR (F : Int → Ob) (at_ s a b c : Int) (n k : Nat) : Int → Ob := fset F at_ ⟨4, s, false, (valsR a b c n).take k ++ List.replicate (5 - k) 0⟩
set_option maxRecDepth 100000 in
set_option maxHeartbeats 6400000 in
theorem refer_yes (r q h np n : Nat) (s a b c : Int) (w : World) (H : RefO w r q h np l F rows n O) (hs : 1 ≤ s ∧ s ≤ 3) (hb : -1 ≤ b ∧ b < rows.length) (hp : s ≠ 3 ∨ 0 ≤ b) (ha : a ∈ l) (hroom : l.length + 1 < np) (hn : n ≤ 1000000) :
    Calls Try.prog 40 #[.pointer (some ⟨r, 0, none⟩), .int .i64 s, .int .i64 a, .int .i64 b, .int .i64 c] w fun e w' =>
      ∃ x O', e = .returned (.tuple #[.int .i64 x, .int .i64 0]) ∧ x ∉ l ∧ RefO w' r q h np (l ++ [x]) (fset F x ⟨4, s, false, valsR a b c n⟩) rows (n + 1) O' ∧ StepO O w O' w' := by
  have HM := Lib.hid (rmay_yes r q h np n s a b w H hs hb hp ha)
  have hb8 : b ≤ 8 := by
    obtain ⟨Oq, H5, _⟩ := H
    obtain ⟨v, Oh, H6, _⟩ := H5.que
    have := H6.few
    omega
  have hb1 := hb.1
  have HR := Lib.hid H
  have HKM := Lib.hid (kref_may s hs.1 hs.2)
  have HROOM := Lib.hid hroom
  clear H hs hb hp ha hroom
  go_enter Try.func40, Try.ntmps40
  go_wp2_with fail
  refine (HM.out).mono ?_
  rintro e w1 ⟨rfl, hu⟩
  have HR1 := Lib.hid (HR.out.upd0 hu)
  have HU := Lib.hid hu
  clear hu
  obtain ⟨c0, c1, c2, c3⟩ := HR1.out.cells
  go_wp2_with fail
  refine (ref_make r q h np n 4 s 5 _ HR1.out HKM.out (by omega) (by omega) HROOM.out).mono ?_
  rintro e w2 ⟨at_, O2, rfl, hx1, hx2, hx3, hr, hs⟩
  clear c0 c1 c2 c3
  obtain ⟨c0, c1, c2, c3⟩ := hr.cells
  have HR2 := Lib.hid hr
  have HS2 := Lib.hid (StepO.behind HU.out hs)
  have HX := Lib.hid hx3
  have hser := hr.serial (n + 1)
  have HR3 := Lib.hid hser.1
  have HS3 := Lib.hid (HS2.out.setCell (p := ⟨r, 1, none⟩) hser.2 (.int .i64 ((n + 1 : Nat) : Int)))
  clear hr hs hx3 hser
  go_wp2_with fail
  have HCAST : Hid (((n + 1 : Nat) : Int) = (n : Int) + 1) := Lib.hid (by omega)
  rw [HCAST.out] at HR3 HS3
  go_loopg [59] 5 (fun gk i wr => ∃ (k : Nat) (O' : Nat → Prop), gk = 5 - k ∧ k ≤ 5 ∧ i = .int .i64 k ∧ Hid (RefO wr r q h np (l ++ [at_]) (partR F at_ s a b c n k) rows (n + 1) O') ∧ Hid (StepO O w O' wr))
  case atStart => exact ⟨0, O2, rfl, by omega, rfl, HR3, HS3⟩
  case round =>
    clear HR HM HR1 HU HR2 HS2 HR3 HS3 c0 c1 c2 c3
    obtain ⟨k, O', rfl, hk, rfl, HR, HS⟩ := hrel
    have HAT : Hid (at_ ∈ l ++ [at_]) := Lib.hid (by simp)
    obtain ⟨c0, c1, c2, c3⟩ := HR.out.cells
    rcases (show k = 0 ∨ k = 1 ∨ k = 2 ∨ k = 3 ∨ k = 4 ∨ k = 5 by omega) with rfl | rfl | rfl | rfl | rfl | rfl
    · have hix : ∀ W, (Instr.index 110 (.agg #[.int .i64 a, .int .i64 (b + 1), .int .i64 0, .int .i64 c, .int .i64 ((n : Int) + 1)]) (.int .i64 0)).run Try.prog W = .ok (.int .i64 a) W := fun W => arr_at a (b + 1) 0 c ((n : Int) + 1) 0 (by omega) W
      go_wp2_with fail
      refine (ref_put r q h np (n + 1) at_ 0 0 a wr HR.out HAT.out rfl (by unfold partR; rw [fset_same]; simp [valsR]) (fun e => by unfold partR; rw [fset_same]; first | omega | rfl)).mono ?_
      rintro e w5 ⟨rfl, O5, hr, hs⟩
      have hr' : RefO w5 r q h np (l ++ [at_]) (partR F at_ s a b c n (0 + 1)) rows (n + 1) O5 := by
        unfold partR at hr
        rw [putF_fset] at hr
        exact hr
      have HR5 := Lib.hid hr'
      have HS5 := Lib.hid (HS.out.trans hs)
      clear hr hr' hs
      go_wp2_with fail
      go_roundg (5 - (0 + 1))
      case measure => omega
      case rel => exact ⟨0 + 1, O5, rfl, by omega, by go_num, HR5, HS5⟩
    · have hix : ∀ W, (Instr.index 110 (.agg #[.int .i64 a, .int .i64 (b + 1), .int .i64 0, .int .i64 c, .int .i64 ((n : Int) + 1)]) (.int .i64 1)).run Try.prog W = .ok (.int .i64 (b + 1)) W := fun W => arr_at a (b + 1) 0 c ((n : Int) + 1) 1 (by omega) W
      go_wp2_with fail
      refine (ref_put r q h np (n + 1) at_ 1 1 (b + 1) wr HR.out HAT.out rfl (by unfold partR; rw [fset_same]; simp [valsR]) (fun e => by unfold partR; rw [fset_same]; first | omega | rfl)).mono ?_
      rintro e w5 ⟨rfl, O5, hr, hs⟩
      have hr' : RefO w5 r q h np (l ++ [at_]) (partR F at_ s a b c n (1 + 1)) rows (n + 1) O5 := by
        unfold partR at hr
        rw [putF_fset] at hr
        exact hr
      have HR5 := Lib.hid hr'
      have HS5 := Lib.hid (HS.out.trans hs)
      clear hr hr' hs
      go_wp2_with fail
      go_roundg (5 - (1 + 1))
      case measure => omega
      case rel => exact ⟨1 + 1, O5, rfl, by omega, by go_num, HR5, HS5⟩
    · have hix : ∀ W, (Instr.index 110 (.agg #[.int .i64 a, .int .i64 (b + 1), .int .i64 0, .int .i64 c, .int .i64 ((n : Int) + 1)]) (.int .i64 2)).run Try.prog W = .ok (.int .i64 0) W := fun W => arr_at a (b + 1) 0 c ((n : Int) + 1) 2 (by omega) W
      go_wp2_with fail
      refine (ref_put r q h np (n + 1) at_ 2 2 0 wr HR.out HAT.out rfl (by unfold partR; rw [fset_same]; simp [valsR]) (fun e => by unfold partR; rw [fset_same]; first | omega | rfl)).mono ?_
      rintro e w5 ⟨rfl, O5, hr, hs⟩
      have hr' : RefO w5 r q h np (l ++ [at_]) (partR F at_ s a b c n (2 + 1)) rows (n + 1) O5 := by
        unfold partR at hr
        rw [putF_fset] at hr
        exact hr
      have HR5 := Lib.hid hr'
      have HS5 := Lib.hid (HS.out.trans hs)
      clear hr hr' hs
      go_wp2_with fail
      go_roundg (5 - (2 + 1))
      case measure => omega
      case rel => exact ⟨2 + 1, O5, rfl, by omega, by go_num, HR5, HS5⟩
    · have hix : ∀ W, (Instr.index 110 (.agg #[.int .i64 a, .int .i64 (b + 1), .int .i64 0, .int .i64 c, .int .i64 ((n : Int) + 1)]) (.int .i64 3)).run Try.prog W = .ok (.int .i64 c) W := fun W => arr_at a (b + 1) 0 c ((n : Int) + 1) 3 (by omega) W
      go_wp2_with fail
      refine (ref_put r q h np (n + 1) at_ 3 3 c wr HR.out HAT.out rfl (by unfold partR; rw [fset_same]; simp [valsR]) (fun e => by unfold partR; rw [fset_same]; first | omega | rfl)).mono ?_
      rintro e w5 ⟨rfl, O5, hr, hs⟩
      have hr' : RefO w5 r q h np (l ++ [at_]) (partR F at_ s a b c n (3 + 1)) rows (n + 1) O5 := by
        unfold partR at hr
        rw [putF_fset] at hr
        exact hr
      have HR5 := Lib.hid hr'
      have HS5 := Lib.hid (HS.out.trans hs)
      clear hr hr' hs
      go_wp2_with fail
      go_roundg (5 - (3 + 1))
      case measure => omega
      case rel => exact ⟨3 + 1, O5, rfl, by omega, by go_num, HR5, HS5⟩
    · have hix : ∀ W, (Instr.index 110 (.agg #[.int .i64 a, .int .i64 (b + 1), .int .i64 0, .int .i64 c, .int .i64 ((n : Int) + 1)]) (.int .i64 4)).run Try.prog W = .ok (.int .i64 ((n : Int) + 1)) W := fun W => arr_at a (b + 1) 0 c ((n : Int) + 1) 4 (by omega) W
      go_wp2_with fail
      refine (ref_put r q h np (n + 1) at_ 4 4 ((n : Int) + 1) wr HR.out HAT.out rfl (by unfold partR; rw [fset_same]; simp [valsR]) (fun e => by unfold partR; rw [fset_same]; first | omega | rfl)).mono ?_
      rintro e w5 ⟨rfl, O5, hr, hs⟩
      have hr' : RefO w5 r q h np (l ++ [at_]) (partR F at_ s a b c n (4 + 1)) rows (n + 1) O5 := by
        unfold partR at hr
        rw [putF_fset] at hr
        exact hr
      have HR5 := Lib.hid hr'
      have HS5 := Lib.hid (HS.out.trans hs)
      clear hr hr' hs
      go_wp2_with fail
      go_roundg (5 - (4 + 1))
      case measure => omega
      case rel => exact ⟨4 + 1, O5, rfl, by omega, by go_num, HR5, HS5⟩
    · go_wp2_with fail
      go_ret2
      exact ⟨at_, O', rfl, HX.out, HR.out, HS.out⟩
end
end Go.Proofs.Ytendjhobemlhoaa
