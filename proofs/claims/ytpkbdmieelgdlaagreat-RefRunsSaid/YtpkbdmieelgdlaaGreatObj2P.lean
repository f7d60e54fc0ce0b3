/- The contracts of an object's making and of its head. -/
import Derived.Test.YtpkbdmieelgdlaaGreatObjP
namespace Go.Proofs.YtpkbdmieelgdlaaGreat
open Go Go.RowKit

section
variable {O : Nat → Prop} {l : List Int} {F : Int → Ob}
set_option maxHeartbeats 800000 in
set_option maxRecDepth 100000 in
theorem heap_make (h : Nat) (np : List Pst) (k c : Int) (n : Nat) (w : World) (H : HeapO w h np l F O) (hm : mayB k c n false = true) (hk : k ≠ 1) (hn : n ≤ 31) (hroom : l.length + 1 < np.length) :
    Calls Tryz.prog 51 #[.pointer (some ⟨h, 0, none⟩), .agg #[.int .i64 k, .int .i64 c, .int .i64 n, .bool false]] w fun e w' =>
      ∃ a pg O', allocP np ((n : Int) + 1) = (pg, a) ∧ e = .returned (.tuple #[.int .i64 a, .int .i64 0]) ∧ 64 ≤ a ∧ a ≤ 16384 ∧ a ∉ l ∧ pg.length = np.length ∧ HeapO w' h pg (l ++ [a]) (fset F a ⟨k, c, false, List.replicate n 0⟩) O' ∧ StepO O w O' w' := by
  obtain ⟨t, s, L, S, H, hnp, rfl⟩ := H
  obtain ⟨S1, a, hal, ha1, ha2, hal2, hob, hpg⟩ := H.objs.make H.space.wf (o := ⟨k, c, false, List.replicate n 0⟩) (n := n) (by simpa [Ob.may] using hm) rfl hn (by rw [hnp]; exact hroom)
  have hword : Ob.word ⟨k, c, false, List.replicate n 0⟩ = putZ k c n false := by simp [Ob.word]
  rw [hword] at hob
  have HH := Lib.hid H
  have HM := Lib.hid hm
  have HAL := Lib.hid hal
  have HOB := Lib.hid hob
  have HAP : Hid (allocP np ((n : Int) + 1) = (S1.pg, a)) := Lib.hid (by rw [← hnp, alloc_any, hal])
  have HPG : Hid (S1.pg.length = np.length) := Lib.hid (by rw [hpg, hnp])
  have HX := Lib.hid (And.intro ha1 (And.intro ha2 hal2))
  have HWR : Hid (IntKind.i64.wrap ((n : Int) + 1) = n + 1) := Lib.hid (IntWalk.i64_in _ (by omega))
  clear H hm hal hob hpg hword hnp ha1 ha2 hal2 hroom
  go_enter Tryz.func51, Tryz.ntmps51
  go_wp2_with fail
  refine (heap_may h k c n _ HM.out hk).mono ?_
  rintro e w1 ⟨rfl, hu⟩
  have g0 := (Blk.new w 37 #[.int .i64 k, .int .i64 c, .int .i64 n, .bool false]).upd hu (by simp)
  have HU : Hid (Upd [] w w1) := Lib.hid (((Upd.refl [] w).alloc _).trans hu)
  clear hu
  obtain ⟨c0, c1, c2, c3⟩ := (HH.out.upd0 HU.out).cells
  have x0 := g0.cell 0
  have x1 := g0.cell 1
  have x2 := g0.cell 2
  have x3 := g0.cell 3
  have G0 := Lib.hid g0
  clear g0
  go_upto_region 6 with fail
  go_region_held3 (fun w' => w'.cell? ⟨h, 0, none⟩ = some (.pointer (some ⟨s, 0, none⟩)) ∧ w'.cell? ⟨w.heap.size, 2, none⟩ = some (.int .i64 n)) (first | exact ⟨c0, x2⟩ | exact ⟨e0, y2⟩)
    (first
      | (go_at_call 80; rw [HWR.out]; have hq := alloc_calls s L S ((n : Int) + 1) w1.drew (HH.out.upd0 HU.out.drew).space
         unfold AllocVal at hq
         rw [HAL.out] at hq
         refine hq.mono ?_
         clear hq
         rintro e w2 ⟨rfl, ha⟩
         obtain ⟨L2, h1, h2, h3, h4⟩ := ha
         have hb2 := (HH.out.upd0 HU.out.drew).box.upd h2 (fun hm => (HH.out.sep _ (foot_owns hm)).1 rfl)
         have e0 : w2.cell? ⟨h, 0, none⟩ = some (.pointer (some ⟨s, 0, none⟩)) := hb2.cell 0
         obtain ⟨y0, y1, y2, y3⟩ := head_cells (G0.out.drew.upd h2 (fun hm => by have := HH.out.space.owned (foot_owns hm); omega))
         have HB2 := Lib.hid hb2
         have HA : Hid (IsSpace w2 s L2 S1 ∧ Upd (Foot L S) w w2 ∧ (∀ k ∈ Foot L2 S1, k ∈ Foot L S ∨ w.heap.size ≤ k) ∧ ∀ k, Owns s L2 S1 k → Owns s L S k ∨ w.heap.size ≤ k) :=
           Lib.hid ⟨h1, (HU.out.drew.mono (by simp)).trans h2, fun k hk => (h3 k hk).imp id (fun h => Nat.le_trans HU.out.size h), fun k hk => (h4 k hk).imp id (fun h => Nat.le_trans HU.out.size h)⟩
         clear h1 h2 h3 h4 hb2))
  all_goals
    go_wp2_with fail
    refine (head_put_yes k c n false _ HM.out).mono ?_
    rintro e w3 ⟨rfl, hu⟩
    clear c0 c1 c2 c3 x0 x1 x2 x3
    have d0 : w3.cell? ⟨h, 0, none⟩ = some (.pointer (some ⟨s, 0, none⟩)) := (HB2.out.upd hu (by simp)).cell 0
    have d1 : w3.cell? ⟨s, 0, none⟩ = some (.pointer (some ⟨L2.pa, 0, none⟩)) := (HA.out.1.upd0 hu).box.cell 0
    have HV := Lib.hid hu
    clear hu e0 y0 y1 y2 y3
    go_wp2_with fail
    refine (store_yes L2.pa L2.ga S1.W a _ w3 (HA.out.1.upd0 HV.out).arena (by have := HX.out; omega) (by have := HX.out; omega)).mono ?_
    rintro e w4 ⟨rfl, har, hu⟩
    have HR := Lib.hid har
    have HW := Lib.hid hu
    clear har hu d0 d1
    go_wp2_with fail
    go_ret2
    obtain ⟨k1, k2, k3, k4⟩ := HA.out
    have hsp := k1.upd0 HV.out
    have haf : After s L S ⟨S1.W.set a.toNat (putZ k c n false), S1.pg⟩ w w4 := After.step ⟨hsp, k2.trans (HV.out.mono (by simp)), k3, k4⟩ (hsp.words HR.out (by simp) HW.out)
    obtain ⟨L', hh, hst⟩ := HH.out.after haf HOB.out
    obtain ⟨z1, z2, z3⟩ := HX.out
    have hl1 := hsp.len
    exact ⟨a, S1.pg, _, HAP.out, rfl, z1, by omega, z3, HPG.out, ⟨t, s, L', _, hh, rfl, rfl⟩, hst⟩
end
end Go.Proofs.YtpkbdmieelgdlaaGreat
