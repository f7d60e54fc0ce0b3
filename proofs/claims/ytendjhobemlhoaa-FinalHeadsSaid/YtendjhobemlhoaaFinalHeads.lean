/- The walk of FinalHeads: at every input the law returns true, and nothing that was there has turned. -/
import Derived.Test.YtendjhobemlhoaaFLaw
namespace Go.Proofs.Ytendjhobemlhoaa
open Go Go.RowKit

/-- A block of the law's own, beside the blocks O. -/
def BlkA (w : World) (g : Nat) (t : TypeId) (cs : Array Value) (O : Nat → Prop) : Prop := Blk w g t cs ∧ ¬ O g
theorem BlkA.step {w w' : World} {g : Nat} {t : TypeId} {cs : Array Value} {O O' : Nat → Prop} (h : BlkA w g t cs O) (k : StepO O w O' w') : BlkA w' g t cs O' :=
  ⟨h.1.moved (k.block g h.1.lt h.2), fun hx => by
    rcases k.own g hx with h1 | h1
    · exact h.2 h1
    · have := h.1.lt; omega⟩
theorem BlkA.upd0 {w w' : World} {g : Nat} {t : TypeId} {cs : Array Value} {O : Nat → Prop} (h : BlkA w g t cs O) (hu : Upd [] w w') : BlkA w' g t cs O := h.step (.upd O hu)
theorem BlkA.new {w : World} {O : Nat → Prop} (t : TypeId) (cs : Array Value) (hO : ∀ k, O k → k < w.heap.size) : BlkA (w.alloc (.cells cs t)) w.heap.size t cs O :=
  ⟨Blk.new _ _ _, fun hx => by have := hO _ hx; omega⟩
set_option maxRecDepth 100000 in
set_option maxHeartbeats 12800000 in
theorem heads15_walk (n : Nat) (x : Int) (w : World) (hn : n ≤ 255) : Calls Try.prog 10 #[.int .u8 n, .int .i64 x] w fun e w' => e = .returned (.bool true) ∧ Below w.heap.size w w' := by
  obtain ⟨D, hD⟩ : ∃ D : Nat, (n : Int) % 5 = D := ⟨n % 5, by omega⟩
  have hD5 : D < 5 := by omega
  go_enter Try.func10, Try.ntmps10
  go_wp2_with fail
  refine (made15 5 _ (by omega)).mono ?_
  rintro e w1 ⟨h, f, v, l, F, O, rfl, hr, ho, he, hl⟩
  have HLL := Lib.hid hl.len
  obtain ⟨A0, cap0, hv, hI0, _⟩ := ho.own.form
  rw [HLL.out] at hv
  subst hv
  obtain ⟨b0, off0, rfl, hb0, _⟩ := Reads.at (k := .i64) hI0 HLL.out (by omega : 0 < 6)
  have hc0 := owna_cell ho HLL.out (by omega : D < 6)
  have HA : Hid (l.getD D 0 ∈ l) := Lib.hid (getD_mem (by rw [HLL.out]; omega))
  have HFA := Lib.hid (hl.data D hD5)
  have HR := Lib.hid hr
  have HE := Lib.hid he
  clear hr ho he hl hI0
  obtain ⟨a, ha⟩ : ∃ a, l.getD D 0 = a := ⟨_, rfl⟩
  rw [ha] at HA HFA hc0
  clear ha
  go_wp2_with fail
  refine (fin_put f h 40 a 0 0 x _ HR.out HA.out rfl (by rw [HFA.out]; simp)).mono ?_
  rintro e w2 ⟨rfl, O2, hr, hs⟩
  have HR2 := Lib.hid hr
  have HE2 := Lib.hid (HE.out.step hs)
  have HF2 : Hid (putF F a 0 x a = ⟨3, 0, false, [x]⟩) := Lib.hid (by unfold putF; rw [fset_same, HFA.out]; rfl)
  clear hr hs hc0 hD
  generalize putF F a 0 x = F2 at *
  go_wp2_with fail
  refine (fin_head f h 40 a 3 0 1 false _ HR2.out HA.out (by rw [HF2.out]; rfl)).mono ?_
  rintro e w3 ⟨rfl, hu⟩
  have HR3 := Lib.hid (HR2.out.upd0 (hu.alloc (.cells #[.int .i64 3, .int .i64 0, .int .i64 1, .bool false] 52)))
  have HE3 := Lib.hid (HE2.out.upd0 (hu.alloc (.cells #[.int .i64 3, .int .i64 0, .int .i64 1, .bool false] 52)))
  have HB3 : Hid (BlkA (w3.alloc (.cells #[.int .i64 3, .int .i64 0, .int .i64 1, .bool false] 52)) w3.heap.size 52 #[.int .i64 3, .int .i64 0, .int .i64 1, .bool false] O2) := Lib.hid (BlkA.new _ _ fun k hk => (HR2.out.upd0 hu).owned hk)
  clear hu
  go_wp2_with fail
  refine (await_yes f h 40 a _ HR3.out HA.out (by rw [HF2.out]; simp) (by rw [HF2.out]) (by simp)).mono ?_
  rintro e w4 ⟨rfl, O4, hr, hs⟩
  have HR4 := Lib.hid hr
  have HE4 := Lib.hid (HE3.out.step hs)
  have HB4 := Lib.hid (HB3.out.step hs)
  have HF4 : Hid (fset F2 a { F2 a with f := true } a = ⟨3, 0, true, [x]⟩) := Lib.hid (by rw [fset_same, HF2.out])
  generalize fset F2 a { F2 a with f := true } = F4 at *
  clear hr hs
  go_wp2_with fail
  refine (fin_head f h 40 a 3 0 1 true _ HR4.out HA.out (by rw [HF4.out]; rfl)).mono ?_
  rintro e w5 ⟨rfl, hu⟩
  have HR5 := Lib.hid (HR4.out.upd0 (hu.alloc (.cells #[.int .i64 3, .int .i64 0, .int .i64 1, .bool true] 52)))
  have HE5 := Lib.hid (HE4.out.upd0 (hu.alloc (.cells #[.int .i64 3, .int .i64 0, .int .i64 1, .bool true] 52)))
  have HB5 := Lib.hid (HB4.out.upd0 (hu.alloc (.cells #[.int .i64 3, .int .i64 0, .int .i64 1, .bool true] 52)))
  have HC5 : Hid (BlkA (w5.alloc (.cells #[.int .i64 3, .int .i64 0, .int .i64 1, .bool true] 52)) w5.heap.size 52 #[.int .i64 3, .int .i64 0, .int .i64 1, .bool true] O4) := Lib.hid (BlkA.new _ _ fun k hk => (HR4.out.upd0 hu).owned hk)
  clear hu
  obtain ⟨G, hG⟩ : ∃ G, (w5.alloc (.cells #[.int .i64 3, .int .i64 0, .int .i64 1, .bool true] 52)) = G := ⟨_, rfl⟩
  have HUG : Hid (Upd [] G (G.alloc (.cells #[.int .i64 a] 3))) := Lib.hid ((Upd.refl [] G).alloc _)
  have HRG : Hid (ReadsO (G.alloc (.cells #[.int .i64 a] 3)) (some ⟨G.heap.size, 0, none⟩) [a] O4) := Lib.hid (by
    rw [← hG] at *
    exact reads_one (Blk.new _ _ _) fun hx => by have := HR5.out.owned hx; simp at this)
  rw [hG] at HR5 HE5 HB5 HC5
  go_wp2_with fail
  clear hG
  have hpz : pendZ ([] ++ [a], []) [a] = ([], [a]) := by simp [pendZ, pend1]
  refine (pend_yes f h 40 (some ⟨G.heap.size, 0, none⟩) [a] 1 1 _ (HR5.out.upd0 HUG.out) HRG.out rfl (by simp) (by omega)).mono ?_
  rintro e w6 ⟨rfl, O6, hr, hs⟩
  rw [hpz] at hr
  have HR6 := Lib.hid hr
  have HE6 := Lib.hid ((HE5.out.upd0 HUG.out).step hs)
  have HB6 := Lib.hid ((HB5.out.upd0 HUG.out).step hs)
  have HC6 := Lib.hid ((HC5.out.upd0 HUG.out).step hs)
  clear hr hs hpz HR HE HR2 HE2 HR3 HE3 HB3 HR4 HE4 HB4 HR5 HE5 HB5 HC5 HUG HRG
  go_wp2_with fail
  refine (ftake_yes f h 40 0 0 _ HR6.out rfl (by simp) (by simp)).mono ?_
  rintro e w7 ⟨rfl, O7, hr, hs⟩
  have HR7 := Lib.hid hr
  have HE7 := Lib.hid (HE6.out.step hs)
  have HB7 := Lib.hid (HB6.out.step hs)
  have HC7 := Lib.hid (HC6.out.step hs)
  clear hr hs
  go_wp2_with fail
  refine (fin_head f h 40 a 3 0 1 true _ HR7.out HA.out (by rw [HF4.out]; rfl)).mono ?_
  rintro e w8 ⟨rfl, hu⟩
  have HU8 : Hid (Upd [] w7 (w8.alloc (.cells #[.int .i64 3, .int .i64 0, .int .i64 1, .bool true] 52))) := Lib.hid (hu.alloc _)
  have HD8 : Hid (BlkA (w8.alloc (.cells #[.int .i64 3, .int .i64 0, .int .i64 1, .bool true] 52)) w8.heap.size 52 #[.int .i64 3, .int .i64 0, .int .i64 1, .bool true] O7) := Lib.hid (BlkA.new _ _ fun k hk => (HR7.out.upd0 hu).owned hk)
  clear hu
  go_wp2_with fail
  refine (fin_get f h 40 a 0 0 x _ (HR7.out.upd0 HU8.out) HA.out rfl (by rw [HF4.out]; simp) (by rw [HF4.out]; rfl)).mono ?_
  rintro e w9 ⟨rfl, hu⟩
  have HU9 := Lib.hid (HU8.out.trans hu)
  obtain ⟨x0, x1, x2, x3⟩ := head_cells (HB7.out.upd0 HU9.out).1
  obtain ⟨y0, y1, y2, y3⟩ := head_cells (HC7.out.upd0 HU9.out).1
  obtain ⟨z0, z1, z2, z3⟩ := head_cells (HD8.out.upd0 hu).1
  have l0 := (HB7.out.upd0 HU9.out).1.lt
  have l1 := (HC7.out.upd0 HU9.out).1.lt
  have l2 := (HD8.out.upd0 hu).1.lt
  clear hu
  go_wp2_with fail
  refine (err_calls 0 _ (by omega)).mono ?_
  rintro e w' ⟨rfl, rfl⟩
  go_wp2_with fail
  refine (err_calls 0 _ (by omega)).mono ?_
  rintro e w' ⟨rfl, rfl⟩
  go_wp2_with fail
  refine (err_calls 0 _ (by omega)).mono ?_
  rintro e w' ⟨rfl, rfl⟩
  go_wp2_with fail
  refine (awake15 _).mono ?_
  rintro e w10 ⟨rfl, hu⟩
  have HU10 := Lib.hid hu
  clear hu
  go_wp2_with fail
  go_ret
  exact ⟨by first | rfl | (simp; done), (HE7.out.upd.trans ((HU9.out.alloc _).trans HU10.out)).below⟩
end Go.Proofs.Ytendjhobemlhoaa
