/- The program's second rule of a view. -/
import Derived.Test.YtnhgmmjlhhgdoaaPr1
import Derived.Test.YtnhgmmjlhhgdoaaPlan4
namespace Go.Proofs.Ytnhgmmjlhhgdoaa
open Go Go.RowKit

set_option maxRecDepth 100000 in
set_option maxHeartbeats 1600000 in
theorem blocks1_zero (x k c l : Int) (f : Bool) (wa : Option Addr) (z wc : Nat) (U : Int) (lb : Nat) (p : Value) (w : World) (hlb : Blk w lb 3 #[.int .i64 U]) (hl : 0 ≤ l ∧ l ≤ 1023) (hU : 0 ≤ U ∧ U ≤ 1099511627776) :
    Calls Try.prog 56 #[.int .i64 0, .agg #[.int .i64 x, .int .i64 k, .int .i64 c, .int .i64 l, .bool f, .slice wa z wc], .pointer (some ⟨lb, 0, none⟩), p] w
      fun e w' => e = .returned (.bool true) ∧ Blk w' lb 3 #[.int .i64 (U + blockZ (l + 1))] ∧ Upd [lb] w w' := by
  have HLB := Lib.hid hlb
  have hlw := hlb.lt
  obtain ⟨hl1, hl2⟩ := hl
  obtain ⟨hU1, hU2⟩ := hU
  have hbb := block_bound (l + 1)
  have HBC : Hid (∀ W, Calls Try.prog 11 #[.int .i64 (l + 1)] W fun e w' => e = .returned (.int .i64 (blockZ (l + 1))) ∧ Below W.heap.size W w') := Lib.hid (fun W => block_calls (l + 1) W)
  generalize blockZ (l + 1) = bk at *
  obtain ⟨hbb1, hbb2⟩ := hbb
  clear hlb
  go_enter Try.func56, Try.ntmps56
  go_upto_region 1 with fail
  generalize hW : World.alloc w (Obj.cells _ 37) = w1
  have HB : Hid (Blk w1 w.heap.size 37 _) := Lib.hid (by rw [← hW]; exact Blk.new _ _ _)
  have HU : Hid (Upd [] w w1) := Lib.hid (by rw [← hW]; exact (Upd.refl [] w).alloc _)
  clear hW
  have hne : ¬ lb = w.heap.size := by omega
  generalize w.heap.size = q at *
  have HL1 : Hid (Blk w1 lb 3 #[.int .i64 U]) := Lib.hid (HLB.out.upd HU.out (by simp))
  have HS0 : Hid (∀ W, Upd [] w1 W → W.cell? ⟨lb, 0, none⟩ = some (.int .i64 U) ∧ W.cell? ⟨q, 3, none⟩ = some (.int .i64 l)) := Lib.hid (fun W hu => ⟨(HL1.out.upd hu (by simp)).one_of, vw_cells HB.out hu rfl⟩)
  refine Plan.wp_plan_sink [.blk [0, 1, 2, 3, 4], .eff 5, .blk [6]] 7 (fun w' => w'.cell? ⟨lb, 0, none⟩ = some (.int .i64 U) ∧ w'.cell? ⟨q, 3, none⟩ = some (.int .i64 l)) rfl rfl (by kernel_rfl) (by kernel_rfl) (by kernel_rfl) (by kernel_rfl) (by intro _ _ d _ _ h; cases d <;> exact h) (HS0.out _ (Upd.refl [] w1).drew) (fun hS => ?_)
  clear hS
  dsimp only [List.dropLast]
  apply Plan.blk_intro
  · intro w' hw Φ HΦ
    obtain ⟨l0, e3⟩ := hw
    simp only [Plan.pick, List.map_cons, List.map_nil, List.getD_cons_zero, List.getD_cons_succ]
    repeat (first | go_values | go_skip | go_guarded | go_step | go_upon)
    exact ⟨rfl, HΦ.out⟩
  · kernel_rfl
  refine Plan.eff_intro (fun K hK hKp => ?_)
  have HK := Lib.hid hK
  clear hK hKp
  simp only [Plan.pick, List.map_cons, List.map_nil, List.getD_cons_zero, List.getD_cons_succ]
  repeat (first | go_values | go_skip | go_guarded | go_step | go_upon)
  refine (HBC.out _).mono ?_
  rintro e w2 ⟨rfl, hb2⟩
  have H12 : Hid (Upd [] w1 w2) := Lib.hid (((Upd.refl [] w1).drew).step (Upd.of_below hb2 : Upd [] _ _) (by simp))
  clear hb2
  try dsimp only
  repeat (first | go_values | go_skip | go_guarded | go_step | go_upon)
  refine HK.out _ _ (HS0.out _ H12.out) ?_
  clear HK K
  apply Plan.blk_intro
  · intro w' hw Φ HΦ
    obtain ⟨l0, e3⟩ := hw
    simp only [Plan.pick, List.map_cons, List.map_nil, List.getD_cons_zero, List.getD_cons_succ]
    repeat (first | go_values | go_skip | go_guarded | go_step | go_upon)
    exact ⟨rfl, HΦ.out⟩
  · kernel_rfl
  refine Plan.sink_done ?_
  have HL2 : Hid (Blk w2 lb 3 #[.int .i64 U]) := Lib.hid (HL1.out.upd H12.out (by simp))
  have l0 : w2.cell? ⟨lb, 0, none⟩ = some (.int .i64 U) := HL2.out.one_of
  have f0 : w2.frozen? ⟨lb, 0, none⟩ = false := HL2.out.frozen 0
  go_upto_region 2 with fail
  generalize hW : World.setCell w2 _ _ = w3
  have HL3 : Hid (Blk w3 lb 3 #[.int .i64 (U + bk)]) := Lib.hid (by rw [← hW]; simpa using HL2.out.set_ 0 (.int .i64 (U + bk)))
  have HU3 : Hid (Upd [lb] w w3) := Lib.hid (by rw [← hW]; exact ((HU.out.trans H12.out).mono (by simp)).setCell (.inl (by simp)) _)
  have H13 : Hid (Upd [lb] w1 w3) := Lib.hid (by rw [← hW]; exact (H12.out.mono (by simp)).setCell (.inl (by simp)) _)
  clear hW l0 f0
  go_wp2_with fail
  go_ret
  exact ⟨rfl, HL3.out, HU3.out⟩
set_option maxRecDepth 100000 in
set_option maxHeartbeats 1600000 in
theorem blocks1_succ (j : Nat) (x k c l : Int) (f : Bool) (wa : Option Addr) (z wc : Nat) (U : Int) (lb rb sh : Nat) (oa : Option Addr) (oc n : Nat) (os : List Ob) (a0 w : World) (hlb : Blk w lb 3 #[.int .i64 U]) (hl : 0 ≤ l ∧ l ≤ 1023) (hU : 0 ≤ U ∧ U ≤ 1099511627776)
    (hn : os.length = n) (hj : j + 1 < n) (hnl : n ≤ 9223372036854775807) (HO : Obs a0 oa os) (hu : Upd [lb] a0 w) (hla : a0.heap.size ≤ lb) (hr : w.cell? ⟨rb, 0, none⟩ = some (.pointer (some ⟨sh, 0, none⟩))) (hs : w.cell? ⟨sh, 0, none⟩ = some (.slice oa n oc)) (hrl : rb ≠ lb) (hsl : sh ≠ lb) (hrw : rb < w.heap.size) (hsw : sh < w.heap.size)
    (hx : 64 ≤ x ∧ x ≤ 9223372036854775807) (hp : 64 ≤ (os.getD j ob0).adr ∧ (os.getD j ob0).adr ≤ 9223372036854775807) (hpl : 0 ≤ (os.getD j ob0).len ∧ (os.getD j ob0).len ≤ 1023) :
    Calls Try.prog 56 #[.int .i64 ((j + 1 : Nat) : Int), .agg #[.int .i64 x, .int .i64 k, .int .i64 c, .int .i64 l, .bool f, .slice wa z wc], .pointer (some ⟨lb, 0, none⟩), .pointer (some ⟨rb, 0, none⟩)] w
      fun e w' => e = .returned (.bool (decide (blockZ ((os.getD j ob0).len + 1) ≤ x - (os.getD j ob0).adr))) ∧ Blk w' lb 3 #[.int .i64 (U + blockZ (l + 1))] ∧ Upd [lb] w w' := by
  obtain ⟨b, off, hoa, hb, ⟨c0, c1, c2, c3, c4, c5⟩, -⟩ := HO.at hn (show j < n by omega)
  have hbl : b ∉ [lb] := by simp; omega
  generalize (os.getD j ob0).adr = pv at *
  generalize (os.getD j ob0).kind = pk at *
  generalize (os.getD j ob0).cls = pc at *
  generalize (os.getD j ob0).len = pl at *
  generalize (os.getD j ob0).fin = pf at *
  generalize (os.getD j ob0).wa = pwa at *
  generalize (os.getD j ob0).wc = pwc at *
  generalize (os.getD j ob0).ws.length = pz at *
  have HC : Hid (∀ W, Upd [lb] a0 W → W.cell? ⟨b, off + j * 6, none⟩ = some (.int .i64 pv) ∧ W.cell? ⟨b, off + j * 6 + 1, none⟩ = some (.int .i64 pk) ∧ W.cell? ⟨b, off + j * 6 + 2, none⟩ = some (.int .i64 pc) ∧ W.cell? ⟨b, off + j * 6 + 3, none⟩ = some (.int .i64 pl) ∧ W.cell? ⟨b, off + j * 6 + 4, none⟩ = some (.bool pf) ∧ W.cell? ⟨b, off + j * 6 + 5, none⟩ = some (.slice pwa pz pwc)) := Lib.hid (fun W u => ⟨(u.cell hb hbl).trans c0, (u.cell hb hbl).trans c1, (u.cell hb hbl).trans c2, (u.cell hb hbl).trans c3, (u.cell hb hbl).trans c4, (u.cell hb hbl).trans c5⟩)
  clear c0 c1 c2 c3 c4 c5 hbl
  subst hoa
  have HLB := Lib.hid hlb
  have hlw := hlb.lt
  obtain ⟨hl1, hl2⟩ := hl
  obtain ⟨hU1, hU2⟩ := hU
  obtain ⟨hx1, hx2⟩ := hx
  obtain ⟨hp1, hp2⟩ := hp
  obtain ⟨hpl1, hpl2⟩ := hpl
  have hbb := block_bound (l + 1)
  have hbp := block_bound (pl + 1)
  have HBC : Hid (∀ W, Calls Try.prog 11 #[.int .i64 (l + 1)] W fun e w' => e = .returned (.int .i64 (blockZ (l + 1))) ∧ Below W.heap.size W w') := Lib.hid (fun W => block_calls (l + 1) W)
  have HBP : Hid (∀ W, Calls Try.prog 11 #[.int .i64 (pl + 1)] W fun e w' => e = .returned (.int .i64 (blockZ (pl + 1))) ∧ Below W.heap.size W w') := Lib.hid (fun W => block_calls (pl + 1) W)
  generalize blockZ (l + 1) = bk at *
  generalize blockZ (pl + 1) = bp at *
  obtain ⟨hbb1, hbb2⟩ := hbb
  obtain ⟨hbp1, hbp2⟩ := hbp
  have HR : Hid (∀ W, Upd [lb] w W → W.cell? ⟨rb, 0, none⟩ = some (.pointer (some ⟨sh, 0, none⟩)) ∧ W.cell? ⟨sh, 0, none⟩ = some (.slice (some ⟨b, off, none⟩) n oc)) := Lib.hid (fun W u => ⟨(u.cell (p := ⟨rb, 0, none⟩) hrw (by simpa using hrl)).trans hr, (u.cell (p := ⟨sh, 0, none⟩) hsw (by simpa using hsl)).trans hs⟩)
  have HUA := Lib.hid hu
  have HLA := Lib.hid hla
  clear hlb hr hs hu hla HO hn
  have hj0 : (((j + 1 : Nat) : Int) == 0) = false := by simp; omega
  have hjs : ((j + 1 : Nat) : Int) - 1 = (j : Int) := by omega
  go_enter Try.func56, Try.ntmps56
  go_upto_region 1 with fail
  generalize hW : World.alloc w (Obj.cells _ 37) = w1
  have HB : Hid (Blk w1 w.heap.size 37 _) := Lib.hid (by rw [← hW]; exact Blk.new _ _ _)
  have HU : Hid (Upd [] w w1) := Lib.hid (by rw [← hW]; exact (Upd.refl [] w).alloc _)
  clear hW
  have hne : ¬ lb = w.heap.size := by omega
  generalize w.heap.size = q at *
  have HL1 : Hid (Blk w1 lb 3 #[.int .i64 U]) := Lib.hid (HLB.out.upd HU.out (by simp))
  have HS0 : Hid (∀ W, Upd [] w1 W → W.cell? ⟨lb, 0, none⟩ = some (.int .i64 U) ∧ W.cell? ⟨q, 3, none⟩ = some (.int .i64 l)) := Lib.hid (fun W hu => ⟨(HL1.out.upd hu (by simp)).one_of, vw_cells HB.out hu rfl⟩)
  refine Plan.wp_plan_sink [.blk [0, 1, 2, 3, 4], .eff 5, .blk [6]] 7 (fun w' => w'.cell? ⟨lb, 0, none⟩ = some (.int .i64 U) ∧ w'.cell? ⟨q, 3, none⟩ = some (.int .i64 l)) rfl rfl (by kernel_rfl) (by kernel_rfl) (by kernel_rfl) (by kernel_rfl) (by intro _ _ d _ _ h; cases d <;> exact h) (HS0.out _ (Upd.refl [] w1).drew) (fun hS => ?_)
  clear hS
  dsimp only [List.dropLast]
  apply Plan.blk_intro
  · intro w' hw Φ HΦ
    obtain ⟨l0, e3⟩ := hw
    simp only [Plan.pick, List.map_cons, List.map_nil, List.getD_cons_zero, List.getD_cons_succ]
    repeat (first | go_values | go_skip | go_guarded | go_step | go_upon)
    exact ⟨rfl, HΦ.out⟩
  · kernel_rfl
  refine Plan.eff_intro (fun K hK hKp => ?_)
  have HK := Lib.hid hK
  clear hK hKp
  simp only [Plan.pick, List.map_cons, List.map_nil, List.getD_cons_zero, List.getD_cons_succ]
  repeat (first | go_values | go_skip | go_guarded | go_step | go_upon)
  refine (HBC.out _).mono ?_
  rintro e w2 ⟨rfl, hb2⟩
  have H12 : Hid (Upd [] w1 w2) := Lib.hid (((Upd.refl [] w1).drew).step (Upd.of_below hb2 : Upd [] _ _) (by simp))
  clear hb2
  try dsimp only
  repeat (first | go_values | go_skip | go_guarded | go_step | go_upon)
  refine HK.out _ _ (HS0.out _ H12.out) ?_
  clear HK K
  apply Plan.blk_intro
  · intro w' hw Φ HΦ
    obtain ⟨l0, e3⟩ := hw
    simp only [Plan.pick, List.map_cons, List.map_nil, List.getD_cons_zero, List.getD_cons_succ]
    repeat (first | go_values | go_skip | go_guarded | go_step | go_upon)
    exact ⟨rfl, HΦ.out⟩
  · kernel_rfl
  refine Plan.sink_done ?_
  have HL2 : Hid (Blk w2 lb 3 #[.int .i64 U]) := Lib.hid (HL1.out.upd H12.out (by simp))
  have l0 : w2.cell? ⟨lb, 0, none⟩ = some (.int .i64 U) := HL2.out.one_of
  have f0 : w2.frozen? ⟨lb, 0, none⟩ = false := HL2.out.frozen 0
  go_upto_region 2 with fail
  generalize hW : World.setCell w2 _ _ = w3
  have HL3 : Hid (Blk w3 lb 3 #[.int .i64 (U + bk)]) := Lib.hid (by rw [← hW]; simpa using HL2.out.set_ 0 (.int .i64 (U + bk)))
  have HU3 : Hid (Upd [lb] w w3) := Lib.hid (by rw [← hW]; exact ((HU.out.trans H12.out).mono (by simp)).setCell (.inl (by simp)) _)
  have H13 : Hid (Upd [lb] w1 w3) := Lib.hid (by rw [← hW]; exact (H12.out.mono (by simp)).setCell (.inl (by simp)) _)
  clear hW l0 f0
  obtain ⟨c0, c1, c2, c3, c4, c5⟩ := HC.out _ (HUA.out.trans HU3.out)
  obtain ⟨r0, s0⟩ := HR.out _ HU3.out
  clear HUA
  go_upto_region 5 with fail
  generalize hW : World.alloc w3 (Obj.cells _ 37) = w4
  have HB4 : Hid (Blk w4 w3.heap.size 37 _) := Lib.hid (by rw [← hW]; exact Blk.new _ _ _)
  have H34 : Hid (Upd [] w3 w4) := Lib.hid (by rw [← hW]; exact (Upd.refl [] w3).alloc _)
  clear hW c0 c1 c2 c3 c4 c5 r0 s0
  generalize w3.heap.size = g at *
  have HL4 : Hid (Blk w4 lb 3 #[.int .i64 (U + bk)]) := Lib.hid (HL3.out.upd H34.out (by simp))
  have HU4 : Hid (Upd [lb] w w4) := Lib.hid (HU3.out.trans (H34.out.mono (by simp)))
  have H14 : Hid (Upd [lb] w1 w4) := Lib.hid (H13.out.trans (H34.out.mono (by simp)))
  have HS4 : Hid (∀ W, Upd [] w4 W → W.cell? ⟨q, 0, none⟩ = some (.int .i64 x) ∧ W.cell? ⟨g, 0, none⟩ = some (.int .i64 pv) ∧ W.cell? ⟨g, 3, none⟩ = some (.int .i64 pl)) := Lib.hid (fun W hu => ⟨by
      have hq : Blk W q 37 _ := (HB.out.upd H14.out (by simpa using fun h => hne h.symm)).upd hu (by simp)
      exact vw_cells hq (Upd.refl _ _) rfl, vw_cells HB4.out hu rfl, vw_cells HB4.out hu rfl⟩)
  go_wp2_with fail
  refine Plan.wp_plan [.blk [0, 1, 2, 3, 4, 5, 6, 7, 8], .eff 9, .blk [10, 11]] (fun w' => w'.cell? ⟨q, 0, none⟩ = some (.int .i64 x) ∧ w'.cell? ⟨g, 0, none⟩ = some (.int .i64 pv) ∧ w'.cell? ⟨g, 3, none⟩ = some (.int .i64 pl)) (by kernel_rfl) (by kernel_rfl) (by intro _ _ d _ _ h; cases d <;> exact h) (HS4.out _ (Upd.refl [] w4).drew) (fun hS => ?_)
  clear hS
  apply Plan.blk_intro
  · intro w' hw Φ HΦ
    obtain ⟨e0, p0, p3⟩ := hw
    simp only [Plan.pick, List.map_cons, List.map_nil, List.getD_cons_zero, List.getD_cons_succ]
    repeat (first | go_values | go_skip | go_guarded | go_step | go_upon)
    exact ⟨rfl, HΦ.out⟩
  · kernel_rfl
  refine Plan.eff_intro (fun K hK hKp => ?_)
  have HK := Lib.hid hK
  clear hK hKp
  simp only [Plan.pick, List.map_cons, List.map_nil, List.getD_cons_zero, List.getD_cons_succ]
  repeat (first | go_values | go_skip | go_guarded | go_step | go_upon)
  refine (HBP.out _).mono ?_
  rintro e w5 ⟨rfl, hb5⟩
  have H45 : Hid (Upd [] w4 w5) := Lib.hid (((Upd.refl [] w4).drew).step (Upd.of_below hb5 : Upd [] _ _) (by simp))
  clear hb5
  try dsimp only
  repeat (first | go_values | go_skip | go_guarded | go_step | go_upon)
  refine HK.out _ _ (HS4.out _ H45.out) ?_
  clear HK K
  apply Plan.blk_intro
  · intro w' hw Φ HΦ
    obtain ⟨e0, p0, p3⟩ := hw
    simp only [Plan.pick, List.map_cons, List.map_nil, List.getD_cons_zero, List.getD_cons_succ]
    repeat (first | go_values | go_skip | go_guarded | go_step | go_upon)
    exact ⟨rfl, HΦ.out⟩
  · kernel_rfl
  refine Plan.plan_done ?_
  go_wp2_with fail
  go_ret
  exact ⟨rfl, HL4.out.upd H45.out (by simp), HU4.out.trans (H45.out.mono (by simp))⟩
theorem Says.after {w w1 w' : World} {R : Prop} {e : Ending} (hu : Upd [] w w1) (h : Says R w1 e w') : Says R w e w' := by
  obtain ⟨r, h1, h2, h3⟩ := h
  exact ⟨r, h1, h2, (hu.step (Upd.of_below h3 : Upd [] _ _) (by simp)).below⟩
/-- What a round of the second rule leaves. -/
def I2 (w : World) (lb : Nat) (os : List Ob) (i : Nat) (W : World) : Prop := Upd [lb] w W ∧ Blk W lb 3 #[.int .i64 (sumB (os.take i))] ∧ ∀ m, m < i → Ok2 os m
theorem R1.facts {os : List Ob} (h : R1 os) (ha : ∀ o ∈ os, o.adr ≤ 9223372036854775807) {i : Nat} (hi : i < os.length) :
    (64 ≤ (os.getD i ob0).adr ∧ (os.getD i ob0).adr ≤ 9223372036854775807) ∧ 0 ≤ (os.getD i ob0).len ∧ (os.getD i ob0).len ≤ 1023 := by
  refine ⟨⟨(h i hi).1, ha _ (getD_in hi)⟩, ?_⟩
  have hm := (h i hi).2.2.1
  rcases may_cases (os.getD i ob0).kind (os.getD i ob0).cls (os.getD i ob0).len (os.getD i ob0).fin with ⟨_, h⟩ | ⟨_, _, h⟩ | ⟨h1, h2, _⟩
  · rw [h] at hm; cases hm
  · rw [h] at hm; cases hm
  · exact ⟨h1, h2⟩
theorem blocks_step {w W : World} {lb rb sh oc n : Nat} {oa : Option Addr} {os : List Ob} {used : Int} {i : Nat} (hn : os.length = n) (hl : n ≤ 40) (h1 : R1 os) (ha : ∀ o ∈ os, o.adr ≤ 9223372036854775807) (HO : Obs w oa os) (hla : w.heap.size ≤ lb)
    (hr : w.cell? ⟨rb, 0, none⟩ = some (.pointer (some ⟨sh, 0, none⟩))) (hs : w.cell? ⟨sh, 0, none⟩ = some (.slice oa n oc)) (hrw : rb < w.heap.size) (hsw : sh < w.heap.size) (hi : i < n) (h : I2 w lb os i W) :
    Calls Try.prog 56 (#[.int .i64 (i : Int), (os.getD i ob0).val] ++ #[.pointer (some ⟨lb, 0, none⟩), .pointer (some ⟨rb, 0, none⟩)]) W (Rounds (I2 w lb os) (NR w lb (R2 os used)) (i + 1)) := by
  obtain ⟨g1, g2, g3⟩ := h
  obtain ⟨f1, f2⟩ := h1.facts ha (show i < os.length by omega)
  have hsb := sumB_bound (os.take i)
  have htl := List.length_take_le i os
  have htl2 := List.length_take_le' i os
  have hst := sumB_step (show i < os.length by omega)
  rcases i with _ | j
  · refine (blocks1_zero _ _ _ _ _ _ _ _ _ lb _ W g2 f2 (by omega)).mono ?_
    rintro e w' ⟨rfl, hb, hu⟩
    refine .inl ⟨rfl, g1.trans hu, by rw [hst]; exact hb, fun m hm h0 => absurd h0 (by omega)⟩
  · obtain ⟨p1, p2⟩ := h1.facts ha (show j < os.length by omega)
    refine (blocks1_succ j _ _ _ _ _ _ _ _ _ lb rb sh oa oc n os w W g2 f2 (by omega) hn hi (by omega) HO g1 hla ((g1.cell (p := ⟨rb, 0, none⟩) hrw (by simp; omega)).trans hr) ((g1.cell (p := ⟨sh, 0, none⟩) hsw (by simp; omega)).trans hs) (by omega) (by omega) (Nat.lt_of_lt_of_le hrw g1.size) (Nat.lt_of_lt_of_le hsw g1.size) f1 p1 p2).mono ?_
    rintro e w' ⟨rfl, hb, hu⟩
    by_cases hok : Ok2 os (j + 1)
    · have h2 := hok (by omega)
      rw [Nat.add_sub_cancel] at h2
      refine .inl ⟨by rw [decide_eq_true h2], g1.trans hu, by rw [hst]; exact hb, fun m hm => ?_⟩
      rcases Nat.eq_or_lt_of_le (show m ≤ j + 1 by omega) with rfl | h4
      · exact hok
      · exact g3 m h4
    · refine .inr ⟨?_, g1.trans hu, fun h => hok (h.1 _ (by omega))⟩
      have hno : ¬ blockZ ((os.getD j ob0).len + 1) ≤ (os.getD (j + 1) ob0).adr - (os.getD j ob0).adr := fun h => hok (fun _ => by rw [Nat.add_sub_cancel]; exact h)
      rw [decide_eq_false hno]
set_option maxRecDepth 100000 in
set_option maxHeartbeats 1600000 in
theorem blocks_walk (v : Vw) (sh mb : Nat) (w : World) (H : ShAt w v sh mb) (hl : v.os.length ≤ 40) (h1 : R1 v.os) (ha : ∀ o ∈ v.os, o.adr ≤ 9223372036854775807) : Calls Try.prog 32 #[.agg #[.pointer (some ⟨sh, 0, none⟩)]] w (Says (R2 v.os v.used) w) := by
  have HSH := Lib.hid H
  have H1 := Lib.hid h1
  have HA := Lib.hid ha
  clear H h1 ha
  go_enter Try.func32, Try.ntmps32
  go_upto_region 1 with fail
  generalize hW : World.alloc w (Obj.cells _ 62) = w1
  have HB : Hid (Blk w1 w.heap.size 62 #[.pointer (some ⟨sh, 0, none⟩)]) := Lib.hid (by rw [← hW]; exact Blk.new _ _ _)
  have HU : Hid (Upd [] w w1) := Lib.hid (by rw [← hW]; exact (Upd.refl [] w).alloc _)
  have HS1 : Hid (ShAt w1 v sh mb) := Lib.hid (HSH.out.upd HU.out (by simp))
  clear hW
  generalize hq0 : w.heap.size = rb at *
  have hrw : rb < w1.heap.size := HB.out.lt
  have HQ0 := Lib.hid hq0
  clear hq0
  have hsw : sh < w1.heap.size := HS1.out.blk.lt
  go_upto_region 2 with fail
  generalize hW : World.alloc w1 (Obj.cells _ 3) = w2
  have HBL : Hid (Blk w2 w1.heap.size 3 #[.int .i64 0]) := Lib.hid (by rw [← hW]; exact Blk.new _ _ _)
  have H12 : Hid (Upd [] w1 w2) := Lib.hid (by rw [← hW]; exact (Upd.refl [] w1).alloc _)
  clear hW
  have HLE : Hid (w1.heap.size ≤ w1.heap.size) := Lib.hid (Nat.le_refl _)
  have hcr : w1.cell? ⟨rb, 0, none⟩ = some (.pointer (some ⟨sh, 0, none⟩)) := HB.out.one_of
  have hcs : w1.cell? ⟨sh, 0, none⟩ = some (.slice v.oa v.os.length v.oc) := HS1.out.cell (Upd.refl [] w1) (by simp) rfl
  have HCR := Lib.hid hcr
  have HCS := Lib.hid hcs
  clear hcr hcs
  generalize hlb : w1.heap.size = lb at *
  have HLB := Lib.hid hlb
  have r0 : w2.cell? ⟨rb, 0, none⟩ = some (.pointer (some ⟨sh, 0, none⟩)) := (HB.out.upd H12.out (by simp)).one_of
  have HEA := each_walk 56 #[.pointer (some ⟨lb, 0, none⟩), .pointer (some ⟨rb, 0, none⟩)] v.oa v.oc v.os.length v.os sh w1 w2 [lb] (I2 w1 lb v.os) (NR w1 lb (R2 v.os v.used)) rfl (by omega) (by simp [HLB.out]) HS1.out.sees.obs
    (HS1.out.cell H12.out (by simp) rfl) ⟨H12.out.mono (by simp), HBL.out, fun m h => by omega⟩ (fun i W h => h.1) (fun i W W' h u => ⟨h.1.step u (by simp), h.2.1.upd u (by simp), h.2.2⟩)
    (by have := H12.out.size; rw [HLB.out] at this; omega) enters56 (fun i W hi h => blocks_step rfl hl H1.out HA.out HS1.out.sees.obs (Nat.le_of_eq HLB.out) HCR.out HCS.out (by rw [HLB.out]; exact hrw) (by rw [HLB.out]; exact hsw) hi h)
  have HEAC := Lib.hid HEA
  clear HEA hlb
  go_wp2_with fail
  refine HEAC.out.mono ?_
  rintro e w5 (⟨rfl, hr⟩ | ⟨rfl, hr⟩)
  · obtain ⟨g1, g2, g3⟩ := hr
    have hb2 : Below w.heap.size w w5 := HU.out.below.trans (g1.below_of (by have := HU.out.size; omega) (by have := HU.out.size; rw [HLB.out] at this; simpa using this))
    have HT : Hid (∀ u : Int, sumB v.os = u → (R2 v.os v.used ↔ u = v.used)) := Lib.hid (fun u hu => ⟨fun h => by rw [← hu]; exact h.2, fun h => ⟨g3, by rw [hu]; exact h⟩⟩)
    have HBE := Lib.hid hb2
    rw [List.take_length] at g2
    have HS5 : Hid (∀ W, Upd [] w5 W → W.cell? ⟨lb, 0, none⟩ = some (.int .i64 (sumB v.os)) ∧ W.cell? ⟨rb, 0, none⟩ = some (.pointer (some ⟨sh, 0, none⟩)) ∧ W.cell? ⟨sh, 8, none⟩ = some (.int .i64 v.used)) := Lib.hid (fun W u => ⟨(g2.upd u (by simp)).one_of, ((HB.out.upd (g1.trans (u.mono (by simp))) (by simp; omega))).one_of, HS1.out.cell (g1.trans (u.mono (by simp))) (by simp [HLB.out]) rfl⟩)
    clear g1 g2 g3 hb2 r0
    generalize hsu : sumB v.os = U at *
    have HTU := Lib.hid (HT.out U rfl)
    clear hsu HT
    go_wp2_with fail
    refine Plan.wp_plan [.blk [0, 1, 2, 3, 4, 5, 6, 7, 8, 9, 10, 11]] (fun w' => w'.cell? ⟨lb, 0, none⟩ = some (.int .i64 U) ∧ w'.cell? ⟨rb, 0, none⟩ = some (.pointer (some ⟨sh, 0, none⟩)) ∧ w'.cell? ⟨sh, 8, none⟩ = some (.int .i64 v.used)) (by kernel_rfl) (by kernel_rfl) (by intro _ _ d _ _ h; cases d <;> exact h) (HS5.out _ (Upd.refl [] w5).drew) (fun hS => ?_)
    clear hS
    apply Plan.blk_intro
    · intro w' hw Φ HΦ
      obtain ⟨l0, r0, s8⟩ := hw
      simp only [Plan.pick, List.map_cons, List.map_nil, List.getD_cons_zero, List.getD_cons_succ]
      repeat (first | go_values | go_skip | go_guarded | go_step | go_upon)
      exact ⟨rfl, HΦ.out⟩
    · kernel_rfl
    refine Plan.plan_done ?_
    go_wp2_with fail
    go_ret
    exact ⟨_, rfl, by rw [HTU.out]; simp, HBE.out.trans ((Upd.refl [] w5).drew.below.mono HBE.out.size)⟩
  · obtain ⟨g1, g2⟩ := hr
    have hb2 : Below w.heap.size w w5 := HU.out.below.trans (g1.below_of (by have := HU.out.size; omega) (by have := HU.out.size; rw [HLB.out] at this; simpa using this))
    have HBE := Lib.hid hb2
    have HNO := Lib.hid g2
    clear g1 g2 hb2 r0
    go_wp2_with fail
    refine Plan.wp_plan [.blk [0, 1, 2, 3, 4, 5, 6, 7, 8, 9, 10, 11]] (fun w' => True) (by kernel_rfl) (by kernel_rfl) (by intro _ _ d _ _ h; cases d <;> exact h) (trivial) (fun hS => ?_)
    clear hS
    apply Plan.blk_intro
    · intro w' hw Φ HΦ
      obtain _ := hw
      simp only [Plan.pick, List.map_cons, List.map_nil, List.getD_cons_zero, List.getD_cons_succ]
      repeat (first | go_values | go_skip | go_guarded | go_step | go_upon)
      exact ⟨rfl, HΦ.out⟩
    · kernel_rfl
    refine Plan.plan_done ?_
    go_wp2_with fail
    go_ret
    exact ⟨false, rfl, by simp; exact HNO.out, HBE.out.trans ((Upd.refl [] w5).drew.below.mono HBE.out.size)⟩
end Go.Proofs.Ytnhgmmjlhhgdoaa
