/- The document's heads: PutHead, and GetHead of a head's own word. -/
import Derived.Test.YtpkbdmieelgdlaaGreatHeads3
namespace Go.Proofs.YtpkbdmieelgdlaaGreat
open Go Go.RowKit

/-- How a block that is a result is handed back. -/
theorem cell_ret {fn : Func} {p : Tmp} {ty t : TypeId} {w : World} {r : Nat} {cs : Array Value} {a : Act} {d : Array Field} {R : Ending → World → Prop} (hf : fn.results = #[.cell p ty]) (hB : Blk w r t cs) (h4 : a.tmps.getD p undef = .pointer (some ⟨r, 0, none⟩)) (hd : a.defers = [])
    (hu : Tryz.prog.underlying ty = some (.struct d)) (hi : (Tryz.prog.info? ty).map (·.size) = some cs.size) (hR : R (.returned (.agg cs)) w) : bodyPost Tryz.prog fn R .ret a w :=
  ⟨hd, _, results_cell_row (fn := fn) hf _ _ r _ _ (0, 0) _ h4 hB hu rfl hi, hR⟩
theorem putZ_more {k c l : Int} {f : Bool} (h : mayB k c l f = true) : putZ k c l f % 8 = k ∧ putZ k c l f / 8 % 2 = (if f then 1 else 0) ∧ putZ k c l f / 16 % 4096 = c ∧ putZ k c l f / 65536 = l ∧ 0 ≤ putZ k c l f ∧ putZ k c l f < 67108864 := by
  obtain ⟨l0, l1, k0, k1, b0, b1⟩ := may_bd h
  unfold putZ
  cases f
  · simp only [Bool.false_eq_true, if_false]; omega
  · simp only [if_true]; omega
theorem doc_put (k c l : Int) (f : Bool) (w : World) (h : mayB k c l f = true) : Calls Tryz.prog 55 #[.agg #[.int .i64 k, .int .i64 c, .int .i64 l, .bool f]] w fun e w' => e = .returned (.int .i64 (putZ k c l f)) ∧ Upd [] w w' := by
  obtain ⟨l0, l1, k0, k1, b0, b1⟩ := may_bd h
  clear h
  unfold putZ
  have HU := Lib.hid ((Upd.refl [] w).alloc (.cells #[.int .i64 k, .int .i64 c, .int .i64 l, .bool f] 37))
  cases f
  · go_enter Tryz.func55, Tryz.ntmps55
    go_wp2_with fail
    go_ret
    exact ⟨by first | rfl | (simp; done) | (congr 2; simp; omega), HU.out⟩
  · go_enter Tryz.func55, Tryz.ntmps55
    go_wp2_with fail
    go_ret
    exact ⟨by first | rfl | (simp; done) | (congr 2; simp; omega), HU.out⟩
theorem doc_get (k c l : Int) (f : Bool) (w : World) (h : mayB k c l f = true) : Calls Tryz.prog 99 #[.int .i64 (putZ k c l f)] w fun e w' => e = .returned (.agg #[.int .i64 k, .int .i64 c, .int .i64 l, .bool f, .bool true]) ∧ Upd [] w w' := by
  have hp := fun W => mayhead_walk k c l f W
  rw [h] at hp
  obtain ⟨x1, x2, x3, x4, x5, x6⟩ := putZ_more h
  generalize putZ k c l f = x at *
  have HP := Lib.hid hp
  have HX := Lib.hid (And.intro x1 (And.intro x3 x4))
  clear hp x1 x3 x4 h
  cases f
  · simp only [Bool.false_eq_true, if_false] at x2
    go_enter Tryz.func99, Tryz.ntmps99
    go_wp2_with fail
    obtain ⟨h1, h2, h3⟩ := HX.out
    simp only [h1, h2, h3]
    clear h1 h2 h3
    refine (HP.out _).mono ?_
    rintro e w1 ⟨rfl, hb⟩
    have hu : Upd [] _ w1 := Upd.of_below hb
    have b0 := ((Blk.new w 113 #[.int .i64 0, .int .i64 0, .int .i64 0, .bool false, .bool false]).alloc (.cells #[.int .i64 k, .int .i64 c, .int .i64 l, .bool false] 37)).upd hu (by simp)
    obtain ⟨y0, y1, y2, y3⟩ := head_cells ((Blk.newAt (w.alloc (.cells #[.int .i64 0, .int .i64 0, .int .i64 0, .bool false, .bool false] 113)) (w.heap.size + 1) 37 #[.int .i64 k, .int .i64 c, .int .i64 l, .bool false] (by simp)).upd hu (by simp))
    have HU : Hid (Upd [] w w1) := Lib.hid ((((Upd.refl [] w).alloc _).alloc _).trans hu)
    obtain ⟨z4, z5, z6, z7⟩ := head_frozen b0
    have z8 := b0.frozen 4
    have z0 := b0.cell 0
    have z1 := b0.cell 1
    have z2 := b0.cell 2
    have z3 := b0.cell 3
    have z9 := b0.cell 4
    simp only [List.getElem?_toArray, List.getElem?_cons_zero, List.getElem?_cons_succ] at z0 z1 z2 z3 z9
    have HB := Lib.hid b0
    clear hb hu b0
    go_wp2_with fail
    exact cell_ret rfl (((((HB.out.set_ 0 _).set_ 1 _).set_ 2 _).set_ 3 _).set_ 4 _) rfl rfl Tryz.underlying113 (by kernel_rfl) ⟨rfl, ((((HU.out.setCell (.inr (Nat.le_refl _)) _).setCell (.inr (Nat.le_refl _)) _).setCell (.inr (Nat.le_refl _)) _).setCell (.inr (Nat.le_refl _)) _).setCell (.inr (Nat.le_refl _)) _⟩
  · simp only [if_true] at x2
    go_enter Tryz.func99, Tryz.ntmps99
    go_wp2_with fail
    obtain ⟨h1, h2, h3⟩ := HX.out
    simp only [h1, h2, h3]
    clear h1 h2 h3
    refine (HP.out _).mono ?_
    rintro e w1 ⟨rfl, hb⟩
    have hu : Upd [] _ w1 := Upd.of_below hb
    have b0 := ((Blk.new w 113 #[.int .i64 0, .int .i64 0, .int .i64 0, .bool false, .bool false]).alloc (.cells #[.int .i64 k, .int .i64 c, .int .i64 l, .bool true] 37)).upd hu (by simp)
    obtain ⟨y0, y1, y2, y3⟩ := head_cells ((Blk.newAt (w.alloc (.cells #[.int .i64 0, .int .i64 0, .int .i64 0, .bool false, .bool false] 113)) (w.heap.size + 1) 37 #[.int .i64 k, .int .i64 c, .int .i64 l, .bool true] (by simp)).upd hu (by simp))
    have HU : Hid (Upd [] w w1) := Lib.hid ((((Upd.refl [] w).alloc _).alloc _).trans hu)
    obtain ⟨z4, z5, z6, z7⟩ := head_frozen b0
    have z8 := b0.frozen 4
    have z0 := b0.cell 0
    have z1 := b0.cell 1
    have z2 := b0.cell 2
    have z3 := b0.cell 3
    have z9 := b0.cell 4
    simp only [List.getElem?_toArray, List.getElem?_cons_zero, List.getElem?_cons_succ] at z0 z1 z2 z3 z9
    have HB := Lib.hid b0
    clear hb hu b0
    go_wp2_with fail
    exact cell_ret rfl (((((HB.out.set_ 0 _).set_ 1 _).set_ 2 _).set_ 3 _).set_ 4 _) rfl rfl Tryz.underlying113 (by kernel_rfl) ⟨rfl, ((((HU.out.setCell (.inr (Nat.le_refl _)) _).setCell (.inr (Nat.le_refl _)) _).setCell (.inr (Nat.le_refl _)) _).setCell (.inr (Nat.le_refl _)) _).setCell (.inr (Nat.le_refl _)) _⟩
end Go.Proofs.YtpkbdmieelgdlaaGreat
