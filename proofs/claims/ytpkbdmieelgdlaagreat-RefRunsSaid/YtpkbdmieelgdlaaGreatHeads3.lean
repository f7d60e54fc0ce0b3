/- The contracts of package head: Put, and Get of a head's own word. -/
import Derived.Test.YtpkbdmieelgdlaaGreatP1
import Derived.Test.YtpkbdmieelgdlaaGreatHp
import Derived.Laws.ResultCell
namespace Go.Proofs.YtpkbdmieelgdlaaGreat
open Go Go.RowKit

theorem head_cells {w : World} {g : Nat} {k c l : Int} {f : Bool} (h : Blk w g 37 #[.int .i64 k, .int .i64 c, .int .i64 l, .bool f]) :
    w.cell? ⟨g, 0, none⟩ = some (.int .i64 k) ∧ w.cell? ⟨g, 1, none⟩ = some (.int .i64 c) ∧ w.cell? ⟨g, 2, none⟩ = some (.int .i64 l) ∧ w.cell? ⟨g, 3, none⟩ = some (.bool f) := ⟨h.cell 0, h.cell 1, h.cell 2, h.cell 3⟩
theorem head_frozen {w : World} {g : Nat} {t : TypeId} {cs : Array Value} (h : Blk w g t cs) :
    w.frozen? ⟨g, 0, none⟩ = false ∧ w.frozen? ⟨g, 1, none⟩ = false ∧ w.frozen? ⟨g, 2, none⟩ = false ∧ w.frozen? ⟨g, 3, none⟩ = false := ⟨h.frozen 0, h.frozen 1, h.frozen 2, h.frozen 3⟩
theorem head_put_no (k c l : Int) (f : Bool) (w : World) (h : mayB k c l f = false) : Calls Tryz.prog 81 #[.agg #[.int .i64 k, .int .i64 c, .int .i64 l, .bool f]] w fun e w' => e = .returned (.tuple #[.int .i64 0, .bool false]) ∧ Upd [] w w' := by
  have HM := Lib.hid h
  clear h
  go_enter Tryz.func81, Tryz.ntmps81
  go_wp2_with fail
  have hq := fun W => may_walk k c l f W
  rw [HM.out] at hq
  refine (hq _).mono ?_
  clear hq
  rintro e w1 ⟨rfl, hb⟩
  have HB := Lib.hid hb
  clear hb
  go_wp2_with fail
  go_ret2
  exact ⟨rfl, ((Upd.refl [] w).alloc _).trans (Upd.of_below HB.out)⟩

theorem head_put_yes (k c l : Int) (f : Bool) (w : World) (h : mayB k c l f = true) : Calls Tryz.prog 81 #[.agg #[.int .i64 k, .int .i64 c, .int .i64 l, .bool f]] w fun e w' => e = .returned (.tuple #[.int .i64 (putZ k c l f), .bool true]) ∧ Upd [] w w' := by
  obtain ⟨l0, l1, k0, k1, b0, b1⟩ := may_bd h
  have hq := fun W => may_walk k c l f W
  rw [h] at hq
  have HM := Lib.hid hq
  clear h hq
  unfold putZ
  cases f
  · go_enter Tryz.func81, Tryz.ntmps81
    go_wp2_with fail
    refine (HM.out _).mono ?_
    rintro e w1 ⟨rfl, hb⟩
    obtain ⟨x0, x1, x2, x3⟩ := head_cells ((Blk.new w 37 #[.int .i64 k, .int .i64 c, .int .i64 l, .bool false]).below hb (by simp))
    have HB := Lib.hid hb
    clear hb
    go_wp2_with fail
    go_ret2
    refine ⟨?_, ((Upd.refl [] w).alloc _).trans (Upd.of_below HB.out)⟩
    first | rfl | (simp; done) | (congr 4; omega)
  · go_enter Tryz.func81, Tryz.ntmps81
    go_wp2_with fail
    refine (HM.out _).mono ?_
    rintro e w1 ⟨rfl, hb⟩
    obtain ⟨x0, x1, x2, x3⟩ := head_cells ((Blk.new w 37 #[.int .i64 k, .int .i64 c, .int .i64 l, .bool true]).below hb (by simp))
    have HB := Lib.hid hb
    clear hb
    go_wp2_with fail
    go_ret2
    refine ⟨?_, ((Upd.refl [] w).alloc _).trans (Upd.of_below HB.out)⟩
    first | rfl | (simp; done) | (congr 4; omega)

theorem putZ_parts {k c l : Int} {f : Bool} (h : mayB k c l f = true) : putZ k c l f % 8 = k ∧ putZ k c l f / 8 % 2 = (if f then 1 else 0) ∧ putZ k c l f % 65536 / 16 = c ∧ putZ k c l f / 65536 = l ∧ 0 ≤ putZ k c l f ∧ putZ k c l f ≤ 100000000 := by
  obtain ⟨l0, l1, k0, k1, b0, b1⟩ := may_bd h
  unfold putZ
  cases f
  · simp only [Bool.false_eq_true, if_false]; omega
  · simp only [if_true]; omega

theorem head_get (k c l : Int) (f : Bool) (w : World) (h : mayB k c l f = true) : Calls Tryz.prog 95 #[.int .i64 (putZ k c l f)] w fun e w' => e = .returned (.tuple #[.agg #[.int .i64 k, .int .i64 c, .int .i64 l, .bool f], .bool true]) ∧ Upd [] w w' := by
  have hp := fun W => head_put_yes k c l f W h
  obtain ⟨x1, x2, x3, x4, x5, x6⟩ := putZ_parts h
  generalize putZ k c l f = x at *
  have HP := Lib.hid hp
  have HX := Lib.hid (And.intro x1 (And.intro x3 x4))
  clear hp x1 x3 x4 h
  cases f
  · simp only [Bool.false_eq_true, if_false] at x2
    go_enter Tryz.func95, Tryz.ntmps95
    go_wp2_with fail
    obtain ⟨h1, h2, h3⟩ := HX.out
    simp only [h1, h2, h3]
    clear h1 h2 h3
    refine (HP.out _).mono ?_
    rintro e w1 ⟨rfl, hu⟩
    have b0 := ((Blk.new w 37 #[.int .i64 0, .int .i64 0, .int .i64 0, .bool false]).alloc (.cells #[.int .i64 k, .int .i64 c, .int .i64 l, .bool false] 37)).upd hu (by simp)
    obtain ⟨z0, z1, z2, z3⟩ := head_cells b0
    obtain ⟨z4, z5, z6, z7⟩ := head_frozen b0
    obtain ⟨y0, y1, y2, y3⟩ := head_cells ((Blk.newAt (w.alloc (.cells #[.int .i64 0, .int .i64 0, .int .i64 0, .bool false] 37)) (w.heap.size + 1) 37 #[.int .i64 k, .int .i64 c, .int .i64 l, .bool false] (by simp)).upd hu (by simp))
    have HU : Hid (Upd [] w w1) := Lib.hid ((((Upd.refl [] w).alloc _).alloc _).trans hu)
    have HB := Lib.hid b0
    clear hu b0
    go_wp2_with fail
    (try simp only [Exit.inBlock, Exit.then])
    refine bodyPost_ret (v := .tuple #[.agg #[.int .i64 k, .int .i64 c, .int .i64 l, .bool false], .bool true]) ?_ rfl ⟨rfl, ?_⟩
    · rw [results_cell_tmp rfl]; go_simp
    · exact (((HU.out.setCell (.inr (Nat.le_refl _)) _).setCell (.inr (Nat.le_refl _)) _).setCell (.inr (Nat.le_refl _)) _).setCell (.inr (Nat.le_refl _)) _
  · simp only [if_true] at x2
    go_enter Tryz.func95, Tryz.ntmps95
    go_wp2_with fail
    obtain ⟨h1, h2, h3⟩ := HX.out
    simp only [h1, h2, h3]
    clear h1 h2 h3
    refine (HP.out _).mono ?_
    rintro e w1 ⟨rfl, hu⟩
    have b0 := ((Blk.new w 37 #[.int .i64 0, .int .i64 0, .int .i64 0, .bool false]).alloc (.cells #[.int .i64 k, .int .i64 c, .int .i64 l, .bool true] 37)).upd hu (by simp)
    obtain ⟨z0, z1, z2, z3⟩ := head_cells b0
    obtain ⟨z4, z5, z6, z7⟩ := head_frozen b0
    obtain ⟨y0, y1, y2, y3⟩ := head_cells ((Blk.newAt (w.alloc (.cells #[.int .i64 0, .int .i64 0, .int .i64 0, .bool false] 37)) (w.heap.size + 1) 37 #[.int .i64 k, .int .i64 c, .int .i64 l, .bool true] (by simp)).upd hu (by simp))
    have HU : Hid (Upd [] w w1) := Lib.hid ((((Upd.refl [] w).alloc _).alloc _).trans hu)
    have HB := Lib.hid b0
    clear hu b0
    go_wp2_with fail
    (try simp only [Exit.inBlock, Exit.then])
    refine bodyPost_ret (v := .tuple #[.agg #[.int .i64 k, .int .i64 c, .int .i64 l, .bool true], .bool true]) ?_ rfl ⟨rfl, ?_⟩
    · rw [results_cell_tmp rfl]; go_simp
    · exact (((HU.out.setCell (.inr (Nat.le_refl _)) _).setCell (.inr (Nat.le_refl _)) _).setCell (.inr (Nat.le_refl _)) _).setCell (.inr (Nat.le_refl _)) _
end Go.Proofs.YtpkbdmieelgdlaaGreat
