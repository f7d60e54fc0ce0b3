/- The walk of SizeEdges: at every input the law returns true, and nothing that was there has turned. -/
import Derived.Test.YtnhgmmjlhhgdoaaSize
namespace Go.Proofs.Ytnhgmmjlhhgdoaa
open Go Go.RowKit

def edgeN : List Int := [1, 2, 3, 4, 5, 8, 9, 16, 17, 32, 33, 64, 65, 128, 129, 1024, 1025, 0, -1]
def edgeB : List Int := [2, 2, 4, 4, 8, 8, 16, 16, 32, 32, 64, 64, 128, 128, 192, 1024, 0, 0, 0]
def edgeC : List Int := [0, 0, 1, 1, 2, 2, 3, 3, 4, 4, -1, -1, -1, -1, -1, -1, -1, -1, -1]
def edgeP : List Int := [0, 0, 0, 0, 0, 0, 0, 0, 0, 0, 1, 1, 2, 2, 3, 16, 0, 0, 0]
theorem blk_new_at (w : World) {g : Nat} (h : w.heap.size = g) (t : TypeId) (cs : Array Value) : Blk (w.alloc (.cells cs t)) g t cs := by
  subst h
  exact Blk.new w t cs
theorem edges : ∀ k, k < 19 → blockZ (edgeN.getD k 0) = edgeB.getD k 0 ∧ classZ (edgeN.getD k 0) = edgeC.getD k 0 ∧ pagesZ (edgeN.getD k 0) = edgeP.getD k 0 := by decide +kernel

set_option maxRecDepth 100000 in
set_option maxHeartbeats 8000000 in
theorem edges_walk (K : Nat) (w : World) (hK : K ≤ 255) : Calls Try.prog 3 #[.int .u8 K] w fun e w' => e = .returned (.bool true) ∧ Below w.heap.size w w' := by
  obtain ⟨k, hk⟩ : ∃ k : Nat, (K : Int) % 19 = k := ⟨K % 19, by omega⟩
  have hk1 : k < 19 := by omega
  have HK := Lib.hid hk
  clear hk
  obtain ⟨e1, e2, e3⟩ := edges k hk1
  obtain ⟨n, hn⟩ : ∃ n, edgeN.getD k 0 = n := ⟨_, rfl⟩
  obtain ⟨b, hb⟩ : ∃ n, edgeB.getD k 0 = n := ⟨_, rfl⟩
  obtain ⟨c, hc⟩ : ∃ n, edgeC.getD k 0 = n := ⟨_, rfl⟩
  obtain ⟨p, hp⟩ : ∃ n, edgeP.getD k 0 = n := ⟨_, rfl⟩
  rw [hn, hb] at e1
  rw [hn, hc] at e2
  rw [hn, hp] at e3
  have h1 := fun w => block_calls n w
  have h2 := fun w => class_calls n w
  have h3 := fun w => pages_calls n w
  rw [e1] at h1
  rw [e2] at h2
  rw [e3] at h3
  have H1 := Lib.hid h1
  have H2 := Lib.hid h2
  have H3 := Lib.hid h3
  have HE := Lib.hid (And.intro hn (And.intro hb (And.intro hc hp)))
  clear e1 e2 e3 h1 h2 h3 hn hb hc hp
  go_enter Try.func3, Try.ntmps3
  go_upto_region 6 with fail
  simp only [HK.out]
  generalize hW : World.alloc _ (Obj.cells _ 3) = W
  have hB1 : Blk W w.heap.size 3 (ints edgeN) := by
    rw [← hW]
    exact (((Blk.new w 3 (ints edgeN)).alloc _).alloc _).alloc _
  have s1 : (w.alloc (.cells (ints edgeN) 3)).heap.size = w.heap.size + 1 := by simp
  have s2 : ((w.alloc (.cells (ints edgeN) 3)).alloc (.cells (ints edgeB) 3)).heap.size = w.heap.size + 1 + 1 := by simp
  have s3 : (((w.alloc (.cells (ints edgeN) 3)).alloc (.cells (ints edgeB) 3)).alloc (.cells (ints edgeC) 3)).heap.size = w.heap.size + 1 + 1 + 1 := by simp
  have hB2 : Blk W (w.heap.size + 1) 3 (ints edgeB) := by
    rw [← hW]
    exact ((blk_new_at _ s1 3 (ints edgeB)).alloc _).alloc _
  have hB3 : Blk W (w.heap.size + 1 + 1) 3 (ints edgeC) := by
    rw [← hW]
    exact (blk_new_at _ s2 3 (ints edgeC)).alloc _
  have hB4 : Blk W (w.heap.size + 1 + 1 + 1) 3 (ints edgeP) := by
    rw [← hW]
    exact blk_new_at _ s3 3 (ints edgeP)
  have hU : Upd [] w W := by
    rw [← hW]
    exact ((((Upd.refl [] w).alloc _).alloc _).alloc _).alloc _
  obtain ⟨hn, hb, hc, hp⟩ := HE.out
  have d1 : W.drew.cell? ⟨w.heap.size, k, none⟩ = some (.int .i64 n) := by rw [← hn]; exact hB1.int k hk1
  have d2 : W.drew.cell? ⟨w.heap.size + 1, k, none⟩ = some (.int .i64 b) := by rw [← hb]; exact hB2.int k hk1
  have d3 : W.drew.cell? ⟨w.heap.size + 1 + 1, k, none⟩ = some (.int .i64 c) := by rw [← hc]; exact hB3.int k hk1
  have d4 : W.drew.cell? ⟨w.heap.size + 1 + 1 + 1, k, none⟩ = some (.int .i64 p) := by rw [← hp]; exact hB4.int k hk1
  have HU := Lib.hid hU.drew
  have hk2 : (k : Int) < (19 : Int) := by omega
  have hk3 : (0 : Int) ≤ (k : Int) := by omega
  have HLT := Lib.hid (And.intro hB1.lt (And.intro hB2.lt (And.intro hB3.lt hB4.lt)))
  clear hW hB1 hB2 hB3 hB4 hU s1 s2 s3 hn hb hc hp HE HK
  go_region_held3 (fun w' => w'.cell? ⟨w.heap.size, k, none⟩ = some (.int .i64 n) ∧ w'.cell? ⟨w.heap.size + 1, k, none⟩ = some (.int .i64 b) ∧ w'.cell? ⟨w.heap.size + 1 + 1, k, none⟩ = some (.int .i64 c) ∧ w'.cell? ⟨w.heap.size + 1 + 1 + 1, k, none⟩ = some (.int .i64 p))
    (first | exact ⟨d1, d2, d3, d4⟩ | exact ⟨e1, e2, e3, e4⟩ | exact ⟨f1, f2, f3, f4⟩ | exact ⟨g1, g2, g3, g4⟩ | exact ⟨h1, h2, h3, h4⟩)
    (first
      | (go_at_call 11; refine (H1.out _).mono ?_; rintro e w2 ⟨rfl, hb⟩
         have e1 := (hb.cell (p := ⟨w.heap.size, k, none⟩) HLT.out.1).trans d1
         have e2 := (hb.cell (p := ⟨w.heap.size + 1, k, none⟩) HLT.out.2.1).trans d2
         have e3 := (hb.cell (p := ⟨w.heap.size + 1 + 1, k, none⟩) HLT.out.2.2.1).trans d3
         have e4 := (hb.cell (p := ⟨w.heap.size + 1 + 1 + 1, k, none⟩) HLT.out.2.2.2).trans d4
         have HU2 := Lib.hid (HU.out.step (Upd.of_below hb : Upd [] _ _) (by simp))
         clear hb)
      | (go_at_call 12; refine (H2.out _).mono ?_; rintro e w3 ⟨rfl, hb⟩
         have f1 := (hb.cell (p := ⟨w.heap.size, k, none⟩) (World.block_lt_of_cell? _ _ e1)).trans e1
         have f2 := (hb.cell (p := ⟨w.heap.size + 1, k, none⟩) (World.block_lt_of_cell? _ _ e2)).trans e2
         have f3 := (hb.cell (p := ⟨w.heap.size + 1 + 1, k, none⟩) (World.block_lt_of_cell? _ _ e3)).trans e3
         have f4 := (hb.cell (p := ⟨w.heap.size + 1 + 1 + 1, k, none⟩) (World.block_lt_of_cell? _ _ e4)).trans e4
         have HU3 := Lib.hid (HU2.out.step (Upd.of_below hb : Upd [] _ _) (by simp))
         clear hb)
      | (go_at_call 13; refine (H3.out _).mono ?_; rintro e w4 ⟨rfl, hb⟩
         have g1 := (hb.cell (p := ⟨w.heap.size, k, none⟩) (World.block_lt_of_cell? _ _ f1)).trans f1
         have g2 := (hb.cell (p := ⟨w.heap.size + 1, k, none⟩) (World.block_lt_of_cell? _ _ f2)).trans f2
         have g3 := (hb.cell (p := ⟨w.heap.size + 1 + 1, k, none⟩) (World.block_lt_of_cell? _ _ f3)).trans f3
         have g4 := (hb.cell (p := ⟨w.heap.size + 1 + 1 + 1, k, none⟩) (World.block_lt_of_cell? _ _ f4)).trans f4
         have HU4 := Lib.hid (HU3.out.step (Upd.of_below hb : Upd [] _ _) (by simp))
         clear hb)
      | (go_at_call 14; refine (awake4_calls _).mono ?_; rintro e w5 ⟨rfl, hb⟩
         have h1 := (hb.cell (p := ⟨w.heap.size, k, none⟩) (World.block_lt_of_cell? _ _ g1)).trans g1
         have h2 := (hb.cell (p := ⟨w.heap.size + 1, k, none⟩) (World.block_lt_of_cell? _ _ g2)).trans g2
         have h3 := (hb.cell (p := ⟨w.heap.size + 1 + 1, k, none⟩) (World.block_lt_of_cell? _ _ g3)).trans g3
         have h4 := (hb.cell (p := ⟨w.heap.size + 1 + 1 + 1, k, none⟩) (World.block_lt_of_cell? _ _ g4)).trans g4
         have HU5 := Lib.hid (HU4.out.step (Upd.of_below hb : Upd [] _ _) (by simp))
         clear hb))
  all_goals
    go_wp2_with fail
    go_ret
    exact ⟨rfl, HU5.out.below⟩
end Go.Proofs.Ytnhgmmjlhhgdoaa
