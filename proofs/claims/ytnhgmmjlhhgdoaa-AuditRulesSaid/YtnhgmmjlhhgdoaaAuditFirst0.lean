/- AuditFirst: what is turned of the view. -/
import Derived.Test.YtnhgmmjlhhgdoaaSnds
namespace Go.Proofs.Ytnhgmmjlhhgdoaa
open Go Go.RowKit

section
variable (g : Nat) (b0 b1 b2 b3 b4 b5 b6 : Bool) (nq np : Nat)
def osF : List Ob := [⟨64, 1, 1, 1, true, some ⟨g + 2, 0, none⟩, 1, [5]⟩, ⟨66, 3, 0, 1, true, some ⟨g + 3, 0, none⟩, 1, [-7]⟩, ⟨128, 2, 0, 3, false, some ⟨g + 4, 0, none⟩, 3, [64, bif b3 then 1 else 0, 128]⟩, ⟨192, 4, 2, 5, false, some ⟨g + 5, 0, none⟩, 5, [0, -1, 200, 3, 1]⟩, ⟨200, 4, 1, 5, false, some ⟨g + 6, 0, none⟩, 5, [0, -1, 0, 9, 4]⟩, ⟨208, bif b0 then 9 else 4, 3, 5, false, some ⟨g + 7, 0, none⟩, 5, [66, 1, 0, 0, 2]⟩]
def rootsF : List Int := [0, 0, 64, 0, bif b2 then 1 else 0, 0, 0, 0, 0, 0, 0, 0, 0, 0, 0, 0]
def rowF : Option Addr × Nat × List Int := bif b4 then (some ⟨nq, 0, none⟩, 1, [64]) else (none, 0, [])
def pendF : List Int := bif b5 then [66, 3] else [66]
def VF : Vw := ⟨some ⟨g + 8, 0, none⟩, 6, osF g b0 b3, some ⟨g + 9, 0, none⟩, 1, [(512, 128)], some ⟨g + 1, 0, none⟩, 16, rootsF b2, some ⟨g + 11, 0, none⟩, 2, [[192, 200], (rowF b4 nq).2.2], some ⟨g + 12, 0, none⟩, 1, [64], some ⟨np, 0, none⟩, (pendF b5).length, pendF b5, bif b6 then 1 else 9, 4, bif b1 then 1 else 32, 1⟩
def LF : List (TypeId × Array Value) := [(30, (VS g).cells.toArray), (3, ints (rootsF b2)), (3, ints [5]), (3, ints [-7]), (3, ints [64, bif b3 then 1 else 0, 128]), (3, ints [0, -1, 200, 3, 1]), (3, ints [0, -1, 0, 9, 4]), (3, ints [66, 1, 0, 0, 2]), (37, objCells (osF g b0 b3)), (39, heldCells [(512, 128)]), (3, ints [192, 200]), (22, rowCells [(some ⟨g + 10, 0, none⟩, 2, [192, 200]), rowF b4 nq]), (3, ints [64]), (3, ints [66]), (30, (VF g b0 b1 b2 b3 b4 b5 b6 nq np).cells.toArray)]
end
/-- The view as it stands in memory. -/
structure StF (w : World) (g : Nat) (b0 b1 b2 b3 b4 b5 b6 : Bool) (nq np : Nat) : Prop where
  blks : Blks w g (LF g b0 b1 b2 b3 b4 b5 b6 nq np)
  q : b4 = true → Blk w nq 3 (ints [64])
  qg : b4 = true → g + 15 ≤ nq
  p : Blk w np 3 (ints (pendF b5))
  pg : np = g + 13 ∨ g + 15 ≤ np
theorem StF.upd {w w' : World} {g : Nat} {b0 b1 b2 b3 b4 b5 b6 : Bool} {nq np : Nat} (h : StF w g b0 b1 b2 b3 b4 b5 b6 nq np) (hu : Upd [] w w') : StF w' g b0 b1 b2 b3 b4 b5 b6 nq np :=
  ⟨h.blks.upd hu, fun e => (h.q e).upd hu (by simp), h.qg, h.p.upd hu (by simp), h.pg⟩
theorem StF.start {w : World} {g : Nat} (h : Blks w g (LS0 g ++ [(30, (VS g).cells.toArray)])) : StF w g false false false false false false false 0 (g + 13) :=
  ⟨h, (fun e => by cases e), (fun e => by cases e), h 13 _ _ rfl, .inl rfl⟩
section
variable {w : World} {g : Nat} {b0 b1 b2 b3 b4 b5 b6 : Bool} {nq np : Nat}
/-- A cell of one of the blocks is stored. -/
theorem StF.set {c0 c1 c2 c3 c6 : Bool} (h : StF w g b0 b1 b2 b3 b4 b5 b6 nq np) (j : Nat) (t : TypeId) (cs : Array Value) (off : Nat) (u : Value) (hj : (LF g b0 b1 b2 b3 b4 b5 b6 nq np)[j]? = some (t, cs)) (hj13 : j < 13 ∨ j = 14)
    (hL : (LF g b0 b1 b2 b3 b4 b5 b6 nq np).set j (t, cs.setIfInBounds off u) = LF g c0 c1 c2 c3 b4 b5 c6 nq np) : StF (w.setCell ⟨g + j, off, none⟩ u) g c0 c1 c2 c3 b4 b5 c6 nq np := by
  refine ⟨by rw [← hL]; exact h.blks.set hj off u, fun e => (h.q e).far (by have := h.qg e; simp; omega) u, h.qg, h.p.far (by rcases h.pg with e | e <;> simp <;> omega) u, h.pg⟩
theorem StF.k0 (h : StF w g b0 b1 b2 b3 b4 b5 b6 nq np) : StF (w.setCell ⟨g + 8, 31, none⟩ (.int .i64 9)) g true b1 b2 b3 b4 b5 b6 nq np := h.set 8 _ _ 31 _ rfl (.inl (by decide)) rfl
theorem StF.k1 (h : StF w g b0 b1 b2 b3 b4 b5 b6 nq np) : StF (w.setCell ⟨g + 14, 8, none⟩ (.int .i64 1)) g b0 true b2 b3 b4 b5 b6 nq np := h.set 14 _ _ 8 _ rfl (.inr rfl) rfl
theorem StF.k2 (h : StF w g b0 b1 b2 b3 b4 b5 b6 nq np) : StF (w.setCell ⟨g + 1, 4, none⟩ (.int .i64 1)) g b0 b1 true b3 b4 b5 b6 nq np := h.set 1 _ _ 4 _ rfl (.inl (by decide)) rfl
theorem StF.k3 (h : StF w g b0 b1 b2 b3 b4 b5 b6 nq np) : StF (w.setCell ⟨g + 4, 1, none⟩ (.int .i64 1)) g b0 b1 b2 true b4 b5 b6 nq np := h.set 4 _ _ 1 _ rfl (.inl (by decide)) rfl
theorem StF.k6 (h : StF w g b0 b1 b2 b3 b4 b5 b6 nq np) : StF (w.setCell ⟨g + 14, 6, none⟩ (.int .i64 1)) g b0 b1 b2 b3 b4 b5 true nq np := h.set 14 _ _ 6 _ rfl (.inr rfl) rfl
theorem StF.k4 (h : StF w g b0 b1 b2 b3 b4 b5 b6 nq np) (nb : Nat) (hb : Blk w nb 3 (ints [64])) (hg : g + 15 ≤ nb) : StF (w.setCell ⟨g + 11, 1, none⟩ (.slice (some ⟨nb, 0, none⟩) 1 1)) g b0 b1 b2 b3 true b5 b6 nb np := by
  refine ⟨?_, fun _ => hb.far (by simp; omega) _, fun _ => hg, h.p.far (by rcases h.pg with e | e <;> simp <;> omega) _, h.pg⟩
  have := h.blks.set (j := 11) rfl 1 (.slice (some ⟨nb, 0, none⟩) 1 1)
  exact this
theorem StF.k5 (h : StF w g b0 b1 b2 b3 b4 b5 b6 nq np) (nb : Nat) (hb : Blk w nb 3 (ints [66, 3])) (hg : g + 15 ≤ nb) : StF (w.setCell ⟨g + 14, 5, none⟩ (.slice (some ⟨nb, 0, none⟩) 2 2)) g b0 b1 b2 b3 b4 true b6 nq nb := by
  refine ⟨?_, fun e => (h.q e).far (by have := h.qg e; simp; omega) _, h.qg, hb.far (by simp; omega) _, .inr hg⟩
  have := h.blks.set (j := 14) rfl 5 (.slice (some ⟨nb, 0, none⟩) 2 2)
  exact this
theorem StF.good (h : StF w g b0 b1 b2 b3 b4 b5 b6 nq np) (k : Int) (hc : decide (CheckIs (VF g b0 b1 b2 b3 b4 b5 b6 nq np) k) = true) : Good w (VF g b0 b1 b2 b3 b4 b5 b6 nq np) k := by
  refine good_of ⟨obs_of (h.blks 8 _ _ rfl) ?_, helds_of_blk (h.blks 9 _ _ rfl), ints_of_blk (h.blks 1 _ _ rfl), ?_, ints_of_blk (h.blks 12 _ _ rfl), ints_of_blk h.p⟩ (by cases b0 <;> cases b1 <;> cases b2 <;> cases b3 <;> cases b4 <;> cases b5 <;> cases b6 <;> kernel_rfl) (by intro h; cases h) (by intro h; cases h) hc
  · intro o ho
    simp only [VF, osF, List.mem_cons, List.not_mem_nil, or_false] at ho
    rcases ho with rfl | rfl | rfl | rfl | rfl | rfl
    · exact ints_of_blk (h.blks 2 _ _ rfl)
    · exact ints_of_blk (h.blks 3 _ _ rfl)
    · exact ints_of_blk (h.blks 4 _ _ rfl)
    · exact ints_of_blk (h.blks 5 _ _ rfl)
    · exact ints_of_blk (h.blks 6 _ _ rfl)
    · exact ints_of_blk (h.blks 7 _ _ rfl)
  · refine lists_of_blk (ls := [(some ⟨g + 10, 0, none⟩, 2, [192, 200]), rowF b4 nq]) (h.blks 11 _ _ rfl) ?_
    intro l hl
    simp only [List.mem_cons, List.not_mem_nil, or_false] at hl
    rcases hl with rfl | rfl
    · exact ⟨ints_of_blk (h.blks 10 _ _ rfl), fun h => by cases h⟩
    · cases b4 with
      | false => exact ⟨.inl rfl, fun _ => ⟨rfl, rfl⟩⟩
      | true => exact ⟨ints_of_blk (h.q rfl), fun h => by cases h⟩
end
/-- Which places are turned, of those of x and y that came. -/
def fl (x y j i : Nat) : Bool := (decide (0 < j) && decide (i = x)) || (decide (1 < j) && decide (i = y))
theorem first_is (g nq np : Nat) : ∀ x, x < 7 → ∀ y, y < 7 → decide (CheckIs (VF g (fl x y 2 0) (fl x y 2 1) (fl x y 2 2) (fl x y 2 3) (fl x y 2 4) (fl x y 2 5) (fl x y 2 6) nq np) ((min x y : Nat) + 1 : Int)) = true := by
  refine seven ?_ ?_ ?_ ?_ ?_ ?_ ?_ <;> refine seven ?_ ?_ ?_ ?_ ?_ ?_ ?_ <;> kernel_rfl
end Go.Proofs.Ytnhgmmjlhhgdoaa
