/- AuditRules: the views. -/
import Derived.Test.YtnhgmmjlhhgdoaaAuditFirst0
namespace Go.Proofs.Ytnhgmmjlhhgdoaa
open Go Go.RowKit

/-- The blocks with the law's own view behind them. -/
def LS1 (g : Nat) : List (TypeId × Array Value) := LS0 g ++ [(30, (VS g).cells.toArray)]
def wants : List Int := [1, 1, 1, 1, 1, 2, 2, 3, 3, 3, 4, 4, 4, 5, 5, 5, 5, 5, 6, 6, 6, 6, 7, 7, 7, 7, 7, 7]
def VG (g : Nat) (os : List Ob) (hs : List (Int × Int)) (xs : List Int) (rows : List (Option Addr × Nat × List Int)) (fb : Nat) (fs : List Int) (pb : Nat) (ps : List Int) (used runs : Int) : Vw :=
  ⟨some ⟨g + 8, 0, none⟩, os.length, os, some ⟨g + 9, 0, none⟩, hs.length, hs, some ⟨g + 1, 0, none⟩, 16, xs, some ⟨g + 11, 0, none⟩, rows.length, rows.map (·.2.2), some ⟨fb, 0, none⟩, fs.length, fs, some ⟨pb, 0, none⟩, ps.length, ps, 9, 4, used, runs⟩
theorem good_gen {w : World} {g : Nat} {L : List (TypeId × Array Value)} (h : Blks w g L) (os : List Ob) (hs : List (Int × Int)) (xs : List Int) (n : Nat) (rows : List (Option Addr × Nat × List Int)) (fb : Nat) (fs : List Int) (pb : Nat) (ps : List Int) (used runs k : Int)
    (ho : L[8]? = some (37, objCells os)) (hw : ∀ o ∈ os, IsInts w o.wa o.ws) (hh : L[9]? = some (39, heldCells hs)) (hr : L[1]? = some (3, ints xs))
    (hq : L[11]? = some (22, rowCells rows)) (hqw : ∀ l ∈ rows, IsInts w l.1 l.2.2 ∧ (l.1 = none → l.2.2.length = 0 ∧ l.2.1 = 0)) (hf : Blk w fb 3 (ints fs)) (hp : Blk w pb 3 (ints ps))
    (hb : lightB (VG g os hs (xs.take n) rows fb fs pb ps used runs) = true) (hc : decide (CheckIs (VG g os hs (xs.take n) rows fb fs pb ps used runs) k) = true) : Good w (VG g os hs (xs.take n) rows fb fs pb ps used runs) k := by
  refine good_of ⟨obs_of (h 8 _ _ ho) hw, helds_of_blk (h 9 _ _ hh), ?_, lists_of_blk (h 11 _ _ hq) hqw, ints_of_blk hf, ints_of_blk hp⟩ hb (by intro h; cases h) (by intro h; cases h) hc
  rcases ints_of_blk (h 1 _ _ hr) with h1 | ⟨b, off, h1, h2, h3⟩
  · exact .inl (by show xs.take n = []; rw [h1]; simp)
  · refine .inr ⟨b, off, h1, h2, fun i hi => ?_⟩
    have hi' : i < (xs.take n).length := hi
    rw [List.length_take] at hi'
    rw [h3 i (by omega), List.getD_eq_getElem?_getD, List.getD_eq_getElem?_getD]
    show _ = some (Value.int .i64 ((xs.take n)[i]?.getD 0))
    rw [List.getElem?_take_of_lt (by omega)]
/-- Views side by side in a block. -/
def viewCells (vs : List (Vw × Int)) : Array Value := (vs.flatMap fun v => v.1.cells).toArray
theorem vws_of {w : World} {b : Nat} {t : TypeId} {vs : List (Vw × Int)} (h : Blk w b t (viewCells vs)) (hg : ∀ v ∈ vs, Good w v.1 v.2) : Vws w b 0 vs := fun i hi =>
  ⟨fun k hk => by
    rw [Nat.zero_add, h.cell (i * 10 + k)]
    unfold viewCells
    rw [List.getElem?_toArray]
    exact flat_at (C := 10) (f := fun v : Vw × Int => v.1.cells) (fun _ => rfl) vs (vw0 none 0, 0) i k hi hk, hg _ (getD_in hi)⟩
/-- The view that is checked, where the switch ends. -/
def AtEnd (w : World) (g wb k : Nat) (wx : World) : Prop := ∃ V : Vw, Good wx V (wants.getD k 0) ∧ Blk wx (g + 14) 30 V.cells.toArray ∧ Blk wx wb 3 (ints wants) ∧ Upd [] w wx
end Go.Proofs.Ytnhgmmjlhhgdoaa
