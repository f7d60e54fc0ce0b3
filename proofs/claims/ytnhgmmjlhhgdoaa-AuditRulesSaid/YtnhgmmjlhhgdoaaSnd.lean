/- The view of layer 23's statements of their own, in memory. -/
import Derived.Test.YtnhgmmjlhhgdoaaAudL
import Derived.Laws.ResultCell
namespace Go.Proofs.Ytnhgmmjlhhgdoaa
open Go Go.RowKit

/-- Blocks g, g + 1, .. are these. -/
def Blks (w : World) (g : Nat) (L : List (TypeId × Array Value)) : Prop := ∀ i t cs, L[i]? = some (t, cs) → Blk w (g + i) t cs
section
variable {w w' : World} {g : Nat} {L : List (TypeId × Array Value)}
theorem Blks.nil (w : World) (g : Nat) : Blks w g [] := fun i t cs h => by simp at h
theorem Blks.upd (h : Blks w g L) (hu : Upd [] w w') : Blks w' g L := fun i t cs hi => (h i t cs hi).upd hu (by simp)
theorem Blks.alloc (h : Blks w g L) (hs : w.heap.size = g + L.length) (cs : Array Value) (t : TypeId) : Blks (w.alloc (.cells cs t)) g (L ++ [(t, cs)]) := fun i t' cs' hi => by
  rcases Nat.lt_or_ge i L.length with h1 | h1
  · rw [List.getElem?_append_left h1] at hi
    exact (h i t' cs' hi).alloc _
  · rw [List.getElem?_append_right h1] at hi
    have hi0 : i - L.length = 0 := by
      rcases Nat.eq_zero_or_pos (i - L.length) with h2 | h2
      · exact h2
      · rw [List.getElem?_eq_none (by simp; omega)] at hi; cases hi
    rw [hi0] at hi
    simp only [List.getElem?_cons_zero, Option.some.injEq, Prod.mk.injEq] at hi
    obtain ⟨rfl, rfl⟩ := hi
    have : g + i = w.heap.size := by omega
    rw [this]
    exact Blk.new _ _ _
theorem Blks.set (h : Blks w g L) {j : Nat} {t : TypeId} {cs : Array Value} (hj : L[j]? = some (t, cs)) (off : Nat) (u : Value) : Blks (w.setCell ⟨g + j, off, none⟩ u) g (L.set j (t, cs.setIfInBounds off u)) := fun i t' cs' hi => by
  have hjl : j < L.length := (List.getElem?_eq_some_iff.1 hj).1
  rw [List.getElem?_set] at hi
  by_cases e : j = i
  · subst e
    rw [if_pos rfl, if_pos hjl] at hi
    simp only [Option.some.injEq, Prod.mk.injEq] at hi
    obtain ⟨rfl, rfl⟩ := hi
    exact (h j t cs hj).set_ off u
  · rw [if_neg e] at hi
    exact (h i t' cs' hi).far (by simpa using fun e2 : i = j => e e2.symm) u
end
theorem Blks.step {w : World} {g : Nat} {L : List (TypeId × Array Value)} (k : Nat) {t : TypeId} {cs : Array Value} (h : Blks w g (L.take k)) (hs : w.heap.size = g + k) (hk : L[k]? = some (t, cs)) : Blks (w.alloc (.cells cs t)) g (L.take (k + 1)) := by
  have hkl : k < L.length := (List.getElem?_eq_some_iff.1 hk).1
  have := h.alloc (by rw [List.length_take]; omega) cs t
  rw [List.getElem?_eq_getElem hkl] at hk
  rw [List.take_succ_eq_append_getElem hkl, Option.some.inj hk]
  exact this
theorem Blks.full {w : World} {g : Nat} {L : List (TypeId × Array Value)} (n : Nat) (hn : L.length ≤ n) (h : Blks w g (L.take n)) : Blks w g L := by
  rwa [List.take_of_length_le hn] at h
/-! ### The cells of lists -/
def objCells (os : List Ob) : Array Value := (os.flatMap fun o => [.int .i64 o.adr, .int .i64 o.kind, .int .i64 o.cls, .int .i64 o.len, .bool o.fin, .slice o.wa o.ws.length o.wc]).toArray
def heldCells (hs : List (Int × Int)) : Array Value := (hs.flatMap fun h => [.int .i64 h.1, .int .i64 h.2]).toArray
def rowCells (ls : List (Option Addr × Nat × List Int)) : Array Value := (ls.map fun l => Value.slice l.1 l.2.2.length l.2.1).toArray
theorem flat_at {α : Type} {C : Nat} {f : α → List Value} (hf : ∀ a, (f a).length = C) : ∀ (l : List α) (d : α) (i k : Nat), i < l.length → k < C → (l.flatMap f)[i * C + k]? = (f (l.getD i d))[k]?
  | [], _, i, _, hi, _ => by simp at hi
  | a :: l, d, 0, k, _, hk => by
    rw [List.flatMap_cons, Nat.zero_mul, Nat.zero_add, List.getElem?_append_left (by rw [hf]; exact hk)]
    rfl
  | a :: l, d, i + 1, k, hi, hk => by
    have hi' : i < l.length := by simpa using hi
    rw [List.flatMap_cons, List.getElem?_append_right (by rw [hf, Nat.add_mul]; omega), hf, show (i + 1) * C + k - C = i * C + k by rw [Nat.add_mul]; omega, flat_at hf l d i k hi' hk]
    rfl
theorem obs_of {w : World} {b : Nat} {t : TypeId} {os : List Ob} (h : Blk w b t (objCells os)) (hw : ∀ o ∈ os, IsInts w o.wa o.ws) : Obs w (some ⟨b, 0, none⟩) os := by
  refine .inr ⟨b, 0, rfl, h.lt, fun i hi => ⟨?_, hw _ (getD_in hi)⟩⟩
  have hc : ∀ k, k < 6 → w.cell? ⟨b, i * 6 + k, none⟩ = ([.int .i64 (os.getD i ob0).adr, .int .i64 (os.getD i ob0).kind, .int .i64 (os.getD i ob0).cls, .int .i64 (os.getD i ob0).len, .bool (os.getD i ob0).fin, .slice (os.getD i ob0).wa (os.getD i ob0).ws.length (os.getD i ob0).wc] : List Value)[k]? := fun k hk => by
    rw [h.cell (i * 6 + k)]
    unfold objCells
    rw [List.getElem?_toArray]
    exact flat_at (C := 6) (fun _ => rfl) os ob0 i k hi hk
  rw [Nat.zero_add]
  exact ⟨hc 0 (by decide), hc 1 (by decide), hc 2 (by decide), hc 3 (by decide), hc 4 (by decide), hc 5 (by decide)⟩
theorem helds_of_blk {w : World} {b : Nat} {t : TypeId} {hs : List (Int × Int)} (h : Blk w b t (heldCells hs)) : Helds w (some ⟨b, 0, none⟩) hs := by
  refine .inr ⟨b, 0, rfl, h.lt, fun i hi => ?_⟩
  have hc : ∀ k, k < 2 → w.cell? ⟨b, i * 2 + k, none⟩ = ([.int .i64 (hs.getD i (0, 0)).1, .int .i64 (hs.getD i (0, 0)).2] : List Value)[k]? := fun k hk => by
    rw [h.cell (i * 2 + k)]
    unfold heldCells
    rw [List.getElem?_toArray]
    exact flat_at (C := 2) (fun _ => rfl) hs (0, 0) i k hi hk
  rw [Nat.zero_add]
  exact ⟨hc 0 (by decide), hc 1 (by decide)⟩
theorem ints_of_blk {w : World} {b : Nat} {t : TypeId} {xs : List Int} (h : Blk w b t (ints xs)) : IsInts w (some ⟨b, 0, none⟩) xs :=
  .inr ⟨b, 0, rfl, h.lt, fun i hi => by rw [Nat.zero_add]; exact h.int i hi⟩
theorem lists_of_blk {w : World} {b : Nat} {t : TypeId} {ls : List (Option Addr × Nat × List Int)} (h : Blk w b t (rowCells ls)) (hw : ∀ l ∈ ls, IsInts w l.1 l.2.2 ∧ (l.1 = none → l.2.2.length = 0 ∧ l.2.1 = 0)) : Lists w (some ⟨b, 0, none⟩) (ls.map (·.2.2)) := by
  refine .inr ⟨b, 0, rfl, h.lt, fun i hi => ?_⟩
  rw [List.length_map] at hi
  have hg : (ls.map (·.2.2)).getD i [] = ls[i].2.2 := by rw [List.getD_eq_getElem?_getD, List.getElem?_map, List.getElem?_eq_getElem hi]; rfl
  rw [hg]
  refine ⟨ls[i].1, ls[i].2.1, ?_, hw _ (List.getElem_mem hi)⟩
  rw [Nat.zero_add, h.cell i]
  unfold rowCells
  rw [List.getElem?_toArray, List.getElem?_map, List.getElem?_eq_getElem hi]
  rfl

/-! ### The view -/
def osS (g : Nat) : List Ob := [⟨64, 1, 1, 1, true, some ⟨g + 2, 0, none⟩, 1, [5]⟩, ⟨66, 3, 0, 1, true, some ⟨g + 3, 0, none⟩, 1, [-7]⟩, ⟨128, 2, 0, 3, false, some ⟨g + 4, 0, none⟩, 3, [64, 0, 128]⟩, ⟨192, 4, 2, 5, false, some ⟨g + 5, 0, none⟩, 5, [0, -1, 200, 3, 1]⟩, ⟨200, 4, 1, 5, false, some ⟨g + 6, 0, none⟩, 5, [0, -1, 0, 9, 4]⟩, ⟨208, 4, 3, 5, false, some ⟨g + 7, 0, none⟩, 5, [66, 1, 0, 0, 2]⟩]
def rootsS : List Int := [0, 0, 64, 0, 0, 0, 0, 0, 0, 0, 0, 0, 0, 0, 0, 0]
def VS (g : Nat) : Vw := ⟨some ⟨g + 8, 0, none⟩, 6, osS g, some ⟨g + 9, 0, none⟩, 1, [(512, 128)], some ⟨g + 1, 0, none⟩, 16, rootsS, some ⟨g + 11, 0, none⟩, 2, [[192, 200], []], some ⟨g + 12, 0, none⟩, 1, [64], some ⟨g + 13, 0, none⟩, 1, [66], 9, 4, 32, 1⟩
/-- Its blocks. -/
def LS0 (g : Nat) : List (TypeId × Array Value) := [(30, (VS g).cells.toArray), (3, ints rootsS), (3, ints [5]), (3, ints [-7]), (3, ints [64, 0, 128]), (3, ints [0, -1, 200, 3, 1]), (3, ints [0, -1, 0, 9, 4]), (3, ints [66, 1, 0, 0, 2]), (37, objCells (osS g)), (39, heldCells [(512, 128)]), (3, ints [192, 200]), (22, rowCells [(some ⟨g + 10, 0, none⟩, 2, [192, 200]), (none, 0, [])]), (3, ints [64]), (3, ints [66])]
/-- What sound() leaves. -/
def SoundAt (w : World) (e : Ending) (w' : World) : Prop := e = .returned (VS w.heap.size).val ∧ Blks w' w.heap.size (LS0 w.heap.size) ∧ w'.heap.size = w.heap.size + 14 ∧ Upd [] w w'
theorem sound_end {a : Act} {W w : World} (h4 : a.tmps.getD 0 undef = .pointer (some ⟨w.heap.size, 0, none⟩)) (hd : a.defers = []) (hB : Blks W w.heap.size (LS0 w.heap.size)) (hs : W.heap.size = w.heap.size + 14) (hu : Upd [] w W) : bodyPost Try.prog Try.f19 (SoundAt w) .ret a W :=
  ⟨hd, _, results_cell_row (fn := Try.f19) rfl _ _ w.heap.size _ (VS w.heap.size).cells.toArray (0, 0) _ h4 (hB 0 _ _ rfl) Try.underlying30 rfl (by kernel_rfl), rfl, hB, hs, hu⟩
set_option maxRecDepth 100000 in
set_option maxHeartbeats 1600000 in
theorem sound_walk (w : World) : Calls Try.prog 19 #[] w (SoundAt w) := by
  have hmk : ∀ W : World, (Instr.makeSlice 22 (.int .i64 16) (.int .i64 16)).run Try.prog W = .ok (.slice (some ⟨W.heap.size, 0, none⟩) 16 16) (W.alloc (.cells #[.int .i64 0, .int .i64 0, .int .i64 0, .int .i64 0, .int .i64 0, .int .i64 0, .int .i64 0, .int .i64 0, .int .i64 0, .int .i64 0, .int .i64 0, .int .i64 0, .int .i64 0, .int .i64 0, .int .i64 0, .int .i64 0] 3)) := fun W => run_make_all 22 3 (.int .i64 0) 8 Try.underlying22 int_info rfl 16 16 rfl (by decide) (by decide) W
  go_enter Try.func19, Try.ntmps19
  go_wp2_with fail
  refine sound_end rfl rfl ?_ ?_ ?_
  · refine Blks.full 14 (Nat.le_refl 14) ?_
    refine Blks.step 13 ?_ (by simp) rfl
    refine Blks.step 12 ?_ (by simp) rfl
    refine Blks.step 11 ?_ (by simp) rfl
    refine Blks.step 10 ?_ (by simp) rfl
    refine Blks.step 9 ?_ (by simp) rfl
    refine Blks.step 8 ?_ (by simp) rfl
    refine Blks.step 7 ?_ (by simp) rfl
    refine Blks.step 6 ?_ (by simp) rfl
    refine Blks.step 5 ?_ (by simp) rfl
    refine Blks.step 4 ?_ (by simp) rfl
    refine Blks.step 3 ?_ (by simp) rfl
    refine Blks.step 2 ?_ (by simp) rfl
    refine Blks.step 1 ?_ (by simp) rfl
    refine Blks.step 0 ?_ (by simp) rfl
    exact Blks.nil w _
  · simp
  · exact ((((((((((((((Upd.refl [] w).alloc _).alloc _).alloc _).alloc _).alloc _).alloc _).alloc _).alloc _).alloc _).alloc _).alloc _).alloc _).alloc _).alloc _
end Go.Proofs.Ytnhgmmjlhhgdoaa
