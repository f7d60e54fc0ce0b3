/- A space that a call itself has made: what each of its methods answers, and that nothing that was there ahead has turned. -/
import Derived.Test.YtendjhobemlhoaaSpace9
namespace Go.Proofs.Ytendjhobemlhoaa
open Go Go.RowKit

/-- The space at s is S; all its blocks are new since a0, and nothing that was there then has turned. -/
def MineL (a0 w : World) (s : Nat) (L : Lay) (S : Sp) : Prop := IsSpace w s L S ∧ (∀ k, Owns s L S k → a0.heap.size ≤ k) ∧ Upd [] a0 w
def Mine (a0 w : World) (s : Nat) (S : Sp) : Prop := ∃ L, MineL a0 w s L S
section
variable {a0 w w' : World} {s : Nat} {L : Lay} {S S' : Sp}
theorem MineL.after (h : MineL a0 w s L S) (ha : After s L S S' w w') : Mine a0 w' s S' := by
  obtain ⟨h1, h2, h3⟩ := h
  obtain ⟨L', k1, k2, k3, k4⟩ := ha
  have hz := h3.size
  exact ⟨L', k1, fun k hk => by rcases k4 k hk with h | h; exact h2 k h; omega, h3.step k2 (fun i hi => .inr (h2 i (foot_owns hi)))⟩
theorem MineL.upd (h : MineL a0 w s L S) (hu : Upd [] w w') : MineL a0 w' s L S := ⟨h.1.upd0 hu, h.2.1, h.2.2.trans hu⟩
theorem Mine.upd (h : Mine a0 w s S) (hu : Upd [] w w') : Mine a0 w' s S := by obtain ⟨L, h⟩ := h; exact ⟨L, h.upd hu⟩
theorem Mine.drewN (h : Mine a0 w s S) (n : Nat) : Mine a0 (w.drewN n) s S := h.upd ((Upd.refl [] w).drewN n)
theorem Mine.alloc (h : Mine a0 w s S) (o : Obj) : Mine a0 (w.alloc o) s S := h.upd ((Upd.refl [] w).alloc o)
theorem Mine.world (h : Mine a0 w s S) : Upd [] a0 w := by obtain ⟨L, h⟩ := h; exact h.2.2
theorem Mine.wf (h : Mine a0 w s S) : S.WF := by obtain ⟨L, h⟩ := h; exact h.1.wf
theorem MineL.c0 (h : MineL a0 w s L S) : w.cell? ⟨s, 0, none⟩ = some (.pointer (some ⟨L.pa, 0, none⟩)) := h.1.box.cell 0
theorem MineL.c1 (h : MineL a0 w s L S) : w.cell? ⟨s, 1, none⟩ = some (.pointer (some ⟨L.q0, 0, none⟩)) := h.1.box.cell 1
end

theorem mine_new (n : Nat) (a0 w : World) (h1 : 1 ≤ n) (h2 : n ≤ 256) (hu : Upd [] a0 w) : Calls Try.prog 64 #[.int .i64 n] w fun e w' => ∃ s, e = .returned (.tuple #[.pointer (some ⟨s, 0, none⟩), .int .i64 0]) ∧ Mine a0 w' s (newSp n) :=
  (space_new_yes n w h1 h2).mono fun _ _ ⟨s, L, he, hs, ho, hu'⟩ => ⟨s, he, L, hs, fun k hk => Nat.le_trans hu.size (ho k hk), hu.trans hu'⟩
theorem alloc_eq {S : Sp} {n x y : Int} (h : (S.alloc n).2 = (x, y)) : S.alloc n = ((S.alloc n).1, x, y) := Prod.ext rfl h
theorem drop_eq {S : Sp} {a y : Int} (h : (S.drop a).2 = y) : S.drop a = ((S.drop a).1, y) := Prod.ext rfl h
theorem mine_alloc (a0 : World) (s : Nat) (S S' : Sp) (n : Int) (x y : Int) (w : World) (h : Mine a0 w s S) (hx : S.alloc n = (S', x, y)) :
    Calls Try.prog 57 #[.pointer (some ⟨s, 0, none⟩), .int .i64 n] w fun e w' => e = .returned (.tuple #[.int .i64 x, .int .i64 y]) ∧ Mine a0 w' s S' := by
  obtain ⟨L, h⟩ := h
  refine (alloc_calls s L S n w h.1).mono fun e w' ⟨he, ha⟩ => ?_
  rw [hx] at he ha
  exact ⟨he, h.after ha⟩
theorem mine_find (a0 : World) (s : Nat) (S : Sp) (a : Int) (x y : Int) (z : Bool) (w : World) (h : Mine a0 w s S) (hx : S.find a = (x, y, z)) :
    Calls Try.prog 60 #[.pointer (some ⟨s, 0, none⟩), .int .i64 a] w fun e w' => e = .returned (.tuple #[.int .i64 x, .int .i64 y, .bool z]) ∧ Mine a0 w' s S := by
  obtain ⟨L, h⟩ := h
  refine (find_calls s L S a w h.1).mono fun e w' ⟨he, ha⟩ => ⟨?_, L, h.upd ha⟩
  rw [he, hx]
  rfl
theorem mine_store (a0 : World) (s : Nat) (L : Lay) (S : Sp) (i : Nat) (x : Int) (w : World) (h : MineL a0 w s L S) (hi : i < S.W.length) :
    Calls Try.prog 59 #[.pointer (some ⟨L.pa, 0, none⟩), .int .i64 i, .int .i64 x] w fun e w' => e = .returned (.int .i64 0) ∧ Mine a0 w' s ⟨S.W.set i x, S.pg⟩ :=
  (store_yes L.pa L.ga S.W i x w h.1.arena (by omega) (by omega)).mono fun e w' ⟨he, ha, hu⟩ => ⟨he, h.after (h.1.words (by simpa using ha) (by simp) hu)⟩
theorem mine_load (a0 : World) (s : Nat) (L : Lay) (S : Sp) (i : Nat) (y : Int) (w : World) (h : MineL a0 w s L S) (hi : i < S.W.length) (hy : S.W.getD i 0 = y) :
    Calls Try.prog 55 #[.pointer (some ⟨L.pa, 0, none⟩), .int .i64 i] w fun e w' => e = .returned (.tuple #[.int .i64 y, .int .i64 0]) ∧ w = w' := by
  have := load_yes L.pa L.ga S.W i w h.1.arena (by omega) (by omega)
  rw [Int.toNat_natCast, hy] at this
  exact this
theorem mine_storeI (a0 : World) (s : Nat) (L : Lay) (S : Sp) (a : Int) (i : Nat) (x : Int) (w : World) (h : MineL a0 w s L S) (ha : a = i) (hi : i < S.W.length) :
    Calls Try.prog 59 #[.pointer (some ⟨L.pa, 0, none⟩), .int .i64 a, .int .i64 x] w fun e w' => e = .returned (.int .i64 0) ∧ Mine a0 w' s ⟨S.W.set i x, S.pg⟩ := by subst ha; exact mine_store a0 s L S i x w h hi
theorem mine_loadI (a0 : World) (s : Nat) (L : Lay) (S : Sp) (a : Int) (i : Nat) (y : Int) (w : World) (h : MineL a0 w s L S) (ha : a = i) (hi : i < S.W.length) (hy : S.W.getD i 0 = y) :
    Calls Try.prog 55 #[.pointer (some ⟨L.pa, 0, none⟩), .int .i64 a] w fun e w' => e = .returned (.tuple #[.int .i64 y, .int .i64 0]) ∧ w = w' := by subst ha; exact mine_load a0 s L S i y w h hi hy
end Go.Proofs.Ytendjhobemlhoaa
