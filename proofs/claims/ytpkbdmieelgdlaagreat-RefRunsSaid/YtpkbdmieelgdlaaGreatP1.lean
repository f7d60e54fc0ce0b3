/- Words for memory, and the contracts of the arena, of bits, of pages, of blocks, of sizes and of heads. No condition. -/
import Derived.WalkKit
import Derived.Lib.Hide
import Derived.OpenShut
import Derived.Deep.Draws
import Derived.Laws.OwnMore
import Derived.Laws.Rows
import Derived.Laws.MakeOwn
import Derived.Laws.CopyOwn
import Derived.OwnWalk
import Derived.Test.YtpkbdmieelgdlaaGreatChecked
import Derived.Deep.Slices
import Derived.Deep.Fields
import Derived.ChangeSame
import Derived.RowKit
import Derived.Laws.AppendOwnNone
import Derived.Deep.LoopGhost
import Derived.Deep.CutBlock
import Derived.Deep.DeepCutAuto
import Derived.Deep.RegionHeld3
import Derived.Deep.QuietTactic
import Derived.BigQuiet
namespace Go.Proofs.YtpkbdmieelgdlaaGreat
open Go Go.RowKit

/-- Between w and w' nothing has turned but new blocks and the blocks of E. -/
structure Upd (E : List Nat) (w w' : World) : Prop where
  os : w'.os = w.os
  tape : w'.tape = w.tape
  output : w'.output = w.output
  size : w.heap.size ≤ w'.heap.size
  block : ∀ k, k < w.heap.size → k ∉ E → w'.heap[k]? = w.heap[k]?

section
variable {E E' : List Nat} {a w w' w1 : World}
theorem Upd.refl (E : List Nat) (w : World) : Upd E w w := ⟨rfl, rfl, rfl, Nat.le_refl _, fun _ _ _ => rfl⟩
theorem Upd.trans (h : Upd E a w) (k : Upd E w w') : Upd E a w' :=
  ⟨k.os.trans h.os, k.tape.trans h.tape, k.output.trans h.output, Nat.le_trans h.size k.size, fun i hi hE => (k.block i (Nat.lt_of_lt_of_le hi h.size) hE).trans (h.block i hi hE)⟩
/-- A step that turns blocks of E, or blocks that were not there at first. -/
theorem Upd.step (h : Upd E a w) (k : Upd E' w w') (hE : ∀ i ∈ E', i ∈ E ∨ a.heap.size ≤ i) : Upd E a w' :=
  ⟨k.os.trans h.os, k.tape.trans h.tape, k.output.trans h.output, Nat.le_trans h.size k.size, fun i hi hn => (k.block i (Nat.lt_of_lt_of_le hi h.size) (fun hm => by
    rcases hE i hm with h1 | h1
    · exact hn h1
    · omega)).trans (h.block i hi hn)⟩
theorem Upd.mono (h : Upd E a w) (hE : ∀ i ∈ E, i ∈ E') : Upd E' a w := ⟨h.os, h.tape, h.output, h.size, fun i hi hn => h.block i hi fun hm => hn (hE i hm)⟩
theorem Upd.drew (h : Upd E a w) : Upd E a w.drew := ⟨h.os, h.tape, h.output, h.size, h.block⟩
theorem Upd.drewN (h : Upd E a w) (n : Nat) : Upd E a (w.drewN n) := ⟨h.os, h.tape, h.output, h.size, h.block⟩
theorem Upd.alloc (h : Upd E a w) (o : Obj) : Upd E a (w.alloc o) :=
  ⟨h.os, h.tape, h.output, Nat.le_trans h.size (by simp), fun i hi hn => (Below.heap_alloc _ _ _ (Nat.lt_of_lt_of_le hi h.size)).trans (h.block i hi hn)⟩
theorem Upd.setCell (h : Upd E a w) {p : Addr} (hp : p.block ∈ E ∨ a.heap.size ≤ p.block) (u : Value) : Upd E a (w.setCell p u) :=
  ⟨h.os, h.tape, h.output, by simpa [World.setCell] using h.size, fun i hi hn => (Below.heap_setCell _ _ _ _ (by
    rintro rfl
    rcases hp with hp | hp
    · exact hn hp
    · omega)).trans (h.block i hi hn)⟩
theorem Upd.of_below (h : Below a.heap.size a w) : Upd E a w := ⟨h.os, h.tape, h.output, h.size, fun i hi _ => h.block i hi⟩
theorem Upd.below (h : Upd [] a w) : Below a.heap.size a w := ⟨h.os, h.tape, h.output, h.size, fun i hi => h.block i hi (by simp)⟩
/-- What is turned is new alone. -/
theorem Upd.below_of (h : Upd E a w) {B : Nat} (hB : B ≤ a.heap.size) (hE : ∀ i ∈ E, B ≤ i) : Below B a w := ⟨h.os, h.tape, h.output, h.size, fun i hi => h.block i (by omega) (fun hm => by have := hE i hm; omega)⟩
theorem Upd.grown {row : Option Nat} (h : Upd E a w) (hg : w.grownBy w' row) (hr : ∀ k, row = some k → k ∈ E ∨ a.heap.size ≤ k) : Upd E a w' :=
  ⟨hg.os.trans h.os, hg.tape.trans h.tape, hg.output.trans h.output, Nat.le_trans h.size hg.size, fun i hi hn => (hg.block i (Nat.lt_of_lt_of_le hi h.size) (fun e => by
    rcases hr i e.symm with h1 | h1
    · exact hn h1
    · omega)).trans (h.block i hi hn)⟩
theorem Upd.cell (h : Upd E a w) {p : Addr} (hp : p.block < a.heap.size) (hn : p.block ∉ E) : w.cell? p = a.cell? p := World.cell?_of_block (w := a) (h.block p.block hp hn)
theorem Upd.frozen (h : Upd E a w) {p : Addr} (hp : p.block < a.heap.size) (hn : p.block ∉ E) : w.frozen? p = a.frozen? p := World.frozen?_of_block (w := a) (h.block p.block hp hn)
end

/-- Block g is just the cells cs of element type t, none frozen. -/
def Blk (w : World) (g : Nat) (t : TypeId) (cs : Array Value) : Prop := w.heap[g]? = some (.cells cs t (0, 0))
section
variable {E : List Nat} {a w w' : World} {g : Nat} {t : TypeId} {cs : Array Value}
theorem Blk.lt (h : Blk w g t cs) : g < w.heap.size := by
  rcases Nat.lt_or_ge g w.heap.size with hlt | hge
  · exact hlt
  · unfold Blk at h; rw [Array.getElem?_eq_none hge] at h; cases h
theorem Blk.cell (h : Blk w g t cs) (i : Nat) : w.cell? ⟨g, i, none⟩ = cs[i]? := cell_of_row w g i cs t (0, 0) h
theorem Blk.frozen (h : Blk w g t cs) (i : Nat) : w.frozen? ⟨g, i, none⟩ = false := by
  unfold Blk at h
  simp [World.frozen?, h]
theorem Blk.new (w : World) (t : TypeId) (cs : Array Value) : Blk (w.alloc (.cells cs t)) w.heap.size t cs := heap_alloc_new w _
theorem Blk.newAt (W : World) (g : Nat) (t : TypeId) (cs : Array Value) (h : W.heap.size = g) : Blk (W.alloc (.cells cs t)) g t cs := by
  subst h
  exact Blk.new _ _ _
theorem Blk.drew (h : Blk w g t cs) : Blk w.drew g t cs := h
theorem Blk.drewN (h : Blk w g t cs) (n : Nat) : Blk (w.drewN n) g t cs := h
theorem Blk.alloc (h : Blk w g t cs) (o : Obj) : Blk (w.alloc o) g t cs := (Below.heap_alloc w o g h.lt).trans h
theorem Blk.set_ (h : Blk w g t cs) (i : Nat) (u : Value) : Blk (w.setCell ⟨g, i, none⟩ u) g t (cs.setIfInBounds i u) := by
  unfold Blk at h ⊢
  simp [World.setCell, Array.getElem?_modify, h]
theorem Blk.far (h : Blk w g t cs) {p : Addr} (hp : g ≠ p.block) (u : Value) : Blk (w.setCell p u) g t cs := (Below.heap_setCell w p u g hp).trans h
theorem Blk.upd (h : Blk w g t cs) (hu : Upd E w w') (hg : g ∉ E) : Blk w' g t cs := (hu.block g h.lt hg).trans h
theorem Blk.below {B : Nat} (h : Blk w g t cs) (hb : Below B w w') (hg : g < B) : Blk w' g t cs := (hb.block g hg).trans h
theorem Blk.ne_ {g' : Nat} {t' : TypeId} {cs' : Array Value} (h : Blk w g t cs) (h' : Blk w g' t' cs') (hne : t ≠ t') : g ≠ g' := by
  rintro rfl
  unfold Blk at h h'
  rw [h] at h'
  injection h' with h'
  injection h' with _ ht
  exact hne ht
theorem Blk.one {u : Value} (h : Blk w g t #[u]) : w.cell? ⟨g, 0, none⟩ = some u := h.cell 0
end

/-- A row of Bools; of numbers. -/
def bools (l : List Bool) : Array Value := (l.map Value.bool).toArray
def ints (l : List Int) : Array Value := (l.map (Value.int .i64)).toArray
theorem bools_at (l : List Bool) (i : Nat) : (bools l)[i]? = (l[i]?).map Value.bool := by simp [bools]
theorem ints_at (l : List Int) (i : Nat) : (ints l)[i]? = (l[i]?).map (Value.int .i64) := by simp [ints]
theorem bools_set (l : List Bool) (i : Nat) (b : Bool) : (bools l).setIfInBounds i (.bool b) = bools (l.set i b) := by simp [bools, List.map_set]
theorem ints_set_ (l : List Int) (i : Nat) (b : Int) : (ints l).setIfInBounds i (.int .i64 b) = ints (l.set i b) := by simp [ints, List.map_set]
theorem bools_size (l : List Bool) : (bools l).size = l.length := by simp [bools]
theorem ints_size (l : List Int) : (ints l).size = l.length := by simp [ints]
theorem Blk.bool {w : World} {g : Nat} {t : TypeId} {l : List Bool} (h : Blk w g t (bools l)) (i : Nat) (hi : i < l.length) : w.cell? ⟨g, i, none⟩ = some (.bool (l.getD i false)) := by
  rw [h.cell, bools_at, List.getD_eq_getElem?_getD, List.getElem?_eq_getElem hi]; rfl
theorem Blk.int {w : World} {g : Nat} {t : TypeId} {l : List Int} (h : Blk w g t (ints l)) (i : Nat) (hi : i < l.length) : w.cell? ⟨g, i, none⟩ = some (.int .i64 (l.getD i 0)) := by
  rw [h.cell, ints_at, List.getD_eq_getElem?_getD, List.getElem?_eq_getElem hi]; rfl
theorem bools_zero (n : Nat) : bools (List.replicate n false) = Array.replicate n (Value.bool false) := by simp [bools]
theorem ints_zero (n : Nat) : ints (List.replicate n 0) = Array.replicate n (Value.int .i64 0) := by simp [ints]

/-- 'make([]T, n)', T of one cell. -/
theorem run_make_all {P : Program} (t e : TypeId) (z : Value) (bytes : Nat) (ht : P.underlying t = some (.slice e)) (hinfo : (P.info? e).map (fun i => (i.zero, i.size, i.bytes)) = some (some z, 1, bytes)) (hz1 : z.cells = #[z])
    (C : Int) (n : Nat) (hC : C = n) (hbytes : bytes * n ≤ 281474976710656) (h63 : n ≤ 9223372036854775807) (w : World) :
    (Instr.makeSlice t (.int .i64 C) (.int .i64 C)).run P w = .ok (.slice (some ⟨w.heap.size, 0, none⟩) n n) (w.alloc (.cells (Array.replicate n z) e)) := by
  subst hC
  obtain ⟨i, hi, hzz⟩ := Option.map_eq_some_iff.1 hinfo
  simp only [Prod.mk.injEq] at hzz
  obtain ⟨hz, hs, hb⟩ := hzz
  have hbytes' : (i.bytes : Int) * (n : Int) ≤ 281474976710656 := by
    rw [hb]
    have : ((bytes * n : Nat) : Int) ≤ 281474976710656 := by omega
    rwa [Int.natCast_mul] at this
  have h := run_make (P := P) w t e i z ht hi hz .i64 .i64 (n : Int) (n : Int) (by omega) (by omega) hbytes' (by omega)
  rw [h, Int.toNat_natCast, hs, Nat.mul_one, hz1]
  have : madeCells #[z] n = Array.replicate n z := by
    apply Array.ext
    · simp [madeCells]
    · intro j h1 h2
      simp [madeCells, Nat.mod_one]
  rw [this]

/-- What a row holds behind 'clear(xs[o:o+n])'. -/
theorem run_clear_row {P : Program} (w : World) (t ty e : TypeId) (i : TypeInfo) (z : Value) (ht : P.underlying t = some (.slice e)) (hi : P.info? e = some i) (hz : i.zero = some z) (hz1 : z.cells = #[z]) (h1 : z.oneCell' = true)
    (g o n c : Nat) (cur : Array Value) (hn : 0 < n) (hg : w.heap[g]? = some (.cells cur e (0, 0))) (hl : o + n ≤ cur.size) :
    (Builtin.clear_ #[t] ty #[.slice (some ⟨g, o, none⟩) n c]).run P w = .ok (.tuple #[]) (w.setRow g (cur.toList.take o ++ List.replicate n z ++ cur.toList.drop (o + n)).toArray) := by
  obtain ⟨n, rfl⟩ : ∃ m, n = m + 1 := ⟨n - 1, by omega⟩
  have hrow : (Builtin.zeroCells #[z] (n + 1)).toList = List.replicate (n + 1) z := by
    unfold Builtin.zeroCells
    apply List.ext_getElem
    · simp
    · intro j h1 h2
      simp [Nat.mod_one]
  have hst := run_storeCells_at (P := P) g o e (List.replicate (n + 1) z) 0 cur w hg (by simpa using hl) (by intro v hv; rw [List.eq_of_mem_replicate hv]; exact h1)
  simp only [Nat.add_zero, List.length_replicate] at hst
  unfold Builtin.clear_
  simp [run_underlying ht, zeroValue, typeInfo, hi, hz, hz1, hrow, hst]

theorem wpList_clear_row {P : Program} {w : World} {ops : Array Oper} {rest : List Oper} {o : Oper} {a : Act} {Q : Exit → Act → World → Prop} (hgd : o.guard = none) (x : Operand) (t : TypeId)
    (ho : o.op = .call { callee := .builtin .clear, args := #[x], argTypes := #[t] })
    (e : TypeId) (z : Value) (bytes : Nat) (ht : P.underlying t = some (.slice e)) (hinfo : (P.info? e).map (fun i => (i.zero, i.size, i.bytes)) = some (some z, 1, bytes)) (hz1 : z.cells = #[z]) (h1 : z.oneCell' = true)
    (g off n c : Nat) (cur : Array Value) (hx : a.eval x = .slice (some ⟨g, off, none⟩) n c) (hn : 0 < n) (hg : Blk w g e cur) (hl : off + n ≤ cur.size)
    (h : wpList P ops Q rest (a.put o.dst (.tuple #[])) (w.setRow g (cur.toList.take off ++ List.replicate n z ++ cur.toList.drop (off + n)).toArray)) : wpList P ops Q (o :: rest) a w := by
  obtain ⟨i, hi, hzz⟩ := Option.map_eq_some_iff.1 hinfo
  simp only [Prod.mk.injEq] at hzz
  obtain ⟨hz, _, _⟩ := hzz
  have hrun := run_clear_row (P := P) w t o.type e i z ht hi hz hz1 h1 g off n c cur hn hg hl
  refine wpList_plain hgd fun K hK => ?_
  unfold Oper.wp execOp
  simp only [ho, resolve, invoke, builtin, Sem.run_bind, Sem.run_pure, Result.andThen_ok, List.map_toArray, List.map_cons, List.map_nil, hx, hrun]
  exact hK _ _ h
theorem Upd.setRow {E : List Nat} {a w : World} (h : Upd E a w) {g : Nat} (hg : g ∈ E ∨ a.heap.size ≤ g) (cs : Array Value) : Upd E a (w.setRow g cs) :=
  ⟨h.os, h.tape, h.output, by simpa using h.size, fun i hi hn => (setRow_other w g i cs (by
    rintro rfl
    rcases hg with hg | hg
    · exact hn hg
    · omega)).trans (h.block i hi hn)⟩
theorem Blk.setRow {w : World} {g : Nat} {t : TypeId} {old : Array Value} (h : Blk w g t old) (cs : Array Value) : Blk (w.setRow g cs) g t cs := setRow_heap w g old cs t _ h
theorem Blk.setRow_far {w : World} {g k : Nat} {t : TypeId} {old : Array Value} (h : Blk w k t old) (hk : k ≠ g) (cs : Array Value) : Blk (w.setRow g cs) k t old := (setRow_other w g k cs hk).trans h
end Go.Proofs.YtpkbdmieelgdlaaGreat
namespace Go.Proofs.YtpkbdmieelgdlaaGreat
open Go Go.RowKit

theorem err_calls (n : Int) (w : World) (h : 0 ≤ n ∧ n ≤ 7) : Calls Tryz.prog 9 #[.int .i64 n] w fun e w' => e = .returned (.int .i64 n) ∧ w = w' := by
  obtain ⟨h1, h2⟩ := h
  go_enter Tryz.func9, Tryz.ntmps9
  go_wp2
  go_ret
  exact ⟨rfl, rfl⟩

/-- An arena at block p, its words at block g. -/
def IsArena (w : World) (p g : Nat) (l : List Int) : Prop := Blk w p 168 #[.slice (some ⟨g, 0, none⟩) l.length l.length] ∧ Blk w g 3 (ints l)
section
variable {w w' : World} {p g : Nat} {l : List Int} {E : List Nat}
theorem IsArena.ne (h : IsArena w p g l) : p ≠ g := h.1.ne_ h.2 (by decide)
theorem IsArena.upd (h : IsArena w p g l) (hu : Upd E w w') (hp : p ∉ E) (hg : g ∉ E) : IsArena w' p g l := ⟨h.1.upd hu hp, h.2.upd hu hg⟩
theorem IsArena.drew (h : IsArena w p g l) : IsArena w.drew p g l := h
end

def NewArena (n : Nat) (w : World) (e : Ending) (w' : World) : Prop := ∃ p g, e = .returned (.tuple #[.pointer (some ⟨p, 0, none⟩), .int .i64 0]) ∧ IsArena w' p g (List.replicate n 0) ∧
  w.heap.size ≤ p ∧ w.heap.size ≤ g ∧ Below w.heap.size w w'

theorem int_info : (Tryz.prog.info? 3).map (fun i => (i.zero, i.size, i.bytes)) = some (some (.int .i64 0), 1, 8) := by kernel_rfl

theorem arena_new_no (n : Int) (w : World) (h : n < 1 ∨ 256 < n) : Calls Tryz.prog 100 #[.int .i64 n] w fun e w' => e = .returned (.tuple #[.pointer none, .int .i64 1]) ∧ w = w' := by
  rcases h with h | h
  · go_enter Tryz.func100, Tryz.ntmps100
    go_wp2
    go_ret2
    exact ⟨rfl, rfl⟩
  · have h' : ¬ n < 1 := by omega
    go_enter Tryz.func100, Tryz.ntmps100
    go_wp2
    go_ret2
    exact ⟨rfl, rfl⟩

theorem arena_new_yes (n : Nat) (w : World) (h1 : 1 ≤ n) (h2 : n ≤ 256) : Calls Tryz.prog 100 #[.int .i64 n] w (NewArena (n * 64) w) := by
  have hmk := fun W => run_make_all (P := Tryz.prog) 23 3 (.int .i64 0) 8 Tryz.underlying23 int_info rfl ((n : Int) * 64) (n * 64) (by omega) (by omega) (by omega) W
  go_enter Tryz.func100, Tryz.ntmps100
  go_wp2
  go_ret2
  refine ⟨w.heap.size + 1, w.heap.size, rfl, ⟨?_, ?_⟩, by omega, by omega, (((Below.refl _ _).alloc (Nat.le_refl _) _).alloc (by simp) _)⟩
  · have := Blk.new (w.alloc (.cells (Array.replicate (n * 64) (.int .i64 0)) 3)) 168 #[.slice (some ⟨w.heap.size, 0, none⟩) (n * 64) (n * 64)]
    simpa using this
  · rw [ints_zero]
    exact (Blk.new w _ _).alloc _

theorem arena_len_nil (w : World) : Calls Tryz.prog 112 #[.pointer none] w fun e w' => e = .returned (.int .i64 0) ∧ w = w' := by
  go_enter Tryz.func112, Tryz.ntmps112
  go_wp2
  go_ret
  exact ⟨rfl, rfl⟩
theorem arena_len (p g : Nat) (l : List Int) (w : World) (h : IsArena w p g l) : Calls Tryz.prog 112 #[.pointer (some ⟨p, 0, none⟩)] w fun e w' => e = .returned (.int .i64 l.length) ∧ w = w' := by
  have h0 := h.1.one
  clear h
  go_enter Tryz.func112, Tryz.ntmps112
  go_wp2
  go_ret
  exact ⟨rfl, rfl⟩

theorem has_yes (p g : Nat) (l : List Int) (i : Int) (w : World) (h : IsArena w p g l) (h0 : 0 ≤ i) (h1 : i < l.length) : Calls Tryz.prog 107 #[.pointer (some ⟨p, 0, none⟩), .int .i64 i] w fun e w' => e = .returned (.bool true) ∧ w = w' := by
  have c0 := h.1.one
  clear h
  go_enter Tryz.func107, Tryz.ntmps107
  go_wp2
  go_ret
  exact ⟨rfl, rfl⟩
theorem has_no (p g : Nat) (l : List Int) (i : Int) (w : World) (h : IsArena w p g l) (h0 : i < 0 ∨ l.length ≤ i) : Calls Tryz.prog 107 #[.pointer (some ⟨p, 0, none⟩), .int .i64 i] w fun e w' => e = .returned (.bool false) ∧ w = w' := by
  have c0 := h.1.one
  clear h
  by_cases hi : i < 0
  · clear h0
    go_enter Tryz.func107, Tryz.ntmps107
    go_wp2
    go_ret
    exact ⟨rfl, rfl⟩
  · have h1 : (0 : Int) ≤ i := by omega
    have h2 : ¬ i < (l.length : Int) := by omega
    clear h0
    go_enter Tryz.func107, Tryz.ntmps107
    go_wp2
    go_ret
    exact ⟨rfl, rfl⟩

theorem load_nil (i : Int) (w : World) : Calls Tryz.prog 94 #[.pointer none, .int .i64 i] w fun e w' => e = .returned (.tuple #[.int .i64 0, .int .i64 2]) ∧ w = w' := by
  go_enter Tryz.func94, Tryz.ntmps94
  go_wp2
  go_ret2
  exact ⟨rfl, rfl⟩
theorem load_no (p g : Nat) (l : List Int) (i : Int) (w : World) (h : IsArena w p g l) (h0 : i < 0 ∨ l.length ≤ i) : Calls Tryz.prog 94 #[.pointer (some ⟨p, 0, none⟩), .int .i64 i] w fun e w' => e = .returned (.tuple #[.int .i64 0, .int .i64 2]) ∧ w = w' := by
  have H := Lib.hid h
  have H0 := Lib.hid h0
  clear h h0
  go_enter Tryz.func94, Tryz.ntmps94
  go_wp2_with (go_at_call 107; refine (has_no p g l i _ H.out H0.out).mono ?_; rintro e w' ⟨rfl, rfl⟩)
  go_ret2
  exact ⟨rfl, rfl⟩
theorem load_yes (p g : Nat) (l : List Int) (i : Int) (w : World) (h : IsArena w p g l) (h0 : 0 ≤ i) (h1 : i < l.length) : Calls Tryz.prog 94 #[.pointer (some ⟨p, 0, none⟩), .int .i64 i] w fun e w' => e = .returned (.tuple #[.int .i64 (l.getD i.toNat 0), .int .i64 0]) ∧ w = w' := by
  have c0 := h.1.one
  have c1 := h.2.int i.toNat (by omega)
  obtain ⟨v, hv⟩ : ∃ v, l.getD i.toNat 0 = v := ⟨_, rfl⟩
  rw [hv] at c1
  have HV := Lib.hid hv
  clear hv
  have H := Lib.hid h
  clear h
  go_enter Tryz.func94, Tryz.ntmps94
  go_wp2_with (go_at_call 107; refine (has_yes p g l i _ H.out h0 h1).mono ?_; rintro e w' ⟨rfl, rfl⟩)
  go_ret2
  rw [HV.out]
  exact ⟨rfl, rfl⟩

theorem store_nil (i x : Int) (w : World) : Calls Tryz.prog 82 #[.pointer none, .int .i64 i, .int .i64 x] w fun e w' => e = .returned (.int .i64 2) ∧ w = w' := by
  go_enter Tryz.func82, Tryz.ntmps82
  go_wp2
  go_ret
  exact ⟨rfl, rfl⟩
theorem store_no (p g : Nat) (l : List Int) (i x : Int) (w : World) (h : IsArena w p g l) (h0 : i < 0 ∨ l.length ≤ i) : Calls Tryz.prog 82 #[.pointer (some ⟨p, 0, none⟩), .int .i64 i, .int .i64 x] w fun e w' => e = .returned (.int .i64 2) ∧ w = w' := by
  have H := Lib.hid h
  have H0 := Lib.hid h0
  clear h h0
  go_enter Tryz.func82, Tryz.ntmps82
  go_wp2_with (go_at_call 107; refine (has_no p g l i _ H.out H0.out).mono ?_; rintro e w' ⟨rfl, rfl⟩)
  go_ret
  exact ⟨rfl, rfl⟩
theorem store_yes (p g : Nat) (l : List Int) (i x : Int) (w : World) (h : IsArena w p g l) (h0 : 0 ≤ i) (h1 : i < l.length) : Calls Tryz.prog 82 #[.pointer (some ⟨p, 0, none⟩), .int .i64 i, .int .i64 x] w fun e w' => e = .returned (.int .i64 0) ∧ IsArena w' p g (l.set i.toNat x) ∧ Upd [g] w w' := by
  have c0 := h.1.one
  have c1 := h.2.int i.toNat (by omega)
  have c2 := h.2.frozen i.toNat
  have H := Lib.hid h
  clear h
  go_enter Tryz.func82, Tryz.ntmps82
  go_wp2_with (go_at_call 107; refine (has_yes p g l i _ H.out h0 h1).mono ?_; rintro e w' ⟨rfl, rfl⟩)
  go_ret
  refine ⟨rfl, ⟨?_, ?_⟩, (Upd.refl _ _).setCell (by simp) _⟩
  · rw [List.length_set]
    exact H.out.1.far H.out.ne _
  · rw [← ints_set_]
    exact H.out.2.set_ _ _

theorem fill_nil (i n : Int) (w : World) : Calls Tryz.prog 106 #[.pointer none, .int .i64 i, .int .i64 n] w fun e w' => e = .returned (.int .i64 2) ∧ w = w' := by
  go_enter Tryz.func106, Tryz.ntmps106
  go_wp2
  go_ret
  exact ⟨rfl, rfl⟩
theorem fill_arg (p : Nat) (i n : Int) (w : World) (h : n < 0) : Calls Tryz.prog 106 #[.pointer (some ⟨p, 0, none⟩), .int .i64 i, .int .i64 n] w fun e w' => e = .returned (.int .i64 1) ∧ w = w' := by
  go_enter Tryz.func106, Tryz.ntmps106
  go_wp2
  go_ret
  exact ⟨rfl, rfl⟩
theorem fill_low (p : Nat) (i n : Int) (w : World) (h : ¬ n < 0) (h0 : i < 0) : Calls Tryz.prog 106 #[.pointer (some ⟨p, 0, none⟩), .int .i64 i, .int .i64 n] w fun e w' => e = .returned (.int .i64 2) ∧ w = w' := by
  go_enter Tryz.func106, Tryz.ntmps106
  go_wp2
  go_ret
  exact ⟨rfl, rfl⟩
theorem fill_no (p g : Nat) (l : List Int) (i n : Int) (w : World) (h : IsArena w p g l) (hl : l.length ≤ 16384) (hn : 0 < n) (h0 : 0 ≤ i) (h1 : l.length - i < n) (hi : i ≤ 9223372036854775807) : Calls Tryz.prog 106 #[.pointer (some ⟨p, 0, none⟩), .int .i64 i, .int .i64 n] w fun e w' => e = .returned (.int .i64 2) ∧ w = w' := by
  have c0 := h.1.one
  clear h
  by_cases hlt : i < (l.length : Int)
  all_goals
    go_enter Tryz.func106, Tryz.ntmps106
    go_wp2
    all_goals
      go_ret
      exact ⟨rfl, rfl⟩
theorem fill_zero (p g : Nat) (l : List Int) (i : Int) (w : World) (h : IsArena w p g l) (hl : l.length ≤ 16384) (h0 : 0 ≤ i) (hi : i ≤ 9223372036854775807) : Calls Tryz.prog 106 #[.pointer (some ⟨p, 0, none⟩), .int .i64 i, .int .i64 0] w fun e w' => e = .returned (.int .i64 0) ∧ w = w' := by
  have c0 := h.1.one
  clear h
  by_cases hlt : i < (l.length : Int)
  all_goals
    go_enter Tryz.func106, Tryz.ntmps106
    go_wp2
    all_goals
      go_ret
      exact ⟨rfl, rfl⟩
theorem fill_yes (p g : Nat) (l : List Int) (i n : Nat) (w : World) (h : IsArena w p g l) (hl : l.length ≤ 16384) (hn : 0 < n) (h1 : i + n ≤ l.length) : Calls Tryz.prog 106 #[.pointer (some ⟨p, 0, none⟩), .int .i64 i, .int .i64 n] w fun e w' => e = .returned (.int .i64 0) ∧ IsArena w' p g (l.take i ++ List.replicate n 0 ++ l.drop (i + n)) ∧ Upd [g] w w' := by
  have c0 := h.1.one
  have H := Lib.hid h
  clear h
  have hlt : (i : Int) < (l.length : Int) := by omega
  have hni : (0 : Int) ≤ i := by omega
  have hle : ((i : Int) + n) ≤ (l.length : Int) := by omega
  go_enter Tryz.func106, Tryz.ntmps106
  go_wp2_with ((with_reducible show wpList _ _ _ (⟨none, .call _, _, _, _, _⟩ :: _) _ _); refine wpList_clear_row rfl _ _ rfl 3 (.int .i64 0) 8 Tryz.underlying23 int_info rfl rfl g i (i + n - i) _ _ rfl (by omega) H.out.2 (by rw [ints_size]; omega) ?_)
  go_ret
  refine ⟨rfl, ⟨?_, ?_⟩, (Upd.refl _ _).setRow (by simp) _⟩
  · have e : (l.take i ++ List.replicate n 0 ++ l.drop (i + n)).length = l.length := by simp; omega
    rw [e]
    exact H.out.1.setRow_far H.out.ne _
  · have e : ints (l.take i ++ List.replicate n 0 ++ l.drop (i + n)) = ((ints l).toList.take i ++ (List.replicate n (Value.int .i64 0) ++ (ints l).toList.drop (i + n))).toArray := by simp [ints, List.map_take, List.map_drop]
    rw [e]
    exact H.out.2.setRow _

/-- The words behind a fill. -/
def filledAt (l : List Int) (i n : Nat) : List Int := l.take i ++ List.replicate n 0 ++ l.drop (i + n)
theorem filledAt_length (l : List Int) (i n : Nat) (h : i + n ≤ l.length) : (filledAt l i n).length = l.length := by
  unfold filledAt; simp; omega
theorem filledAt_get (l : List Int) (i n j : Nat) (h : i + n ≤ l.length) : (filledAt l i n).getD j 0 = if i ≤ j ∧ j < i + n then 0 else l.getD j 0 := by
  unfold filledAt
  simp only [List.getD_eq_getElem?_getD]
  by_cases h1 : j < i
  · rw [if_neg (by omega), List.append_assoc, List.getElem?_append_left (by simp; omega), List.getElem?_take_of_lt h1]
  · by_cases h2 : j < i + n
    · rw [if_pos (by omega), List.getElem?_append_left (by simp; omega), List.getElem?_append_right (by simp; omega), List.getElem?_replicate]
      split <;> rfl
    · rw [if_neg (by omega), List.getElem?_append_right (by simp; omega), List.getElem?_drop]
      congr 2
      simp; omega
theorem fill_at (p g : Nat) (l : List Int) (i n : Int) (w : World) (h : IsArena w p g l) (hl : l.length ≤ 16384) (h0 : 0 ≤ i) (hn : 0 < n) (h1 : i + n ≤ l.length) : Calls Tryz.prog 106 #[.pointer (some ⟨p, 0, none⟩), .int .i64 i, .int .i64 n] w fun e w' => e = .returned (.int .i64 0) ∧ IsArena w' p g (filledAt l i.toNat n.toNat) ∧ Upd [g] w w' := by
  obtain ⟨i, rfl⟩ := Int.eq_ofNat_of_zero_le h0
  obtain ⟨n, rfl⟩ := Int.eq_ofNat_of_zero_le (show 0 ≤ n by omega)
  exact fill_yes p g l i n w h hl (by omega) (by omega)
end Go.Proofs.YtpkbdmieelgdlaaGreat
namespace Go.Proofs.YtpkbdmieelgdlaaGreat
open Go Go.RowKit

theorem err0 (w : World) : Calls Tryz.prog 9 #[.int .i64 0] w fun e w' => e = .returned (.int .i64 0) ∧ w = w' := err_calls 0 w (by omega)
theorem err1 (w : World) : Calls Tryz.prog 9 #[.int .i64 1] w fun e w' => e = .returned (.int .i64 1) ∧ w = w' := err_calls 1 w (by omega)
theorem err2 (w : World) : Calls Tryz.prog 9 #[.int .i64 2] w fun e w' => e = .returned (.int .i64 2) ∧ w = w' := err_calls 2 w (by omega)
theorem err3 (w : World) : Calls Tryz.prog 9 #[.int .i64 3] w fun e w' => e = .returned (.int .i64 3) ∧ w = w' := err_calls 3 w (by omega)

end Go.Proofs.YtpkbdmieelgdlaaGreat
namespace Go.Proofs.YtpkbdmieelgdlaaGreat
open Go Go.RowKit Go.ChangeShapes Go.WideShapes Go.Deep

section
variable {H : Type} {enc : TypeId × Value → H} {P : Program} {w : World} {base : Nat} {spare : Nat → Bool} {held : Bool}
/-- Each cell of each struct, with its own reading. -/
theorem open_fields {t e : TypeId} {fs : Array Field} {fuel : Nat} {cs : List Value} {x : DataW H × List MemPlace} (ht : P.underlying t = some (.slice e)) (he : P.underlying e = some (.struct fs))
    (hone : oneCellFields P fs = true) (hC : P.cellsOf e = fs.size) (h : DataW.trod enc P w base spare held fuel t cs = some x) :
    cs = [.slice none 0 0] ∨
    ∃ (a : Addr) (len cap m : Nat), cs = [.slice (some a) len cap] ∧ len ≤ cap ∧ cap ≤ maxLen ∧ m = (if spare a.block then cap else len) ∧
      ∀ i, i < m → ∃ n : Nat, ∀ (j : Nat) (f : Field), fs[j]? = some f → ∃ (v : Value) (y : DataW H × List MemPlace), w.cell? (a.add (i * fs.size + j)) = some v ∧ DataW.trod enc P w base spare held n f.type [v] = some y := by
  rcases open_slice ht h with h0 | ⟨a, len, cap, m, n, D, Pl, hcs, _, hl, hm, hmm, _, hi⟩
  · exact .inl h0.1
  · refine .inr ⟨a, len, cap, m, hcs, hl, hm, hmm, fun i him => ?_⟩
    obtain ⟨cs', hc, ht'⟩ := hi i him
    rw [hC] at hc
    obtain ⟨ys, n', _, _, _, hyl, hf⟩ := DataW.trod_struct he ht'
    obtain ⟨_, hcl, hat⟩ := World.cells?_some hc
    refine ⟨n', fun j f hj => ?_⟩
    obtain ⟨ho, hk⟩ := hone_of hone j f hj
    have hjl : j < fs.size := (Array.getElem?_eq_some_iff.1 hj).1
    have hcell := hat j hjl
    have hv : cs'[j]? = some (cs'[j]'(by omega)) := List.getElem?_eq_getElem (by omega)
    have h1 := hf j f hj
    rw [ho, hk] at h1
    have hone' : (cs'.drop j).take 1 = [cs'[j]'(by omega)] := by
      rw [List.drop_eq_getElem_cons (by omega)]
      rfl
    rw [hone'] at h1
    have hys : ys[j]? = some (ys[j]'(by omega)) := List.getElem?_eq_getElem (by omega)
    refine ⟨_, _, ?_, h1.trans hys⟩
    rw [← Go.Deep.add_add, hcell, hv]
end

def knownFields (P : Program) (t : TypeId) (ts : List TypeId) : Bool := match P.underlying t with | some (.struct fs) => decide ((fs.map (·.type)).toList = ts) && oneCellFields P fs | _ => false
theorem known_fields {P : Program} {t : TypeId} {ts : List TypeId} (h : knownFields P t ts = true) :
    ∃ fs, P.underlying t = some (.struct fs) ∧ fs.size = ts.length ∧ oneCellFields P fs = true ∧ ∀ j, (hj : j < ts.length) → ∃ f, fs[j]? = some f ∧ f.type = ts[j] := by
  unfold knownFields at h
  split at h
  · rename_i fs hfs
    simp only [Bool.and_eq_true, decide_eq_true_eq] at h
    have hlen : fs.size = ts.length := by rw [← h.1]; simp
    refine ⟨fs, hfs, hlen, h.2, fun j hj => ?_⟩
    have hs : j < fs.size := by omega
    refine ⟨fs[j], Array.getElem?_eq_getElem hs, ?_⟩
    have := h.1
    subst this
    simp
  · cases h
theorem spot_of_cell {w : World} {a : Addr} {v : Value} (h : w.cell? a = some v) : a.spot = none := by
  unfold World.cell? at h
  split at h
  · split at h
    · cases h
    · rename_i hs
      cases hsp : a.spot with
      | none => rfl
      | some s => rw [hsp] at hs; simp at hs
  · cases h
theorem add_plain (b off k : Nat) : (⟨b, off, none⟩ : Addr).add k = ⟨b, off + k, none⟩ := by
  unfold Addr.add
  by_cases h : k = 0 <;> simp [h]
end Go.Proofs.YtpkbdmieelgdlaaGreat
namespace Go.Proofs.YtpkbdmieelgdlaaGreat
open Go Go.RowKit

/-- Bits at block p, their places at block g. -/
def IsBits (w : World) (p g : Nat) (l : List Bool) : Prop := Blk w p 171 #[.slice (some ⟨g, 0, none⟩) l.length l.length] ∧ Blk w g 4 (bools l)
section
variable {w w' : World} {p g : Nat} {l : List Bool} {E : List Nat}
theorem IsBits.ne (h : IsBits w p g l) : p ≠ g := h.1.ne_ h.2 (by decide)
theorem IsBits.upd (h : IsBits w p g l) (hu : Upd E w w') (hp : p ∉ E) (hg : g ∉ E) : IsBits w' p g l := ⟨h.1.upd hu hp, h.2.upd hu hg⟩
theorem IsBits.below {B : Nat} (h : IsBits w p g l) (hu : Below B w w') (hp : p < B) (hg : g < B) : IsBits w' p g l := ⟨h.1.below hu hp, h.2.below hu hg⟩
theorem IsBits.drew (h : IsBits w p g l) : IsBits w.drew p g l := h
theorem IsBits.alloc (h : IsBits w p g l) (o : Obj) : IsBits (w.alloc o) p g l := ⟨h.1.alloc o, h.2.alloc o⟩
end

def NewBits (n : Nat) (w : World) (e : Ending) (w' : World) : Prop := ∃ p g, e = .returned (.tuple #[.pointer (some ⟨p, 0, none⟩), .int .i64 0]) ∧ IsBits w' p g (List.replicate n false) ∧
  w.heap.size ≤ p ∧ w.heap.size ≤ g ∧ Below w.heap.size w w'

theorem bool_info : (Tryz.prog.info? 4).map (fun i => (i.zero, i.size, i.bytes)) = some (some (.bool false), 1, 1) := by kernel_rfl

theorem bits_new_no (n : Int) (w : World) (h : n < 0 ∨ 16384 < n) : Calls Tryz.prog 114 #[.int .i64 n] w fun e w' => e = .returned (.tuple #[.pointer none, .int .i64 1]) ∧ w = w' := by
  rcases h with h | h
  · go_enter Tryz.func114, Tryz.ntmps114
    go_wp2
    go_ret2
    exact ⟨rfl, rfl⟩
  · have h' : ¬ n < 0 := by omega
    go_enter Tryz.func114, Tryz.ntmps114
    go_wp2
    go_ret2
    exact ⟨rfl, rfl⟩

theorem bits_new_yes (n : Nat) (w : World) (h2 : n ≤ 16384) : Calls Tryz.prog 114 #[.int .i64 n] w (NewBits n w) := by
  have hmk := fun W => run_make_all (P := Tryz.prog) 141 4 (.bool false) 1 Tryz.underlying141 bool_info rfl (n : Int) n rfl (by omega) (by omega) W
  go_enter Tryz.func114, Tryz.ntmps114
  go_wp2
  go_ret2
  refine ⟨w.heap.size + 1, w.heap.size, rfl, ⟨?_, ?_⟩, by omega, by omega, (((Below.refl _ _).alloc (Nat.le_refl _) _).alloc (by simp) _)⟩
  · have := Blk.new (w.alloc (.cells (Array.replicate n (.bool false)) 4)) 171 #[.slice (some ⟨w.heap.size, 0, none⟩) n n]
    simpa using this
  · rw [bools_zero]
    exact (Blk.new w _ _).alloc _

theorem bits_size_nil (w : World) : Calls Tryz.prog 109 #[.pointer none] w fun e w' => e = .returned (.int .i64 0) ∧ w = w' := by
  go_enter Tryz.func109, Tryz.ntmps109
  go_wp2
  go_ret
  exact ⟨rfl, rfl⟩
theorem bits_size (p g : Nat) (l : List Bool) (w : World) (h : IsBits w p g l) : Calls Tryz.prog 109 #[.pointer (some ⟨p, 0, none⟩)] w fun e w' => e = .returned (.int .i64 l.length) ∧ w = w' := by
  have h0 := h.1.one
  clear h
  go_enter Tryz.func109, Tryz.ntmps109
  go_wp2
  go_ret
  exact ⟨rfl, rfl⟩

/-- Is there a place? Is it so? -/
def placeB (l : List Bool) (i : Int) : Bool := decide (0 ≤ i ∧ i < l.length)
def hasB (l : List Bool) (i : Int) : Bool := decide (0 ≤ i) && l.getD i.toNat false
theorem placeB_no {l : List Bool} {i : Int} (h : i < 0 ∨ l.length ≤ i) : placeB l i = false := by unfold placeB; rw [decide_eq_false_iff_not]; omega
theorem placeB_yes {l : List Bool} {i : Int} (h0 : 0 ≤ i) (h1 : i < l.length) : placeB l i = true := by unfold placeB; rw [decide_eq_true_eq]; omega
theorem hasB_no {l : List Bool} {i : Int} (h : i < 0 ∨ l.length ≤ i) : hasB l i = false := by
  unfold hasB
  by_cases hi : i < 0
  · rw [decide_eq_false (by omega)]; rfl
  · rw [List.getD_eq_getElem?_getD, List.getElem?_eq_none (by omega)]; simp
theorem hasB_yes {l : List Bool} {i : Int} (h0 : 0 ≤ i) : hasB l i = l.getD i.toNat false := by
  unfold hasB
  rw [decide_eq_true h0]; rfl
theorem hasB_nat (l : List Bool) (i : Nat) : hasB l i = l.getD i false := by rw [hasB_yes (by omega)]; simp

theorem place_nil (i : Int) (w : World) : Calls Tryz.prog 136 #[.pointer none, .int .i64 i] w fun e w' => e = .returned (.bool false) ∧ w = w' := by
  by_cases hi : i < 0
  · have h1 : ¬ (0 : Int) ≤ i := by omega
    go_enter Tryz.func136, Tryz.ntmps136
    go_wp2_with fail
    go_ret
    exact ⟨rfl, rfl⟩
  · have h1 : (0 : Int) ≤ i := by omega
    go_enter Tryz.func136, Tryz.ntmps136
    go_wp2_with fail
    refine (bits_size_nil _).mono ?_
    rintro e w' ⟨rfl, rfl⟩
    go_wp2_with fail
    go_ret
    exact ⟨by simpa using hi, rfl⟩

theorem place_any (p g : Nat) (l : List Bool) (i : Int) (w : World) (h : IsBits w p g l) : Calls Tryz.prog 136 #[.pointer (some ⟨p, 0, none⟩), .int .i64 i] w fun e w' => e = .returned (.bool (placeB l i)) ∧ w = w' := by
  have H := Lib.hid h
  clear h
  by_cases hi : i < 0
  · have h1 : ¬ (0 : Int) ≤ i := by omega
    go_enter Tryz.func136, Tryz.ntmps136
    go_wp2_with fail
    go_ret
    exact ⟨by rw [placeB_no (.inl hi)]; rfl, rfl⟩
  · have h1 : (0 : Int) ≤ i := by omega
    by_cases h2 : i < (l.length : Int)
    all_goals
      go_enter Tryz.func136, Tryz.ntmps136
      go_wp2_with fail
      refine (bits_size p g l _ H.out).mono ?_
      rintro e w' ⟨rfl, rfl⟩
      go_wp2_with fail
      go_ret
    · exact ⟨by rw [placeB_yes h1 h2]; rfl, rfl⟩
    · exact ⟨by rw [placeB_no (.inr (by omega))]; simpa using h2, rfl⟩

theorem bits_has_nil (i : Int) (w : World) : Calls Tryz.prog 113 #[.pointer none, .int .i64 i] w fun e w' => e = .returned (.bool false) ∧ w = w' := by
  go_enter Tryz.func113, Tryz.ntmps113
  go_wp2_with fail
  refine (place_nil i _).mono ?_
  rintro e w' ⟨rfl, rfl⟩
  go_wp2_with fail
  go_ret
  exact ⟨rfl, rfl⟩

theorem bits_has (p g : Nat) (l : List Bool) (i : Int) (w : World) (h : IsBits w p g l) : Calls Tryz.prog 113 #[.pointer (some ⟨p, 0, none⟩), .int .i64 i] w fun e w' => e = .returned (.bool (hasB l i)) ∧ w = w' := by
  by_cases hi : i < 0 ∨ l.length ≤ i
  · have HI := Lib.hid hi
    have H := Lib.hid h
    clear hi h
    go_enter Tryz.func113, Tryz.ntmps113
    go_wp2_with fail
    refine (place_any p g l i _ H.out).mono ?_
    rw [placeB_no HI.out]
    rintro e w' ⟨rfl, rfl⟩
    go_wp2_with fail
    go_ret
    exact ⟨by rw [hasB_no HI.out]; rfl, rfl⟩
  · have h0 : 0 ≤ i := by omega
    have h1 : i < l.length := by omega
    clear hi
    have c0 := h.1.one
    have c1 := h.2.bool i.toNat (by omega)
    obtain ⟨v, hv⟩ : ∃ v, l.getD i.toNat false = v := ⟨_, rfl⟩
    rw [hv] at c1
    have HV := Lib.hid hv
    have H := Lib.hid h
    clear h hv
    go_enter Tryz.func113, Tryz.ntmps113
    go_wp2_with fail
    refine (place_any p g l i _ H.out).mono ?_
    rw [placeB_yes h0 h1]
    rintro e w' ⟨rfl, rfl⟩
    go_wp2_with fail
    go_ret
    exact ⟨by rw [hasB_yes h0, HV.out]; rfl, rfl⟩

/-- The test that Set hands over: is there no such place? -/
theorem set1_any (p g q : Nat) (l : List Bool) (i : Int) (w : World) (h : IsBits w p g l) (hq : w.cell? ⟨q, 0, none⟩ = some (.pointer (some ⟨p, 0, none⟩))) :
    Calls Tryz.prog 138 #[.int .i64 i, .pointer (some ⟨q, 0, none⟩)] w fun e w' => e = .returned (.bool (!placeB l i)) ∧ w = w' := by
  have H := Lib.hid h
  clear h
  obtain ⟨v, hv⟩ : ∃ v, placeB l i = v := ⟨_, rfl⟩
  have HV := Lib.hid hv
  clear hv
  go_enter Tryz.func138, Tryz.ntmps138
  go_wp2_with fail
  refine (place_any p g l i _ H.out).mono ?_
  rw [HV.out]
  rintro e w' ⟨rfl, rfl⟩
  go_wp2_with fail
  go_ret
  exact ⟨by rw [HV.out]; rfl, rfl⟩

/-- A slice of numbers that can be read. -/
def IsInts (w : World) (A : Option Addr) (xs : List Int) : Prop := xs = [] ∨ ∃ b off, A = some ⟨b, off, none⟩ ∧ b < w.heap.size ∧ ∀ i, i < xs.length → w.cell? ⟨b, off + i, none⟩ = some (.int .i64 (xs.getD i 0))
theorem IsInts.upd {w w' : World} {A : Option Addr} {xs : List Int} {E : List Nat} (h : IsInts w A xs) (hu : Upd E w w') (hE : xs = [] ∨ ∀ a, A = some a → a.block ∉ E) : IsInts w' A xs := by
  rcases h with h | ⟨b, off, rfl, hb, hc⟩
  · exact .inl h
  · rcases hE with hE | hE
    · exact .inl hE
    · refine .inr ⟨b, off, rfl, Nat.lt_of_lt_of_le hb hu.size, fun i hi => ?_⟩
      rw [hu.cell (p := ⟨b, off + i, none⟩) hb (show b ∉ E from hE _ rfl)]
      exact hc i hi

/-- The first place of a list that there is not. -/
theorem index_func (p g q : Nat) (l : List Bool) (A : Option Addr) (cap : Nat) (xs : List Int) (w : World) (h : IsBits w p g l) (hq : w.cell? ⟨q, 0, none⟩ = some (.pointer (some ⟨p, 0, none⟩)))
    (hA : IsInts w A xs) (hl : xs.length ≤ 4294967296) :
    Calls Tryz.prog 149 #[.slice A xs.length cap, .func (.func 138) #[] #[.pointer (some ⟨q, 0, none⟩)]] w
      fun e w' => (∃ r : Int, e = .returned (.int .i64 r) ∧ decide (0 ≤ r) = xs.any fun x => !placeB l x) ∧ w = w' := by
  have H := Lib.hid h
  have Hq := Lib.hid hq
  have HA := Lib.hid hA
  clear h hq hA
  obtain ⟨n, hn⟩ : ∃ n, xs.length = n := ⟨_, rfl⟩
  have HN := Lib.hid hn
  rw [hn] at hl ⊢
  clear hn
  go_enter Tryz.func149, Tryz.ntmps149
  go_wp2_with fail
  go_loopw [8] (fun i wr => ∃ k : Nat, k ≤ n ∧ i = .int .i64 k ∧ w = wr ∧ Hid (∀ j, j < k → placeB l (xs.getD j 0) = true)) (fun i _ => n - (intOf i).toNat)
  case atStart => exact ⟨0, Nat.zero_le _, rfl, rfl, Lib.hid (fun j hj => by omega)⟩
  case round =>
    obtain ⟨k, hk, rfl, rfl, HP⟩ := hrel
    by_cases hlt : k < n
    · obtain ⟨b, off, rfl, hb, hc⟩ : ∃ b off, A = some ⟨b, off, none⟩ ∧ b < w.heap.size ∧ ∀ i, i < xs.length → w.cell? ⟨b, off + i, none⟩ = some (.int .i64 (xs.getD i 0)) := by
        rcases HA.out with h0 | h0
        · exfalso; have := HN.out; rw [h0] at this; simp at this; omega
        · exact h0
      have hc := hc k (by rw [HN.out]; exact hlt)
      obtain ⟨v, hv⟩ : ∃ v, xs.getD k 0 = v := ⟨_, rfl⟩
      rw [hv] at hc
      have HV := Lib.hid hv
      clear hv hb
      obtain ⟨t, ht⟩ : ∃ t, placeB l v = t := ⟨_, rfl⟩
      have HT := Lib.hid ht
      clear ht
      go_wp2_with fail
      refine (set1_any p g q l v _ H.out Hq.out).mono ?_
      rw [HT.out]
      rintro e w' ⟨rfl, rfl⟩
      cases t with
      | true =>
        go_wp2_with fail
        go_roundw
        case rel => exact ⟨k + 1, by omega, by go_num, trivial, Lib.hid (fun j hj => by
          rcases Nat.lt_or_ge j k with h1 | h1
          · exact HP.out j h1
          · obtain rfl : j = k := by omega
            rw [HV.out]; exact HT.out)⟩
        case measure => simp [intOf]; omega
      | false =>
        go_wp2_with fail
        go_ret
        refine ⟨⟨k, rfl, ?_⟩, rfl⟩
        rw [decide_eq_true (by omega)]
        symm
        rw [List.any_eq_true]
        have hkx : k < xs.length := by rw [HN.out]; exact hlt
        refine ⟨xs[k], List.getElem_mem hkx, ?_⟩
        have hv := HV.out
        rw [List.getD_eq_getElem?_getD, List.getElem?_eq_getElem hkx] at hv
        simp only [Option.getD_some] at hv
        rw [hv, HT.out]
        rfl
    · obtain rfl : k = n := by omega
      go_wp2_with fail
      go_ret
      refine ⟨⟨-1, rfl, ?_⟩, rfl⟩
      rw [decide_eq_false (by omega)]
      symm
      rw [List.any_eq_false]
      intro x hx
      obtain ⟨j, hj, rfl⟩ := List.getElem_of_mem hx
      have := HP.out j (by rw [← HN.out]; exact hj)
      rw [List.getD_eq_getElem?_getD, List.getElem?_eq_getElem hj] at this
      simp only [Option.getD_some] at this
      rw [this]
      simp

theorem contains_func (p g q : Nat) (l : List Bool) (A : Option Addr) (cap : Nat) (xs : List Int) (w : World) (h : IsBits w p g l) (hq : w.cell? ⟨q, 0, none⟩ = some (.pointer (some ⟨p, 0, none⟩)))
    (hA : IsInts w A xs) (hl : xs.length ≤ 4294967296) :
    Calls Tryz.prog 137 #[.slice A xs.length cap, .func (.func 138) #[] #[.pointer (some ⟨q, 0, none⟩)]] w
      fun e w' => e = .returned (.bool (xs.any fun x => !placeB l x)) ∧ w = w' := by
  have H := Lib.hid h
  have Hq := Lib.hid hq
  have HA := Lib.hid hA
  have HL := Lib.hid hl
  clear h hq hA hl
  obtain ⟨v, hv⟩ : ∃ v, (xs.any fun x => !placeB l x) = v := ⟨_, rfl⟩
  have HV := Lib.hid hv
  obtain ⟨n, hn⟩ : ∃ n, xs.length = n := ⟨_, rfl⟩
  have HN := Lib.hid hn
  rw [hv, hn]
  clear hn hv
  go_enter Tryz.func137, Tryz.ntmps137
  go_wp2_with fail
  have := index_func p g q l A cap xs _ H.out Hq.out HA.out HL.out
  rw [HN.out] at this
  refine this.mono ?_
  rw [HV.out]
  rintro e w' ⟨⟨r, rfl, hr⟩, rfl⟩
  go_wp2_with fail
  go_ret
  exact ⟨by rw [← hr]; simp, rfl⟩

/-- Places of a list be so, or not. -/
def setAll (l : List Bool) (is : Bool) (xs : List Int) : List Bool := xs.foldl (fun l i => l.set i.toNat is) l
theorem setAll_length (l : List Bool) (is : Bool) (xs : List Int) : (setAll l is xs).length = l.length := by
  unfold setAll
  induction xs generalizing l with
  | nil => rfl
  | cons x xs ih => rw [List.foldl_cons, ih, List.length_set]
theorem setAll_take (l : List Bool) (is : Bool) (xs : List Int) (k : Nat) (hk : k < xs.length) : setAll l is (xs.take (k + 1)) = (setAll l is (xs.take k)).set (xs.getD k 0).toNat is := by
  unfold setAll
  rw [List.take_add_one, List.getElem?_eq_getElem hk, List.getD_eq_getElem?_getD, List.getElem?_eq_getElem hk]
  simp only [Option.toList_some, Option.getD_some, List.foldl_append, List.foldl_cons, List.foldl_nil]

theorem set_nil (is : Bool) (A : Option Addr) (n cap : Nat) (w : World) : Calls Tryz.prog 115 #[.pointer none, .bool is, .slice A n cap] w fun e w' => e = .returned (.int .i64 2) ∧ Below w.heap.size w w' := by
  have hmf : ∀ (fn : Fn) (first cap : Array Value) (w : World), (Instr.makeFunc fn first cap).run Tryz.prog w = .ok (.func fn first cap) w := fun _ _ _ _ => rfl
  go_enter Tryz.func115, Tryz.ntmps115
  go_wp2_with fail
  go_ret
  exact ⟨rfl, (Below.refl _ _).alloc (Nat.le_refl _) _⟩

theorem set_no (p g : Nat) (l : List Bool) (is : Bool) (A : Option Addr) (cap : Nat) (xs : List Int) (w : World) (h : IsBits w p g l) (hA : IsInts w A xs) (hl : xs.length ≤ 4294967296) (hno : ∃ x ∈ xs, placeB l x = false) :
    Calls Tryz.prog 115 #[.pointer (some ⟨p, 0, none⟩), .bool is, .slice A xs.length cap] w fun e w' => e = .returned (.int .i64 2) ∧ Below w.heap.size w w' := by
  have hmf : ∀ (fn : Fn) (first cap : Array Value) (w : World), (Instr.makeFunc fn first cap).run Tryz.prog w = .ok (.func fn first cap) w := fun _ _ _ _ => rfl
  obtain ⟨v, hv⟩ : ∃ v : Value, Value.pointer (some ⟨p, 0, none⟩) = v := ⟨_, rfl⟩
  have hU : Upd [] w (w.alloc (.cells #[.pointer (some ⟨p, 0, none⟩)] 147)) := (Upd.refl _ _).alloc _
  have H := Lib.hid (h.upd hU (by simp) (by simp))
  have hA' := hA.upd hU (.inr (by simp))
  have hb := (Blk.new w 147 #[.pointer (some ⟨p, 0, none⟩)]).one
  have HA := Lib.hid hA'
  have HB := Lib.hid hb
  have HL := Lib.hid hl
  have hany : (xs.any fun x => !placeB l x) = true := by
    rw [List.any_eq_true]
    obtain ⟨x, hx, hp⟩ := hno
    exact ⟨x, hx, by rw [hp]; rfl⟩
  have HANY := Lib.hid hany
  clear h hA hl hU hA' hb hany hno hv v
  obtain ⟨n, hn⟩ : ∃ n, xs.length = n := ⟨_, rfl⟩
  have HN := Lib.hid hn
  rw [hn]
  clear hn
  go_enter Tryz.func115, Tryz.ntmps115
  go_wp2_with fail
  have hc := contains_func p g _ l A cap xs _ H.out HB.out HA.out HL.out
  rw [HN.out, HANY.out] at hc
  refine hc.mono ?_
  rintro e w' ⟨rfl, rfl⟩
  clear hc
  go_wp2_with fail
  go_ret
  exact ⟨rfl, (Below.refl _ _).alloc (Nat.le_refl _) _⟩

theorem set_yes (p g : Nat) (l : List Bool) (is : Bool) (A : Option Addr) (cap : Nat) (xs : List Int) (w : World) (h : IsBits w p g l) (hA : IsInts w A xs) (hl : xs.length ≤ 4294967296) (hyes : ∀ x ∈ xs, placeB l x = true) :
    Calls Tryz.prog 115 #[.pointer (some ⟨p, 0, none⟩), .bool is, .slice A xs.length cap] w fun e w' => e = .returned (.int .i64 0) ∧ IsBits w' p g (setAll l is xs) ∧ Upd [g] w w' := by
  have hmf : ∀ (fn : Fn) (first cap : Array Value) (w : World), (Instr.makeFunc fn first cap).run Tryz.prog w = .ok (.func fn first cap) w := fun _ _ _ _ => rfl
  have hU : Upd [] w (w.alloc (.cells #[.pointer (some ⟨p, 0, none⟩)] 147)) := (Upd.refl _ _).alloc _
  have H := Lib.hid (h.upd hU (by simp) (by simp))
  have hA' := hA.upd hU (.inr (by simp))
  have hb := (Blk.new w 147 #[.pointer (some ⟨p, 0, none⟩)])
  have HA := Lib.hid hA'
  have HB := Lib.hid hb
  have HL := Lib.hid hl
  have hgw := h.2.lt
  have HGQ : Hid (g ≠ w.heap.size ∧ p ≠ w.heap.size) := Lib.hid ⟨by omega, by have := h.1.lt; omega⟩
  have hany : (xs.any fun x => !placeB l x) = false := by
    rw [List.any_eq_false]
    intro x hx
    rw [hyes x hx]
    simp
  have HANY := Lib.hid hany
  have HY := Lib.hid hyes
  have HU := Lib.hid ((hU.mono (E' := [g]) (by simp)))
  clear h hA hU hA' hb hany hyes hgw
  obtain ⟨n, hn⟩ : ∃ n, xs.length = n := ⟨_, rfl⟩
  have HN := Lib.hid hn
  rw [hn] at hl ⊢
  clear hn
  go_enter Tryz.func115, Tryz.ntmps115
  go_wp2_with fail
  have hc := contains_func p g _ l A cap xs _ H.out HB.out.one HA.out HL.out
  rw [HN.out, HANY.out] at hc
  refine hc.mono ?_
  rintro e w' ⟨rfl, rfl⟩
  clear hc
  obtain ⟨q, hq⟩ : ∃ q, w.heap.size = q := ⟨_, rfl⟩
  rw [hq] at HB HGQ
  obtain ⟨w1, hw1⟩ : ∃ w1, w.alloc (.cells #[.pointer (some ⟨p, 0, none⟩)] 147) = w1 := ⟨_, rfl⟩
  rw [hw1] at HB H HA HU
  simp only [hq, hw1]
  clear hw1 hq
  go_wp2_with fail
  go_loopw [18] (fun i wr => ∃ k : Nat, k ≤ n ∧ i = .int .i64 k ∧ Hid (IsBits wr p g (setAll l is (xs.take k))) ∧ Hid (Upd [g] w1 wr)) (fun i _ => n - (intOf i).toNat)
  case atStart => exact ⟨0, Nat.zero_le _, rfl, H, Lib.hid (Upd.refl _ _)⟩
  case round =>
    obtain ⟨k, hk, rfl, HK, HUK⟩ := hrel
    by_cases hlt : k < n
    · have hkx : k < xs.length := by rw [HN.out]; exact hlt
      obtain ⟨b, off, rfl, hb, hc⟩ : ∃ b off, A = some ⟨b, off, none⟩ ∧ b < w1.heap.size ∧ ∀ i, i < xs.length → w1.cell? ⟨b, off + i, none⟩ = some (.int .i64 (xs.getD i 0)) := by
        rcases HA.out with h0 | h0
        · exfalso; have := HN.out; rw [h0] at this; simp at this; omega
        · exact h0
      have hc := hc k hkx
      have hbg : b ≠ g := by
        rintro rfl
        have h1 := H.out.2.cell (off + k)
        rw [hc, bools_at] at h1
        rcases h2 : l[off + k]? with _ | y <;> rw [h2] at h1 <;> simp at h1
      have hcr := (HUK.out.cell (p := ⟨b, off + k, none⟩) hb (show b ∉ [g] by simpa using hbg)).trans hc
      have hp := HY.out _ (List.getElem_mem hkx)
      have hx : xs.getD k 0 = xs[k] := by rw [List.getD_eq_getElem?_getD, List.getElem?_eq_getElem hkx]; rfl
      rw [← hx] at hp
      obtain ⟨v, hv⟩ : ∃ v, xs.getD k 0 = v := ⟨_, rfl⟩
      rw [hv] at hcr hp
      have HV := Lib.hid hv
      unfold placeB at hp
      rw [decide_eq_true_eq] at hp
      obtain ⟨hp0, hp1⟩ := hp
      have hst := setAll_take l is xs k hkx
      rw [hv] at hst
      have HST := Lib.hid hst
      obtain ⟨L, hL⟩ : ∃ L, setAll l is (xs.take k) = L := ⟨_, rfl⟩
      have hLL : L.length = l.length := by rw [← hL, setAll_length]
      rw [hL] at HK HST
      have c0 := HK.out.1.one
      rw [hLL] at c0
      have c1 := HK.out.2.bool v.toNat (by omega)
      have c2 := HK.out.2.frozen v.toNat
      have c3 := (HB.out.upd HUK.out (show q ∉ [g] by simpa using (HGQ.out.1).symm)).one
      clear hv hb hc hst hL hx
      go_wp2_with fail
      go_roundw
      case rel =>
        refine ⟨k + 1, by omega, by go_num, Lib.hid ⟨?_, ?_⟩, Lib.hid (HUK.out.setCell (by simp) _)⟩
        · rw [HST.out, List.length_set]
          exact HK.out.1.far HK.out.ne _
        · rw [HST.out, ← bools_set]
          exact HK.out.2.set_ _ _
      case measure => simp [intOf]; omega
    · obtain rfl : k = n := by omega
      go_wp2_with fail
      go_ret
      refine ⟨rfl, ?_, HU.out.trans HUK.out⟩
      have := HK.out
      rw [← HN.out, List.take_length] at this
      exact this
end Go.Proofs.YtpkbdmieelgdlaaGreat
namespace Go.Proofs.YtpkbdmieelgdlaaGreat

def IsNext (l : List Bool) (is : Bool) (s : Nat) (r : Int) : Prop := (r = -1 ∧ ∀ j, s ≤ j → j < l.length → l.getD j false ≠ is) ∨
  ∃ k : Nat, r = k ∧ s ≤ k ∧ k < l.length ∧ l.getD k false = is ∧ ∀ j, s ≤ j → j < k → l.getD j false ≠ is
def nextGo (l : List Bool) (is : Bool) : Nat → Nat → Int
  | 0, _ => -1
  | n + 1, i => if l.getD i false = is then i else nextGo l is n (i + 1)
def nextZ (l : List Bool) (is : Bool) (i : Int) : Int := nextGo l is (l.length - i.toNat) i.toNat
theorem isNext_go (l : List Bool) (is : Bool) (n s : Nat) (h : n = l.length - s) : IsNext l is s (nextGo l is n s) := by
  induction n generalizing s with
  | zero => exact .inl ⟨rfl, fun j h1 h2 => by omega⟩
  | succ n ih =>
    unfold nextGo
    by_cases hs : l.getD s false = is
    · rw [if_pos hs]
      exact .inr ⟨s, rfl, Nat.le_refl _, by omega, hs, fun j h1 h2 => by omega⟩
    · rw [if_neg hs]
      rcases ih (s + 1) (by omega) with ⟨h1, h2⟩ | ⟨k, h1, h2, h3, h4, h5⟩
      · refine .inl ⟨h1, fun j hj hl => ?_⟩
        rcases Nat.eq_or_lt_of_le hj with rfl | hlt
        · exact hs
        · exact h2 j hlt hl
      · refine .inr ⟨k, h1, by omega, h3, h4, fun j hj hl => ?_⟩
        rcases Nat.eq_or_lt_of_le hj with rfl | hlt
        · exact hs
        · exact h5 j hlt hl
theorem isNext_nextZ (l : List Bool) (is : Bool) (i : Int) : IsNext l is i.toNat (nextZ l is i) := isNext_go l is _ _ rfl
theorem isNext_unique {l : List Bool} {is : Bool} {s : Nat} {r r' : Int} (h : IsNext l is s r) (h' : IsNext l is s r') : r = r' := by
  rcases h with ⟨h1, h2⟩ | ⟨k, h1, h2, h3, h4, h5⟩ <;> rcases h' with ⟨h1', h2'⟩ | ⟨k', h1', h2', h3', h4', h5'⟩
  · rw [h1, h1']
  · exact absurd h4' (h2 k' h2' h3')
  · exact absurd h4 (h2' k h2 h3)
  · rcases Nat.lt_trichotomy k k' with hk | rfl | hk
    · exact absurd h4 (h5' k h2 hk)
    · rw [h1, h1']
    · exact absurd h4' (h5 k' h2' hk)
theorem nextZ_eq {l : List Bool} {is : Bool} {i r : Int} (h : IsNext l is i.toNat r) : nextZ l is i = r := isNext_unique (isNext_nextZ l is i) h
theorem nextZ_range (l : List Bool) (is : Bool) (i : Int) : -1 ≤ nextZ l is i ∧ nextZ l is i < l.length := by
  rcases isNext_nextZ l is i with ⟨h1, _⟩ | ⟨k, h1, _, h3, _⟩ <;> omega

def IsRun (l : List Bool) (s K : Nat) (r : Int) : Prop := (r = -1 ∧ ∀ a, s ≤ a → a + K ≤ l.length → ∃ j, a ≤ j ∧ j < a + K ∧ l.getD j false = true) ∨
  ∃ a : Nat, r = a ∧ s ≤ a ∧ a + K ≤ l.length ∧ (∀ j, a ≤ j → j < a + K → l.getD j false = false) ∧ ∀ b, s ≤ b → b < a → ∃ j, b ≤ j ∧ j < b + K ∧ l.getD j false = true
def freeB (l : List Bool) (a : Nat) : Nat → Bool
  | 0 => true
  | n + 1 => !l.getD (a + n) false && freeB l a n
theorem freeB_true {l : List Bool} {a n : Nat} : freeB l a n = true ↔ ∀ j, a ≤ j → j < a + n → l.getD j false = false := by
  induction n with
  | zero => exact ⟨fun _ j h1 h2 => by omega, fun _ => rfl⟩
  | succ n ih =>
    unfold freeB
    rw [Bool.and_eq_true, ih, Bool.not_eq_true']
    constructor
    · rintro ⟨h1, h2⟩ j h3 h4
      rcases Nat.eq_or_lt_of_le (show j ≤ a + n by omega) with rfl | hlt
      · exact h1
      · exact h2 j h3 hlt
    · exact fun h => ⟨h _ (by omega) (by omega), fun j h1 h2 => h j h1 (by omega)⟩
theorem freeB_false {l : List Bool} {a n : Nat} (h : freeB l a n = false) : ∃ j, a ≤ j ∧ j < a + n ∧ l.getD j false = true := by
  induction n with
  | zero => cases h
  | succ n ih =>
    unfold freeB at h
    cases hv : l.getD (a + n) false with
    | true => exact ⟨a + n, by omega, by omega, hv⟩
    | false =>
      rw [hv] at h
      obtain ⟨j, h1, h2, h3⟩ := ih (by simpa using h)
      exact ⟨j, h1, by omega, h3⟩
def runGo (l : List Bool) (K : Nat) : Nat → Nat → Int
  | 0, _ => -1
  | n + 1, a => if freeB l a K = true then a else runGo l K n (a + 1)
def runZ (l : List Bool) (i k : Int) : Int := if k < 1 then -1 else runGo l k.toNat (l.length + 1 - k.toNat - i.toNat) i.toNat
theorem isRun_go (l : List Bool) (K n s : Nat) (h : n = l.length + 1 - K - s) : IsRun l s K (runGo l K n s) := by
  induction n generalizing s with
  | zero => exact .inl ⟨rfl, fun j h1 h2 => by omega⟩
  | succ n ih =>
    unfold runGo
    by_cases hs : freeB l s K = true
    · rw [if_pos hs]
      exact .inr ⟨s, rfl, Nat.le_refl _, by omega, freeB_true.1 hs, fun j h1 h2 => by omega⟩
    · rw [if_neg hs]
      have hb := freeB_false (by simpa using hs)
      rcases ih (s + 1) (by omega) with ⟨h1, h2⟩ | ⟨k, h1, h2, h3, h4, h5⟩
      · refine .inl ⟨h1, fun j hj hl => ?_⟩
        rcases Nat.eq_or_lt_of_le hj with rfl | hlt
        · exact hb
        · exact h2 j hlt hl
      · refine .inr ⟨k, h1, by omega, h3, h4, fun j hj hl => ?_⟩
        rcases Nat.eq_or_lt_of_le hj with rfl | hlt
        · exact hb
        · exact h5 j hlt hl
theorem isRun_runZ (l : List Bool) (i k : Int) (hk : 1 ≤ k) : IsRun l i.toNat k.toNat (runZ l i k) := by
  unfold runZ
  rw [if_neg (by omega)]
  exact isRun_go l _ _ _ rfl
theorem isRun_unique {l : List Bool} {s K : Nat} {r r' : Int} (h : IsRun l s K r) (h' : IsRun l s K r') : r = r' := by
  have aux : ∀ {a : Nat}, (∀ j, a ≤ j → j < a + K → l.getD j false = false) → (∃ j, a ≤ j ∧ j < a + K ∧ l.getD j false = true) → False := by
    rintro a h ⟨j, h1, h2, h3⟩
    rw [h j h1 h2] at h3
    cases h3
  rcases h with ⟨h1, h2⟩ | ⟨k, h1, h2, h3, h4, h5⟩ <;> rcases h' with ⟨h1', h2'⟩ | ⟨k', h1', h2', h3', h4', h5'⟩
  · rw [h1, h1']
  · exact (aux h4' (h2 k' h2' h3')).elim
  · exact (aux h4 (h2' k h2 h3)).elim
  · rcases Nat.lt_trichotomy k k' with hk | rfl | hk
    · exact (aux h4 (h5' k h2 hk)).elim
    · rw [h1, h1']
    · exact (aux h4' (h5 k' h2' hk)).elim
theorem runZ_eq {l : List Bool} {i k r : Int} (hk : 1 ≤ k) (h : IsRun l i.toNat k.toNat r) : runZ l i k = r := isRun_unique (isRun_runZ l i k hk) h
theorem runZ_no {l : List Bool} {i k : Int} (h : k < 1) : runZ l i k = -1 := if_pos h

def countB (l : List Bool) : Nat := l.count true
theorem countB_le (l : List Bool) : countB l ≤ l.length := List.count_le_length
theorem countB_take (l : List Bool) (k : Nat) (hk : k < l.length) : countB (l.take (k + 1)) = countB (l.take k) + (if l.getD k false = true then 1 else 0) := by
  unfold countB
  rw [List.take_add_one, List.getElem?_eq_getElem hk, List.getD_eq_getElem?_getD, List.getElem?_eq_getElem hk]
  simp only [Option.toList_some, Option.getD_some, List.count_append]
  cases l[k] <;> simp
theorem countB_flat (l : List Bool) (s k : Nat) (hsk : s ≤ k) (hk : k ≤ l.length) (h : ∀ j, s ≤ j → j < k → l.getD j false ≠ true) : countB (l.take k) = countB (l.take s) := by
  induction k with
  | zero => rw [show s = 0 by omega]
  | succ k ih =>
    rcases Nat.eq_or_lt_of_le hsk with rfl | hlt
    · rfl
    · rw [countB_take l k (by omega), if_neg (h k (by omega) (by omega)), ih (by omega) (by omega) (fun j h1 h2 => h j h1 (by omega))]
      rfl
theorem countB_all (l : List Bool) : countB (l.take l.length) = countB l := by rw [List.take_length]
theorem countB_take_le (l : List Bool) (k : Nat) : countB (l.take k) ≤ l.length := Nat.le_trans (countB_le _) (by simp; omega)
end Go.Proofs.YtpkbdmieelgdlaaGreat
namespace Go.Proofs.YtpkbdmieelgdlaaGreat
open Go Go.RowKit

theorem next_nil (i : Int) (is : Bool) (w : World) (B : -9223372036854775808 ≤ i ∧ i ≤ 9223372036854775807) : Calls Tryz.prog 90 #[.pointer none, .int .i64 i, .bool is] w fun e w' => e = .returned (.int .i64 (-1)) ∧ w = w' := by
  obtain ⟨B1, B2⟩ := B
  by_cases hi : i ≤ 0
  all_goals
    go_enter Tryz.func90, Tryz.ntmps90
    go_wp2_with fail
    refine wp_loop_rounds 1 ?_
    rw [rounds_succ]
    go_wp2_with fail
    refine (bits_size_nil _).mono ?_
    rintro e w' ⟨rfl, rfl⟩
    go_wp2_with fail
    go_ret
    exact ⟨rfl, rfl⟩

theorem next_any (p g : Nat) (l : List Bool) (i : Int) (is : Bool) (w : World) (h : IsBits w p g l) (B : -9223372036854775808 ≤ i ∧ i ≤ 9223372036854775807) (hl : l.length ≤ 16384) :
    Calls Tryz.prog 90 #[.pointer (some ⟨p, 0, none⟩), .int .i64 i, .bool is] w fun e w' => e = .returned (.int .i64 (nextZ l is i)) ∧ w = w' := by
  obtain ⟨B1, B2⟩ := B
  have HE : Hid (∀ r, IsNext l is i.toNat r → nextZ l is i = r) := Lib.hid (fun r h => nextZ_eq h)
  have H := Lib.hid h
  have c0 := h.1.one
  clear h
  obtain ⟨n, hn⟩ : ∃ n, l.length = n := ⟨_, rfl⟩
  have HN := Lib.hid hn
  rw [hn] at hl c0
  clear hn
  by_cases hi : i ≤ 0
  · go_enter Tryz.func90, Tryz.ntmps90
    go_wp2_with fail
    go_loopw [7] (fun i wr => ∃ k : Nat, 0 ≤ k ∧ k ≤ max 0 n ∧ i = .int .i64 k ∧ w = wr ∧ Hid (∀ j, 0 ≤ j → j < k → j < n → l.getD j false ≠ is)) (fun i _ => n - (intOf i).toNat)
    case atStart => exact ⟨0, Nat.le_refl _, by omega, rfl, rfl, Lib.hid (fun j h1 h2 => by omega)⟩
    case round =>
      obtain ⟨k, hk0, hk1, rfl, rfl, HK⟩ := hrel
      by_cases hlt : k < n
      · have c1 := H.out.2.bool k (by rw [HN.out]; exact hlt)
        obtain ⟨v, hv⟩ : ∃ v, l.getD k false = v := ⟨_, rfl⟩
        rw [hv] at c1
        have HV := Lib.hid hv
        clear hv
        by_cases hvi : v = is
        · subst hvi
          go_wp2_with fail
          have hsz := bits_size p g l w H.out
          rw [HN.out] at hsz
          refine hsz.mono ?_
          rintro e w' ⟨rfl, rfl⟩
          clear hsz
          go_wp2_with fail
          go_ret
          refine ⟨?_, rfl⟩
          rw [HE.out k (.inr ⟨k, rfl, by omega, by rw [HN.out]; exact hlt, HV.out, fun j h1 h2 => HK.out j (by omega) h2 (by omega)⟩)]
          rfl
        · have hvi' : (v == is) = false := by simpa using hvi
          go_wp2_with fail
          have hsz := bits_size p g l w H.out
          rw [HN.out] at hsz
          refine hsz.mono ?_
          rintro e w' ⟨rfl, rfl⟩
          clear hsz
          go_wp2_with fail
          go_roundw
          case rel =>
            refine ⟨k + 1, by omega, by omega, by go_num, trivial, Lib.hid (fun j h1 h2 h3 => ?_)⟩
            rcases Nat.eq_or_lt_of_le (show j ≤ k by omega) with rfl | hlt2
            · rw [HV.out]; exact hvi
            · exact HK.out j h1 hlt2 h3
          case measure => simp [intOf]; omega
      · go_wp2_with fail
        have hsz := bits_size p g l w H.out
        rw [HN.out] at hsz
        refine hsz.mono ?_
        rintro e w' ⟨rfl, rfl⟩
        clear hsz
        go_wp2_with fail
        go_ret
        refine ⟨?_, rfl⟩
        rw [HE.out (-1) (.inl ⟨rfl, fun j h1 h2 => HK.out j (by omega) (by rw [HN.out] at h2; omega) (by rw [HN.out] at h2; exact h2)⟩)]
        rfl
  · obtain ⟨s, rfl⟩ := Int.eq_ofNat_of_zero_le (show 0 ≤ i by omega)
    go_enter Tryz.func90, Tryz.ntmps90
    go_wp2_with fail
    go_loopw [7] (fun i wr => ∃ k : Nat, s ≤ k ∧ k ≤ max s n ∧ i = .int .i64 k ∧ w = wr ∧ Hid (∀ j, s ≤ j → j < k → j < n → l.getD j false ≠ is)) (fun i _ => n - (intOf i).toNat)
    case atStart => exact ⟨s, Nat.le_refl _, by omega, rfl, rfl, Lib.hid (fun j h1 h2 => by omega)⟩
    case round =>
      obtain ⟨k, hk0, hk1, rfl, rfl, HK⟩ := hrel
      by_cases hlt : k < n
      · have c1 := H.out.2.bool k (by rw [HN.out]; exact hlt)
        obtain ⟨v, hv⟩ : ∃ v, l.getD k false = v := ⟨_, rfl⟩
        rw [hv] at c1
        have HV := Lib.hid hv
        clear hv
        by_cases hvi : v = is
        · subst hvi
          go_wp2_with fail
          have hsz := bits_size p g l w H.out
          rw [HN.out] at hsz
          refine hsz.mono ?_
          rintro e w' ⟨rfl, rfl⟩
          clear hsz
          go_wp2_with fail
          go_ret
          refine ⟨?_, rfl⟩
          rw [HE.out k (.inr ⟨k, rfl, by omega, by rw [HN.out]; exact hlt, HV.out, fun j h1 h2 => HK.out j (by omega) h2 (by omega)⟩)]
          rfl
        · have hvi' : (v == is) = false := by simpa using hvi
          go_wp2_with fail
          have hsz := bits_size p g l w H.out
          rw [HN.out] at hsz
          refine hsz.mono ?_
          rintro e w' ⟨rfl, rfl⟩
          clear hsz
          go_wp2_with fail
          go_roundw
          case rel =>
            refine ⟨k + 1, by omega, by omega, by go_num, trivial, Lib.hid (fun j h1 h2 h3 => ?_)⟩
            rcases Nat.eq_or_lt_of_le (show j ≤ k by omega) with rfl | hlt2
            · rw [HV.out]; exact hvi
            · exact HK.out j h1 hlt2 h3
          case measure => simp [intOf]; omega
      · go_wp2_with fail
        have hsz := bits_size p g l w H.out
        rw [HN.out] at hsz
        refine hsz.mono ?_
        rintro e w' ⟨rfl, rfl⟩
        clear hsz
        go_wp2_with fail
        go_ret
        refine ⟨?_, rfl⟩
        rw [HE.out (-1) (.inl ⟨rfl, fun j h1 h2 => HK.out j (by omega) (by rw [HN.out] at h2; omega) (by rw [HN.out] at h2; exact h2)⟩)]
        rfl

theorem run_low (q : Option Addr) (i k : Int) (w : World) (hk : k < 1) : Calls Tryz.prog 139 #[.pointer q, .int .i64 i, .int .i64 k] w fun e w' => e = .returned (.int .i64 (-1)) ∧ w = w' := by
  go_enter Tryz.func139, Tryz.ntmps139
  go_wp2_with fail
  go_ret
  exact ⟨rfl, rfl⟩
theorem run_nil (i k : Int) (w : World) (B : -9223372036854775808 ≤ i ∧ i ≤ 9223372036854775807) : Calls Tryz.prog 139 #[.pointer none, .int .i64 i, .int .i64 k] w fun e w' => e = .returned (.int .i64 (-1)) ∧ w = w' := by
  obtain ⟨B1, B2⟩ := B
  by_cases hk : k < 1
  · exact run_low none i k w hk
  · by_cases hi : i ≤ 0
    all_goals
      go_enter Tryz.func139, Tryz.ntmps139
      go_wp2_with fail
      refine wp_loop_rounds 1 ?_
      rw [rounds_succ]
      go_wp2_with fail
      refine (bits_size_nil _).mono ?_
      rintro e w' ⟨rfl, rfl⟩
      go_wp2_with fail
      go_ret
      exact ⟨rfl, rfl⟩

theorem run_any (p g : Nat) (l : List Bool) (i k : Int) (w : World) (h : IsBits w p g l) (B : -9223372036854775808 ≤ i ∧ i ≤ 9223372036854775807) (BK : -9223372036854775808 ≤ k ∧ k ≤ 9223372036854775807) (hl : l.length ≤ 16384) :
    Calls Tryz.prog 139 #[.pointer (some ⟨p, 0, none⟩), .int .i64 i, .int .i64 k] w fun e w' => e = .returned (.int .i64 (runZ l i k)) ∧ w = w' := by
  by_cases hk : k < 1
  · rw [runZ_no hk]
    exact run_low _ i k w hk
  obtain ⟨B1, B2⟩ := B
  obtain ⟨K, rfl⟩ := Int.eq_ofNat_of_zero_le (show 0 ≤ k by omega)
  have hK : 1 ≤ K := by omega
  have HE : Hid (∀ r, IsRun l i.toNat K r → runZ l i K = r) := Lib.hid (fun r h => runZ_eq (by omega) h)
  have H := Lib.hid h
  have c0 := h.1.one
  clear h
  obtain ⟨n, hn⟩ : ∃ n, l.length = n := ⟨_, rfl⟩
  have HN := Lib.hid hn
  rw [hn] at hl c0
  clear hn
  by_cases hi : i ≤ 0
  · go_enter Tryz.func139, Tryz.ntmps139
    go_wp2_with fail
    go_loopw [7, 8] (fun ff i wr => ∃ k f : Nat, 0 ≤ k ∧ k ≤ max 0 n ∧ f < K ∧ 0 + f ≤ k ∧ f ≤ n ∧ ff = .int .i64 f ∧ i = .int .i64 k ∧ w = wr ∧
      Hid (∀ j, k < j + f + 1 → j < k → j < n → l.getD j false = false) ∧ Hid (∀ a, 0 ≤ a → a + f < k → a < n → ∃ j, a ≤ j ∧ j < a + K ∧ l.getD j false = true)) (fun _ i _ => n - (intOf i).toNat)
    case atStart => exact ⟨0, 0, Nat.le_refl _, by omega, by omega, by omega, by omega, rfl, rfl, rfl, Lib.hid (fun j h1 h2 => by omega), Lib.hid (fun a h1 h2 => by omega)⟩
    case round =>
      obtain ⟨k, f, hk0, hk1, hfK, hfs, hfn, rfl, rfl, rfl, HK, HB⟩ := hrel
      by_cases hlt : k < n
      · have c1 := H.out.2.bool k (by rw [HN.out]; exact hlt)
        obtain ⟨v, hv⟩ : ∃ v, l.getD k false = v := ⟨_, rfl⟩
        rw [hv] at c1
        have HV := Lib.hid hv
        clear hv
        cases v with
        | true =>
          go_wp2_with fail
          have hsz := bits_size p g l w H.out
          rw [HN.out] at hsz
          refine hsz.mono ?_
          rintro e w' ⟨rfl, rfl⟩
          clear hsz
          go_wp2_with fail
          go_roundw
          case rel =>
            refine ⟨k + 1, 0, by omega, by omega, by omega, by omega, by omega, by go_num, by go_num, trivial, Lib.hid (fun j h1 h2 h3 => by omega), Lib.hid (fun a h1 h2 h3 => ?_)⟩
            by_cases ha : a + f < k
            · exact HB.out a (by omega) ha h3
            · exact ⟨k, by omega, by omega, HV.out⟩
          case measure => simp [intOf]; omega
        | false =>
          by_cases hful : f + 1 = K
          · subst hful
            go_wp2_with fail
            have hsz := bits_size p g l w H.out
            rw [HN.out] at hsz
            refine hsz.mono ?_
            rintro e w' ⟨rfl, rfl⟩
            clear hsz
            go_wp2_with fail
            go_ret
            refine ⟨?_, rfl⟩
            rw [HE.out ((k + 1 : Nat) - (f + 1 : Nat)) (.inr ⟨k - f, by omega, by omega, by rw [HN.out]; omega, fun j h1 h2 => ?_, fun b h1 h2 => HB.out b (by omega) (by omega) (by omega)⟩)]
            · go_num
            · rcases Nat.eq_or_lt_of_le (show j ≤ k by omega) with rfl | hlt2
              · exact HV.out
              · exact HK.out j (by omega) hlt2 (by omega)
          · go_wp2_with fail
            have hsz := bits_size p g l w H.out
            rw [HN.out] at hsz
            refine hsz.mono ?_
            rintro e w' ⟨rfl, rfl⟩
            clear hsz
            go_wp2_with fail
            go_roundw
            case rel =>
              refine ⟨k + 1, f + 1, by omega, by omega, by omega, by omega, by omega, by go_num, by go_num, trivial, Lib.hid (fun j h1 h2 h3 => ?_), Lib.hid (fun a h1 h2 h3 => HB.out a (by omega) (by omega) h3)⟩
              rcases Nat.eq_or_lt_of_le (show j ≤ k by omega) with rfl | hlt2
              · exact HV.out
              · exact HK.out j (by omega) hlt2 h3
            case measure => simp [intOf]; omega
      · go_wp2_with fail
        have hsz := bits_size p g l w H.out
        rw [HN.out] at hsz
        refine hsz.mono ?_
        rintro e w' ⟨rfl, rfl⟩
        clear hsz
        go_wp2_with fail
        go_ret
        refine ⟨?_, rfl⟩
        rw [HE.out (-1) (.inl ⟨rfl, fun a h1 h2 => HB.out a (by omega) (by rw [HN.out] at h2; omega) (by rw [HN.out] at h2; omega)⟩)]
        rfl
  · obtain ⟨s, rfl⟩ := Int.eq_ofNat_of_zero_le (show 0 ≤ i by omega)
    go_enter Tryz.func139, Tryz.ntmps139
    go_wp2_with fail
    go_loopw [7, 8] (fun ff i wr => ∃ k f : Nat, s ≤ k ∧ k ≤ max s n ∧ f < K ∧ s + f ≤ k ∧ f ≤ n ∧ ff = .int .i64 f ∧ i = .int .i64 k ∧ w = wr ∧
      Hid (∀ j, k < j + f + 1 → j < k → j < n → l.getD j false = false) ∧ Hid (∀ a, s ≤ a → a + f < k → a < n → ∃ j, a ≤ j ∧ j < a + K ∧ l.getD j false = true)) (fun _ i _ => n - (intOf i).toNat)
    case atStart => exact ⟨s, 0, Nat.le_refl _, by omega, by omega, by omega, by omega, rfl, rfl, rfl, Lib.hid (fun j h1 h2 => by omega), Lib.hid (fun a h1 h2 => by omega)⟩
    case round =>
      obtain ⟨k, f, hk0, hk1, hfK, hfs, hfn, rfl, rfl, rfl, HK, HB⟩ := hrel
      by_cases hlt : k < n
      · have c1 := H.out.2.bool k (by rw [HN.out]; exact hlt)
        obtain ⟨v, hv⟩ : ∃ v, l.getD k false = v := ⟨_, rfl⟩
        rw [hv] at c1
        have HV := Lib.hid hv
        clear hv
        cases v with
        | true =>
          go_wp2_with fail
          have hsz := bits_size p g l w H.out
          rw [HN.out] at hsz
          refine hsz.mono ?_
          rintro e w' ⟨rfl, rfl⟩
          clear hsz
          go_wp2_with fail
          go_roundw
          case rel =>
            refine ⟨k + 1, 0, by omega, by omega, by omega, by omega, by omega, by go_num, by go_num, trivial, Lib.hid (fun j h1 h2 h3 => by omega), Lib.hid (fun a h1 h2 h3 => ?_)⟩
            by_cases ha : a + f < k
            · exact HB.out a (by omega) ha h3
            · exact ⟨k, by omega, by omega, HV.out⟩
          case measure => simp [intOf]; omega
        | false =>
          by_cases hful : f + 1 = K
          · subst hful
            go_wp2_with fail
            have hsz := bits_size p g l w H.out
            rw [HN.out] at hsz
            refine hsz.mono ?_
            rintro e w' ⟨rfl, rfl⟩
            clear hsz
            go_wp2_with fail
            go_ret
            refine ⟨?_, rfl⟩
            rw [HE.out ((k + 1 : Nat) - (f + 1 : Nat)) (.inr ⟨k - f, by omega, by omega, by rw [HN.out]; omega, fun j h1 h2 => ?_, fun b h1 h2 => HB.out b (by omega) (by omega) (by omega)⟩)]
            · go_num
            · rcases Nat.eq_or_lt_of_le (show j ≤ k by omega) with rfl | hlt2
              · exact HV.out
              · exact HK.out j (by omega) hlt2 (by omega)
          · go_wp2_with fail
            have hsz := bits_size p g l w H.out
            rw [HN.out] at hsz
            refine hsz.mono ?_
            rintro e w' ⟨rfl, rfl⟩
            clear hsz
            go_wp2_with fail
            go_roundw
            case rel =>
              refine ⟨k + 1, f + 1, by omega, by omega, by omega, by omega, by omega, by go_num, by go_num, trivial, Lib.hid (fun j h1 h2 h3 => ?_), Lib.hid (fun a h1 h2 h3 => HB.out a (by omega) (by omega) h3)⟩
              rcases Nat.eq_or_lt_of_le (show j ≤ k by omega) with rfl | hlt2
              · exact HV.out
              · exact HK.out j (by omega) hlt2 h3
            case measure => simp [intOf]; omega
      · go_wp2_with fail
        have hsz := bits_size p g l w H.out
        rw [HN.out] at hsz
        refine hsz.mono ?_
        rintro e w' ⟨rfl, rfl⟩
        clear hsz
        go_wp2_with fail
        go_ret
        refine ⟨?_, rfl⟩
        rw [HE.out (-1) (.inl ⟨rfl, fun a h1 h2 => HB.out a (by omega) (by rw [HN.out] at h2; omega) (by rw [HN.out] at h2; omega)⟩)]
        rfl

theorem count_nil (w : World) : Calls Tryz.prog 156 #[.pointer none] w fun e w' => e = .returned (.int .i64 0) ∧ w = w' := by
  go_enter Tryz.func156, Tryz.ntmps156
  go_wp2_with fail
  refine (next_nil 0 true _ (by omega)).mono ?_
  rintro e w' ⟨rfl, rfl⟩
  go_wp2_with fail
  refine wp_loop_rounds 1 ?_
  rw [rounds_succ]
  go_wp2_with fail
  go_ret
  exact ⟨rfl, rfl⟩
theorem count_any (p g : Nat) (l : List Bool) (w : World) (h : IsBits w p g l) (hl : l.length ≤ 16384) :
    Calls Tryz.prog 156 #[.pointer (some ⟨p, 0, none⟩)] w fun e w' => e = .returned (.int .i64 (countB l)) ∧ w = w' := by
  have H := Lib.hid h
  clear h
  obtain ⟨n, hn⟩ : ∃ n, l.length = n := ⟨_, rfl⟩
  have HN := Lib.hid hn
  rw [hn] at hl
  clear hn
  have HL : Hid (l.length ≤ 16384) := Lib.hid (by rw [HN.out]; exact hl)
  have HX : Hid (∀ s : Nat, IsNext l true s (nextZ l true s)) := Lib.hid (fun s => by simpa using isNext_nextZ l true (s : Int))
  go_enter Tryz.func156, Tryz.ntmps156
  go_wp2_with fail
  refine (next_any p g l 0 true _ H.out (by omega) HL.out).mono ?_
  rintro e w' ⟨rfl, rfl⟩
  obtain ⟨r, hr⟩ : ∃ r, nextZ l true 0 = r := ⟨_, rfl⟩
  have HR := Lib.hid hr
  rw [hr]
  clear hr
  go_wp2_with fail
  go_loopw [3, 4] (fun m i wr => ∃ (c s : Nat) (r : Int), m = .int .i64 c ∧ i = .int .i64 r ∧ s ≤ n ∧ c ≤ n ∧ (r = -1 ∨ 0 ≤ r ∧ r < n ∧ c < n) ∧ w = wr ∧ Hid (c = countB (l.take s)) ∧ Hid (nextZ l true s = r)) (fun m _ _ => n - (intOf m).toNat)
  case atStart => 
    refine ⟨0, 0, r, rfl, rfl, Nat.zero_le _, Nat.zero_le _, ?_, rfl, Lib.hid rfl, HR⟩
    rw [← HR.out]
    have := nextZ_range l true 0
    rw [HN.out] at this
    omega
  case round =>
    obtain ⟨c, s, r, rfl, rfl, hs, hc, hr, rfl, HC, HR⟩ := hrel
    rcases hr with rfl | ⟨hr0, hr1, hr2⟩
    · go_wp2_with fail
      go_ret
      have : c = countB l := by
        have h1 := HX.out s
        rw [HR.out] at h1
        rw [HC.out]
        rcases h1 with ⟨_, h2⟩ | ⟨k, h2, _⟩
        · rw [← countB_all l]
          exact (countB_flat l s l.length (by rw [HN.out]; exact hs) (Nat.le_refl _) (fun j h3 h4 => h2 j h3 h4)).symm
        · omega
      exact ⟨by rw [this]; rfl, rfl⟩
    · obtain ⟨k, rfl⟩ := Int.eq_ofNat_of_zero_le hr0
      go_wp2_with fail
      refine (next_any p g l (k + 1) true _ H.out (by omega) HL.out).mono ?_
      rintro e w' ⟨rfl, rfl⟩
      obtain ⟨r2, hr2'⟩ : ∃ r2, nextZ l true (k + 1) = r2 := ⟨_, rfl⟩
      have HR2 := Lib.hid hr2'
      rw [hr2']
      clear hr2'
      go_wp2_with fail
      go_roundw
      case rel =>
        have h1 := HX.out s
        rw [HR.out] at h1
        have hlen := HN.out
        have hkk : s ≤ k ∧ l.getD k false = true ∧ ∀ j, s ≤ j → j < k → l.getD j false ≠ true := by
          rcases h1 with ⟨h2, _⟩ | ⟨k', h2, h3, h4, h5, h6⟩
          · omega
          · obtain rfl : k = k' := by omega
            exact ⟨h3, h5, h6⟩
        have hcnt : countB (l.take (k + 1)) = c + 1 := by
          rw [countB_take l k (by omega), if_pos hkk.2.1, countB_flat l s k hkk.1 (by omega) hkk.2.2, HC.out]
        have hle := countB_le (l.take (k + 1))
        have hnr := nextZ_range l true (k + 1)
        have hx2 := HX.out (k + 1)
        rw [show ((k + 1 : Nat) : Int) = (k : Int) + 1 by omega, HR2.out] at hx2
        rw [HR2.out, hlen] at hnr
        refine ⟨c + 1, k + 1, r2, by go_num, rfl, by omega, by omega, ?_, trivial, Lib.hid hcnt.symm, HR2⟩
        rcases hx2 with ⟨h2, _⟩ | ⟨k', h2, h3, h4, h5, h6⟩
        · exact .inl h2
        · refine .inr ⟨by omega, by omega, ?_⟩
          have hc2 := countB_take l k' (by omega)
          rw [if_pos h5, countB_flat l (k + 1) k' h3 (by omega) h6, hcnt] at hc2
          have := countB_take_le l (k' + 1)
          omega
      case measure => simp [intOf]; omega
end Go.Proofs.YtpkbdmieelgdlaaGreat
namespace Go.Proofs.YtpkbdmieelgdlaaGreat
open Go Go.RowKit

theorem rep_get (m i : Nat) : (List.replicate m false).getD i false = false := by
  rw [List.getD_eq_getElem?_getD, List.getElem?_replicate]
  split <;> rfl
theorem one_get (m j i : Nat) (h : j < m) : ((List.replicate m false).set j true).getD i false = decide (i = j) := by
  rw [List.getD_eq_getElem?_getD, List.getElem?_set]
  by_cases hij : j = i
  · subst hij; simp [h]
  · rw [if_neg hij, List.getElem?_replicate]
    have : ¬ i = j := fun h => hij h.symm
    split <;> simp [this]
section
variable {m : Nat}
theorem rep_true (x : Int) : nextZ (List.replicate m false) true x = -1 := nextZ_eq (.inl ⟨rfl, fun j _ _ => by rw [rep_get]; simp⟩)
theorem rep_false {x : Int} (h : x ≤ 0) (hm : 1 ≤ m) : nextZ (List.replicate m false) false x = 0 := nextZ_eq (.inr ⟨0, rfl, by omega, by simp; omega, rep_get _ _, fun j h1 h2 => by omega⟩)
theorem next_past {l : List Bool} {is : Bool} {x : Int} (h : l.length ≤ x) : nextZ l is x = -1 := nextZ_eq (.inl ⟨rfl, fun j h1 h2 => by omega⟩)
theorem rep_run {x : Int} {K : Nat} (h : x ≤ 0) (h1 : 1 ≤ K) (hm : K ≤ m) : runZ (List.replicate m false) x K = 0 := runZ_eq (by omega) (.inr ⟨0, rfl, by omega, by simp; omega, fun j _ _ => rep_get _ _, fun j h1 h2 => by omega⟩)
theorem run_past {l : List Bool} {x k : Int} (hk : 1 ≤ k) (h : l.length ≤ x) : runZ l x k = -1 := runZ_eq hk (.inl ⟨rfl, fun a h1 h2 => by omega⟩)
theorem run_long {l : List Bool} {x k : Int} (h : l.length < k) : runZ l x k = -1 := runZ_eq (by omega) (.inl ⟨rfl, fun a h1 h2 => by omega⟩)
variable {j : Nat}
theorem one_true {x : Int} (hj : j < m) (h : x ≤ 0) : nextZ ((List.replicate m false).set j true) true x = j :=
  nextZ_eq (.inr ⟨j, rfl, by omega, by simpa using hj, by rw [one_get _ _ _ hj]; simp, fun i h1 h2 => by rw [one_get _ _ _ hj]; simp; omega⟩)
theorem one_after (hj : j < m) : nextZ ((List.replicate m false).set j true) true ((j : Int) + 1) = -1 :=
  nextZ_eq (.inl ⟨rfl, fun i h1 h2 => by rw [one_get _ _ _ hj]; simp; omega⟩)
theorem one_false {x : Int} (hj : j < m) (h0 : 0 < j) (h : x ≤ 0) : nextZ ((List.replicate m false).set j true) false x = 0 :=
  nextZ_eq (.inr ⟨0, rfl, by omega, by simp; omega, by rw [one_get _ _ _ hj]; simp; omega, fun i h1 h2 => by omega⟩)
theorem one_false1 {x : Int} (hm : 1 < m) (h : x ≤ 0) : nextZ ((List.replicate m false).set 0 true) false x = 1 :=
  nextZ_eq (.inr ⟨1, rfl, by omega, by simpa using hm, by rw [one_get _ _ _ (by omega)]; simp, fun i h1 h2 => by rw [one_get _ _ _ (by omega)]; simp; omega⟩)
theorem one_false0 {x : Int} : nextZ ((List.replicate 1 false).set 0 true) false x = -1 :=
  nextZ_eq (.inl ⟨rfl, fun i h1 h2 => by rw [one_get _ _ _ (by omega)]; simp at h2; simp [h2]⟩)
theorem one_run_all (hj : j < m) : runZ ((List.replicate m false).set j true) 0 m = -1 :=
  runZ_eq (by omega) (.inl ⟨rfl, fun a h1 h2 => ⟨j, by simp at h2; omega, by simp at h2; omega, by rw [one_get _ _ _ hj]; simp⟩⟩)
theorem one_run_ahead (hj : j < m) (h0 : 0 < j) : runZ ((List.replicate m false).set j true) 0 j = 0 :=
  runZ_eq (by omega) (.inr ⟨0, rfl, by omega, by simp; omega, fun i h1 h2 => by rw [one_get _ _ _ hj]; simp; omega, fun i h1 h2 => by omega⟩)
theorem one_run_behind {K : Nat} (h0 : 0 < K) (h : j + 1 + K = m) : runZ ((List.replicate m false).set j true) j K = (j : Int) + 1 :=
  runZ_eq (by omega) (.inr ⟨j + 1, by omega, by omega, by simp; omega, fun i h1 h2 => by rw [one_get _ _ _ (by omega)]; simp; omega,
    fun i h1 h2 => ⟨j, by omega, by omega, by rw [one_get _ _ _ (by omega)]; simp⟩⟩)
end

theorem isInts_one (w : World) (t : TypeId) (x : Int) : IsInts (w.alloc (.cells #[.int .i64 x] t)) (some ⟨w.heap.size, 0, none⟩) [x] := by
  refine .inr ⟨_, 0, rfl, by simp, fun i hi => ?_⟩
  simp only [List.length_cons, List.length_nil, Nat.zero_add] at hi
  obtain rfl : i = 0 := by omega
  exact (Blk.new w t _).one
theorem setAll_one (l : List Bool) (is : Bool) (j : Nat) : setAll l is [(j : Int)] = l.set j is := by simp [setAll]
end Go.Proofs.YtpkbdmieelgdlaaGreat
namespace Go.Proofs.YtpkbdmieelgdlaaGreat
open Go Go.RowKit

/-- A slice of numbers of a kind that can be read. -/
def Reads (w : World) (k : IntKind) (A : Option Addr) (xs : List Int) : Prop := xs = [] ∨ ∃ b off, A = some ⟨b, off, none⟩ ∧ b < w.heap.size ∧ ∀ i, i < xs.length → w.cell? ⟨b, off + i, none⟩ = some (.int k (xs.getD i 0))
section
variable {w w' : World} {k : IntKind} {A : Option Addr} {xs : List Int} {E : List Nat}
theorem Reads.at (h : Reads w k A xs) {n i : Nat} (hn : xs.length = n) (hi : i < n) : ∃ b off, A = some ⟨b, off, none⟩ ∧ b < w.heap.size ∧ w.cell? ⟨b, off + i, none⟩ = some (.int k (xs.getD i 0)) := by
  rcases h with rfl | ⟨b, off, h1, h2, h3⟩
  · simp at hn; omega
  · exact ⟨b, off, h1, h2, h3 i (by omega)⟩
theorem Reads.upd (h : Reads w k A xs) (hu : Upd E w w') (hE : ∀ i ∈ E, w.heap.size ≤ i) : Reads w' k A xs := by
  rcases h with h | ⟨b, off, rfl, hb, hc⟩
  · exact .inl h
  · refine .inr ⟨b, off, rfl, Nat.lt_of_lt_of_le hb hu.size, fun i hi => ?_⟩
    rw [hu.cell (p := ⟨b, off + i, none⟩) hb (fun hm => by have := hE _ hm; simp only at this; omega)]
    exact hc i hi
theorem Reads.ints (h : Reads w .i64 A xs) : IsInts w A xs := h
theorem reads_of {len cap : Nat} {zs : List Int} (h : (A = none ∧ len = 0 ∧ cap = 0 ∧ zs = []) ∨
    ∃ x, A = some x ∧ len ≤ cap ∧ cap ≤ maxLen ∧ zs.length = cap ∧ (∀ i, i < zs.length → w.cell? (x.add i) = some (.int k (zs.getD i 0))) ∧ ∀ n ∈ zs, (Lit.int k n).wf = true) :
    ∃ xs : List Int, xs.length = len ∧ len ≤ maxLen ∧ Reads w k A xs ∧ ∀ n ∈ xs, (Lit.int k n).wf = true := by
  rcases h with ⟨rfl, rfl, rfl, rfl⟩ | ⟨x, rfl, hl, hm, hz, hc, hw⟩
  · exact ⟨[], rfl, Nat.zero_le _, .inl rfl, fun n hn => by cases hn⟩
  · refine ⟨zs.take len, by simp; omega, by omega, ?_, fun n hn => hw n (List.mem_of_mem_take hn)⟩
    rcases Nat.eq_zero_or_pos len with rfl | hpos
    · exact .inl (by simp)
    · have h0 := hc 0 (by omega)
      have ha : x.add 0 = x := by simp [Addr.add]
      rw [ha] at h0
      have hs := spot_of_cell h0
      obtain ⟨b, off, sp⟩ := x
      simp only at hs
      subst hs
      refine .inr ⟨b, off, rfl, World.block_lt_of_cell? _ _ h0, fun i hi => ?_⟩
      simp only [List.length_take] at hi
      have := hc i (by omega)
      rw [add_plain] at this
      rw [this, List.getD_eq_getElem?_getD, List.getD_eq_getElem?_getD, List.getElem?_take_of_lt (by omega)]
end
end Go.Proofs.YtpkbdmieelgdlaaGreat
namespace Go.Proofs.YtpkbdmieelgdlaaGreat
open Go Go.RowKit

/-- A slice of the call's own, from block B on: the numbers xs. -/
def Own (w : World) (B : Nat) (v : Value) (xs : List Int) : Prop := w.ownsRow B 3 1 v xs.length (xs.map (Value.int .i64))
section
variable {w w' a0 : World} {B : Nat} {v : Value} {xs : List Int} {E : List Nat}
theorem Own.nil (w : World) (B : Nat) : Own w B (.slice none 0 0) [] := World.ownsRow_nil _ _ _ _
theorem Own.empty (w : World) (hB : B ≤ w.heap.size) : Own (w.alloc (.cells #[] 3)) B (.slice (some ⟨w.heap.size, 0, none⟩) 0 0) [] := World.ownsRow_lit w #[] 0 hB (by unfold maxLen; omega) rfl
theorem Own.alloc (h : Own w B v xs) (o : Obj) : Own (w.alloc o) B v xs := World.ownsRow.alloc h o
theorem Own.drew (h : Own w B v xs) : Own w.drew B v xs := h
theorem Own.upd (h : Own w B v xs) (hu : Upd E w w') (hE : ∀ i ∈ E, i < B) : Own w' B v xs := by
  obtain ⟨h1, h2⟩ := h
  refine ⟨h1, ?_⟩
  rcases h2 with h2 | ⟨g, cap, cur, h2, h3, h4, h5⟩
  · exact .inl h2
  · refine .inr ⟨g, cap, cur, h2, h3, ?_, h5⟩
    have hlt : g < w.heap.size := by
      rcases Nat.lt_or_ge g w.heap.size with hlt | hge
      · exact hlt
      · rw [Array.getElem?_eq_none hge] at h4; cases h4
    rw [hu.block g hlt (fun hm => by have := hE g hm; omega)]
    exact h4
/-- It is a slice of so many numbers that can be read. -/
theorem Own.form (h : Own w B v xs) : ∃ A cap, v = .slice A xs.length cap ∧ IsInts w A xs ∧ (A = none → xs.length = 0 ∧ cap = 0) := by
  have h0 := h
  obtain ⟨h1, h2⟩ := h
  rcases h2 with ⟨rfl, h2⟩ | ⟨g, cap, cur, rfl, h3, h4, h5⟩
  · refine ⟨none, 0, by rw [h2], .inl (List.eq_nil_of_length_eq_zero h2), fun _ => ⟨h2, rfl⟩⟩
  · refine ⟨_, cap, rfl, ?_, fun h => by cases h⟩
    refine .inr ⟨g, 0, rfl, (h0.lt g rfl).2, fun i hi => ?_⟩
    rw [Nat.zero_add, World.ownsRow.cellAt h0 i (by omega), List.getElem?_map, List.getD_eq_getElem?_getD, List.getElem?_eq_getElem hi]
    rfl
end

/-- 'append' of one number. -/
theorem wpList_push {w : World} {ops : Array Oper} {rest : List Oper} {o : Oper} {a : Act} {Q : Exit → Act → World → Prop} (a0 : World) (hgd : o.guard = none) (s x : Operand)
    (ho : o.op = .call { callee := .builtin .append, args := #[s, x], argTypes := #[23, 23] })
    (B : Nat) (v : Value) (xs : List Int) (hs : a.eval s = v) (hown : Own w B v xs) (b : Nat) (y : Int) (hx : a.eval x = .slice (some ⟨b, 0, none⟩) 1 1) (hb : Blk w b 3 #[.int .i64 y])
    (hl : xs.length ≤ 4294967296) (hB : a0.heap.size ≤ B) (hU : Upd [] a0 w) (hBw : B ≤ w.heap.size)
    (h : ∀ v' w', Own w' B v' (xs ++ [y]) → Upd [] a0 w' → B ≤ w'.heap.size → wpList Tryz.prog ops Q rest (a.put o.dst v') w') : wpList Tryz.prog ops Q (o :: rest) a w := by
  obtain ⟨i0, hi, hz0, hz1, hz2⟩ := info_parts int_info
  refine wpList_append_own _ hgd s x 23 ho B 3 i0 (.int .i64 0) 1 8 Tryz.underlying23 hi hz0 hz1 hz2 rfl (by decide) v xs.length (xs.map (Value.int .i64)) hs hown ⟨b, 0, none⟩ 1 1 [.int .i64 y] hx rfl ?_ ?_ (by unfold maxLen; omega) (by omega) hBw ?_
  · intro j u hj
    match j, hj with
    | 0, hj => simp at hj; subst hj; simpa [Addr.add] using hb.one
  · intro u hu; simp at hu; subst hu; rfl
  · intro v' w' h1 h2 _
    refine h v' w' ?_ (hU.grown h2 (fun k hk => .inr ?_)) (Nat.le_trans hBw h2.size)
    · unfold Own
      rw [List.length_append, List.map_append]
      exact h1
    · have := World.ownsRow.lt hown k hk
      omega

/-- 'append' of a slice of numbers. -/
theorem wpList_pushes {w : World} {ops : Array Oper} {rest : List Oper} {o : Oper} {a : Act} {Q : Exit → Act → World → Prop} (a0 : World) (hgd : o.guard = none) (s x : Operand)
    (ho : o.op = .call { callee := .builtin .append, args := #[s, x], argTypes := #[23, 23] })
    (B : Nat) (v : Value) (xs : List Int) (hs : a.eval s = v) (hown : Own w B v xs) (A : Option Addr) (c : Nat) (ys : List Int) (m : Nat) (hm : ys.length = m) (hx : a.eval x = .slice A m c) (hy : IsInts w A ys) (hn : A = none → ys.length = 0 ∧ c = 0)
    (hl : xs.length + ys.length ≤ 4294967296) (hB : a0.heap.size ≤ B) (hU : Upd [] a0 w) (hBw : B ≤ w.heap.size)
    (h : ∀ v' w', Own w' B v' (xs ++ ys) → Upd [] a0 w' → B ≤ w'.heap.size → wpList Tryz.prog ops Q rest (a.put o.dst v') w') : wpList Tryz.prog ops Q (o :: rest) a w := by
  subst hm
  obtain ⟨i0, hi, hz0, hz1, hz2⟩ := info_parts int_info
  cases A with
  | none =>
    obtain ⟨h1, rfl⟩ := hn rfl
    obtain rfl := List.eq_nil_of_length_eq_zero h1
    refine wpList_append_own_none hgd s x 23 ho B 3 i0 1 Tryz.underlying23 hi v xs.length (xs.map (Value.int .i64)) hs hown hx ?_
    exact h v w (by simpa using hown) hU hBw
  | some ad =>
    refine wpList_append_own _ hgd s x 23 ho B 3 i0 (.int .i64 0) 1 8 Tryz.underlying23 hi hz0 hz1 hz2 rfl (by decide) v xs.length (xs.map (Value.int .i64)) hs hown ad ys.length c (ys.map (Value.int .i64)) hx (by simp) ?_ ?_ (by unfold maxLen; omega) (by omega) hBw ?_
    · intro j u hj
      rcases hy with rfl | ⟨b, off, h1, h2, h3⟩
      · simp at hj
      · simp only [Option.some.injEq] at h1
        subst h1
        have hjl : j < ys.length := by
          have := (List.getElem?_eq_some_iff.1 hj).1
          simpa using this
        rw [add_plain, h3 j hjl]
        rw [List.getElem?_map, List.getElem?_eq_getElem hjl] at hj
        rw [List.getD_eq_getElem?_getD, List.getElem?_eq_getElem hjl]
        exact hj
    · intro u hu
      obtain ⟨x, _, rfl⟩ := List.mem_map.1 hu
      rfl
    · intro v' w' h1 h2 _
      refine h v' w' ?_ (hU.grown h2 (fun k hk => .inr ?_)) (Nat.le_trans hBw h2.size)
      · unfold Own
        rw [List.length_append, List.map_append]
        exact h1
      · have := World.ownsRow.lt hown k hk
        omega
end Go.Proofs.YtpkbdmieelgdlaaGreat
namespace Go.Proofs.YtpkbdmieelgdlaaGreat

theorem ext_getD {l l' : List Bool} (h : l.length = l'.length) (hg : ∀ j, j < l.length → l.getD j false = l'.getD j false) : l = l' := by
  apply List.ext_getElem h
  intro j h1 h2
  have := hg j h1
  rwa [List.getD_eq_getElem?_getD, List.getD_eq_getElem?_getD, List.getElem?_eq_getElem h1, List.getElem?_eq_getElem h2] at this
theorem getD_set (l : List Bool) (i j : Nat) (b : Bool) : (l.set i b).getD j false = if i = j ∧ j < l.length then b else l.getD j false := by
  rw [List.getD_eq_getElem?_getD, List.getElem?_set, List.getD_eq_getElem?_getD]
  by_cases h : i = j
  · subst h
    by_cases h2 : i < l.length
    · rw [if_pos rfl, if_pos h2, if_pos ⟨rfl, h2⟩]; rfl
    · rw [if_pos rfl, if_neg h2, if_neg (fun h => h2 h.2), List.getElem?_eq_none (by omega)]
  · rw [if_neg h, if_neg (fun h2 => h h2.1)]
theorem getD_out {l : List Bool} {j : Nat} (h : l.length ≤ j) : l.getD j false = false := by rw [List.getD_eq_getElem?_getD, List.getElem?_eq_none h]; rfl

def fillB (n i : Nat) : List Bool := List.replicate i true ++ List.replicate (n - i) false
section
variable {n i : Nat}
theorem fillB_length (h : i ≤ n) : (fillB n i).length = n := by simp [fillB]; omega
theorem fillB_get (n i j : Nat) : (fillB n i).getD j false = decide (j < i) := by
  unfold fillB
  rw [List.getD_eq_getElem?_getD, List.getElem?_append, List.length_replicate]
  by_cases h : j < i
  · rw [if_pos h, List.getElem?_replicate, if_pos h]; simp [h]
  · rw [if_neg h, List.getElem?_replicate]
    split <;> simp [h]
theorem fillB_zero (n : Nat) : fillB n 0 = List.replicate n false := by simp [fillB]
theorem fillB_set (h : i < n) : (fillB n i).set i true = fillB n (i + 1) := by
  apply ext_getD
  · rw [List.length_set, fillB_length (by omega), fillB_length (by omega)]
  · intro j hj
    rw [getD_set, fillB_get, fillB_get, fillB_length (by omega)]
    rw [List.length_set, fillB_length (by omega)] at hj
    by_cases h1 : i = j
    · rw [if_pos ⟨h1, hj⟩]; simp; omega
    · rw [if_neg (fun h2 => h1 h2.1)]
      have : (j < i) ↔ (j < i + 1) := by omega
      simp [this]
theorem fillB_next (h : i < n) : nextZ (fillB n i) false 0 = i :=
  nextZ_eq (.inr ⟨i, rfl, by omega, by rw [fillB_length (by omega)]; exact h, by rw [fillB_get]; simp, fun j h1 h2 => by rw [fillB_get]; simp; omega⟩)
theorem fillB_none (n : Nat) : nextZ (fillB n n) false 0 = -1 :=
  nextZ_eq (.inl ⟨rfl, fun j h1 h2 => by rw [fillB_length (Nat.le_refl _)] at h2; rw [fillB_get]; simp; omega⟩)
theorem fillB_count (n i : Nat) : countB (fillB n i) = i := by
  unfold countB fillB
  rw [List.count_append, List.count_replicate, List.count_replicate]
  simp
theorem hasB_fill {x : Nat} (h : x < i) : hasB (fillB n i) x = true := by rw [hasB_nat, fillB_get]; simp [h]
end
/-- The first of two that are not so. -/
theorem two_next {n x y : Nat} (hx : x < n) (hy : y < n) : nextZ (((fillB n n).set x false).set y false) false 0 = (min x y : Nat) := by
  have hlen : (((fillB n n).set x false).set y false).length = n := by rw [List.length_set, List.length_set, fillB_length (Nat.le_refl _)]
  have hget : ∀ j, j < n → (((fillB n n).set x false).set y false).getD j false = !(decide (j = x) || decide (j = y)) := by
    intro j hj
    rw [getD_set, getD_set, fillB_get, List.length_set, fillB_length (Nat.le_refl _)]
    by_cases h1 : y = j
    · rw [if_pos ⟨h1, hj⟩]; simp [h1]
    · have h1' : ¬ j = y := fun h => h1 h.symm
      rw [if_neg (fun h => h1 h.1)]
      by_cases h2 : x = j
      · rw [if_pos ⟨h2, hj⟩]; simp [h2]
      · have h2' : ¬ j = x := fun h => h2 h.symm
        rw [if_neg (fun h => h2 h.1)]; simp [h1', h2', hj]
  refine nextZ_eq (.inr ⟨min x y, rfl, by omega, by rw [hlen]; omega, ?_, fun j h1 h2 => ?_⟩)
  · rw [hget _ (by omega)]
    rcases Nat.le_total x y with h | h
    · rw [Nat.min_eq_left h]; simp
    · rw [Nat.min_eq_right h]; simp
  · rw [hget _ (by omega)]
    have h3 : ¬ j = x := by omega
    have h4 : ¬ j = y := by omega
    simp [h3, h4]
theorem same_set {n x : Nat} : ((fillB n n).set x false).set x false = (fillB n n).set x false := by rw [List.set_set]
end Go.Proofs.YtpkbdmieelgdlaaGreat
namespace Go.Proofs.YtpkbdmieelgdlaaGreat

/-- So many places from one on. -/
def rowZ (a k : Nat) : List Int := (List.range k).map fun i => ((a + i : Nat) : Int)
section
variable {a k : Nat} {l : List Bool} {is : Bool}
theorem rowZ_length (a k : Nat) : (rowZ a k).length = k := by simp [rowZ]
theorem rowZ_succ (a k : Nat) : rowZ a (k + 1) = rowZ a k ++ [((a + k : Nat) : Int)] := by simp [rowZ, List.range_succ]
theorem mem_rowZ {x : Int} (h : x ∈ rowZ a k) : 0 ≤ x ∧ (a : Int) ≤ x ∧ x < (a + k : Nat) := by
  unfold rowZ at h
  obtain ⟨i, hi, rfl⟩ := List.mem_map.1 h
  rw [List.mem_range] at hi
  omega
/-- So many places from one on be so, or not. -/
def span (l : List Bool) (is : Bool) (a k : Nat) : List Bool := setAll l is (rowZ a k)
theorem span_zero (l : List Bool) (is : Bool) (a : Nat) : span l is a 0 = l := rfl
theorem span_succ (l : List Bool) (is : Bool) (a k : Nat) : span l is a (k + 1) = (span l is a k).set (a + k) is := by
  unfold span
  rw [rowZ_succ]
  unfold setAll
  rw [List.foldl_append, List.foldl_cons, List.foldl_nil, Int.toNat_natCast]
theorem span_length (l : List Bool) (is : Bool) (a k : Nat) : (span l is a k).length = l.length := setAll_length _ _ _
theorem span_get (l : List Bool) (is : Bool) (a k j : Nat) (hj : j < l.length) : (span l is a k).getD j false = if a ≤ j ∧ j < a + k then is else l.getD j false := by
  induction k with
  | zero => rw [span_zero, if_neg (by omega)]
  | succ k ih =>
    rw [span_succ, getD_set, span_length, ih]
    by_cases h : a + k = j
    · rw [if_pos ⟨h, hj⟩, if_pos (by omega)]
    · rw [if_neg (fun h2 => h h2.1)]
      have : (a ≤ j ∧ j < a + k) ↔ (a ≤ j ∧ j < a + (k + 1)) := by omega
      simp only [this]
theorem span_one (l : List Bool) (is : Bool) (a : Nat) : span l is a 1 = l.set a is := by rw [span_succ, span_zero, Nat.add_zero]
/-- Are so many places from one on so? -/
def fullB (l : List Bool) (a : Nat) : Nat → Bool
  | 0 => true
  | n + 1 => l.getD (a + n) false && fullB l a n
theorem fullB_true {l : List Bool} {a n : Nat} : fullB l a n = true ↔ ∀ j, a ≤ j → j < a + n → l.getD j false = true := by
  induction n with
  | zero => simp [fullB]; intro j h1 h2; omega
  | succ n ih =>
    unfold fullB
    rw [Bool.and_eq_true, ih]
    constructor
    · rintro ⟨h1, h2⟩ j hj hl
      rcases Nat.eq_or_lt_of_le (show j ≤ a + n by omega) with rfl | hlt
      · exact h1
      · exact h2 j hj hlt
    · intro h
      exact ⟨h _ (by omega) (by omega), fun j hj hl => h j hj (by omega)⟩
theorem fullB_false {l : List Bool} {a n : Nat} (h : fullB l a n = false) : ∃ j, a ≤ j ∧ j < a + n ∧ l.getD j false = false := by
  induction n with
  | zero => simp [fullB] at h
  | succ n ih =>
    unfold fullB at h
    rw [Bool.and_eq_false_iff] at h
    rcases h with h | h
    · exact ⟨a + n, by omega, by omega, h⟩
    · obtain ⟨j, h1, h2, h3⟩ := ih h
      exact ⟨j, h1, by omega, h3⟩
/-- The first that is not so lies behind them just if all are so. -/
theorem full_next (h : a + k ≤ l.length) : fullB l a k = true ↔ (nextZ l false a < 0 ∨ ((a + k : Nat) : Int) ≤ nextZ l false a) := by
  have hn := isNext_nextZ l false (a : Int)
  rw [Int.toNat_natCast] at hn
  rw [fullB_true]
  rcases hn with ⟨h1, h2⟩ | ⟨r, h1, h2, h3, h4, h5⟩
  · rw [h1]
    constructor
    · intro _; left; omega
    · intro _ j hj hl
      have := h2 j hj (by omega)
      simpa using this
  · rw [h1]
    constructor
    · intro hf
      right
      rcases Nat.lt_or_ge r (a + k) with hlt | hge
      · have := hf r h2 hlt; rw [h4] at this; cases this
      · omega
    · intro hr j hj hl
      have := h5 j hj (by omega)
      simpa using this
theorem count_set (l : List Bool) (j : Nat) (is : Bool) (hj : j < l.length) : countB (l.set j is) + (if l.getD j false = true then 1 else 0) = countB l + (if is = true then 1 else 0) := by
  have h2 : l.getD j false = l[j] := by rw [List.getD_eq_getElem?_getD, List.getElem?_eq_getElem hj]; rfl
  rw [h2]
  unfold countB
  rw [List.count_set hj]
  have : l[j] = true → 0 < List.count true l := fun h => List.count_pos_iff.2 (h ▸ List.getElem_mem hj)
  cases hv : l[j] with
  | true => have := this hv; cases is <;> simp <;> omega
  | false => cases is <;> simp
theorem count_take {l : List Bool} {a k : Nat} (h : a + k ≤ l.length) (hf : freeB l a k = true) : countB (span l true a k) = countB l + k := by
  rw [freeB_true] at hf
  have key : ∀ i, i ≤ k → countB (span l true a i) = countB l + i := by
    intro i
    induction i with
    | zero => intro _; rfl
    | succ i ih =>
      intro hi
      have h1 := ih (by omega)
      have h2 := count_set (span l true a i) (a + i) true (by rw [span_length]; omega)
      have hg : (span l true a i).getD (a + i) false = false := by
        rw [span_get _ _ _ _ _ (by omega), if_neg (by omega)]
        exact hf (a + i) (by omega) (by omega)
      rw [hg] at h2
      rw [span_succ]
      simp at h2
      omega
  exact key k (Nat.le_refl _)
theorem count_give' {l : List Bool} {a k : Nat} (h : a + k ≤ l.length) (hf : fullB l a k = true) : countB (span l false a k) + k = countB l := by
  rw [fullB_true] at hf
  have key : ∀ i, i ≤ k → countB (span l false a i) + i = countB l := by
    intro i
    induction i with
    | zero => intro _; rfl
    | succ i ih =>
      intro hi
      have h1 := ih (by omega)
      have h2 := count_set (span l false a i) (a + i) false (by rw [span_length]; omega)
      have hg : (span l false a i).getD (a + i) false = true := by
        rw [span_get _ _ _ _ _ (by omega), if_neg (by omega)]
        exact hf (a + i) (by omega) (by omega)
      rw [hg] at h2
      rw [span_succ]
      simp at h2
      omega
  exact key k (Nat.le_refl _)
/-- A run that is found: it is free. -/
theorem run_free {l : List Bool} {i : Int} {k : Nat} {x : Nat} (hk : 1 ≤ k) (h : runZ l i k = x) : x + k ≤ l.length ∧ freeB l x k = true ∧ i.toNat ≤ x := by
  have h1 := isRun_runZ l i k (by omega)
  rw [h] at h1
  rcases h1 with ⟨h1, _⟩ | ⟨b, h1, h2, h3, h4, _⟩
  · omega
  · obtain rfl : x = b := by omega
    simp only [Int.toNat_natCast] at h3 h4
    exact ⟨h3, freeB_true.2 h4, h2⟩
end
end Go.Proofs.YtpkbdmieelgdlaaGreat
namespace Go.Proofs.YtpkbdmieelgdlaaGreat
open Go Go.RowKit

def sizesL : List Int := [2, 4, 8, 16, 32]
def classZ (n : Int) : Int := if n < 1 then -1 else if n ≤ 2 then 0 else if n ≤ 4 then 1 else if n ≤ 8 then 2 else if n ≤ 16 then 3 else if n ≤ 32 then 4 else -1
def pagesZ (n : Int) : Int := if n < 1 ∨ 1024 < n ∨ 0 ≤ classZ n then 0 else (n + 64 - 1) / 64
def blockZ (n : Int) : Int := if 0 ≤ classZ n then sizesL.getD (classZ n).toNat 0 else pagesZ n * 64

theorem sizes_calls (w : World) : Calls Tryz.prog 120 #[] w fun e w' => ∃ h, e = .returned (.slice (some ⟨h, 0, none⟩) 5 5) ∧ Blk w' h 3 (ints sizesL) ∧ w.heap.size ≤ h ∧ Below w.heap.size w w' := by
  go_enter Tryz.func120, Tryz.ntmps120
  go_wp2_with fail
  go_ret
  exact ⟨w.heap.size, rfl, Blk.new _ _ _, by omega, (Below.refl _ _).alloc (Nat.le_refl _) _⟩

theorem class_hit {n : Int} {j : Nat} (h1 : 1 ≤ n) (hj : j < 5) (h : ∀ m, m < j → sizesL.getD m 0 < n) (hn : n ≤ sizesL.getD j 0) : classZ n = j := by
  have hc : j = 0 ∨ j = 1 ∨ j = 2 ∨ j = 3 ∨ j = 4 := by omega
  unfold classZ
  rcases hc with rfl | rfl | rfl | rfl | rfl
  · have h2 : n ≤ 2 := hn
    rw [if_neg (by omega), if_pos h2]; rfl
  · have h2 : n ≤ 4 := hn
    have h3 : (2 : Int) < n := h 0 (by omega)
    rw [if_neg (by omega), if_neg (by omega), if_pos h2]; rfl
  · have h2 : n ≤ 8 := hn
    have h3 : (4 : Int) < n := h 1 (by omega)
    rw [if_neg (by omega), if_neg (by omega), if_neg (by omega), if_pos h2]; rfl
  · have h2 : n ≤ 16 := hn
    have h3 : (8 : Int) < n := h 2 (by omega)
    rw [if_neg (by omega), if_neg (by omega), if_neg (by omega), if_neg (by omega), if_pos h2]; rfl
  · have h2 : n ≤ 32 := hn
    have h3 : (16 : Int) < n := h 3 (by omega)
    rw [if_neg (by omega), if_neg (by omega), if_neg (by omega), if_neg (by omega), if_neg (by omega), if_pos h2]; rfl
theorem class_miss {n : Int} (h : ∀ m, m < 5 → sizesL.getD m 0 < n) : classZ n = -1 := by
  have h3 : (32 : Int) < n := h 4 (by omega)
  unfold classZ
  rw [if_neg (by omega), if_neg (by omega), if_neg (by omega), if_neg (by omega), if_neg (by omega), if_neg (by omega)]
theorem class_range (n : Int) : -1 ≤ classZ n ∧ classZ n ≤ 4 := by
  unfold classZ
  repeat' split
  all_goals omega

theorem class_calls (n : Int) (w : World) : Calls Tryz.prog 119 #[.int .i64 n] w fun e w' => e = .returned (.int .i64 (classZ n)) ∧ Below w.heap.size w w' := by
  by_cases hn : n < 1
  · have h1 : classZ n = -1 := if_pos hn
    rw [h1]
    go_enter Tryz.func119, Tryz.ntmps119
    go_wp2_with fail
    go_ret
    exact ⟨rfl, Below.refl _ _⟩
  · have HC : Hid (∀ j : Nat, j < 5 → (∀ m, m < j → sizesL.getD m 0 < n) → n ≤ sizesL.getD j 0 → classZ n = j) := Lib.hid (fun j hj h h2 => class_hit (by omega) hj h h2)
    have HM : Hid ((∀ m, m < 5 → sizesL.getD m 0 < n) → classZ n = -1) := Lib.hid class_miss
    go_enter Tryz.func119, Tryz.ntmps119
    go_wp2_with fail
    refine (sizes_calls _).mono ?_
    rintro e w1 ⟨h, rfl, hB, hh, hb⟩
    have HB := Lib.hid hB
    have HU := Lib.hid hb
    clear hB hb hh
    go_wp2_with fail
    go_loopg [9] 5 (fun gk i wr => ∃ j : Nat, gk = 5 - j ∧ j ≤ 5 ∧ i = .int .i64 j ∧ w1 = wr ∧ Hid (∀ m, m < j → sizesL.getD m 0 < n))
    case atStart => exact ⟨0, rfl, by omega, rfl, rfl, Lib.hid (fun m h => by omega)⟩
    case round =>
      obtain ⟨j, rfl, hj, rfl, rfl, HP⟩ := hrel
      by_cases hlt : j < 5
      · have c1 := HB.out.int j hlt
        obtain ⟨v, hv⟩ : ∃ v, sizesL.getD j 0 = v := ⟨_, rfl⟩
        rw [hv] at c1
        have HV := Lib.hid hv
        clear hv
        by_cases hnv : n ≤ v
        · have hc := HC.out j hlt HP.out (by rw [HV.out]; exact hnv)
          have HCJ := Lib.hid hc
          clear hc
          go_wp2_with fail
          go_ret
          exact ⟨by rw [HCJ.out]; rfl, HU.out⟩
        · go_wp2_with fail
          go_roundg (5 - (j + 1))
          case measure => omega
          case rel =>
            refine ⟨j + 1, rfl, by omega, by go_num, rfl, Lib.hid (fun m hm => ?_)⟩
            rcases Nat.eq_or_lt_of_le (show m ≤ j by omega) with rfl | h3
            · rw [HV.out]; omega
            · exact HP.out m h3
      · obtain rfl : j = 5 := by omega
        have hc := HM.out HP.out
        have HCJ := Lib.hid hc
        clear hc
        go_wp2_with fail
        go_ret
        exact ⟨by rw [HCJ.out]; rfl, HU.out⟩

theorem pages_calls (n : Int) (w : World) : Calls Tryz.prog 121 #[.int .i64 n] w fun e w' => e = .returned (.int .i64 (pagesZ n)) ∧ Below w.heap.size w w' := by
  by_cases h1 : n < 1
  · have hp : pagesZ n = 0 := if_pos (.inl h1)
    rw [hp]
    go_enter Tryz.func121, Tryz.ntmps121
    go_wp2_with fail
    go_ret
    exact ⟨rfl, Below.refl _ _⟩
  · by_cases h2 : 1024 < n
    · have hp : pagesZ n = 0 := if_pos (.inr (.inl h2))
      rw [hp]
      go_enter Tryz.func121, Tryz.ntmps121
      go_wp2_with fail
      go_ret
      exact ⟨rfl, Below.refl _ _⟩
    · have hcc := class_calls n
      have hcr := class_range n
      obtain ⟨c, hc⟩ : ∃ c, classZ n = c := ⟨_, rfl⟩
      have hpz : pagesZ n = if n < 1 ∨ 1024 < n ∨ 0 ≤ c then 0 else (n + 64 - 1) / 64 := by unfold pagesZ; rw [hc]
      rw [hc] at hcr
      have HCC : Hid (∀ w, Calls Tryz.prog 119 #[.int .i64 n] w fun e w' => e = .returned (.int .i64 c) ∧ Below w.heap.size w w') := Lib.hid (fun w => by have := hcc w; rw [hc] at this; exact this)
      clear hcc hc
      by_cases h3 : 0 ≤ c
      · rw [if_pos (.inr (.inr h3))] at hpz
        rw [hpz]
        clear hpz
        go_enter Tryz.func121, Tryz.ntmps121
        go_wp2_with fail
        refine (HCC.out _).mono ?_
        rintro e w1 ⟨rfl, hb⟩
        have HB := Lib.hid hb
        clear hb
        go_wp2_with fail
        go_ret
        exact ⟨rfl, HB.out⟩
      · rw [if_neg (by omega)] at hpz
        rw [hpz]
        clear hpz
        go_enter Tryz.func121, Tryz.ntmps121
        go_wp2_with fail
        refine (HCC.out _).mono ?_
        rintro e w1 ⟨rfl, hb⟩
        have HB := Lib.hid hb
        clear hb
        go_wp2_with fail
        go_ret
        exact ⟨rfl, HB.out⟩

theorem block_calls (n : Int) (w : World) : Calls Tryz.prog 104 #[.int .i64 n] w fun e w' => e = .returned (.int .i64 (blockZ n)) ∧ Below w.heap.size w w' := by
  have hcr := class_range n
  obtain ⟨c, hc⟩ : ∃ c, classZ n = c := ⟨_, rfl⟩
  obtain ⟨k, hk⟩ : ∃ k, pagesZ n = k := ⟨_, rfl⟩
  have hkr : 0 ≤ k ∧ k ≤ 17 := by rw [← hk]; unfold pagesZ; split <;> omega
  have hbz : blockZ n = if 0 ≤ c then sizesL.getD c.toNat 0 else k * 64 := by unfold blockZ; rw [hc, hk]
  have hcc := fun w => class_calls n w
  have hpp := fun w => pages_calls n w
  rw [hc] at hcr hcc
  rw [hk] at hpp
  have HCC := Lib.hid hcc
  have HPP := Lib.hid hpp
  clear hc hk hcc hpp
  by_cases h0 : 0 ≤ c
  · rw [if_pos h0] at hbz
    rw [hbz]
    obtain ⟨j, rfl⟩ := Int.eq_ofNat_of_zero_le h0
    have hj : j < 5 := by omega
    clear hbz h0 hkr
    go_enter Tryz.func104, Tryz.ntmps104
    go_wp2_with fail
    refine (HCC.out _).mono ?_
    rintro e w1 ⟨rfl, hb⟩
    have HU1 : Hid (Upd [] w w1) := Lib.hid (Upd.of_below hb)
    clear hb
    go_wp2_with fail
    refine (sizes_calls _).mono ?_
    rintro e w2 ⟨h, rfl, hB, hh, hb⟩
    have HU2 := Lib.hid (HU1.out.step (Upd.of_below hb : Upd [] _ _) (by simp))
    have c1 := hB.int j hj
    clear hb hB hh
    go_wp2_with fail
    go_ret
    exact ⟨rfl, HU2.out.below⟩
  · rw [if_neg h0] at hbz
    rw [hbz]
    clear hbz
    obtain ⟨hk1, hk2⟩ := hkr
    go_enter Tryz.func104, Tryz.ntmps104
    go_wp2_with fail
    refine (HCC.out _).mono ?_
    rintro e w1 ⟨rfl, hb⟩
    have HU1 : Hid (Upd [] w w1) := Lib.hid (Upd.of_below hb)
    clear hb
    go_wp2_with fail
    refine (HPP.out _).mono ?_
    rintro e w2 ⟨rfl, hb⟩
    have HU2 := Lib.hid (HU1.out.step (Upd.of_below hb : Upd [] _ _) (by simp))
    clear hb
    go_wp2_with fail
    go_ret
    exact ⟨rfl, HU2.out.below⟩

end Go.Proofs.YtpkbdmieelgdlaaGreat
namespace Go.Proofs.YtpkbdmieelgdlaaGreat
open Go Go.RowKit

/-- A page at block q, its bits at p and g. -/
def IsPage (w : World) (q p g : Nat) (words : Nat) (l : List Bool) : Prop := Blk w q 149 #[.pointer (some ⟨p, 0, none⟩), .int .i64 words] ∧ IsBits w p g l
section
variable {w w' : World} {q p g words : Nat} {l : List Bool} {E : List Nat}
theorem IsPage.upd (h : IsPage w q p g words l) (hu : Upd E w w') (hq : q ∉ E) (hp : p ∉ E) (hg : g ∉ E) : IsPage w' q p g words l := ⟨h.1.upd hu hq, h.2.upd hu hp hg⟩
theorem IsPage.ne (h : IsPage w q p g words l) : q ≠ g := h.1.ne_ h.2.2 (by decide)
end
def wordsOf (c : Nat) : Nat := 2 * 2 ^ c
def roomOf (c : Nat) : Nat := 32 / 2 ^ c

def NewPage (c : Nat) (w : World) (e : Ending) (w' : World) : Prop := ∃ q p g, e = .returned (.tuple #[.pointer (some ⟨q, 0, none⟩), .int .i64 0]) ∧ IsPage w' q p g (wordsOf c) (List.replicate (roomOf c) false) ∧
  w.heap.size ≤ q ∧ w.heap.size ≤ p ∧ w.heap.size ≤ g ∧ Below w.heap.size w w'

theorem sizes5_calls (w : World) : Calls Tryz.prog 120 #[] w fun e w' => ∃ h, e = .returned (.slice (some ⟨h, 0, none⟩) 5 5) ∧ Blk w' h 3 (ints [2, 4, 8, 16, 32]) ∧ w.heap.size ≤ h ∧ Below w.heap.size w w' := by
  go_enter Tryz.func120, Tryz.ntmps120
  go_wp2_with fail
  go_ret
  exact ⟨w.heap.size, rfl, Blk.new _ _ _, by omega, (Below.refl _ _).alloc (Nat.le_refl _) _⟩

theorem block_new_no (c : Int) (w : World) (h : c < 0 ∨ 5 ≤ c) : Calls Tryz.prog 142 #[.int .i64 c] w fun e w' => e = .returned (.tuple #[.pointer none, .int .i64 1]) ∧ Below w.heap.size w w' := by
  rcases h with h | h
  · go_enter Tryz.func142, Tryz.ntmps142
    go_wp2_with fail
    refine (sizes5_calls _).mono ?_
    rintro e w1 ⟨h, rfl, HB, hh, hb⟩
    have HB := Lib.hid hb
    clear hb
    go_wp2_with fail
    go_ret2
    exact ⟨rfl, HB.out⟩
  · have h' : ¬ c < 0 := by omega
    go_enter Tryz.func142, Tryz.ntmps142
    go_wp2_with fail
    refine (sizes5_calls _).mono ?_
    rintro e w1 ⟨h, rfl, HB, hh, hb⟩
    have HB := Lib.hid hb
    clear hb
    go_wp2_with fail
    go_ret2
    exact ⟨rfl, HB.out⟩

theorem block_new_yes (c : Nat) (w : World) (h : c < 5) : Calls Tryz.prog 142 #[.int .i64 c] w (NewPage c w) := by
  have hc : c = 0 ∨ c = 1 ∨ c = 2 ∨ c = 3 ∨ c = 4 := by omega
  clear h
  rcases hc with rfl | rfl | rfl | rfl | rfl
  · go_enter Tryz.func142, Tryz.ntmps142
    go_wp2_with fail
    refine (sizes5_calls _).mono ?_
    rintro e w1 ⟨h, rfl, hB, hh, hb⟩
    have HB := Lib.hid hb
    have c1 : w1.cell? ⟨h, 0, none⟩ = some (.int .i64 2) := hB.int 0 (by decide)
    have HL := Lib.hid hB.lt
    clear hb hB
    go_wp2_with fail
    refine (bits_new_yes 32 _ (by omega)).mono ?_
    rintro e w2 ⟨p, g, rfl, ha, hp, hg, hb⟩
    have c2 := (hb.cell (p := ⟨h, 0, none⟩) HL.out).trans c1
    have HP := Lib.hid (And.intro hp hg)
    have HB2 := Lib.hid hb
    have H := Lib.hid ha
    clear ha hb c1 HL hp hg
    go_wp2_with fail
    go_ret2
    have h1 := HB.out.size
    have h2 := HB2.out.size
    have h3 := HP.out
    exact ⟨w2.heap.size, p, g, rfl, ⟨Blk.new _ _ _, H.out.alloc _⟩, by omega, by omega, by omega, (((Upd.of_below HB.out : Upd [] w w1).step (Upd.of_below HB2.out : Upd [] _ _) (by simp)).alloc _).below⟩
  · go_enter Tryz.func142, Tryz.ntmps142
    go_wp2_with fail
    refine (sizes5_calls _).mono ?_
    rintro e w1 ⟨h, rfl, hB, hh, hb⟩
    have HB := Lib.hid hb
    have c1 : w1.cell? ⟨h, 1, none⟩ = some (.int .i64 4) := hB.int 1 (by decide)
    have HL := Lib.hid hB.lt
    clear hb hB
    go_wp2_with fail
    refine (bits_new_yes 16 _ (by omega)).mono ?_
    rintro e w2 ⟨p, g, rfl, ha, hp, hg, hb⟩
    have c2 := (hb.cell (p := ⟨h, 1, none⟩) HL.out).trans c1
    have HP := Lib.hid (And.intro hp hg)
    have HB2 := Lib.hid hb
    have H := Lib.hid ha
    clear ha hb c1 HL hp hg
    go_wp2_with fail
    go_ret2
    have h1 := HB.out.size
    have h2 := HB2.out.size
    have h3 := HP.out
    exact ⟨w2.heap.size, p, g, rfl, ⟨Blk.new _ _ _, H.out.alloc _⟩, by omega, by omega, by omega, (((Upd.of_below HB.out : Upd [] w w1).step (Upd.of_below HB2.out : Upd [] _ _) (by simp)).alloc _).below⟩
  · go_enter Tryz.func142, Tryz.ntmps142
    go_wp2_with fail
    refine (sizes5_calls _).mono ?_
    rintro e w1 ⟨h, rfl, hB, hh, hb⟩
    have HB := Lib.hid hb
    have c1 : w1.cell? ⟨h, 2, none⟩ = some (.int .i64 8) := hB.int 2 (by decide)
    have HL := Lib.hid hB.lt
    clear hb hB
    go_wp2_with fail
    refine (bits_new_yes 8 _ (by omega)).mono ?_
    rintro e w2 ⟨p, g, rfl, ha, hp, hg, hb⟩
    have c2 := (hb.cell (p := ⟨h, 2, none⟩) HL.out).trans c1
    have HP := Lib.hid (And.intro hp hg)
    have HB2 := Lib.hid hb
    have H := Lib.hid ha
    clear ha hb c1 HL hp hg
    go_wp2_with fail
    go_ret2
    have h1 := HB.out.size
    have h2 := HB2.out.size
    have h3 := HP.out
    exact ⟨w2.heap.size, p, g, rfl, ⟨Blk.new _ _ _, H.out.alloc _⟩, by omega, by omega, by omega, (((Upd.of_below HB.out : Upd [] w w1).step (Upd.of_below HB2.out : Upd [] _ _) (by simp)).alloc _).below⟩
  · go_enter Tryz.func142, Tryz.ntmps142
    go_wp2_with fail
    refine (sizes5_calls _).mono ?_
    rintro e w1 ⟨h, rfl, hB, hh, hb⟩
    have HB := Lib.hid hb
    have c1 : w1.cell? ⟨h, 3, none⟩ = some (.int .i64 16) := hB.int 3 (by decide)
    have HL := Lib.hid hB.lt
    clear hb hB
    go_wp2_with fail
    refine (bits_new_yes 4 _ (by omega)).mono ?_
    rintro e w2 ⟨p, g, rfl, ha, hp, hg, hb⟩
    have c2 := (hb.cell (p := ⟨h, 3, none⟩) HL.out).trans c1
    have HP := Lib.hid (And.intro hp hg)
    have HB2 := Lib.hid hb
    have H := Lib.hid ha
    clear ha hb c1 HL hp hg
    go_wp2_with fail
    go_ret2
    have h1 := HB.out.size
    have h2 := HB2.out.size
    have h3 := HP.out
    exact ⟨w2.heap.size, p, g, rfl, ⟨Blk.new _ _ _, H.out.alloc _⟩, by omega, by omega, by omega, (((Upd.of_below HB.out : Upd [] w w1).step (Upd.of_below HB2.out : Upd [] _ _) (by simp)).alloc _).below⟩
  · go_enter Tryz.func142, Tryz.ntmps142
    go_wp2_with fail
    refine (sizes5_calls _).mono ?_
    rintro e w1 ⟨h, rfl, hB, hh, hb⟩
    have HB := Lib.hid hb
    have c1 : w1.cell? ⟨h, 4, none⟩ = some (.int .i64 32) := hB.int 4 (by decide)
    have HL := Lib.hid hB.lt
    clear hb hB
    go_wp2_with fail
    refine (bits_new_yes 2 _ (by omega)).mono ?_
    rintro e w2 ⟨p, g, rfl, ha, hp, hg, hb⟩
    have c2 := (hb.cell (p := ⟨h, 4, none⟩) HL.out).trans c1
    have HP := Lib.hid (And.intro hp hg)
    have HB2 := Lib.hid hb
    have H := Lib.hid ha
    clear ha hb c1 HL hp hg
    go_wp2_with fail
    go_ret2
    have h1 := HB.out.size
    have h2 := HB2.out.size
    have h3 := HP.out
    exact ⟨w2.heap.size, p, g, rfl, ⟨Blk.new _ _ _, H.out.alloc _⟩, by omega, by omega, by omega, (((Upd.of_below HB.out : Upd [] w w1).step (Upd.of_below HB2.out : Upd [] _ _) (by simp)).alloc _).below⟩

theorem words_nil (w : World) : Calls Tryz.prog 91 #[.pointer none] w fun e w' => e = .returned (.int .i64 0) ∧ w = w' := by
  go_enter Tryz.func91, Tryz.ntmps91
  go_wp2_with fail
  go_ret
  exact ⟨rfl, rfl⟩
theorem words_any (q p g words : Nat) (l : List Bool) (w : World) (h : IsPage w q p g words l) : Calls Tryz.prog 91 #[.pointer (some ⟨q, 0, none⟩)] w fun e w' => e = .returned (.int .i64 words) ∧ w = w' := by
  have c1 : w.cell? ⟨q, 1, none⟩ = some (.int .i64 words) := h.1.cell 1
  clear h
  go_enter Tryz.func91, Tryz.ntmps91
  go_wp2_with fail
  go_ret
  exact ⟨rfl, rfl⟩
theorem full_nil (w : World) : Calls Tryz.prog 152 #[.pointer none] w fun e w' => e = .returned (.bool false) ∧ ∃ m, w' = w.drewN m := by
  go_enter Tryz.func152, Tryz.ntmps152
  go_wp2_with fail
  go_quiet (fail)
  go_wp2_with fail
  go_ret
  exact ⟨rfl, _, rfl⟩
theorem full_any (q p g words : Nat) (l : List Bool) (w : World) (h : IsPage w q p g words l) (hl : l.length ≤ 16384) : Calls Tryz.prog 152 #[.pointer (some ⟨q, 0, none⟩)] w fun e w' => e = .returned (.bool (decide (countB l = l.length))) ∧ ∃ m, w' = w.drewN m := by
  have c0 : w.cell? ⟨q, 0, none⟩ = some (.pointer (some ⟨p, 0, none⟩)) := h.1.cell 0
  have HQ : Hid (∀ n, IsBits (w.drewN n) p g l) := Lib.hid (fun n => h.2)
  have HL := Lib.hid hl
  clear h hl
  go_enter Tryz.func152, Tryz.ntmps152
  go_wp2_with fail
  go_quiet (first
    | (go_at_call 156; refine Calls.quiet_of_same ((count_any p g l _ (HQ.out _) HL.out).mono fun e w' h => ⟨h.1, h.2.symm⟩))
    | (go_at_call 109; refine Calls.quiet_of_same ((bits_size p g l _ (HQ.out _)).mono fun e w' h => ⟨h.1, h.2.symm⟩)))
  go_wp2_with fail
  go_ret
  have hb : (((countB l : Nat) : Int) == ((l.length : Nat) : Int)) = decide (countB l = l.length) := by
    by_cases h : countB l = l.length
    · simp [h]
    · have h2 : ¬ ((countB l : Nat) : Int) = ((l.length : Nat) : Int) := by omega
      simp [h, h2]
  exact ⟨congrArg (fun t => Ending.returned (Value.bool t)) hb, _, rfl⟩
theorem take_nil (w : World) : Calls Tryz.prog 124 #[.pointer none] w fun e w' => e = .returned (.tuple #[.int .i64 0, .int .i64 2]) ∧ w = w' := by
  go_enter Tryz.func124, Tryz.ntmps124
  go_wp2_with fail
  go_ret2
  exact ⟨rfl, rfl⟩
theorem take_no (q p g words : Nat) (l : List Bool) (w : World) (h : IsPage w q p g words l) (hl : l.length ≤ 16384) (hn : nextZ l false 0 = -1) :
    Calls Tryz.prog 124 #[.pointer (some ⟨q, 0, none⟩)] w fun e w' => e = .returned (.tuple #[.int .i64 0, .int .i64 3]) ∧ w = w' := by
  have c0 : w.cell? ⟨q, 0, none⟩ = some (.pointer (some ⟨p, 0, none⟩)) := h.1.cell 0
  have H := Lib.hid h.2
  have HL := Lib.hid hl
  have HN := Lib.hid hn
  clear h hl hn
  go_enter Tryz.func124, Tryz.ntmps124
  go_wp2_with fail
  have hq := next_any p g l 0 false _ H.out (by omega) HL.out
  rw [HN.out] at hq
  refine hq.mono ?_
  rintro e w' ⟨rfl, rfl⟩
  clear hq
  go_wp2_with fail
  go_ret2
  exact ⟨rfl, rfl⟩
theorem take_yes (q p g words : Nat) (l : List Bool) (i : Nat) (w : World) (h : IsPage w q p g words l) (hl : l.length ≤ 16384) (hn : nextZ l false 0 = i) :
    Calls Tryz.prog 124 #[.pointer (some ⟨q, 0, none⟩)] w fun e w' => e = .returned (.tuple #[.int .i64 i, .int .i64 0]) ∧ IsPage w' q p g words (l.set i true) ∧ Upd [g] w w' := by
  have c0 : w.cell? ⟨q, 0, none⟩ = some (.pointer (some ⟨p, 0, none⟩)) := h.1.cell 0
  have HI : Hid (i < l.length) := Lib.hid (by have := nextZ_range l false 0; omega)
  have hP := Lib.hid h
  have H := Lib.hid h.2
  have HL := Lib.hid hl
  have HN := Lib.hid hn
  clear h hl hn
  go_enter Tryz.func124, Tryz.ntmps124
  go_wp2_with fail
  have hq := next_any p g l 0 false _ H.out (by omega) HL.out
  rw [HN.out] at hq
  refine hq.mono ?_
  rintro e w' ⟨rfl, rfl⟩
  clear hq
  go_wp2_with fail
  refine (set_yes p g l true _ 1 [(i : Int)] _ (H.out.alloc _) (isInts_one w 3 (i : Int)) (by simp) (fun x hx => by rw [List.mem_singleton] at hx; subst hx; exact placeB_yes (by omega) (by have := HI.out; omega))).mono ?_
  rintro e w2 ⟨rfl, hset, hu⟩
  rw [setAll_one] at hset
  have HS := Lib.hid hset
  have HU : Hid (Upd [g] w w2) := Lib.hid (((Upd.refl [g] w).alloc _).trans hu)
  clear hset hu
  go_wp2_with fail
  go_ret2
  exact ⟨rfl, ⟨hP.out.1.upd HU.out (by simpa using hP.out.ne), HS.out⟩, HU.out⟩

end Go.Proofs.YtpkbdmieelgdlaaGreat
namespace Go.Proofs.YtpkbdmieelgdlaaGreat
open Go Go.RowKit

/-- Pages at block q, their bits at p and g. -/
def IsPages (w : World) (q p g : Nat) (l : List Bool) : Prop := Blk w q 180 #[.pointer (some ⟨p, 0, none⟩)] ∧ IsBits w p g l
section
variable {w w' : World} {q p g : Nat} {l : List Bool} {E : List Nat}
theorem IsPages.upd (h : IsPages w q p g l) (hu : Upd E w w') (hq : q ∉ E) (hp : p ∉ E) (hg : g ∉ E) : IsPages w' q p g l := ⟨h.1.upd hu hq, h.2.upd hu hp hg⟩
theorem IsPages.ne (h : IsPages w q p g l) : q ≠ g := h.1.ne_ h.2.2 (by decide)
end

def NewPages (n : Nat) (w : World) (e : Ending) (w' : World) : Prop := ∃ q p g, e = .returned (.tuple #[.pointer (some ⟨q, 0, none⟩), .int .i64 0]) ∧ IsPages w' q p g ((List.replicate n false).set 0 true) ∧
  w.heap.size ≤ q ∧ w.heap.size ≤ p ∧ w.heap.size ≤ g ∧ Below w.heap.size w w'

theorem pages_new_no (n : Int) (w : World) (h : n < 1 ∨ 256 < n) : Calls Tryz.prog 101 #[.int .i64 n] w fun e w' => e = .returned (.tuple #[.pointer none, .int .i64 1]) ∧ w = w' := by
  rcases h with h | h
  · go_enter Tryz.func101, Tryz.ntmps101
    go_wp2_with fail
    go_ret2
    exact ⟨rfl, rfl⟩
  · have h' : ¬ n < 1 := by omega
    go_enter Tryz.func101, Tryz.ntmps101
    go_wp2_with fail
    go_ret2
    exact ⟨rfl, rfl⟩

theorem pages_new_yes (n : Nat) (w : World) (h1 : 1 ≤ n) (h2 : n ≤ 256) : Calls Tryz.prog 101 #[.int .i64 n] w (NewPages n w) := by
  go_enter Tryz.func101, Tryz.ntmps101
  go_wp2_with fail
  refine (bits_new_yes n _ (by omega)).mono ?_
  rintro e w1 ⟨p, g, rfl, ha, hp, hg, hb⟩
  have H := Lib.hid ha
  have HB := Lib.hid hb
  have HP := Lib.hid (And.intro hp hg)
  clear ha hb hp hg
  go_wp2_with fail
  refine (set_yes p g (List.replicate n false) true _ 1 [((0 : Nat) : Int)] _ (H.out.alloc _) (isInts_one w1 3 ((0 : Nat) : Int)) (by simp) (fun x hx => by rw [List.mem_singleton] at hx; subst hx; exact placeB_yes (by omega) (by simp; omega))).mono ?_
  rintro e w2 ⟨rfl, hset, hu⟩
  rw [setAll_one] at hset
  have HS := Lib.hid hset
  have HU : Hid (Upd [] w w2) := Lib.hid (((Upd.of_below HB.out : Upd [] w w1).alloc _).step hu (by have := HP.out; simp; omega))
  clear hset hu
  go_wp2_with fail
  go_ret2
  have h3 := HP.out
  have h4 := HU.out.size
  exact ⟨w2.heap.size, p, g, rfl, ⟨Blk.new _ _ _, HS.out.alloc _⟩, by omega, by omega, by omega, (HU.out.alloc _).below⟩

theorem row_calls (a k : Nat) (w : World) (ha : a ≤ 65536) (hk : k ≤ 65536) : Calls Tryz.prog 140 #[.int .i64 a, .int .i64 k] w fun e w' => ∃ v, e = .returned v ∧ Own w' w.heap.size v (rowZ a k) ∧ Upd [] w w' := by
  go_enter Tryz.func140, Tryz.ntmps140
  go_wp2_with fail
  go_loopg [5, 8] k (fun gk v i wr => ∃ j : Nat, gk = k - j ∧ j ≤ k ∧ i = .int .i64 j ∧ Hid (Own wr w.heap.size v (rowZ a j)) ∧ Hid (Upd [] w wr))
  case atStart => exact ⟨0, rfl, by omega, rfl, Lib.hid (Own.nil _ _), Lib.hid (Upd.refl _ _)⟩
  case round =>
    obtain ⟨j, rfl, hj, rfl, HO, HU⟩ := hrel
    by_cases hlt : j < k
    · go_wp2_with (at_builtin; refine wpList_push w rfl _ _ rfl w.heap.size _ (rowZ a j) rfl (HO.out.alloc _) wr.heap.size ((a + j : Nat) : Int) rfl (Blk.new _ _ _) (by rw [rowZ_length]; omega) (Nat.le_refl _) (HU.out.alloc _) (by have := HU.out.size; simp; omega) ?_)
      intro v' w2 hO2 hU2 hS2
      have HO2 : Hid (Own w2 w.heap.size v' (rowZ a (j + 1))) := Lib.hid (by rw [rowZ_succ]; simpa using hO2)
      have HU2 := Lib.hid hU2
      clear hO2 hU2 hS2
      go_wp2_with fail
      go_roundg (k - (j + 1))
      case measure => omega
      case rel => exact ⟨j + 1, rfl, by omega, by go_num, HO2, HU2⟩
    · obtain rfl : j = k := by omega
      go_wp2_with fail
      go_ret
      exact ⟨_, rfl, HO.out, HU.out⟩

theorem ptake_nil (k : Int) (w : World) : Calls Tryz.prog 122 #[.pointer none, .int .i64 k] w fun e w' => e = .returned (.tuple #[.int .i64 0, .int .i64 2]) ∧ w = w' := by
  go_enter Tryz.func122, Tryz.ntmps122
  go_wp2_with fail
  go_ret2
  exact ⟨rfl, rfl⟩
theorem ptake_arg (q : Nat) (k : Int) (w : World) (hk : k < 1) : Calls Tryz.prog 122 #[.pointer (some ⟨q, 0, none⟩), .int .i64 k] w fun e w' => e = .returned (.tuple #[.int .i64 0, .int .i64 1]) ∧ w = w' := by
  go_enter Tryz.func122, Tryz.ntmps122
  go_wp2_with fail
  go_ret2
  exact ⟨rfl, rfl⟩
theorem ptake_no (q p g : Nat) (l : List Bool) (k : Int) (w : World) (h : IsPages w q p g l) (hl : l.length ≤ 256) (hk : 1 ≤ k) (BK : k ≤ 9223372036854775807) (hn : runZ l 0 k = -1) :
    Calls Tryz.prog 122 #[.pointer (some ⟨q, 0, none⟩), .int .i64 k] w fun e w' => e = .returned (.tuple #[.int .i64 0, .int .i64 3]) ∧ w = w' := by
  have c0 : w.cell? ⟨q, 0, none⟩ = some (.pointer (some ⟨p, 0, none⟩)) := h.1.cell 0
  have H := Lib.hid h.2
  have HL : Hid (l.length ≤ 16384) := Lib.hid (by omega)
  have HN := Lib.hid hn
  clear h hl hn
  go_enter Tryz.func122, Tryz.ntmps122
  go_wp2_with fail
  have hq := run_any p g l 0 k _ H.out (by omega) (by omega) HL.out
  rw [HN.out] at hq
  refine hq.mono ?_
  rintro e w' ⟨rfl, rfl⟩
  clear hq
  go_wp2_with fail
  go_ret2
  exact ⟨rfl, rfl⟩
theorem ptake_yes (q p g : Nat) (l : List Bool) (k a : Nat) (w : World) (h : IsPages w q p g l) (hl : l.length ≤ 256) (hk : 1 ≤ k) (hn : runZ l 0 k = a) :
    Calls Tryz.prog 122 #[.pointer (some ⟨q, 0, none⟩), .int .i64 k] w fun e w' => e = .returned (.tuple #[.int .i64 a, .int .i64 0]) ∧ IsPages w' q p g (span l true a k) ∧ Upd [g] w w' := by
  have c0 : w.cell? ⟨q, 0, none⟩ = some (.pointer (some ⟨p, 0, none⟩)) := h.1.cell 0
  obtain ⟨hak, _, _⟩ := run_free hk hn
  have hP := Lib.hid h
  have H := Lib.hid h.2
  have HL : Hid (l.length ≤ 16384) := Lib.hid (by omega)
  have HN := Lib.hid hn
  have hk9 : k ≤ 256 := by omega
  clear h hn
  go_enter Tryz.func122, Tryz.ntmps122
  go_wp2_with fail
  have hq := run_any p g l 0 k _ H.out (by omega) (by omega) HL.out
  rw [HN.out] at hq
  refine hq.mono ?_
  rintro e w' ⟨rfl, rfl⟩
  clear hq
  have hsp : ∀ x ∈ rowZ a k, placeB l x = true := fun x hx => by
    have := mem_rowZ hx
    exact placeB_yes this.1 (by omega)
  have HSP := Lib.hid hsp
  have HKL : Hid (a + k ≤ 65536) := Lib.hid (by omega)
  clear hsp
  go_upto_region 8 with fail
  go_region_held3 (fun w' => w'.cell? ⟨q, 0, none⟩ = some (.pointer (some ⟨p, 0, none⟩))) (first | exact c0 | exact e0 | exact f0)
    (first
      | (go_at_call 140; refine (row_calls a k _ (by have := HKL.out; omega) (by have := HKL.out; omega)).mono ?_; rintro e w2 ⟨v, rfl, ho, hu⟩
         obtain ⟨A, cap, hv, hI, _⟩ := ho.form
         rw [rowZ_length] at hv
         subst hv
         have e0 : w2.cell? ⟨q, 0, none⟩ = some (.pointer (some ⟨p, 0, none⟩)) := (hu.cell (p := ⟨q, 0, none⟩) hP.out.1.lt (by simp)).trans c0
         have HI := Lib.hid hI
         have HU2 : Hid (Upd [] w w2) := Lib.hid ((Upd.refl [] w).drew.trans hu)
         clear hI ho hu)
      | (go_at_call 115; have hs := set_yes p g l true A cap (rowZ a k) w2 (H.out.upd HU2.out (by simp) (by simp)) HI.out (by rw [rowZ_length]; have := HKL.out; omega) HSP.out
         rw [rowZ_length] at hs
         refine hs.mono ?_
         clear hs
         rintro e w3 ⟨rfl, hset, hu⟩
         have f0 : w3.cell? ⟨q, 0, none⟩ = some (.pointer (some ⟨p, 0, none⟩)) := (hu.cell (p := ⟨q, 0, none⟩) (Nat.lt_of_lt_of_le hP.out.1.lt HU2.out.size) (by simpa using hP.out.ne)).trans e0
         have HS := Lib.hid hset
         have HU3 : Hid (Upd [g] w w3) := Lib.hid ((HU2.out.mono (by simp)).trans hu)
         clear hset hu))
  go_wp2_with fail
  go_ret2
  exact ⟨rfl, ⟨hP.out.1.upd HU3.out (by simpa using hP.out.ne), HS.out⟩, HU3.out⟩

end Go.Proofs.YtpkbdmieelgdlaaGreat
namespace Go.Proofs.YtpkbdmieelgdlaaGreat
open Go Go.RowKit

def mayB (k c l : Int) (f : Bool) : Bool :=
  if l < 0 ∨ 1023 < l then false else if k = 1 then decide (1 ≤ c ∧ c ≤ 256) else if k = 2 ∨ k = 3 then decide (c = 0) else if k = 4 then decide (1 ≤ c ∧ c ≤ 3 ∧ l = 5) && !f else false

theorem may_cases (k c l : Int) (f : Bool) : (l < 0 ∧ mayB k c l f = false) ∨ (0 ≤ l ∧ 1023 < l ∧ mayB k c l f = false) ∨ (0 ≤ l ∧ l ≤ 1023 ∧
    ((k = 1 ∧ ((c < 1 ∧ mayB k c l f = false) ∨ (1 ≤ c ∧ 256 < c ∧ mayB k c l f = false) ∨ (1 ≤ c ∧ c ≤ 256 ∧ mayB k c l f = true))) ∨
     (k = 2 ∧ ((c < 0 ∧ mayB k c l f = false) ∨ (0 ≤ c ∧ 0 < c ∧ mayB k c l f = false) ∨ (c = 0 ∧ mayB k c l f = true))) ∨
     (k = 3 ∧ ((c < 0 ∧ mayB k c l f = false) ∨ (0 ≤ c ∧ 0 < c ∧ mayB k c l f = false) ∨ (c = 0 ∧ mayB k c l f = true))) ∨
     (k = 4 ∧ ((c < 1 ∧ mayB k c l f = false) ∨ (1 ≤ c ∧ 3 < c ∧ mayB k c l f = false) ∨ (1 ≤ c ∧ c ≤ 3 ∧ l ≠ 5 ∧ mayB k c l f = false) ∨
        (1 ≤ c ∧ c ≤ 3 ∧ l = 5 ∧ f = true ∧ mayB k c l f = false) ∨ (1 ≤ c ∧ c ≤ 3 ∧ l = 5 ∧ f = false ∧ mayB k c l f = true))) ∨
     (k ≠ 1 ∧ k ≠ 2 ∧ k ≠ 3 ∧ k ≠ 4 ∧ mayB k c l f = false))) := by
  unfold mayB
  by_cases h1 : l < 0
  · exact .inl ⟨h1, if_pos (.inl h1)⟩
  by_cases h2 : 1023 < l
  · exact .inr (.inl ⟨by omega, h2, if_pos (.inr h2)⟩)
  refine .inr (.inr ⟨by omega, by omega, ?_⟩)
  rw [if_neg (by omega)]
  by_cases k1 : k = 1
  · refine .inl ⟨k1, ?_⟩
    rw [if_pos k1]
    simp only [decide_eq_false_iff_not, decide_eq_true_eq]
    omega
  by_cases k2 : k = 2
  · refine .inr (.inl ⟨k2, ?_⟩)
    rw [if_neg k1, if_pos (.inl k2)]
    simp only [decide_eq_false_iff_not, decide_eq_true_eq]
    omega
  by_cases k3 : k = 3
  · refine .inr (.inr (.inl ⟨k3, ?_⟩))
    rw [if_neg k1, if_pos (.inr k3)]
    simp only [decide_eq_false_iff_not, decide_eq_true_eq]
    omega
  by_cases k4 : k = 4
  · refine .inr (.inr (.inr (.inl ⟨k4, ?_⟩)))
    rw [if_neg k1, if_neg (by omega), if_pos k4]
    cases f <;> simp <;> omega
  · refine .inr (.inr (.inr (.inr ⟨k1, k2, k3, k4, ?_⟩)))
    rw [if_neg k1, if_neg (by omega), if_neg k4]

set_option maxRecDepth 100000 in
set_option maxHeartbeats 6400000 in
theorem mayhead_walk (k c l : Int) (f : Bool) (w : World) : Calls Tryz.prog 83 #[.agg #[.int .i64 k, .int .i64 c, .int .i64 l, .bool f]] w fun e w' => e = .returned (.bool (mayB k c l f)) ∧ Below w.heap.size w w' := by
  have hm := may_cases k c l f
  generalize mayB k c l f = r at *
  have key : ∀ w' : World, w' = w.alloc (.cells #[.int .i64 k, .int .i64 c, .int .i64 l, .bool f] 37) → Below w.heap.size w w' := fun w' h => by rw [h]; exact (Below.refl _ _).alloc (Nat.le_refl _) _
  have HK := Lib.hid key
  clear key
  rcases hm with ⟨h1, rfl⟩ | ⟨h1, h2, rfl⟩ | ⟨h1, h2, ⟨rfl, ⟨h3, rfl⟩ | ⟨h3, h4, rfl⟩ | ⟨h3, h4, rfl⟩⟩ | ⟨rfl, ⟨h3, rfl⟩ | ⟨h3, h4, rfl⟩ | ⟨rfl, rfl⟩⟩ | ⟨rfl, ⟨h3, rfl⟩ | ⟨h3, h4, rfl⟩ | ⟨rfl, rfl⟩⟩ |
      ⟨rfl, ⟨h3, rfl⟩ | ⟨h3, h4, rfl⟩ | ⟨h3, h4, h5, rfl⟩ | ⟨h3, h4, rfl, rfl, rfl⟩ | ⟨h3, h4, rfl, rfl, rfl⟩⟩ | ⟨h3, h4, h5, h6, rfl⟩⟩
  all_goals
    go_enter Tryz.func83, Tryz.ntmps83
    go_wp2_with fail
    go_ret
    first | exact ⟨rfl, HK.out _ rfl⟩ | (refine ⟨?_, HK.out _ rfl⟩; simp; done) | (refine ⟨?_, HK.out _ rfl⟩; simp; omega)
end Go.Proofs.YtpkbdmieelgdlaaGreat
namespace Go.Proofs.YtpkbdmieelgdlaaGreat
open Go Go.RowKit

theorem in2_walk (n lo hi : Int) (g : Nat) (w : World) (hB : Blk w g 3 #[.int .i64 lo, .int .i64 hi]) :
    Calls Tryz.prog 116 #[.int .i64 n, .slice (some ⟨g, 0, none⟩) 2 2] w fun e w' => e = .returned (.bool (decide (lo ≤ n ∧ n ≤ hi))) ∧ w' = w := by
  have c0 : w.cell? ⟨g, 0, none⟩ = some (.int .i64 lo) := hB.cell 0
  have c1 : w.cell? ⟨g, 1, none⟩ = some (.int .i64 hi) := hB.cell 1
  clear hB
  rcases (show (n < lo ∧ decide (lo ≤ n ∧ n ≤ hi) = false) ∨ (lo ≤ n ∧ hi < n ∧ decide (lo ≤ n ∧ n ≤ hi) = false) ∨ (lo ≤ n ∧ n ≤ hi ∧ decide (lo ≤ n ∧ n ≤ hi) = true) by simp only [decide_eq_false_iff_not, decide_eq_true_eq]; omega) with ⟨h1, hr⟩ | ⟨h1, h2, hr⟩ | ⟨h1, h2, hr⟩
  all_goals
    rw [hr]
    clear hr
    go_enter Tryz.func116, Tryz.ntmps116
    go_wp2_with fail
    go_loopg [5] 2 (fun gk i wr => ∃ j : Nat, gk = 2 - j ∧ (j = 0 ∨ j = 2 ∧ ¬ (lo ≤ n ∧ n ≤ hi)) ∧ i = .int .i64 j ∧ w = wr)
    case atStart => exact ⟨0, rfl, .inl rfl, rfl, rfl⟩
    case round =>
      obtain ⟨j, rfl, hj, rfl, rfl⟩ := hrel
      rcases hj with rfl | ⟨rfl, hnot⟩
      · go_wp2_with fail
        first
          | (go_ret; exact ⟨rfl, rfl⟩)
          | (go_roundg 0
             case measure => omega
             case rel => exact ⟨2, rfl, .inr ⟨rfl, by omega⟩, rfl, rfl⟩)
      · first
          | (exfalso; omega)
          | (go_wp2_with fail
             go_ret
             exact ⟨rfl, rfl⟩)

set_option maxRecDepth 100000 in
set_option maxHeartbeats 3200000 in
theorem may_walk (k c l : Int) (f : Bool) (w : World) : Calls Tryz.prog 102 #[.agg #[.int .i64 k, .int .i64 c, .int .i64 l, .bool f]] w fun e w' => e = .returned (.bool (mayB k c l f)) ∧ Below w.heap.size w w' := by
  have hm := may_cases k c l f
  generalize mayB k c l f = r at *
  rcases hm with ⟨h1, rfl⟩ | ⟨h1, h2, rfl⟩ | ⟨h1, h2, hm⟩
  · have hr1 : decide (0 ≤ l ∧ l ≤ 1023) = false := by simp only [decide_eq_false_iff_not]; omega
    go_enter Tryz.func102, Tryz.ntmps102
    go_wp2_with fail
    refine (in2_walk _ _ _ _ _ (Blk.newAt _ _ _ _ (by simp))).mono ?_
    rintro e w1 ⟨rfl, rfl⟩
    rw [hr1]
    clear hr1
    go_wp2_with fail
    go_ret
    exact ⟨rfl, (((Upd.refl [] w).alloc _).alloc _).below⟩
  · have hr1 : decide (0 ≤ l ∧ l ≤ 1023) = false := by simp only [decide_eq_false_iff_not]; omega
    go_enter Tryz.func102, Tryz.ntmps102
    go_wp2_with fail
    refine (in2_walk _ _ _ _ _ (Blk.newAt _ _ _ _ (by simp))).mono ?_
    rintro e w1 ⟨rfl, rfl⟩
    rw [hr1]
    clear hr1
    go_wp2_with fail
    go_ret
    exact ⟨rfl, (((Upd.refl [] w).alloc _).alloc _).below⟩
  · have hr1 : decide (0 ≤ l ∧ l ≤ 1023) = true := by simp only [decide_eq_true_eq]; omega
    go_enter Tryz.func102, Tryz.ntmps102
    go_wp2_with fail
    refine (in2_walk _ _ _ _ _ (Blk.newAt _ _ _ _ (by simp))).mono ?_
    rintro e w1 ⟨rfl, rfl⟩
    rw [hr1]
    clear hr1
    rcases hm with ⟨rfl, hc⟩ | ⟨rfl, hc⟩ | ⟨rfl, hc⟩ | ⟨rfl, hc⟩ | ⟨h3, h4, h5, h6, rfl⟩
    · have hr : decide (1 ≤ c ∧ c ≤ 256) = r := by
        rcases hc with ⟨h3, rfl⟩ | ⟨h3, h4, rfl⟩ | ⟨h3, h4, rfl⟩ <;> simp <;> omega
      clear hc
      go_wp2_with fail
      refine (in2_walk _ _ _ _ _ (Blk.newAt _ _ _ _ (by simp))).mono ?_
      rintro e w1 ⟨rfl, rfl⟩
      rw [hr]
      clear hr
      go_wp2_with fail
      go_ret
      exact ⟨rfl, ((((Upd.refl [] w).alloc _).alloc _).alloc _).below⟩
    · have hr : decide (0 ≤ c ∧ c ≤ 0) = r := by
        rcases hc with ⟨h3, rfl⟩ | ⟨h3, h4, rfl⟩ | ⟨h3, rfl⟩ <;> simp <;> omega
      clear hc
      go_wp2_with fail
      refine (in2_walk _ _ _ _ _ (Blk.newAt _ _ _ _ (by simp))).mono ?_
      rintro e w1 ⟨rfl, rfl⟩
      rw [hr]
      clear hr
      go_wp2_with fail
      go_ret
      exact ⟨rfl, ((((Upd.refl [] w).alloc _).alloc _).alloc _).below⟩
    · have hr : decide (0 ≤ c ∧ c ≤ 0) = r := by
        rcases hc with ⟨h3, rfl⟩ | ⟨h3, h4, rfl⟩ | ⟨h3, rfl⟩ <;> simp <;> omega
      clear hc
      go_wp2_with fail
      refine (in2_walk _ _ _ _ _ (Blk.newAt _ _ _ _ (by simp))).mono ?_
      rintro e w1 ⟨rfl, rfl⟩
      rw [hr]
      clear hr
      go_wp2_with fail
      go_ret
      exact ⟨rfl, ((((Upd.refl [] w).alloc _).alloc _).alloc _).below⟩
    · have hr : (decide (1 ≤ c ∧ c ≤ 3) = false ∧ r = false) ∨ (decide (1 ≤ c ∧ c ≤ 3) = true ∧ l ≠ 5 ∧ r = false) ∨ (decide (1 ≤ c ∧ c ≤ 3) = true ∧ l = 5 ∧ r = !f) := by
        simp only [decide_eq_false_iff_not, decide_eq_true_eq]
        rcases hc with ⟨h3, rfl⟩ | ⟨h3, h4, rfl⟩ | ⟨h3, h4, h5, rfl⟩ | ⟨h3, h4, rfl, rfl, rfl⟩ | ⟨h3, h4, rfl, rfl, rfl⟩
        · exact .inl ⟨by omega, rfl⟩
        · exact .inl ⟨by omega, rfl⟩
        · exact .inr (.inl ⟨by omega, h5, rfl⟩)
        · exact .inr (.inr ⟨by omega, rfl, rfl⟩)
        · exact .inr (.inr ⟨by omega, rfl, rfl⟩)
      clear hc
      go_wp2_with fail
      refine (in2_walk _ _ _ _ _ (Blk.newAt _ _ _ _ (by simp))).mono ?_
      rintro e w1 ⟨rfl, rfl⟩
      rcases hr with ⟨hr, rfl⟩ | ⟨hr, h5, rfl⟩ | ⟨hr, rfl, rfl⟩
      all_goals
        rw [hr]
        clear hr
        go_wp2_with fail
        go_ret
        refine ⟨?_, ((((Upd.refl [] w).alloc _).alloc _).alloc _).below⟩
        first | rfl | (cases f <;> rfl) | (simp; done) | (simp; omega)
    · go_wp2_with fail
      go_ret
      exact ⟨rfl, (((Upd.refl [] w).alloc _).alloc _).below⟩
end Go.Proofs.YtpkbdmieelgdlaaGreat
