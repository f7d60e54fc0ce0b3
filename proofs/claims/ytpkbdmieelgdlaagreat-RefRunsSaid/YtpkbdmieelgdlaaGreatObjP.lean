/- Heaps of objects: what a heap is in memory, and the contracts of its calls. -/
import Derived.Test.YtpkbdmieelgdlaaGreatHeads3
import Derived.Test.YtpkbdmieelgdlaaGreatP2
import Derived.Test.YtpkbdmieelgdlaaGreatStep
namespace Go.Proofs.YtpkbdmieelgdlaaGreat
open Go Go.RowKit

/-- What a block's making does to the pages, and where the block is: by the pages alone. -/
def allocP (pg : List Pst) (m : Int) : List Pst × Int := (((Sp.mk [] pg).alloc m).1.pg, ((Sp.mk [] pg).alloc m).2.1)
theorem alloc_any (S : Sp) (m : Int) : allocP S.pg m = ((S.alloc m).1.pg, (S.alloc m).2.1) := by
  unfold allocP Sp.alloc
  (repeat' split) <;> rfl
def OwnsH (h t s : Nat) (L : Lay) (S : Sp) (k : Nat) : Prop := k = h ∨ k = t ∨ Owns s L S k
structure HeapL (w : World) (h t s : Nat) (L : Lay) (S : Sp) (l : List Int) (F : Int → Ob) : Prop where
  box : Blk w h 109 #[.pointer (some ⟨s, 0, none⟩), .pointer (some ⟨t, 0, none⟩)]
  tab : Blk w t 162 #[.slice none 0 0]
  space : IsSpace w s L S
  objs : Objs S l F
  sep : ∀ k, Owns s L S k → k ≠ h ∧ k ≠ t
/-- A heap of np pages: at the places of l are the objects that F tells; its blocks are O. -/
def HeapO (w : World) (h : Nat) (np : List Pst) (l : List Int) (F : Int → Ob) (O : Nat → Prop) : Prop := ∃ t s L S, HeapL w h t s L S l F ∧ S.pg = np ∧ O = OwnsH h t s L S

section
variable {w w' : World} {h t s : Nat} {np : List Pst} {L : Lay} {S S' : Sp} {l l' : List Int} {F F' : Int → Ob} {O : Nat → Prop} {E : List Nat}
theorem HeapL.owned (H : HeapL w h t s L S l F) {k : Nat} (hk : OwnsH h t s L S k) : k < w.heap.size := by
  rcases hk with rfl | rfl | hk
  · exact H.box.lt
  · exact H.tab.lt
  · exact H.space.owned hk
theorem HeapO.owned (H : HeapO w h np l F O) {k : Nat} (hk : O k) : k < w.heap.size := by obtain ⟨t, s, L, S, H, _, rfl⟩ := H; exact H.owned hk
theorem HeapL.moved (H : HeapL w h t s L S l F) (hb : ∀ k, OwnsH h t s L S k → w'.heap[k]? = w.heap[k]?) : HeapL w' h t s L S l F :=
  ⟨H.box.moved (hb _ (.inl rfl)), H.tab.moved (hb _ (.inr (.inl rfl))), H.space.moved fun k hk => hb k (.inr (.inr hk)), H.objs, H.sep⟩
theorem HeapO.moved (H : HeapO w h np l F O) (hb : ∀ k, O k → w'.heap[k]? = w.heap[k]?) : HeapO w' h np l F O := by
  obtain ⟨t, s, L, S, H, hn, rfl⟩ := H
  exact ⟨t, s, L, S, H.moved hb, hn, rfl⟩
theorem HeapO.upd (H : HeapO w h np l F O) (hu : Upd E w w') (hE : ∀ k ∈ E, ¬ O k) : HeapO w' h np l F O := H.moved fun k hk => hu.block k (H.owned hk) fun hm => hE k hm hk
theorem HeapO.upd0 (H : HeapO w h np l F O) (hu : Upd [] w w') : HeapO w' h np l F O := H.upd hu (by simp)
theorem HeapL.upd0 (H : HeapL w h t s L S l F) (hu : Upd [] w w') : HeapL w' h t s L S l F := H.moved fun k hk => hu.block k (H.owned hk) (by simp)
theorem HeapO.drewN (H : HeapO w h np l F O) (n : Nat) : HeapO (w.drewN n) h np l F O := H.upd0 ((Upd.refl [] w).drewN n)
theorem HeapO.alloc (H : HeapO w h np l F O) (o : Obj) : HeapO (w.alloc o) h np l F O := H.upd0 ((Upd.refl [] w).alloc o)
theorem HeapL.cells (H : HeapL w h t s L S l F) : w.cell? ⟨h, 0, none⟩ = some (.pointer (some ⟨s, 0, none⟩)) ∧ w.cell? ⟨h, 1, none⟩ = some (.pointer (some ⟨t, 0, none⟩)) ∧ w.cell? ⟨s, 0, none⟩ = some (.pointer (some ⟨L.pa, 0, none⟩)) ∧ w.cell? ⟨s, 1, none⟩ = some (.pointer (some ⟨L.q0, 0, none⟩)) :=
  ⟨H.box.cell 0, H.box.cell 1, H.space.box.cell 0, H.space.box.cell 1⟩
/-- What the space has done the heap has done. -/
theorem HeapL.after (H : HeapL w h t s L S l F) (ha : After s L S S' w w') (ho : Objs S' l' F') : ∃ L', HeapL w' h t s L' S' l' F' ∧ StepO (OwnsH h t s L S) w (OwnsH h t s L' S') w' := by
  obtain ⟨L', h1, h2, h3, h4⟩ := ha
  have hz := h2.size
  have hh := H.box.lt
  have ht := H.tab.lt
  refine ⟨L', ⟨H.box.upd h2 fun hm => (H.sep _ (foot_owns hm)).1 rfl, H.tab.upd h2 fun hm => (H.sep _ (foot_owns hm)).2 rfl, h1, ho, fun k hk => ?_⟩, h2.os, h2.tape, h2.output, h2.size, fun k hk hn => h2.block k hk fun hm => hn (.inr (.inr (foot_owns hm))), fun k hk => ?_⟩
  · rcases h4 k hk with e | e
    · exact H.sep k e
    · exact ⟨by omega, by omega⟩
  · rcases hk with hk | hk | hk
    · exact .inl (.inl hk)
    · exact .inl (.inr (.inl hk))
    · rcases h4 k hk with e | e
      · exact .inl (.inr (.inr e))
      · exact .inr e
end

theorem class_new (w : World) : Calls Tryz.prog 78 #[] w fun e w' => e = .returned (.pointer (some ⟨w.heap.size, 0, none⟩)) ∧ w' = w.alloc (.cells #[.slice none 0 0] 162) := by
  go_enter Tryz.func78, Tryz.ntmps78
  go_wp2_with fail
  go_ret
  exact ⟨rfl, rfl⟩

def F00 : Int → Ob := fun _ => ⟨0, 0, false, []⟩
theorem heap_new (n : Nat) (w : World) (h1 : 1 ≤ n) (h2 : n ≤ 256) : Calls Tryz.prog 48 #[.int .i64 n] w fun e w' =>
    ∃ h O, e = .returned (.tuple #[.pointer (some ⟨h, 0, none⟩), .int .i64 0]) ∧ HeapO w' h (newSp n).pg [] F00 O ∧ (∀ k, O k → w.heap.size ≤ k) ∧ Upd [] w w' := by
  go_enter Tryz.func48, Tryz.ntmps48
  go_wp2_with fail
  refine (space_new_yes n _ h1 h2).mono ?_
  rintro e w1 ⟨s, L, rfl, hS, hO, hu⟩
  have HS := Lib.hid hS
  have HO := Lib.hid hO
  have HU := Lib.hid hu
  clear hS hO hu
  go_wp2_with fail
  refine (class_new _).mono ?_
  rintro e w2 ⟨rfl, rfl⟩
  go_wp2_with fail
  go_ret2
  have hsz := HU.out.size
  have hu2 : Upd [] w1 ((w1.alloc (.cells #[.slice none 0 0] 162)).alloc (.cells #[.pointer (some ⟨s, 0, none⟩), .pointer (some ⟨w1.heap.size, 0, none⟩)] 109)) := ((Upd.refl [] w1).alloc _).alloc _
  refine ⟨w1.heap.size + 1, OwnsH (w1.heap.size + 1) w1.heap.size s L (newSp n), by simp, ⟨w1.heap.size, s, L, newSp n, ⟨Blk.newAt _ _ _ _ (by simp), (Blk.new w1 _ _).alloc _, HS.out.upd0 hu2, Objs.new h1 _, fun k hk => ?_⟩, rfl, rfl⟩, fun k hk => ?_, HU.out.trans hu2⟩
  · have := HS.out.owned hk
    exact ⟨by omega, by omega⟩
  · rcases hk with rfl | rfl | hk
    · omega
    · exact hsz
    · exact HO.out k hk

section
variable {O : Nat → Prop} {l : List Int} {F : Int → Ob}
theorem whole_yes (h : Nat) (np : List Pst) (w : World) (H : HeapO w h np l F O) : Calls Tryz.prog 49 #[.pointer (some ⟨h, 0, none⟩)] w fun e w' => e = .returned (.bool true) ∧ Upd [] w w' := by
  obtain ⟨t, s, L, S, H, _, rfl⟩ := H
  obtain ⟨c0, c1, c2, c3⟩ := H.cells
  clear H
  go_enter Tryz.func49, Tryz.ntmps49
  go_wp2_with fail
  go_ret
  exact ⟨rfl, Upd.refl _ _⟩

theorem heap_may (h : Nat) (k c n : Int) (w : World) (hm : mayB k c n false = true) (hk : k ≠ 1) : Calls Tryz.prog 79 #[.pointer (some ⟨h, 0, none⟩), .agg #[.int .i64 k, .int .i64 c, .int .i64 n, .bool false]] w fun e w' => e = .returned (.int .i64 0) ∧ Upd [] w w' := by
  have HM := Lib.hid hm
  clear hm
  go_enter Tryz.func79, Tryz.ntmps79
  go_wp2_with fail
  have hq := fun W => may_walk k c n false W
  rw [HM.out] at hq
  refine (hq _).mono ?_
  clear hq
  rintro e w1 ⟨rfl, hb⟩
  obtain ⟨x0, x1, x2, x3⟩ := head_cells ((Blk.new w 37 #[.int .i64 k, .int .i64 c, .int .i64 n, .bool false]).below hb (by simp))
  have HB := Lib.hid hb
  clear hb
  go_wp2_with fail
  go_ret
  exact ⟨rfl, ((Upd.refl [] w).alloc _).trans (Upd.of_below HB.out)⟩
end
end Go.Proofs.YtpkbdmieelgdlaaGreat
