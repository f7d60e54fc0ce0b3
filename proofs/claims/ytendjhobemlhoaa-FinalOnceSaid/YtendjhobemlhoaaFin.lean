/- Finalizers: what they are in memory; the library's Index, Delete and Clone over a slice of one's own. -/
import Derived.Test.YtendjhobemlhoaaP3
import Derived.Test.YtendjhobemlhoaaFShelf
import Derived.Lib.OwnBridge
namespace Go.Proofs.Ytendjhobemlhoaa
open Go Go.RowKit

/-- Finalizers over a heap: those that wait, those that are pending. -/
structure FinL (w : World) (f h np : Nat) (vw vp : Value) (l : List Int) (F : Int → Ob) (ws ps : List Int) (Oh : Nat → Prop) : Prop where
  heap : HeapO w h np l F Oh
  box : Blk w f 82 #[.pointer (some ⟨h, 0, none⟩), vw, vp]
  waits : Own w 0 vw ws
  pends : Own w 0 vp ps
  apart : Apart vw vp
  neW : vw.ownBlock ≠ some f
  neP : vp.ownBlock ≠ some f
  sf : ¬ Oh f
  sw : ∀ g, vw.ownBlock = some g → ¬ Oh g
  sp : ∀ g, vp.ownBlock = some g → ¬ Oh g
def OwnsF (f : Nat) (vw vp : Value) (Oh : Nat → Prop) (k : Nat) : Prop := Oh k ∨ k = f ∨ vw.ownBlock = some k ∨ vp.ownBlock = some k
def FinO (w : World) (f h np : Nat) (l : List Int) (F : Int → Ob) (ws ps : List Int) (O : Nat → Prop) : Prop := ∃ vw vp Oh, FinL w f h np vw vp l F ws ps Oh ∧ O = OwnsF f vw vp Oh
section
variable {w w' w1 : World} {f h np : Nat} {vw vp v' : Value} {l l' : List Int} {F F' : Int → Ob} {ws ps ys : List Int} {O Oh Oh' : Nat → Prop} {E : List Nat}
theorem FinL.owned (H : FinL w f h np vw vp l F ws ps Oh) {k : Nat} (hk : OwnsF f vw vp Oh k) : k < w.heap.size := by
  rcases hk with hk | rfl | hk | hk
  · exact H.heap.owned hk
  · exact H.box.lt
  · exact (World.ownsRow.lt H.waits k hk).2
  · exact (World.ownsRow.lt H.pends k hk).2
theorem FinO.owned (H : FinO w f h np l F ws ps O) {k : Nat} (hk : O k) : k < w.heap.size := by obtain ⟨vw, vp, Oh, H, rfl⟩ := H; exact H.owned hk
theorem FinL.moved (H : FinL w f h np vw vp l F ws ps Oh) (hb : ∀ k, OwnsF f vw vp Oh k → w'.heap[k]? = w.heap[k]?) : FinL w' f h np vw vp l F ws ps Oh :=
  ⟨H.heap.moved fun k hk => hb k (.inl hk), H.box.moved (hb _ (.inr (.inl rfl))), H.waits.moved fun g hg => hb g (.inr (.inr (.inl hg))), H.pends.moved fun g hg => hb g (.inr (.inr (.inr hg))), H.apart, H.neW, H.neP, H.sf, H.sw, H.sp⟩
theorem FinO.moved (H : FinO w f h np l F ws ps O) (hb : ∀ k, O k → w'.heap[k]? = w.heap[k]?) : FinO w' f h np l F ws ps O := by obtain ⟨vw, vp, Oh, H, rfl⟩ := H; exact ⟨vw, vp, Oh, H.moved hb, rfl⟩
theorem FinO.upd (H : FinO w f h np l F ws ps O) (hu : Upd E w w') (hE : ∀ k ∈ E, ¬ O k) : FinO w' f h np l F ws ps O := H.moved fun k hk => hu.block k (H.owned hk) fun hm => hE k hm hk
theorem FinO.upd0 (H : FinO w f h np l F ws ps O) (hu : Upd [] w w') : FinO w' f h np l F ws ps O := H.upd hu (by simp)
theorem FinL.upd0 (H : FinL w f h np vw vp l F ws ps Oh) (hu : Upd [] w w') : FinL w' f h np vw vp l F ws ps Oh := H.moved fun k hk => hu.block k (H.owned hk) (by simp)
theorem FinL.cells (H : FinL w f h np vw vp l F ws ps Oh) : w.cell? ⟨f, 0, none⟩ = some (.pointer (some ⟨h, 0, none⟩)) ∧ w.cell? ⟨f, 1, none⟩ = some vw ∧ w.cell? ⟨f, 2, none⟩ = some vp ∧ w.frozen? ⟨f, 1, none⟩ = false ∧ w.frozen? ⟨f, 2, none⟩ = false :=
  ⟨H.box.cell 0, H.box.cell 1, H.box.cell 2, H.box.frozen 1, H.box.frozen 2⟩
theorem FinO.heap (H : FinO w f h np l F ws ps O) : ∃ Oh, HeapO w h np l F Oh := by obtain ⟨vw, vp, Oh, H, rfl⟩ := H; exact ⟨Oh, H.heap⟩
/-- What the heap has done the finalizers have done. -/
theorem FinL.heaped (H : FinL w f h np vw vp l F ws ps Oh) (hh : HeapO w' h np l' F' Oh') (hs : StepO Oh w Oh' w') : FinL w' f h np vw vp l' F' ws ps Oh' := by
  have hno : ∀ g, g < w.heap.size → ¬ Oh g → ¬ Oh' g := fun g hg hn hx => by
    rcases hs.own g hx with h1 | h1
    · exact hn h1
    · omega
  exact ⟨hh, H.box.moved (hs.block f H.box.lt H.sf), H.waits.moved fun g hg => hs.block g (World.ownsRow.lt H.waits g hg).2 (H.sw g hg), H.pends.moved fun g hg => hs.block g (World.ownsRow.lt H.pends g hg).2 (H.sp g hg), H.apart, H.neW, H.neP,
    hno f H.box.lt H.sf, fun g hg => hno g (World.ownsRow.lt H.waits g hg).2 (H.sw g hg), fun g hg => hno g (World.ownsRow.lt H.pends g hg).2 (H.sp g hg)⟩
theorem StepO.finals {f : Nat} {vw vp : Value} (h : StepO Oh w Oh' w') : StepO (OwnsF f vw vp Oh) w (OwnsF f vw vp Oh') w' := h.wide (P := fun k => k = f ∨ vw.ownBlock = some k ∨ vp.ownBlock = some k)
/-- Those that wait are others. -/
theorem FinL.setW (H : FinL w f h np vw vp l F ws ps Oh) (ho : Own w1 0 v' ys) (hu : Upd E w w1) (hE : ∀ i ∈ E, vw.ownBlock = some i) (hv : ∀ g, v'.ownBlock = some g → vw.ownBlock = some g ∨ w.heap.size ≤ g) :
    FinL (w1.setCell ⟨f, 1, none⟩ v') f h np v' vp l F ys ps Oh ∧ StepO (OwnsF f vw vp Oh) w (OwnsF f v' vp Oh) (w1.setCell ⟨f, 1, none⟩ v') ∧ w1.cell? ⟨f, 1, none⟩ = some vw ∧ w1.frozen? ⟨f, 1, none⟩ = false ∧ (w1.setCell ⟨f, 1, none⟩ v').cell? ⟨f, 2, none⟩ = some vp ∧ (w1.setCell ⟨f, 1, none⟩ v').frozen? ⟨f, 2, none⟩ = false := by
  have hf := H.box.lt
  have hb : ∀ k, k < w.heap.size → vw.ownBlock ≠ some k → w1.heap[k]? = w.heap[k]? := fun k hk hn => hu.block k hk fun hm => hn (hE k hm)
  have hs : ∀ k, k ≠ f → (w1.setCell ⟨f, 1, none⟩ v').heap[k]? = w1.heap[k]? := fun k hk => Below.heap_setCell _ _ _ _ hk
  have hbx : Blk w1 f 82 #[.pointer (some ⟨h, 0, none⟩), vw, vp] := H.box.moved (hb f hf H.neW)
  have hbx2 : Blk (w1.setCell ⟨f, 1, none⟩ v') f 82 #[.pointer (some ⟨h, 0, none⟩), v', vp] := hbx.set_ 1 v'
  have hnf : v'.ownBlock ≠ some f := fun e => by
    rcases hv f e with h1 | h1
    · exact H.neW h1
    · omega
  have hsw : ∀ g, v'.ownBlock = some g → ¬ Oh g := fun g hg hx => by
    rcases hv g hg with h1 | h1
    · exact H.sw g h1 hx
    · have := H.heap.owned hx; omega
  refine ⟨⟨H.heap.moved fun k hk => (hs k fun e => H.sf (e ▸ hk)).trans (hb k (H.heap.owned hk) fun e => H.sw k e hk), hbx2, ho.moved fun g hg => hs g fun e => hnf (e ▸ hg), H.pends.moved fun g hg => (hs g fun e => H.neP (e ▸ hg)).trans (hb g (World.ownsRow.lt H.pends g hg).2 fun e => H.apart g e hg), fun b h1 h2 => ?_, hnf, H.neP, H.sf, hsw, H.sp⟩,
    ⟨hu.os, hu.tape, hu.output, by simpa [World.setCell] using hu.size, fun k hk hn => (hs k fun e => hn (.inr (.inl e))).trans (hb k hk fun e => hn (.inr (.inr (.inl e)))), fun k hk => ?_⟩, hbx.cell 1, hbx.frozen 1, hbx2.cell 2, hbx2.frozen 2⟩
  · rcases hv b h1 with h3 | h3
    · exact H.apart b h3 h2
    · have := (World.ownsRow.lt H.pends b h2).2; omega
  · rcases hk with hk | hk | hk | hk
    · exact .inl (.inl hk)
    · exact .inl (.inr (.inl hk))
    · rcases hv k hk with h1 | h1
      · exact .inl (.inr (.inr (.inl h1)))
      · exact .inr h1
    · exact .inl (.inr (.inr (.inr hk)))
/-- Those that are pending are others. -/
theorem FinL.setP (H : FinL w f h np vw vp l F ws ps Oh) (ho : Own w1 0 v' ys) (hu : Upd E w w1) (hE : ∀ i ∈ E, vp.ownBlock = some i) (hv : ∀ g, v'.ownBlock = some g → vp.ownBlock = some g ∨ w.heap.size ≤ g) :
    FinL (w1.setCell ⟨f, 2, none⟩ v') f h np vw v' l F ws ys Oh ∧ StepO (OwnsF f vw vp Oh) w (OwnsF f vw v' Oh) (w1.setCell ⟨f, 2, none⟩ v') ∧ w1.cell? ⟨f, 2, none⟩ = some vp ∧ w1.frozen? ⟨f, 2, none⟩ = false := by
  have hf := H.box.lt
  have hb : ∀ k, k < w.heap.size → vp.ownBlock ≠ some k → w1.heap[k]? = w.heap[k]? := fun k hk hn => hu.block k hk fun hm => hn (hE k hm)
  have hs : ∀ k, k ≠ f → (w1.setCell ⟨f, 2, none⟩ v').heap[k]? = w1.heap[k]? := fun k hk => Below.heap_setCell _ _ _ _ hk
  have hbx : Blk w1 f 82 #[.pointer (some ⟨h, 0, none⟩), vw, vp] := H.box.moved (hb f hf H.neP)
  have hbx2 : Blk (w1.setCell ⟨f, 2, none⟩ v') f 82 #[.pointer (some ⟨h, 0, none⟩), vw, v'] := hbx.set_ 2 v'
  have hnf : v'.ownBlock ≠ some f := fun e => by
    rcases hv f e with h1 | h1
    · exact H.neP h1
    · omega
  have hsw : ∀ g, v'.ownBlock = some g → ¬ Oh g := fun g hg hx => by
    rcases hv g hg with h1 | h1
    · exact H.sp g h1 hx
    · have := H.heap.owned hx; omega
  refine ⟨⟨H.heap.moved fun k hk => (hs k fun e => H.sf (e ▸ hk)).trans (hb k (H.heap.owned hk) fun e => H.sp k e hk), hbx2, H.waits.moved fun g hg => (hs g fun e => H.neW (e ▸ hg)).trans (hb g (World.ownsRow.lt H.waits g hg).2 fun e => H.apart g hg e), ho.moved fun g hg => hs g fun e => hnf (e ▸ hg), fun b h1 h2 => ?_, H.neW, hnf, H.sf, H.sw, hsw⟩,
    ⟨hu.os, hu.tape, hu.output, by simpa [World.setCell] using hu.size, fun k hk hn => (hs k fun e => hn (.inr (.inl e))).trans (hb k hk fun e => hn (.inr (.inr (.inr e)))), fun k hk => ?_⟩, hbx.cell 2, hbx.frozen 2⟩
  · rcases hv b h2 with h3 | h3
    · exact H.apart b h1 h3
    · have := (World.ownsRow.lt H.waits b h1).2; omega
  · rcases hk with hk | hk | hk | hk
    · exact .inl (.inl hk)
    · exact .inl (.inr (.inl hk))
    · exact .inl (.inr (.inr (.inl hk)))
    · rcases hv k hk with h1 | h1
      · exact .inl (.inr (.inr (.inr h1)))
      · exact .inr h1
end

/-- 'append' of one number to a slice of one's own. -/
theorem wpList_pushA {w : World} {ops : Array Oper} {rest : List Oper} {o : Oper} {a : Act} {Q : Exit → Act → World → Prop} (hgd : o.guard = none) (s x : Operand)
    (ho : o.op = .call { callee := .builtin .append, args := #[s, x], argTypes := #[25, 25] })
    (B : Nat) (v : Value) (xs : List Int) (hs : a.eval s = v) (hown : Own w B v xs) (b : Nat) (y : Int) (hx : a.eval x = .slice (some ⟨b, 0, none⟩) 1 1) (hb : Blk w b 3 #[.int .i64 y])
    (hl : xs.length ≤ 4294967296) (hBw : B ≤ w.heap.size)
    (h : ∀ v' w', Own w' B v' (xs ++ [y]) → Upd v.ownBlock.toList w w' → (v'.ownBlock = v.ownBlock ∨ v'.ownBlock = some w.heap.size) → wpList Try.prog ops Q rest (a.put o.dst v') w') : wpList Try.prog ops Q (o :: rest) a w := by
  obtain ⟨i0, hi, hz0, hz1, hz2⟩ := info_parts int_info
  refine wpList_append_own_at _ hgd s x 25 ho B 3 i0 (.int .i64 0) 1 8 Try.underlying25 hi hz0 hz1 hz2 rfl (by decide) v xs.length (xs.map (Value.int .i64)) hs hown ⟨b, 0, none⟩ 1 1 [.int .i64 y] hx rfl ?_ ?_ (by unfold maxLen; omega) (by omega) hBw ?_
  · intro j u hj
    match j, hj with
    | 0, hj => simp at hj; subst hj; simpa [Addr.add] using hb.one
  · intro u hu; simp at hu; subst hu; rfl
  · intro v' w' h1 h2 _ h4
    refine h v' w' ?_ ⟨h2.os, h2.tape, h2.output, h2.size, fun k hk hn => h2.block k hk (fun e => hn (by rw [← e]; simp))⟩ h4
    unfold Own
    rw [List.length_append, List.map_append]
    exact h1

/-- Where a number is first; -1: nowhere. -/
def idxZ (xs : List Int) (x : Int) : Int := if x ∈ xs then (xs.idxOf x : Nat) else -1
theorem upd_putRow {α : Type} [Inhabited α] {enc : α → Value} {w : World} {g q : Nat} {d : Array α} : Upd [g] w (Go.Sort.putRow enc (Go.Sort.ahead w q) g 0 d) :=
  ⟨rfl, rfl, rfl, by simp [Go.Sort.putRow, Go.Sort.mapBlock, Go.Sort.ahead], fun k hk hn => by
    have : g ≠ k := fun e => hn (by simp [e])
    simp [Go.Sort.putRow, Go.Sort.mapBlock, Go.Sort.ahead, Array.getElem?_modify, this]⟩
end Go.Proofs.Ytendjhobemlhoaa
