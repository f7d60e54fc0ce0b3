/- Joined: the finalizers, the program's and the document's, beside each other (the texts FinP Fin2P Fin3P Without Sink2 Df Dfi Dfi2 Dfi3 Dfi4 Dfi5 FB Md15 FR0). -/
import Derived.Test.YtpkbdmieelgdlaaGreatObj4P
import Derived.Test.YtpkbdmieelgdlaaGreatReadsO
import Derived.Test.YtpkbdmieelgdlaaGreatFShelf
import Derived.Lib.OwnBridge
import Derived.Test.YtpkbdmieelgdlaaGreatOv
import Derived.Deep.CutBlock
import Derived.Deep.DeepCutAuto
import Derived.Deep.LoopGhost
import Derived.Test.YtpkbdmieelgdlaaGreatSink
import Derived.Test.YtpkbdmieelgdlaaGreatDh4
import Derived.Deep.RegionHeld3
import Derived.Test.YtpkbdmieelgdlaaGreatStepP
import Derived.Test.YtpkbdmieelgdlaaGreatDq4
import Derived.Test.YtpkbdmieelgdlaaGreatDq5
import Derived.Test.YtpkbdmieelgdlaaGreatIn
import Derived.Deep.QuietTactic
import Derived.BigQuiet
import Derived.Test.YtpkbdmieelgdlaaGreatQB
import Derived.Test.YtpkbdmieelgdlaaGreatMd12
import Derived.Test.YtpkbdmieelgdlaaGreatQR0
namespace Go.Proofs.YtpkbdmieelgdlaaGreat
open Go Go.RowKit

/-- Finalizers over a heap: those that wait, those that are pending. -/
structure FinL (w : World) (f h : Nat) (np : List Pst) (vw vp : Value) (l : List Int) (F : Int → Ob) (ws ps : List Int) (Oh : Nat → Prop) : Prop where
  heap : HeapO w h np l F Oh
  box : Blk w f 99 #[.pointer (some ⟨h, 0, none⟩), vw, vp]
  waits : Own w 0 vw ws
  pends : Own w 0 vp ps
  apart : Apart vw vp
  neW : vw.ownBlock ≠ some f
  neP : vp.ownBlock ≠ some f
  sf : ¬ Oh f
  sw : ∀ g, vw.ownBlock = some g → ¬ Oh g
  sp : ∀ g, vp.ownBlock = some g → ¬ Oh g
def OwnsF (f : Nat) (vw vp : Value) (Oh : Nat → Prop) (k : Nat) : Prop := Oh k ∨ k = f ∨ vw.ownBlock = some k ∨ vp.ownBlock = some k
def FinO (w : World) (f h : Nat) (np : List Pst) (l : List Int) (F : Int → Ob) (ws ps : List Int) (O : Nat → Prop) : Prop := ∃ vw vp Oh, FinL w f h np vw vp l F ws ps Oh ∧ O = OwnsF f vw vp Oh
section
variable {w w' w1 : World} {f h : Nat} {np : List Pst} {vw vp v' : Value} {l l' : List Int} {F F' : Int → Ob} {ws ps ys : List Int} {O Oh Oh' : Nat → Prop} {E : List Nat}
theorem FinL.owned (H : FinL w f h np vw vp l F ws ps Oh) {k : Nat} (hk : OwnsF f vw vp Oh k) : k < w.heap.size := by
  rcases hk with hk | rfl | hk | hk
  · exact H.heap.owned hk
  · exact H.box.lt
  · exact (World.ownsRow.lt H.waits k hk).2
  · exact (World.ownsRow.lt H.pends k hk).2
theorem FinO.owned (H : FinO w f h np l F ws ps O) {k : Nat} (hk : O k) : k < w.heap.size := by obtain ⟨vw, vp, Oh, H, rfl⟩ := H; exact H.owned hk
theorem FinL.moved (H : FinL w f h np vw vp l F ws ps Oh) (hb : ∀ k, OwnsF f vw vp Oh k → w'.heap[k]? = w.heap[k]?) : FinL w' f h np vw vp l F ws ps Oh :=
  ⟨H.heap.moved fun k hk => hb k (.inl hk), H.box.moved (hb _ (.inr (.inl rfl))), H.waits.moved fun g hg => hb g (.inr (.inr (.inl hg))), H.pends.moved fun g hg => hb g (.inr (.inr (.inr hg))), H.apart, H.neW, H.neP, H.sf, H.sw, H.sp⟩
theorem FinO.moved (H : FinO w f h np l F ws ps O) (hb : ∀ k, O k → w'.heap[k]? = w.heap[k]?) : FinO w' f h np l F ws ps O := by obtain ⟨vw, vp, Oh, H, rfl⟩ := H; exact ⟨vw, vp, Oh, H.moved hb, rfl⟩
theorem FinO.upd (H : FinO w f h np l F ws ps O) (hu : Upd E w w') (hE : ∀ k ∈ E, ¬ O k) : FinO w' f h np l F ws ps O := H.moved fun k hk => hu.block k (H.owned hk) fun hm => hE k hm hk
theorem FinO.upd0 (H : FinO w f h np l F ws ps O) (hu : Upd [] w w') : FinO w' f h np l F ws ps O := H.upd hu (by simp)
theorem FinL.upd0 (H : FinL w f h np vw vp l F ws ps Oh) (hu : Upd [] w w') : FinL w' f h np vw vp l F ws ps Oh := H.moved fun k hk => hu.block k (H.owned hk) (by simp)
theorem FinL.cells (H : FinL w f h np vw vp l F ws ps Oh) : w.cell? ⟨f, 0, none⟩ = some (.pointer (some ⟨h, 0, none⟩)) ∧ w.cell? ⟨f, 1, none⟩ = some vw ∧ w.cell? ⟨f, 2, none⟩ = some vp ∧ w.frozen? ⟨f, 1, none⟩ = false ∧ w.frozen? ⟨f, 2, none⟩ = false :=
  ⟨H.box.cell 0, H.box.cell 1, H.box.cell 2, H.box.frozen 1, H.box.frozen 2⟩
theorem FinO.heap (H : FinO w f h np l F ws ps O) : ∃ Oh, HeapO w h np l F Oh := by obtain ⟨vw, vp, Oh, H, rfl⟩ := H; exact ⟨Oh, H.heap⟩
/-- What the heap has done the finalizers have done. -/
theorem FinL.heaped {np' : List Pst} (H : FinL w f h np vw vp l F ws ps Oh) (hh : HeapO w' h np' l' F' Oh') (hs : StepO Oh w Oh' w') : FinL w' f h np' vw vp l' F' ws ps Oh' := by
  have hno : ∀ g, g < w.heap.size → ¬ Oh g → ¬ Oh' g := fun g hg hn hx => by
    rcases hs.own g hx with h1 | h1
    · exact hn h1
    · omega
  exact ⟨hh, H.box.moved (hs.block f H.box.lt H.sf), H.waits.moved fun g hg => hs.block g (World.ownsRow.lt H.waits g hg).2 (H.sw g hg), H.pends.moved fun g hg => hs.block g (World.ownsRow.lt H.pends g hg).2 (H.sp g hg), H.apart, H.neW, H.neP,
    hno f H.box.lt H.sf, fun g hg => hno g (World.ownsRow.lt H.waits g hg).2 (H.sw g hg), fun g hg => hno g (World.ownsRow.lt H.pends g hg).2 (H.sp g hg)⟩
theorem StepO.finals {f : Nat} {vw vp : Value} (h : StepO Oh w Oh' w') : StepO (OwnsF f vw vp Oh) w (OwnsF f vw vp Oh') w' := h.wide (P := fun k => k = f ∨ vw.ownBlock = some k ∨ vp.ownBlock = some k)
/-- Those that wait are others. -/
theorem FinL.setW (H : FinL w f h np vw vp l F ws ps Oh) (ho : Own w1 0 v' ys) (hu : Upd E w w1) (hE : ∀ i ∈ E, vw.ownBlock = some i) (hv : ∀ g, v'.ownBlock = some g → vw.ownBlock = some g ∨ w.heap.size ≤ g) :
    FinL (w1.setCell ⟨f, 1, none⟩ v') f h np v' vp l F ys ps Oh ∧ StepO (OwnsF f vw vp Oh) w (OwnsF f v' vp Oh) (w1.setCell ⟨f, 1, none⟩ v') ∧ w1.cell? ⟨f, 1, none⟩ = some vw ∧ w1.frozen? ⟨f, 1, none⟩ = false ∧ (w1.setCell ⟨f, 1, none⟩ v').cell? ⟨f, 2, none⟩ = some vp ∧ (w1.setCell ⟨f, 1, none⟩ v').frozen? ⟨f, 2, none⟩ = false := by
  have hf := H.box.lt
  have hb : ∀ k, k < w.heap.size → vw.ownBlock ≠ some k → w1.heap[k]? = w.heap[k]? := fun k hk hn => hu.block k hk fun hm => hn (hE k hm)
  have hs : ∀ k, k ≠ f → (w1.setCell ⟨f, 1, none⟩ v').heap[k]? = w1.heap[k]? := fun k hk => Below.heap_setCell _ _ _ _ hk
  have hbx : Blk w1 f 99 #[.pointer (some ⟨h, 0, none⟩), vw, vp] := H.box.moved (hb f hf H.neW)
  have hbx2 : Blk (w1.setCell ⟨f, 1, none⟩ v') f 99 #[.pointer (some ⟨h, 0, none⟩), v', vp] := hbx.set_ 1 v'
  have hnf : v'.ownBlock ≠ some f := fun e => by
    rcases hv f e with h1 | h1
    · exact H.neW h1
    · omega
  have hsw : ∀ g, v'.ownBlock = some g → ¬ Oh g := fun g hg hx => by
    rcases hv g hg with h1 | h1
    · exact H.sw g h1 hx
    · have := H.heap.owned hx; omega
  refine ⟨⟨H.heap.moved fun k hk => (hs k fun e => H.sf (e ▸ hk)).trans (hb k (H.heap.owned hk) fun e => H.sw k e hk), hbx2, ho.moved fun g hg => hs g fun e => hnf (e ▸ hg), H.pends.moved fun g hg => (hs g fun e => H.neP (e ▸ hg)).trans (hb g (World.ownsRow.lt H.pends g hg).2 fun e => H.apart g e hg), fun b h1 h2 => ?_, hnf, H.neP, H.sf, hsw, H.sp⟩,
    ⟨hu.os, hu.tape, hu.output, by simpa [World.setCell] using hu.size, fun k hk hn => (hs k fun e => hn (.inr (.inl e))).trans (hb k hk fun e => hn (.inr (.inr (.inl e)))), fun k hk => ?_⟩, hbx.cell 1, hbx.frozen 1, hbx2.cell 2, hbx2.frozen 2⟩
  · rcases hv b h1 with h3 | h3
    · exact H.apart b h3 h2
    · have := (World.ownsRow.lt H.pends b h2).2; omega
  · rcases hk with hk | hk | hk | hk
    · exact .inl (.inl hk)
    · exact .inl (.inr (.inl hk))
    · rcases hv k hk with h1 | h1
      · exact .inl (.inr (.inr (.inl h1)))
      · exact .inr h1
    · exact .inl (.inr (.inr (.inr hk)))
/-- Those that are pending are others. -/
theorem FinL.setP (H : FinL w f h np vw vp l F ws ps Oh) (ho : Own w1 0 v' ys) (hu : Upd E w w1) (hE : ∀ i ∈ E, vp.ownBlock = some i) (hv : ∀ g, v'.ownBlock = some g → vp.ownBlock = some g ∨ w.heap.size ≤ g) :
    FinL (w1.setCell ⟨f, 2, none⟩ v') f h np vw v' l F ws ys Oh ∧ StepO (OwnsF f vw vp Oh) w (OwnsF f vw v' Oh) (w1.setCell ⟨f, 2, none⟩ v') ∧ w1.cell? ⟨f, 2, none⟩ = some vp ∧ w1.frozen? ⟨f, 2, none⟩ = false := by
  have hf := H.box.lt
  have hb : ∀ k, k < w.heap.size → vp.ownBlock ≠ some k → w1.heap[k]? = w.heap[k]? := fun k hk hn => hu.block k hk fun hm => hn (hE k hm)
  have hs : ∀ k, k ≠ f → (w1.setCell ⟨f, 2, none⟩ v').heap[k]? = w1.heap[k]? := fun k hk => Below.heap_setCell _ _ _ _ hk
  have hbx : Blk w1 f 99 #[.pointer (some ⟨h, 0, none⟩), vw, vp] := H.box.moved (hb f hf H.neP)
  have hbx2 : Blk (w1.setCell ⟨f, 2, none⟩ v') f 99 #[.pointer (some ⟨h, 0, none⟩), vw, v'] := hbx.set_ 2 v'
  have hnf : v'.ownBlock ≠ some f := fun e => by
    rcases hv f e with h1 | h1
    · exact H.neP h1
    · omega
  have hsw : ∀ g, v'.ownBlock = some g → ¬ Oh g := fun g hg hx => by
    rcases hv g hg with h1 | h1
    · exact H.sp g h1 hx
    · have := H.heap.owned hx; omega
  refine ⟨⟨H.heap.moved fun k hk => (hs k fun e => H.sf (e ▸ hk)).trans (hb k (H.heap.owned hk) fun e => H.sp k e hk), hbx2, H.waits.moved fun g hg => (hs g fun e => H.neW (e ▸ hg)).trans (hb g (World.ownsRow.lt H.waits g hg).2 fun e => H.apart g hg e), ho.moved fun g hg => hs g fun e => hnf (e ▸ hg), fun b h1 h2 => ?_, H.neW, hnf, H.sf, H.sw, hsw⟩,
    ⟨hu.os, hu.tape, hu.output, by simpa [World.setCell] using hu.size, fun k hk hn => (hs k fun e => hn (.inr (.inl e))).trans (hb k hk fun e => hn (.inr (.inr (.inr e)))), fun k hk => ?_⟩, hbx.cell 2, hbx.frozen 2⟩
  · rcases hv b h2 with h3 | h3
    · exact H.apart b h1 h3
    · have := (World.ownsRow.lt H.waits b h1).2; omega
  · rcases hk with hk | hk | hk | hk
    · exact .inl (.inl hk)
    · exact .inl (.inr (.inl hk))
    · exact .inl (.inr (.inr (.inl hk)))
    · rcases hv k hk with h1 | h1
      · exact .inl (.inr (.inr (.inr h1)))
      · exact .inr h1
end

/-- 'append' of one number to a slice of one's own. -/
theorem wpList_pushA {w : World} {ops : Array Oper} {rest : List Oper} {o : Oper} {a : Act} {Q : Exit → Act → World → Prop} (hgd : o.guard = none) (s x : Operand)
    (ho : o.op = .call { callee := .builtin .append, args := #[s, x], argTypes := #[23, 23] })
    (B : Nat) (v : Value) (xs : List Int) (hs : a.eval s = v) (hown : Own w B v xs) (b : Nat) (y : Int) (hx : a.eval x = .slice (some ⟨b, 0, none⟩) 1 1) (hb : Blk w b 3 #[.int .i64 y])
    (hl : xs.length ≤ 4294967296) (hBw : B ≤ w.heap.size)
    (h : ∀ v' w', Own w' B v' (xs ++ [y]) → Upd v.ownBlock.toList w w' → (v'.ownBlock = v.ownBlock ∨ v'.ownBlock = some w.heap.size) → wpList Tryz.prog ops Q rest (a.put o.dst v') w') : wpList Tryz.prog ops Q (o :: rest) a w := by
  obtain ⟨i0, hi, hz0, hz1, hz2⟩ := info_parts int_info
  refine wpList_append_own_at _ hgd s x 23 ho B 3 i0 (.int .i64 0) 1 8 Tryz.underlying23 hi hz0 hz1 hz2 rfl (by decide) v xs.length (xs.map (Value.int .i64)) hs hown ⟨b, 0, none⟩ 1 1 [.int .i64 y] hx rfl ?_ ?_ (by unfold maxLen; omega) (by omega) hBw ?_
  · intro j u hj
    match j, hj with
    | 0, hj => simp at hj; subst hj; simpa [Addr.add] using hb.one
  · intro u hu; simp at hu; subst hu; rfl
  · intro v' w' h1 h2 _ h4
    refine h v' w' ?_ ⟨h2.os, h2.tape, h2.output, h2.size, fun k hk hn => h2.block k hk (fun e => hn (by rw [← e]; simp))⟩ h4
    unfold Own
    rw [List.length_append, List.map_append]
    exact h1

/-- Where a number is first; -1: nowhere. -/
def idxZ (xs : List Int) (x : Int) : Int := if x ∈ xs then (xs.idxOf x : Nat) else -1
theorem upd_putRow {α : Type} [Inhabited α] {enc : α → Value} {w : World} {g q : Nat} {d : Array α} : Upd [g] w (Go.Sort.putRow enc (Go.Sort.ahead w q) g 0 d) :=
  ⟨rfl, rfl, rfl, by simp [Go.Sort.putRow, Go.Sort.mapBlock, Go.Sort.ahead], fun k hk hn => by
    have : g ≠ k := fun e => hn (by simp [e])
    simp [Go.Sort.putRow, Go.Sort.mapBlock, Go.Sort.ahead, Array.getElem?_modify, this]⟩
end Go.Proofs.YtpkbdmieelgdlaaGreat
namespace Go.Proofs.YtpkbdmieelgdlaaGreat
open Go Go.RowKit

section
variable {w : World} {B : Nat} {v : Value} {xs : List Int}
theorem own_cases (h : Own w B v xs) : (v = .slice none 0 0 ∧ xs = []) ∨ ∃ g cap, v = .slice (some ⟨g, 0, none⟩) xs.length cap ∧ (∀ j, j < xs.length → w.cell? ⟨g, 0 + j, none⟩ = some (.int .i64 (xs.getD j 0))) ∧ xs.length ≤ cap ∧ cap ≤ maxLen := by
  have h0 := h
  rcases h.2 with ⟨e, h2⟩ | ⟨g, cap, cur, rfl, _, _, h5, h6, _⟩
  · exact .inl ⟨e, List.eq_nil_of_length_eq_zero h2⟩
  · refine .inr ⟨g, cap, rfl, fun j hj => ?_, h5, h6⟩
    rw [Nat.zero_add, World.ownsRow.cellAt h0 j (by omega), List.getElem?_map, List.getD_eq_getElem?_getD, List.getElem?_eq_getElem hj]
    rfl
theorem Own.slice (h : Own w B v xs) : ∃ A n cap, v = .slice A n cap := by
  obtain ⟨A, cap, e, _⟩ := h.form
  exact ⟨A, _, cap, e⟩
theorem index_hit (B : Nat) (v : Value) (xs : List Int) (x : Int) (k : Nat) (w : World) (h : Own w B v xs) (hk : k < xs.length) (hx : xs.getD k 0 = x) (hne : ∀ j, j < k → xs.getD j 0 ≠ x) (hl : xs.length ≤ 4294967296) :
    Calls Tryz.prog 58 #[v, .int .i64 x] w fun e w' => e = .returned (.int .i64 k) ∧ w = w' := by
  rcases own_cases h with ⟨_, rfl⟩ | ⟨g, cap, rfl, hc, _, _⟩
  · simp at hk
  · refine (Tryz.slices_Index_int g 0 xs.length cap xs x w (Nat.le_refl _) (by omega) hc).mono ?_
    rintro e w' ⟨rfl, rfl⟩
    rw [Go.Lib.idxOf_hit xs xs.length k x hk (Nat.le_refl _) hx hne]
    exact ⟨rfl, rfl⟩
theorem index_miss (B : Nat) (v : Value) (xs : List Int) (x : Int) (w : World) (h : Own w B v xs) (hx : x ∉ xs) (hl : xs.length ≤ 4294967296) :
    Calls Tryz.prog 58 #[v, .int .i64 x] w fun e w' => e = .returned (.int .i64 (-1)) ∧ w = w' := by
  rcases own_cases h with ⟨rfl, rfl⟩ | ⟨g, cap, rfl, hc, _, _⟩
  · refine (Tryz.slices_Index_int_empty none 0 x w).mono ?_
    rintro e w' ⟨rfl, rfl⟩
    exact ⟨rfl, rfl⟩
  · refine (Tryz.slices_Index_int g 0 xs.length cap xs x w (Nat.le_refl _) (by omega) hc).mono ?_
    rintro e w' ⟨rfl, rfl⟩
    rw [Go.Lib.idxOf_miss xs xs.length x (fun j hj e => hx (by rw [← e]; exact getD_mem hj))]
    exact ⟨rfl, rfl⟩
theorem clone_own (B : Nat) (v : Value) (xs : List Int) (w : World) (h : Own w B v xs) (hl : xs.length ≤ 4294967296) :
    Calls Tryz.prog 61 #[v] w fun e w' => ∃ v', e = .returned v' ∧ Own w' w.heap.size v' xs ∧ Upd [] w w' := by
  rcases own_cases h with ⟨rfl, rfl⟩ | ⟨g, cap, rfl, hc, _, _⟩
  · refine (Tryz.slices_Clone_int_nil 0 0 w).mono ?_
    rintro e w' ⟨rfl, rfl⟩
    exact ⟨_, rfl, Own.nil _ _, Upd.refl _ _⟩
  · refine (Tryz.slices_Clone_int g 0 xs.length cap xs w (Nat.le_refl _) (by omega) hc).mono ?_
    rintro e w' ⟨v', rfl, h1, _, hb⟩
    rw [List.take_length] at h1
    exact ⟨v', rfl, h1, Upd.of_below hb⟩
theorem delete_own (B : Nat) (v : Value) (xs : List Int) (i j : Int) (k : Nat) (w : World) (h : Own w B v xs) (hi : i = k) (hj : j = (k : Int) + 1) (hk : k < xs.length) (hl : xs.length ≤ 4294967296) :
    Calls Tryz.prog 59 #[v, .int .i64 i, .int .i64 j] w fun e w' => ∃ v', e = .returned v' ∧ Own w' B v' (xs.eraseIdx k) ∧ v'.ownBlock = v.ownBlock ∧ Upd v.ownBlock.toList w w' := by
  subst hi
  obtain rfl : j = ((k + 1 : Nat) : Int) := by omega
  have hne : v ≠ .slice none 0 0 := fun e => by
    rcases h.2 with ⟨_, h2⟩ | ⟨g, cap, cur, e2, _⟩
    · omega
    · rw [e] at e2; cases e2
  obtain ⟨g, cap, rfl, _, _, h4, h5, _, hH⟩ := Go.Lib.holds_of_ownsRow h hne
  unfold maxLen at h5
  refine (Tryz.slices_Delete_int g 0 cap k (k + 1) xs w hH h4 (by omega) (by omega) (by omega)).mono ?_
  rintro e w' ⟨rfl, q, rfl⟩
  have ho := Go.Lib.ownsRow_putRow (q := q) (k := xs.length - 1) (ys := xs.take k ++ xs.drop (k + 1) ++ List.replicate (k + 1 - k) 0) h (by simp; omega) (by omega)
  have e1 : (xs.take k ++ xs.drop (k + 1) ++ List.replicate (k + 1 - k) 0).take (xs.length - 1) = xs.eraseIdx k := by
    rw [List.eraseIdx_eq_take_drop_succ, List.take_append_of_le_length (by simp; omega), List.take_of_length_le (by simp; omega)]
  rw [e1] at ho
  have e2 : (xs.eraseIdx k).length = xs.length - 1 := by rw [List.length_eraseIdx_of_lt hk]
  refine ⟨.slice (some ⟨g, 0, none⟩) (xs.length - 1) cap, by rw [show k + 1 - k = 1 by omega], ?_, rfl, upd_putRow⟩
  unfold Own
  rw [e2]
  exact ho
end

theorem fin_new_nil (w : World) : Calls Tryz.prog 50 #[.pointer none] w fun e w' => e = .returned (.pointer none) ∧ w = w' := by
  go_enter Tryz.func50, Tryz.ntmps50
  go_wp2_with fail
  go_ret
  exact ⟨rfl, rfl⟩
theorem await_nil (a : Int) (w : World) : Calls Tryz.prog 10 #[.pointer none, .int .i64 a] w fun e w' => e = .returned (.int .i64 2) ∧ w = w' := by
  go_enter Tryz.func10, Tryz.ntmps10
  go_wp2_with fail
  go_ret
  exact ⟨rfl, rfl⟩
theorem finals_nil (w : World) : Calls Tryz.prog 17 #[.pointer none] w fun e w' => e = .returned (.slice none 0 0) ∧ w = w' := by
  go_enter Tryz.func17, Tryz.ntmps17
  go_wp2_with fail
  go_ret
  exact ⟨rfl, rfl⟩
theorem pending_nil (w : World) : Calls Tryz.prog 18 #[.pointer none] w fun e w' => e = .returned (.slice none 0 0) ∧ w = w' := by
  go_enter Tryz.func18, Tryz.ntmps18
  go_wp2_with fail
  go_ret
  exact ⟨rfl, rfl⟩
theorem ftake_nil (i : Int) (w : World) : Calls Tryz.prog 14 #[.pointer none, .int .i64 i] w fun e w' => e = .returned (.tuple #[.int .i64 0, .int .i64 1]) ∧ w = w' := by
  go_enter Tryz.func14, Tryz.ntmps14
  go_wp2_with fail
  go_ret2
  exact ⟨rfl, rfl⟩
section
variable {O Oh : Nat → Prop} {l : List Int} {F : Int → Ob} {ws ps : List Int}
theorem fin_new (h : Nat) (np : List Pst) (w : World) (H : HeapO w h np l F Oh) : Calls Tryz.prog 50 #[.pointer (some ⟨h, 0, none⟩)] w fun e w' =>
    ∃ f O, e = .returned (.pointer (some ⟨f, 0, none⟩)) ∧ FinO w' f h np l F [] [] O ∧ StepO Oh w O w' := by
  have HH := Lib.hid H
  clear H
  go_enter Tryz.func50, Tryz.ntmps50
  go_wp2_with fail
  go_ret
  have hu : Upd [] w (w.alloc (.cells #[.pointer (some ⟨h, 0, none⟩), .slice none 0 0, .slice none 0 0] 99)) := (Upd.refl [] w).alloc _
  refine ⟨w.heap.size, _, rfl, ⟨.slice none 0 0, .slice none 0 0, Oh, ⟨HH.out.upd0 hu, Blk.new _ _ _, Own.nil _ _, Own.nil _ _, Apart.none _ _ _, by simp [Value.ownBlock], by simp [Value.ownBlock], fun hx => ?_, fun g hg => (by cases hg), fun g hg => (by cases hg)⟩, rfl⟩, hu.os, hu.tape, hu.output, hu.size, fun k hk _ => hu.block k hk (by simp), fun k hk => ?_⟩
  · have := HH.out.owned hx; omega
  · rcases hk with hk | rfl | hk | hk
    · exact .inl hk
    · exact .inr (Nat.le_refl _)
    · cases hk
    · cases hk
theorem await_no (f h : Nat) (np : List Pst) (a y : Int) (w : World) (H : FinO w f h np l F ws ps O) (ha : a ∉ l ∧ y = 2 ∨ a ∈ l ∧ ((F a).k = 4 ∧ y = 5 ∨ (F a).k ≠ 4 ∧ (F a).f = true ∧ y = 4)) :
    Calls Tryz.prog 10 #[.pointer (some ⟨f, 0, none⟩), .int .i64 a] w fun e w' => e = .returned (.int .i64 y) ∧ Upd [] w w' := by
  obtain ⟨vw, vp, Oh, H, rfl⟩ := H
  have hq : Calls Tryz.prog 56 #[.pointer (some ⟨h, 0, none⟩), .int .i64 a] w fun e w' => e = .returned (.int .i64 y) ∧ Upd [] w w' := by
    rcases ha with ⟨ha, rfl⟩ | ⟨ha, hy⟩
    · exact final_no h np a w H.heap ha
    · exact final_bad h np a y w H.heap ha hy
  have hy0 : y ≠ 0 := by omega
  obtain ⟨c0, _⟩ := H.cells
  have HQ := Lib.hid hq
  clear H hq ha
  go_enter Tryz.func10, Tryz.ntmps10
  go_wp2_with fail
  refine (HQ.out).mono ?_
  rintro e w1 ⟨rfl, hu⟩
  have HU := Lib.hid hu
  clear hu
  go_wp2_with fail
  go_ret
  exact ⟨rfl, HU.out⟩
set_option maxRecDepth 100000 in
theorem await_yes (f h : Nat) (np : List Pst) (a : Int) (w : World) (H : FinO w f h np l F ws ps O) (ha : a ∈ l) (hk : (F a).k ≠ 4) (hf : (F a).f = false) (hn : ws.length ≤ 100000) :
    Calls Tryz.prog 10 #[.pointer (some ⟨f, 0, none⟩), .int .i64 a] w fun e w' => e = .returned (.int .i64 0) ∧ ∃ O', FinO w' f h np l (fset F a { F a with f := true }) (ws ++ [a]) ps O' ∧ StepO O w O' w' := by
  obtain ⟨vw, vp, Oh, H, rfl⟩ := H
  obtain ⟨c0, _⟩ := H.cells
  have HQ := Lib.hid (final_yes h np a w H.heap ha hk hf)
  have HH := Lib.hid H
  have HN := Lib.hid hn
  generalize fset F a { F a with f := true } = F' at *
  clear H ha hk hf hn
  go_enter Tryz.func10, Tryz.ntmps10
  go_wp2_with fail
  refine (HQ.out).mono ?_
  rintro e w1 ⟨rfl, O1, hh, hs⟩
  have HF1 := Lib.hid (HH.out.heaped hh hs)
  have HS1 := Lib.hid (hs.finals (f := f) (vw := vw) (vp := vp))
  obtain ⟨d0, d1, d2, d3, d4⟩ := HF1.out.cells
  clear hh hs c0
  go_wp2_with (at_builtin; refine wpList_pushA rfl _ _ rfl 0 vw ws rfl (HF1.out.waits.alloc _) w1.heap.size a rfl (Blk.new _ _ _) (by have := HN.out; omega) (Nat.zero_le _) ?_)
  intro v' w2 ho hu hv
  have hF2 := (HF1.out.upd0 ((Upd.refl [] w1).alloc (.cells #[.int .i64 a] 3))).setW ho hu (by simp) (fun g hg => by
    rcases hv with h1 | h1
    · exact .inl (h1 ▸ hg)
    · rw [hg] at h1; simp only [Option.some.injEq] at h1; exact .inr (by simp; omega))
  obtain ⟨hF3, hS3, e1, e2, e3, e4⟩ := hF2
  have HF3 := Lib.hid hF3
  have HS3 := Lib.hid hS3
  obtain ⟨A', n', cap', rfl⟩ := ho.slice
  clear ho hu hv hF3 hS3 d0 d1 d2 d3 d4
  go_wp2_with fail
  go_ret
  exact ⟨rfl, _, ⟨_, _, _, HF3.out, rfl⟩, HS1.out.trans (StepO.behind ((Upd.refl [] w1).alloc _) HS3.out)⟩
theorem finals_yes (f h : Nat) (np : List Pst) (w : World) (H : FinO w f h np l F ws ps O) (hn : ws.length ≤ 100000) :
    Calls Tryz.prog 17 #[.pointer (some ⟨f, 0, none⟩)] w fun e w' => ∃ v, e = .returned v ∧ Own w' w.heap.size v ws ∧ Upd [] w w' := by
  obtain ⟨vw, vp, Oh, H, rfl⟩ := H
  obtain ⟨c0, c1, c2, _⟩ := H.cells
  have HQ := Lib.hid (clone_own 0 vw ws w H.waits (by omega))
  clear H hn
  go_enter Tryz.func17, Tryz.ntmps17
  go_wp2_with fail
  refine (HQ.out).mono ?_
  rintro e w1 ⟨v, rfl, ho, hu⟩
  have HU := Lib.hid (And.intro ho hu)
  clear ho hu
  go_wp2_with fail
  go_ret
  exact ⟨_, rfl, HU.out⟩
theorem pending_yes (f h : Nat) (np : List Pst) (w : World) (H : FinO w f h np l F ws ps O) (hn : ps.length ≤ 100000) :
    Calls Tryz.prog 18 #[.pointer (some ⟨f, 0, none⟩)] w fun e w' => ∃ v, e = .returned v ∧ Own w' w.heap.size v ps ∧ Upd [] w w' := by
  obtain ⟨vw, vp, Oh, H, rfl⟩ := H
  obtain ⟨c0, c1, c2, _⟩ := H.cells
  have HQ := Lib.hid (clone_own 0 vp ps w H.pends (by omega))
  clear H hn
  go_enter Tryz.func18, Tryz.ntmps18
  go_wp2_with fail
  refine (HQ.out).mono ?_
  rintro e w1 ⟨v, rfl, ho, hu⟩
  have HU := Lib.hid (And.intro ho hu)
  clear ho hu
  go_wp2_with fail
  go_ret
  exact ⟨_, rfl, HU.out⟩
theorem ftake_no (f h : Nat) (np : List Pst) (i : Int) (w : World) (H : FinO w f h np l F ws ps O) (hi : i < 0 ∨ ps.length ≤ i) (hn : ps.length ≤ 100000) :
    Calls Tryz.prog 14 #[.pointer (some ⟨f, 0, none⟩), .int .i64 i] w fun e w' => e = .returned (.tuple #[.int .i64 0, .int .i64 1]) ∧ w = w' := by
  obtain ⟨vw, vp, Oh, H, rfl⟩ := H
  obtain ⟨c0, c1, c2, _⟩ := H.cells
  have hform := own_cases H.pends
  obtain ⟨n, hnn⟩ : ∃ n, ps.length = n := ⟨_, rfl⟩
  rw [hnn] at hform hi hn
  have hv : ∃ A cap, vp = .slice A n cap := by
    rcases hform with ⟨rfl, rfl⟩ | ⟨g, cap, rfl, _⟩
    · obtain rfl : 0 = n := hnn
      exact ⟨_, _, rfl⟩
    · exact ⟨_, _, rfl⟩
  obtain ⟨A, cap, rfl⟩ := hv
  clear H hform hnn
  by_cases h0 : i < 0
  · clear hi
    go_enter Tryz.func14, Tryz.ntmps14
    go_wp2_with fail
    go_ret2
    exact ⟨rfl, rfl⟩
  · have h1 : (n : Int) ≤ i := by omega
    have h2 : 0 ≤ i := by omega
    clear hi
    go_enter Tryz.func14, Tryz.ntmps14
    go_wp2_with fail
    go_ret2
    exact ⟨rfl, rfl⟩
set_option maxRecDepth 100000 in
theorem ftake_yes (f h : Nat) (np : List Pst) (i : Int) (j : Nat) (w : World) (H : FinO w f h np l F ws ps O) (hi : i = j) (hj : j < ps.length) (hn : ps.length ≤ 100000) :
    Calls Tryz.prog 14 #[.pointer (some ⟨f, 0, none⟩), .int .i64 i] w fun e w' => e = .returned (.tuple #[.int .i64 (ps.getD j 0), .int .i64 0]) ∧ ∃ O', FinO w' f h np l F ws (ps.eraseIdx j) O' ∧ StepO O w O' w' := by
  subst hi
  obtain ⟨vw, vp, Oh, H, rfl⟩ := H
  obtain ⟨c0, c1, c2, c3, c4⟩ := H.cells
  have HH := Lib.hid H
  have HQ := Lib.hid (delete_own 0 vp ps j ((j : Int) + 1) j w H.pends rfl rfl hj (by omega))
  rcases own_cases H.pends with ⟨_, rfl⟩ | ⟨g, cap, rfl, hc, _, _⟩
  · simp at hj
  · have hcj := hc j hj
    rw [Nat.zero_add] at hcj
    obtain ⟨n, hnn⟩ : ∃ n, ps.length = n := ⟨_, rfl⟩
    obtain ⟨x, hx⟩ : ∃ x, ps.getD j 0 = x := ⟨_, rfl⟩
    rw [hnn] at c2 hj hn HQ HH
    rw [hx] at hcj ⊢
    clear H hc hnn hx
    go_enter Tryz.func14, Tryz.ntmps14
    go_wp2_with fail
    refine (HQ.out).mono ?_
    rintro e w1 ⟨v', rfl, ho, hv, hu⟩
    obtain ⟨hF, hS, e1, e2⟩ := HH.out.setP ho hu (by simp) (fun g hg => .inl (hv ▸ hg))
    have HF := Lib.hid hF
    have HS := Lib.hid hS
    obtain ⟨A', n', cap', rfl⟩ := ho.slice
    clear hF hS ho hu hv
    go_wp2_with fail
    go_ret2
    exact ⟨rfl, _, ⟨_, _, _, HF.out, rfl⟩, HS.out⟩
end
end Go.Proofs.YtpkbdmieelgdlaaGreat
namespace Go.Proofs.YtpkbdmieelgdlaaGreat
open Go Go.RowKit

/-- One that waits is pending then. -/
def pend1 (s : List Int × List Int) (x : Int) : List Int × List Int := if x ∈ s.1 then (s.1.erase x, s.2 ++ [x]) else s
def pendZ (s : List Int × List Int) (xs : List Int) : List Int × List Int := xs.foldl pend1 s
theorem pendZ_snoc (s : List Int × List Int) (xs : List Int) (x : Int) : pendZ s (xs ++ [x]) = pend1 (pendZ s xs) x := by unfold pendZ; rw [List.foldl_append]; rfl
theorem pend1_len (s : List Int × List Int) (x : Int) : (pend1 s x).1.length + (pend1 s x).2.length = s.1.length + s.2.length := by
  unfold pend1
  split
  · rename_i h
    have := List.length_erase_of_mem h
    have := List.length_pos_of_mem h
    simp only [List.length_append, List.length_cons, List.length_nil]
    omega
  · rfl
theorem pendZ_len (s : List Int × List Int) (xs : List Int) : (pendZ s xs).1.length + (pendZ s xs).2.length = s.1.length + s.2.length := by
  induction xs generalizing s with
  | nil => rfl
  | cons x t ih => exact (ih _).trans (pend1_len s x)
theorem idx_first {xs : List Int} {x : Int} (h : x ∈ xs) : xs.idxOf x < xs.length ∧ xs.getD (xs.idxOf x) 0 = x ∧ (∀ j, j < xs.idxOf x → xs.getD j 0 ≠ x) ∧ xs.eraseIdx (xs.idxOf x) = xs.erase x := by
  induction xs with
  | nil => cases h
  | cons y t ih =>
    by_cases e : y = x
    · subst e
      simp
    · have hb : (y == x) = false := by simpa using e
      have ht : x ∈ t := by
        rcases List.mem_cons.1 h with h1 | h1
        · exact absurd h1.symm e
        · exact h1
      obtain ⟨h1, h2, h3, h4⟩ := ih ht
      have hi : (y :: t).idxOf x = t.idxOf x + 1 := by rw [List.idxOf_cons, hb]; rfl
      rw [hi]
      refine ⟨by simpa using h1, by simpa using h2, fun j hj => ?_, ?_⟩
      · cases j with
        | zero => simpa using e
        | succ j => simpa using h3 j (by omega)
      · rw [List.eraseIdx_cons_succ, h4, List.erase_cons, hb]; rfl

theorem pend_nil (A : Option Addr) (n c : Nat) (w : World) : Calls Tryz.prog 12 #[.pointer none, .slice A n c] w fun e w' => e = .returned (.tuple #[]) ∧ w = w' := by
  go_enter Tryz.func12, Tryz.ntmps12
  go_wp2_with fail
  (try simp only [Exit.inBlock, Exit.then])
  refine bodyPost_ret (results_none rfl _ _ _) rfl ?_
  exact ⟨rfl, rfl⟩
section
variable {O Oh : Nat → Prop} {l : List Int} {F : Int → Ob} {ws ps : List Int}
set_option maxRecDepth 100000 in
set_option maxHeartbeats 3200000 in
theorem pend_yes (f h : Nat) (np : List Pst) (A : Option Addr) (xs : List Int) (M cap : Nat) (w : World) (H : FinO w f h np l F ws ps O) (hA : ReadsO w A xs O) (hM : xs.length = M) (hn : ws.length + ps.length ≤ 100000) (hl : M ≤ 4294967296) :
    Calls Tryz.prog 12 #[.pointer (some ⟨f, 0, none⟩), .slice A M cap] w fun e w' => e = .returned (.tuple #[]) ∧ ∃ O', FinO w' f h np l F (pendZ (ws, ps) xs).1 (pendZ (ws, ps) xs).2 O' ∧ StepO O w O' w' := by
  have HTK : Hid (∀ k, k < M → pendZ (ws, ps) (xs.take (k + 1)) = pend1 (pendZ (ws, ps) (xs.take k)) (xs.getD k 0)) := Lib.hid fun k hk => by
    rw [← pendZ_snoc, List.take_succ_eq_append_getElem (by omega : k < xs.length), List.getD_eq_getElem?_getD, List.getElem?_eq_getElem (by omega : k < xs.length)]; rfl
  have HLEN : Hid (∀ k, (pendZ (ws, ps) (xs.take k)).1.length + (pendZ (ws, ps) (xs.take k)).2.length ≤ 100000) := Lib.hid fun k => by rw [pendZ_len]; exact hn
  have HR := Lib.hid H
  have HA := Lib.hid hA
  have HM := Lib.hid hM
  clear H hA hM hn
  go_enter Tryz.func12, Tryz.ntmps12
  go_wp2_with fail
  go_loopg [11] M (fun gk i wr => ∃ (k : Nat) (O' : Nat → Prop), gk = M - k ∧ k ≤ M ∧ i = .int .i64 k ∧ Hid (FinO wr f h np l F (pendZ (ws, ps) (xs.take k)).1 (pendZ (ws, ps) (xs.take k)).2 O') ∧ Hid (StepO O w O' wr))
  case atStart => exact ⟨0, O, rfl, by omega, rfl, HR, Lib.hid (StepO.refl _ _)⟩
  case round =>
    obtain ⟨k, O', rfl, hk, rfl, HF, HS⟩ := hrel
    by_cases hlt : k < M
    · obtain ⟨b, off, rfl, hb, hc⟩ := (HA.out.step HS.out).at HM.out hlt
      have HT := Lib.hid (HTK.out k hlt)
      have HN := Lib.hid (HLEN.out k)
      generalize xs.getD k 0 = x at *
      generalize pendZ (ws, ps) (xs.take k) = s at *
      obtain ⟨ws1, ps1⟩ := s
      obtain ⟨vw, vp, Oh, hF, rfl⟩ := HF.out
      obtain ⟨c0, c1, c2, c3, c4⟩ := hF.cells
      by_cases hx : x ∈ ws1
      · obtain ⟨i1, i2, i3, i4⟩ := idx_first hx
        have HP : Hid (pend1 (ws1, ps1) x = (ws1.erase x, ps1 ++ [x])) := Lib.hid (if_pos hx)
        obtain ⟨j, hj⟩ : ∃ j, ws1.idxOf x = j := ⟨_, rfl⟩
        rw [hj] at i1 i2 i3 i4
        have HQ := Lib.hid (index_hit 0 vw ws1 x j wr hF.waits i1 i2 i3 (by have := HN.out; first | omega | (simp only at this; omega)))
        have HD := Lib.hid (delete_own 0 vw ws1 j ((j : Int) + 1) j wr hF.waits rfl rfl i1 (by have := HN.out; first | omega | (simp only at this; omega)))
        rw [i4] at HD
        have hj2 : j ≤ 100000 := by have := HN.out; first | omega | (simp only at this; omega)
        have HL := Lib.hid hF
        clear hF i1 i2 i3 i4 hj hx
        go_wp2_with fail
        refine (HQ.out).mono ?_
        rintro e w' ⟨rfl, rfl⟩
        go_wp2_with fail
        refine (HD.out).mono ?_
        rintro e w2 ⟨v', rfl, ho, hv, hu⟩
        obtain ⟨hF, hS, e1, e2, e3, e4⟩ := HL.out.setW ho hu (by simp) (fun g hg => .inl (hv ▸ hg))
        have HL2 := Lib.hid hF
        have HS2 := Lib.hid (HS.out.trans hS)
        obtain ⟨A', n', cap', rfl⟩ := ho.slice
        clear hF hS ho hu hv c0 c1 c2 c3 c4
        go_wp2_with (at_builtin; refine wpList_pushA rfl _ _ rfl 0 vp ps1 rfl (HL2.out.pends.alloc _) w2.heap.size x rfl (Blk.newAt _ _ _ _ (by simp [World.setCell])) (by have := HN.out; first | omega | (simp only at this; omega)) (Nat.zero_le _) ?_)
        intro v3 w3 ho hu hv
        obtain ⟨hF, hS, g1, g2⟩ := (HL2.out.upd0 ((Upd.refl [] _).alloc (.cells #[.int .i64 x] 3))).setP ho hu (by simp) (fun g hg => by
          rcases hv with h1 | h1
          · exact .inl (h1 ▸ hg)
          · rw [hg] at h1; simp only [Option.some.injEq] at h1; exact .inr (by simp at h1 ⊢; omega))
        have HF3 := Lib.hid hF
        have HS3 := Lib.hid (HS2.out.trans (StepO.behind ((Upd.refl [] _).alloc (.cells #[.int .i64 x] 3)) hS))
        obtain ⟨A3, n3, cap3, rfl⟩ := ho.slice
        clear hF hS ho hu hv e1 e2 e3 e4
        go_wp2_with fail
        go_roundg (M - (k + 1))
        case measure => omega
        case rel => exact ⟨k + 1, _, rfl, by omega, by go_num, Lib.hid ⟨_, _, _, by rw [HT.out, HP.out]; exact HF3.out, rfl⟩, HS3⟩
      · have HP : Hid (pend1 (ws1, ps1) x = (ws1, ps1)) := Lib.hid (if_neg hx)
        have HQ := Lib.hid (index_miss 0 vw ws1 x wr hF.waits hx (by have := HN.out; first | omega | (simp only at this; omega)))
        clear hF hx
        go_wp2_with fail
        refine (HQ.out).mono ?_
        rintro e w' ⟨rfl, rfl⟩
        go_wp2_with fail
        go_roundg (M - (k + 1))
        case measure => omega
        case rel => exact ⟨k + 1, _, rfl, by omega, by go_num, Lib.hid (by rw [HT.out, HP.out]; exact HF.out), HS⟩
    · obtain rfl : k = M := by omega
      have hR := HF.out
      rw [List.take_of_length_le (by rw [HM.out]; exact Nat.le_refl _)] at hR
      have HR3 := Lib.hid hR
      clear hR
      go_wp2_with fail
      go_end0
      exact ⟨rfl, O', HR3.out, HS.out⟩
end
end Go.Proofs.YtpkbdmieelgdlaaGreat
namespace Go.Proofs.YtpkbdmieelgdlaaGreat
open Go Go.RowKit

theorem drop_step {xs : List Int} {j : Nat} (hj : j < xs.length) (x : Int) : (xs.take (j + 1)).filter (fun y => y != x) = if xs.getD j 0 = x then (xs.take j).filter (fun y => y != x) else (xs.take j).filter (fun y => y != x) ++ [xs.getD j 0] := by
  have ht : xs.take (j + 1) = xs.take j ++ [xs.getD j 0] := by
    rw [List.take_succ_eq_append_getElem hj, List.getD_eq_getElem?_getD, List.getElem?_eq_getElem hj]; rfl
  rw [ht, List.filter_append]
  by_cases e : xs.getD j 0 = x
  · rw [if_pos e, e]; simp
  · rw [if_neg e, List.filter_cons_of_pos (by exact bne_iff_ne.2 e), List.filter_nil]
theorem without_walk (A : Option Addr) (xs : List Int) (n c : Nat) (x : Int) (w : World) (hR : Reads w .i64 A xs) (hn : xs.length = n) (hl : n ≤ 65536) :
    Calls Tryz.prog 60 #[.slice A n c, .int .i64 x] w fun e w' => ∃ v, e = .returned v ∧ Own w' w.heap.size v (xs.filter fun y => y != x) ∧ Upd [] w w' := by
  have HR := Lib.hid hR
  have HN := Lib.hid hn
  clear hR hn
  go_enter Tryz.func60, Tryz.ntmps60
  go_wp2_with fail
  go_loopg [5, 6] n (fun gk v i wr => ∃ j : Nat, gk = n - j ∧ j ≤ n ∧ i = .int .i64 j ∧ Hid (OwnA wr w.heap.size v ((xs.take j).filter fun y => y != x) (fun _ => False)) ∧ Hid (Env w wr (fun _ => False)))
  case atStart => exact ⟨0, rfl, by omega, rfl, Lib.hid (OwnA.nil _ _ _), Lib.hid ⟨fun i hi => hi.elim, Upd.refl _ _⟩⟩
  case round =>
    obtain ⟨j, rfl, hj, rfl, HO, HE⟩ := hrel
    obtain ⟨LA, cl, hv, -, -⟩ := HO.out.own.form
    obtain ⟨nl, hnl⟩ : ∃ nl, ((xs.take j).filter fun y => y != x).length = nl := ⟨_, rfl⟩
    rw [hnl] at hv
    subst hv
    have HNL := Lib.hid hnl
    clear hnl
    by_cases hlj : j < n
    · have hjl : j < xs.length := by rw [HN.out]; exact hlj
      obtain ⟨bI, oI, rfl, hb, d0⟩ := Reads.at HR.out HN.out hlj
      have d1 := (HE.out.upd.cell (p := ⟨bI, oI + j, none⟩) hb (by simp)).trans d0
      obtain ⟨y, hy⟩ : ∃ y, xs.getD j 0 = y := ⟨_, rfl⟩
      rw [hy] at d1
      have HY := Lib.hid hy
      clear hy d0
      by_cases hyx : y = x
      · have hne3 : (y != x) = false := by rw [hyx]; simp
        have HTK : Hid ((xs.take (j + 1)).filter (fun y => y != x) = (xs.take j).filter fun y => y != x) := Lib.hid (by rw [drop_step hjl, if_pos (by rw [HY.out]; exact hyx)])
        clear hyx hjl
        go_wp2_with fail
        go_roundg (n - (j + 1))
        case measure => omega
        case rel => exact ⟨j + 1, rfl, by omega, by go_num, Lib.hid (by rw [HTK.out]; exact HO.out), HE⟩
      · have hne3 : (y != x) = true := bne_iff_ne.2 hyx
        have HTK : Hid ((xs.take (j + 1)).filter (fun y => y != x) = (xs.take j).filter (fun y => y != x) ++ [y]) := Lib.hid (by rw [drop_step hjl, if_neg (by rw [HY.out]; exact hyx), HY.out])
        clear hyx hjl
        have HFL : Hid (((xs.take j).filter fun y => y != x).length ≤ 65536) := Lib.hid (Nat.le_trans (List.length_filter_le _ _) (by rw [List.length_take]; omega))
        have HSZ : Hid (w.heap.size ≤ wr.heap.size) := Lib.hid HE.out.upd.size
        go_wp2_with (at_builtin; refine wpList_pushO rfl _ _ rfl w.heap.size _ ((xs.take j).filter fun y => y != x) (fun _ => False) rfl (HO.out.upd0 ((Upd.refl [] wr).alloc _)) wr.heap.size y rfl (Blk.new _ _ _) (by have := HFL.out; omega) (by have := HSZ.out; simp; omega) (fun k hk => hk.elim) ?_)
        intro v7 w7 E7 ho7 hE7 hu7 h7
        have HE7 := Lib.hid ((HE.out.upd0 ((Upd.refl [] wr).alloc _)).upd' hu7 (fun i hi => (own_low HO.out.own (hE7 i hi)).1))
        have HO7 : Hid (OwnA w7 w.heap.size v7 ((xs.take (j + 1)).filter fun y => y != x) (fun _ => False)) := Lib.hid (by rw [HTK.out]; exact ho7)
        clear ho7 hE7 hu7 h7
        go_wp2_with fail
        go_roundg (n - (j + 1))
        case measure => omega
        case rel => exact ⟨j + 1, rfl, by omega, by go_num, HO7, HE7⟩
    · obtain rfl : j = n := by omega
      have HTK : Hid (xs.take j = xs) := Lib.hid (by rw [← HN.out, List.take_length])
      go_wp2_with fail
      go_ret
      exact ⟨_, rfl, by have := HO.out.own; rw [HTK.out] at this; exact this, HE.out.upd⟩
end Go.Proofs.YtpkbdmieelgdlaaGreat
namespace Go.Proofs.YtpkbdmieelgdlaaGreat.Sink
open Go

def waitsFor (x : Oper) (i : Nat) : Bool := x.after.toList.any fun e => Region.binds .any e && e.on == i
def lastC (hd : List Oper) (n : Nat) (o : Oper) : Bool := (List.range n).all (fun i => waitsFor o i || (o.after.toList.any fun e => Region.binds .any e && (match hd[e.on]? with | some x => waitsFor x i | none => false))) && (o.after.toList.all fun e => !Region.binds .any e || decide (e.on < n))
/-- What is listed has listed what it waits for. -/
def Closed (hd : List Oper) (listed : Array Bool) : Prop := ∀ j x, hd[j]? = some x → listed.getD j false = true → ∀ e ∈ x.after, Region.binds .any e = true → listed.getD e.on false = true
section
variable {P : Program} {hd : List Oper} {o : Oper} {Q : Exit → Act → World → Prop}
theorem Closed.start (hd : List Oper) : Closed hd (Array.replicate hd.length false) := fun j x _ h => by
  rw [Array.getD_eq_getD_getElem?] at h
  by_cases e : j < hd.length
  · rw [Array.getElem?_replicate, if_pos e] at h; cases h
  · rw [Array.getElem?_replicate, if_neg e] at h; cases h
theorem set_listed {listed : Array Bool} {i j : Nat} (hi : i < listed.size) : (listed.setIfInBounds i true).getD j false = if i = j then true else listed.getD j false := by
  rw [Array.getD_eq_getD_getElem?, Array.getElem?_setIfInBounds]
  by_cases e : i = j
  · rw [if_pos e, if_pos e, if_pos hi]; rfl
  · rw [if_neg e, if_neg e, Array.getD_eq_getD_getElem?]
theorem Closed.set {listed : Array Bool} {i : Nat} (h : Closed hd listed) (hs : listed.size = hd.length) (hr : i ∈ Region.ready .any hd.toArray listed) : Closed hd (listed.setIfInBounds i true) := fun j x hx hj e he hb => by
  obtain ⟨_, y, hy, h2⟩ := mem_ready.1 hr
  have hi : i < listed.size := by
    have := (Array.getElem?_eq_some_iff.1 hy).1
    rw [hs]; simpa using this
  rw [set_listed hi] at hj ⊢
  split
  · rfl
  · by_cases e2 : i = j
    · subst e2
      have : y = x := by rw [List.getElem?_toArray, hx] at hy; simpa using hy.symm
      subst this
      exact h2 e he hb
    · rw [if_neg e2] at hj
      exact h j x hx hj e he hb
theorem lastC_spec (h : lastC hd hd.length o = true) : (∀ listed, Closed hd listed → (∀ e ∈ o.after, Region.binds .any e = true → listed.getD e.on false = true) → ∀ i, i < hd.length → listed.getD i false = true) ∧ ∀ e ∈ o.after, Region.binds .any e = true → e.on < hd.length := by
  unfold lastC at h
  rw [Bool.and_eq_true] at h
  refine ⟨fun listed hc hl i hi => ?_, fun e he hb => ?_⟩
  · have h1 := List.all_eq_true.1 h.1 i (List.mem_range.2 hi)
    rw [Bool.or_eq_true] at h1
    rcases h1 with h1 | h1
    · obtain ⟨e, he, h2⟩ := List.any_eq_true.1 h1
      rw [Bool.and_eq_true, beq_iff_eq] at h2
      have := hl e (by simpa using he) h2.1
      rwa [h2.2] at this
    · obtain ⟨e, he, h2⟩ := List.any_eq_true.1 h1
      rw [Bool.and_eq_true] at h2
      have h3 := hl e (by simpa using he) h2.1
      cases hx : hd[e.on]? with
      | none => rw [hx] at h2; cases h2.2
      | some x =>
        rw [hx] at h2
        obtain ⟨e2, he2, h4⟩ := List.any_eq_true.1 h2.2
        rw [Bool.and_eq_true, beq_iff_eq] at h4
        have := hc e.on x hx h3 e2 (by simpa using he2) h4.1
        rwa [h4.2] at this
  · have h1 := List.all_eq_true.1 h.2 e (by simpa using he)
    rw [hb] at h1
    simpa using h1
/-- All others are listed: the last one. -/
theorem tail_stepC {listed : Array Bool} {a : Act} {w : World} (hl : ∀ e ∈ o.after, Region.binds .any e = true → e.on < hd.length) (hs : listed.size = hd.length) (ha : ∀ i, i < hd.length → listed.getD i false = true) (h : wpList P (hd ++ [o]).toArray Q [o] a w) :
    ∀ fuel, wpAny P .any (hd ++ [o]).toArray Q (fuel + 1) (listed.push false) a w := by
  intro fuel
  have hmem : hd.length ∈ Region.ready .any (hd ++ [o]).toArray (listed.push false) := by
    refine mem_ready.2 ⟨by rw [← hs]; exact push_last true, o, get_last, fun e he hb => ?_⟩
    have h1 := hl e he hb
    rw [push_low false (by omega)]
    exact ha _ h1
  refine ⟨fun e => (by rw [e] at hmem; cases hmem), fun i hi => ?_⟩
  have hin : i = hd.length := by
    obtain ⟨h1, x, hx, _⟩ := mem_ready.1 hi
    have hlt : i < (hd ++ [o]).toArray.size := (Array.getElem?_eq_some_iff.1 hx).1
    have hlt : i < hd.length + 1 := by simpa using hlt
    by_cases e : i < hd.length
    · rw [push_low true (by omega), low_both (by omega), ha i e] at h1; cases h1
    · omega
  subst hin
  unfold wpOp
  rw [get_last]
  unfold wpList at h
  simp only at h ⊢
  have hk : ∀ a' w', wpList P (hd ++ [o]).toArray Q [] a' w' → wpAny P .any (hd ++ [o]).toArray Q fuel ((listed.push false).setIfInBounds hd.length true) a' w' := fun a' w' hq => by
    have hr := ready_done (o := o) hs ha
    cases fuel with
    | zero => exact ⟨hr, hq⟩
    | succ f => exact ⟨fun _ => hq, by rw [hr]; simp⟩
  split
  · rename_i hc
    rw [if_pos hc] at h
    exact h.imp (Oper.wp_mono hk) id
  · rename_i hc
    rw [if_neg hc] at h
    exact hk _ _ h
theorem any_tailC (hh : headB hd = true) (hl : lastC hd hd.length o = true) : ∀ (fuel : Nat) (listed : Array Bool) (a : Act) (w : World), listed.size = hd.length → Closed hd listed → wpAny P .any hd.toArray (Tail P (hd ++ [o]) o Q) fuel listed a w → wpAny P .any (hd ++ [o]).toArray Q (fuel + 1) (listed.push false) a w
  | 0, listed, a, w, hs, hcl, h => tail_stepC (lastC_spec hl).2 hs (all_listed hh hs h.1) h.2 0
  | fuel + 1, listed, a, w, hs, hcl, h => by
    by_cases he : Region.ready .any hd.toArray listed = []
    · exact tail_stepC (lastC_spec hl).2 hs (all_listed hh hs he) (h.1 he) (fuel + 1)
    · obtain ⟨i0, hi0⟩ := List.exists_mem_of_ne_nil _ he
      have h0 := mem_ready.1 hi0
      have hlt0 : i0 < hd.length := by
        obtain ⟨_, x, hx, _⟩ := h0
        have := (Array.getElem?_eq_some_iff.1 hx).1
        simpa using this
      refine ⟨fun e => ?_, fun i hi => ?_⟩
      · have := (mem_low (o := o) hh hs hlt0).2 hi0
        rw [e] at this; cases this
      · have hin : i < hd.length := by
          obtain ⟨_, x, hx, h2⟩ := mem_ready.1 hi
          have hlt : i < (hd ++ [o]).toArray.size := (Array.getElem?_eq_some_iff.1 hx).1
          have hlt : i < hd.length + 1 := by simpa using hlt
          by_cases e : i < hd.length
          · exact e
          · exfalso
            have e2 : i = hd.length := by omega
            subst e2
            rw [get_last] at hx
            simp only [Option.some.injEq] at hx
            subst hx
            have h4 := (lastC_spec hl).1 listed hcl (fun e he hb => by
              have h5 := h2 e he hb
              rwa [push_low false (by have := (lastC_spec hl).2 e he hb; omega)] at h5) i0 hlt0
            rw [← low_both (by omega), h0.1] at h4
            cases h4
        have hr := (mem_low (o := o) hh hs hin).1 hi
        refine op_low hh hin (fun a' w' hk => ?_) (h.2 i hr)
        have hset : (listed.push false).setIfInBounds i true = (listed.setIfInBounds i true).push false := by
          apply Array.ext_getElem?
          intro j
          rw [Array.getElem?_setIfInBounds, Array.getElem?_push, Array.getElem?_push, Array.getElem?_setIfInBounds, Array.size_push, Array.size_setIfInBounds]
          by_cases e : i = j
          · rw [if_pos e, if_pos (by omega), if_neg (by omega), if_pos e, if_pos (by omega)]
          · rw [if_neg e, if_neg e]
        rw [hset]
        exact any_tailC hh hl fuel _ a' w' (by simp [hs]) (hcl.set hs hr) hk
/-- THE REGION, ITS LAST OPERATION BEHIND THE OTHERS. -/
theorem wp_sinkC {id : Nat} {a : Act} {w : World} (hm : P.follows .mixedOrders = true) (hh : headB hd = true) (hl : lastC hd hd.length o = true)
    (h : wpAny P .any hd.toArray (Tail P (hd ++ [o]) o Q) hd.length (Array.replicate hd.length false) a w.drew) : (Code.region id (hd ++ [o]).toArray true).wp P Q a w := by
  refine wp_region_any hm ?_
  have := any_tailC hh hl _ _ a _ (by simp) (Closed.start hd) h
  have hr : (Array.replicate hd.length false).push false = Array.replicate (hd ++ [o]).toArray.size false := by
    rw [show (hd ++ [o]).toArray.size = hd.length + 1 by simp, Array.replicate_succ]
  rw [hr] at this
  rw [show (hd ++ [o]).toArray.size = hd.length + 1 by simp] at this ⊢
  exact this
/-- The same, what the others read held fast by S. -/
theorem wp_sinkCH {id : Nat} {a : Act} {w : World} {l : List Oper} (N : Nat) (S : World → Prop) (ho : l.getLast? = some o) (hN : l.dropLast.length = N) (hm : P.follows .mixedOrders = true) (hh : headB l.dropLast = true) (hl : lastC l.dropLast N o = true) (hS : S w.drew)
    (h : S w.drew → wpAnyH P .any l.dropLast.toArray (Tail P l o Q) S N (Array.replicate N false) a w.drew) : (Code.region id l.toArray true).wp P Q a w := by
  subst hN
  have e := app_last ho
  have h2 := wpAny_of_held _ _ _ _ (h hS)
  generalize hd2 : l.dropLast = hd at *
  subst e
  exact wp_sinkC hm hh hl h2
end
end Go.Proofs.YtpkbdmieelgdlaaGreat.Sink
namespace Go.Proofs.YtpkbdmieelgdlaaGreat
open Go Go.RowKit

section
variable {w w' : World} {h m : Nat} {np : List Pst} {l : List Int} {F : Int → Ob} {O Os : Nat → Prop}
set_option maxRecDepth 100000 in
theorem dfinal_no (h : Nat) (np : List Pst) (a : Int) (w : World) (H : HeapD w h np l F O) (ha : a ∉ l) : Calls Tryz.prog 57 #[.pointer (some ⟨h, 0, none⟩), .int .i64 a] w fun e w' => e = .returned (.int .i64 2) ∧ Upd [] w w' := by
  have HQ := Lib.hid (dhead_no h np a w H ha)
  clear H ha
  go_enter Tryz.func57, Tryz.ntmps57
  go_wp2_with fail
  refine (HQ.out).mono ?_
  rintro e w1 ⟨rfl, hu⟩
  have HU := Lib.hid hu
  clear hu
  go_wp2_with fail
  go_ret
  exact ⟨rfl, HU.out.alloc _⟩
set_option maxRecDepth 100000 in
theorem dfinal_bad (h : Nat) (np : List Pst) (a y : Int) (w : World) (H : HeapD w h np l F O) (ha : a ∈ l) (hy : (F a).k = 4 ∧ y = 5 ∨ (F a).k ≠ 4 ∧ (F a).f = true ∧ y = 4) : Calls Tryz.prog 57 #[.pointer (some ⟨h, 0, none⟩), .int .i64 a] w fun e w' => e = .returned (.int .i64 y) ∧ Upd [] w w' := by
  have hq := dhead_yes h np a (F a).k (F a).c (F a).ws.length (F a).f w H ha rfl
  generalize (F a).k = k at *
  generalize (F a).c = c at *
  generalize (F a).f = f at *
  generalize (F a).ws.length = n at *
  have HQ := Lib.hid hq
  clear hq H ha
  rcases hy with ⟨rfl, rfl⟩ | ⟨hk, rfl, rfl⟩
  all_goals
    go_enter Tryz.func57, Tryz.ntmps57
    go_wp2_with fail
    refine (HQ.out).mono ?_
    rintro e w1 ⟨rfl, hu⟩
    have HU := Lib.hid hu
    clear hu
    go_wp2_with fail
    go_ret
    exact ⟨rfl, HU.out.alloc _⟩
set_option maxRecDepth 100000 in
set_option maxHeartbeats 1600000 in
theorem dfinal_yes (h : Nat) (np : List Pst) (a : Int) (w : World) (H : HeapD w h np l F O) (ha : a ∈ l) (hk : (F a).k ≠ 4) (hf : (F a).f = false) : Calls Tryz.prog 57 #[.pointer (some ⟨h, 0, none⟩), .int .i64 a] w fun e w' =>
    e = .returned (.int .i64 0) ∧ ∃ O', HeapD w' h np l (fset F a { F a with f := true }) O' ∧ StepO O w O' w' := by
  have hq := dhead_yes h np a (F a).k (F a).c (F a).ws.length (F a).f w H ha rfl
  rw [hf] at hq
  obtain ⟨m, S, Os, H, hnp, rfl⟩ := H
  obtain ⟨p, rfl, h1, h2, h3, _, hmy, _⟩ := H.at ha
  have hmay : mayB (F (p : Int)).k (F (p : Int)).c (F (p : Int)).ws.length (F (p : Int)).f = true := by simpa [Ob.may] using hmy
  rw [hf] at hmay
  have hmay2 := may_final hmay hk
  obtain ⟨gw, ⟨hmg, hgw⟩, hw1, hw2⟩ := H.space.wordAt (i := p) (by omega) (putZ (F (p : Int)).k (F (p : Int)).c (F (p : Int)).ws.length true)
  have hW : ∀ W, Upd [] w W → ∃ O', HeapD (W.setCell ⟨gw, p, none⟩ (.int .i64 (putZ (F (p : Int)).k (F (p : Int)).c (F (p : Int)).ws.length true))) h np l (fset F p { F p with f := true }) O' ∧ StepO (OwnsHD h Os) w O' (W.setCell ⟨gw, p, none⟩ (.int .i64 (putZ (F (p : Int)).k (F (p : Int)).c (F (p : Int)).ws.length true))) := fun W hu => by
    obtain ⟨e1, e2⟩ := H.after (hw2 W hu).1 (hw2 W hu).2 (H.objs.final H.space.wf ha hmay2)
    exact ⟨_, ⟨m, _, Os, e1, hnp, rfl⟩, e2⟩
  have HNE : Hid (h ≠ gw ∧ m ≠ gw) := Lib.hid ⟨fun e => H.sep (e ▸ hgw), hmg⟩
  have HGL : Hid (gw < w.heap.size) := Lib.hid (H.space.owned hgw)
  have hpl : p < S.W.length := by omega
  generalize fset F p { F p with f := true } = F' at *
  generalize (F (p : Int)).k = k at *
  generalize (F (p : Int)).c = c at *
  generalize (F (p : Int)).ws.length = n at *
  generalize S.W.getD p 0 = y2 at *
  obtain ⟨N, hN⟩ : ∃ N, S.W.length = N := ⟨_, rfl⟩
  rw [hN] at hw1 hpl
  have HQ := Lib.hid hq
  have HW1 := Lib.hid hw1
  have HW := Lib.hid hW
  have HM := Lib.hid hmay2
  have HH := Lib.hid H
  clear hq hW hw1 hw2 H ha hnp hmy hmay hmay2 hmg hgw hf h2 h3 hN
  go_enter Tryz.func57, Tryz.ntmps57
  go_wp2_with fail
  refine (HQ.out).mono ?_
  rintro e w1 ⟨rfl, hu⟩
  have HU := Lib.hid hu
  have HB3 : Hid (Blk (w1.alloc (.cells #[.int .i64 k, .int .i64 c, .int .i64 n, .bool true, .bool true] 113)) w1.heap.size 113 #[.int .i64 k, .int .i64 c, .int .i64 n, .bool true, .bool true]) := Lib.hid (Blk.new _ _ _)
  have HU3 : Hid (Upd [] w (w1.alloc (.cells #[.int .i64 k, .int .i64 c, .int .i64 n, .bool true, .bool true] 113))) := Lib.hid (HU.out.alloc _)
  have HGN : Hid (w1.heap.size ≠ gw) := Lib.hid (fun e => by have := HGL.out; have := HU.out.size; omega)
  clear hu
  go_upto_region 9 with fail
  generalize (w1.alloc (.cells #[.int .i64 k, .int .i64 c, .int .i64 n, .bool true, .bool true] 113)) = w3 at HB3 HU3 ⊢
  generalize w1.heap.size = g at HB3 HGN ⊢
  obtain ⟨d0, d1, d2⟩ := HW1.out w3 HU3.out
  have c0 := (HH.out.upd0 HU3.out).cells.1
  have x0 := HB3.out.cell 0
  have x1 := HB3.out.cell 1
  have x2 := HB3.out.cell 2
  have x3 := HB3.out.cell 3
  simp only [List.getElem?_toArray, List.getElem?_cons_zero, List.getElem?_cons_succ] at x0 x1 x2 x3
  go_region_held3 (fun w' => w'.cell? ⟨h, 0, none⟩ = some (.pointer (some ⟨m, 0, none⟩)) ∧ w'.cell? ⟨m, 0, none⟩ = some (.slice (some ⟨gw, 0, none⟩) N N) ∧
      w'.cell? ⟨g, 0, none⟩ = some (.int .i64 k) ∧ w'.cell? ⟨g, 1, none⟩ = some (.int .i64 c) ∧ w'.cell? ⟨g, 2, none⟩ = some (.int .i64 n) ∧ w'.cell? ⟨g, 3, none⟩ = some (.bool true))
    (first | exact ⟨c0, d0, x0, x1, x2, x3⟩ | exact ⟨e0, e1, y0, y1, y2, y3⟩ | exact ⟨g0, g1, g2, g3, g4, g5⟩)
    ((go_at_call 55; refine (doc_put k c n true _ HM.out).mono ?_; rintro e w4 ⟨rfl, hu⟩
      have HV4 : Hid (Upd [] w3 w4) := Lib.hid ((Upd.refl [] w3).drew.trans hu)
      have HU4 : Hid (Upd [] w w4) := Lib.hid (HU3.out.trans HV4.out)
      have e0 := (HH.out.upd0 HU4.out).cells.1
      obtain ⟨e1, e3, e4⟩ := HW1.out _ HU4.out
      have HB4 := Lib.hid (HB3.out.upd HV4.out (by simp))
      have y0 := HB4.out.cell 0
      have y1 := HB4.out.cell 1
      have y2 := HB4.out.cell 2
      have y3 := HB4.out.cell 3
      simp only [List.getElem?_toArray, List.getElem?_cons_zero, List.getElem?_cons_succ] at y0 y1 y2 y3
      have g0 : (w4.setCell ⟨gw, p, none⟩ (.int .i64 (putZ k c n true))).cell? ⟨h, 0, none⟩ = some (.pointer (some ⟨m, 0, none⟩)) := (World.cell?_setCell_other _ _ _ _ (fun e => HNE.out.1 (by injection e with e; exact e.symm))).trans e0
      have g1 : (w4.setCell ⟨gw, p, none⟩ (.int .i64 (putZ k c n true))).cell? ⟨m, 0, none⟩ = some (.slice (some ⟨gw, 0, none⟩) N N) := (World.cell?_setCell_other _ _ _ _ (fun e => HNE.out.2 (by injection e with e; exact e.symm))).trans e1
      have g2 : (w4.setCell ⟨gw, p, none⟩ (.int .i64 (putZ k c n true))).cell? ⟨g, 0, none⟩ = some (.int .i64 k) := (World.cell?_setCell_other _ _ _ _ (fun e => HGN.out (by injection e with e; exact e.symm))).trans y0
      have g3 : (w4.setCell ⟨gw, p, none⟩ (.int .i64 (putZ k c n true))).cell? ⟨g, 1, none⟩ = some (.int .i64 c) := (World.cell?_setCell_other _ _ _ _ (fun e => HGN.out (by injection e with e; exact e.symm))).trans y1
      have g4 : (w4.setCell ⟨gw, p, none⟩ (.int .i64 (putZ k c n true))).cell? ⟨g, 2, none⟩ = some (.int .i64 n) := (World.cell?_setCell_other _ _ _ _ (fun e => HGN.out (by injection e with e; exact e.symm))).trans y2
      have g5 : (w4.setCell ⟨gw, p, none⟩ (.int .i64 (putZ k c n true))).cell? ⟨g, 3, none⟩ = some (.bool true) := (World.cell?_setCell_other _ _ _ _ (fun e => HGN.out (by injection e with e; exact e.symm))).trans y3
      clear hu))
  all_goals
    go_wp2_with fail
    go_ret
    exact ⟨rfl, HW.out _ HU4.out⟩
end
end Go.Proofs.YtpkbdmieelgdlaaGreat
namespace Go.Proofs.YtpkbdmieelgdlaaGreat
open Go Go.RowKit

/-- The document's finalizers over its heap: those that wait, those that are pending. -/
structure DfL (w : World) (f h : Nat) (np : List Pst) (vw vp : Value) (l : List Int) (F : Int → Ob) (ws ps : List Int) (Oh : Nat → Prop) : Prop where
  heap : HeapD w h np l F Oh
  box : Blk w f 32 #[.pointer (some ⟨h, 0, none⟩), vw, vp]
  waits : Own w 0 vw ws
  pends : Own w 0 vp ps
  apart : Apart vw vp
  neW : vw.ownBlock ≠ some f
  neP : vp.ownBlock ≠ some f
  sf : ¬ Oh f
  sw : ∀ g, vw.ownBlock = some g → ¬ Oh g
  sp : ∀ g, vp.ownBlock = some g → ¬ Oh g
def OwnsDf (f : Nat) (vw vp : Value) (Oh : Nat → Prop) (k : Nat) : Prop := Oh k ∨ k = f ∨ vw.ownBlock = some k ∨ vp.ownBlock = some k
def DfO (w : World) (f h : Nat) (np : List Pst) (l : List Int) (F : Int → Ob) (ws ps : List Int) (O : Nat → Prop) : Prop := ∃ vw vp Oh, DfL w f h np vw vp l F ws ps Oh ∧ O = OwnsDf f vw vp Oh
section
variable {w w' w1 : World} {f h : Nat} {np : List Pst} {vw vp v' : Value} {l l' : List Int} {F F' : Int → Ob} {ws ps ys : List Int} {O Oh Oh' : Nat → Prop} {E : List Nat}
theorem DfL.owned (H : DfL w f h np vw vp l F ws ps Oh) {k : Nat} (hk : OwnsDf f vw vp Oh k) : k < w.heap.size := by
  rcases hk with hk | rfl | hk | hk
  · exact H.heap.owned hk
  · exact H.box.lt
  · exact (World.ownsRow.lt H.waits k hk).2
  · exact (World.ownsRow.lt H.pends k hk).2
theorem DfO.owned (H : DfO w f h np l F ws ps O) {k : Nat} (hk : O k) : k < w.heap.size := by obtain ⟨vw, vp, Oh, H, rfl⟩ := H; exact H.owned hk
theorem DfL.moved (H : DfL w f h np vw vp l F ws ps Oh) (hb : ∀ k, OwnsDf f vw vp Oh k → w'.heap[k]? = w.heap[k]?) : DfL w' f h np vw vp l F ws ps Oh :=
  ⟨H.heap.moved fun k hk => hb k (.inl hk), H.box.moved (hb _ (.inr (.inl rfl))), H.waits.moved fun g hg => hb g (.inr (.inr (.inl hg))), H.pends.moved fun g hg => hb g (.inr (.inr (.inr hg))), H.apart, H.neW, H.neP, H.sf, H.sw, H.sp⟩
theorem DfO.moved (H : DfO w f h np l F ws ps O) (hb : ∀ k, O k → w'.heap[k]? = w.heap[k]?) : DfO w' f h np l F ws ps O := by obtain ⟨vw, vp, Oh, H, rfl⟩ := H; exact ⟨vw, vp, Oh, H.moved hb, rfl⟩
theorem DfO.upd (H : DfO w f h np l F ws ps O) (hu : Upd E w w') (hE : ∀ k ∈ E, ¬ O k) : DfO w' f h np l F ws ps O := H.moved fun k hk => hu.block k (H.owned hk) fun hm => hE k hm hk
theorem DfO.upd0 (H : DfO w f h np l F ws ps O) (hu : Upd [] w w') : DfO w' f h np l F ws ps O := H.upd hu (by simp)
theorem DfL.upd0 (H : DfL w f h np vw vp l F ws ps Oh) (hu : Upd [] w w') : DfL w' f h np vw vp l F ws ps Oh := H.moved fun k hk => hu.block k (H.owned hk) (by simp)
theorem DfL.cells (H : DfL w f h np vw vp l F ws ps Oh) : w.cell? ⟨f, 0, none⟩ = some (.pointer (some ⟨h, 0, none⟩)) ∧ w.cell? ⟨f, 1, none⟩ = some vw ∧ w.cell? ⟨f, 2, none⟩ = some vp ∧ w.frozen? ⟨f, 1, none⟩ = false ∧ w.frozen? ⟨f, 2, none⟩ = false :=
  ⟨H.box.cell 0, H.box.cell 1, H.box.cell 2, H.box.frozen 1, H.box.frozen 2⟩
theorem DfO.heap (H : DfO w f h np l F ws ps O) : ∃ Oh, HeapD w h np l F Oh := by obtain ⟨vw, vp, Oh, H, rfl⟩ := H; exact ⟨Oh, H.heap⟩
/-- What the heap has done the finalizers have done. -/
theorem DfL.heaped {np' : List Pst} (H : DfL w f h np vw vp l F ws ps Oh) (hh : HeapD w' h np' l' F' Oh') (hs : StepO Oh w Oh' w') : DfL w' f h np' vw vp l' F' ws ps Oh' := by
  have hno : ∀ g, g < w.heap.size → ¬ Oh g → ¬ Oh' g := fun g hg hn hx => by
    rcases hs.own g hx with h1 | h1
    · exact hn h1
    · omega
  exact ⟨hh, H.box.moved (hs.block f H.box.lt H.sf), H.waits.moved fun g hg => hs.block g (World.ownsRow.lt H.waits g hg).2 (H.sw g hg), H.pends.moved fun g hg => hs.block g (World.ownsRow.lt H.pends g hg).2 (H.sp g hg), H.apart, H.neW, H.neP,
    hno f H.box.lt H.sf, fun g hg => hno g (World.ownsRow.lt H.waits g hg).2 (H.sw g hg), fun g hg => hno g (World.ownsRow.lt H.pends g hg).2 (H.sp g hg)⟩
theorem StepO.dfinals {f : Nat} {vw vp : Value} (h : StepO Oh w Oh' w') : StepO (OwnsDf f vw vp Oh) w (OwnsDf f vw vp Oh') w' := h.wide (P := fun k => k = f ∨ vw.ownBlock = some k ∨ vp.ownBlock = some k)
/-- Those that wait are others. -/
theorem DfL.setW (H : DfL w f h np vw vp l F ws ps Oh) (ho : Own w1 0 v' ys) (hu : Upd E w w1) (hE : ∀ i ∈ E, vw.ownBlock = some i) (hv : ∀ g, v'.ownBlock = some g → vw.ownBlock = some g ∨ w.heap.size ≤ g) :
    DfL (w1.setCell ⟨f, 1, none⟩ v') f h np v' vp l F ys ps Oh ∧ StepO (OwnsDf f vw vp Oh) w (OwnsDf f v' vp Oh) (w1.setCell ⟨f, 1, none⟩ v') ∧ w1.cell? ⟨f, 1, none⟩ = some vw ∧ w1.frozen? ⟨f, 1, none⟩ = false ∧ (w1.setCell ⟨f, 1, none⟩ v').cell? ⟨f, 2, none⟩ = some vp ∧ (w1.setCell ⟨f, 1, none⟩ v').frozen? ⟨f, 2, none⟩ = false := by
  have hf := H.box.lt
  have hb : ∀ k, k < w.heap.size → vw.ownBlock ≠ some k → w1.heap[k]? = w.heap[k]? := fun k hk hn => hu.block k hk fun hm => hn (hE k hm)
  have hs : ∀ k, k ≠ f → (w1.setCell ⟨f, 1, none⟩ v').heap[k]? = w1.heap[k]? := fun k hk => Below.heap_setCell _ _ _ _ hk
  have hbx : Blk w1 f 32 #[.pointer (some ⟨h, 0, none⟩), vw, vp] := H.box.moved (hb f hf H.neW)
  have hbx2 : Blk (w1.setCell ⟨f, 1, none⟩ v') f 32 #[.pointer (some ⟨h, 0, none⟩), v', vp] := hbx.set_ 1 v'
  have hnf : v'.ownBlock ≠ some f := fun e => by
    rcases hv f e with h1 | h1
    · exact H.neW h1
    · omega
  have hsw : ∀ g, v'.ownBlock = some g → ¬ Oh g := fun g hg hx => by
    rcases hv g hg with h1 | h1
    · exact H.sw g h1 hx
    · have := H.heap.owned hx; omega
  refine ⟨⟨H.heap.moved fun k hk => (hs k fun e => H.sf (e ▸ hk)).trans (hb k (H.heap.owned hk) fun e => H.sw k e hk), hbx2, ho.moved fun g hg => hs g fun e => hnf (e ▸ hg), H.pends.moved fun g hg => (hs g fun e => H.neP (e ▸ hg)).trans (hb g (World.ownsRow.lt H.pends g hg).2 fun e => H.apart g e hg), fun b h1 h2 => ?_, hnf, H.neP, H.sf, hsw, H.sp⟩,
    ⟨hu.os, hu.tape, hu.output, by simpa [World.setCell] using hu.size, fun k hk hn => (hs k fun e => hn (.inr (.inl e))).trans (hb k hk fun e => hn (.inr (.inr (.inl e)))), fun k hk => ?_⟩, hbx.cell 1, hbx.frozen 1, hbx2.cell 2, hbx2.frozen 2⟩
  · rcases hv b h1 with h3 | h3
    · exact H.apart b h3 h2
    · have := (World.ownsRow.lt H.pends b h2).2; omega
  · rcases hk with hk | hk | hk | hk
    · exact .inl (.inl hk)
    · exact .inl (.inr (.inl hk))
    · rcases hv k hk with h1 | h1
      · exact .inl (.inr (.inr (.inl h1)))
      · exact .inr h1
    · exact .inl (.inr (.inr (.inr hk)))
/-- Those that are pending are others. -/
theorem DfL.setP (H : DfL w f h np vw vp l F ws ps Oh) (ho : Own w1 0 v' ys) (hu : Upd E w w1) (hE : ∀ i ∈ E, vp.ownBlock = some i) (hv : ∀ g, v'.ownBlock = some g → vp.ownBlock = some g ∨ w.heap.size ≤ g) :
    DfL (w1.setCell ⟨f, 2, none⟩ v') f h np vw v' l F ws ys Oh ∧ StepO (OwnsDf f vw vp Oh) w (OwnsDf f vw v' Oh) (w1.setCell ⟨f, 2, none⟩ v') ∧ w1.cell? ⟨f, 2, none⟩ = some vp ∧ w1.frozen? ⟨f, 2, none⟩ = false := by
  have hf := H.box.lt
  have hb : ∀ k, k < w.heap.size → vp.ownBlock ≠ some k → w1.heap[k]? = w.heap[k]? := fun k hk hn => hu.block k hk fun hm => hn (hE k hm)
  have hs : ∀ k, k ≠ f → (w1.setCell ⟨f, 2, none⟩ v').heap[k]? = w1.heap[k]? := fun k hk => Below.heap_setCell _ _ _ _ hk
  have hbx : Blk w1 f 32 #[.pointer (some ⟨h, 0, none⟩), vw, vp] := H.box.moved (hb f hf H.neP)
  have hbx2 : Blk (w1.setCell ⟨f, 2, none⟩ v') f 32 #[.pointer (some ⟨h, 0, none⟩), vw, v'] := hbx.set_ 2 v'
  have hnf : v'.ownBlock ≠ some f := fun e => by
    rcases hv f e with h1 | h1
    · exact H.neP h1
    · omega
  have hsw : ∀ g, v'.ownBlock = some g → ¬ Oh g := fun g hg hx => by
    rcases hv g hg with h1 | h1
    · exact H.sp g h1 hx
    · have := H.heap.owned hx; omega
  refine ⟨⟨H.heap.moved fun k hk => (hs k fun e => H.sf (e ▸ hk)).trans (hb k (H.heap.owned hk) fun e => H.sp k e hk), hbx2, H.waits.moved fun g hg => (hs g fun e => H.neW (e ▸ hg)).trans (hb g (World.ownsRow.lt H.waits g hg).2 fun e => H.apart g hg e), ho.moved fun g hg => hs g fun e => hnf (e ▸ hg), fun b h1 h2 => ?_, H.neW, hnf, H.sf, H.sw, hsw⟩,
    ⟨hu.os, hu.tape, hu.output, by simpa [World.setCell] using hu.size, fun k hk hn => (hs k fun e => hn (.inr (.inl e))).trans (hb k hk fun e => hn (.inr (.inr (.inr e)))), fun k hk => ?_⟩, hbx.cell 2, hbx.frozen 2⟩
  · rcases hv b h2 with h3 | h3
    · exact H.apart b h1 h3
    · have := (World.ownsRow.lt H.waits b h1).2; omega
  · rcases hk with hk | hk | hk | hk
    · exact .inl (.inl hk)
    · exact .inl (.inr (.inl hk))
    · exact .inl (.inr (.inr (.inl hk)))
    · rcases hv k hk with h1 | h1
      · exact .inl (.inr (.inr (.inr h1)))
      · exact .inr h1
end

end Go.Proofs.YtpkbdmieelgdlaaGreat
namespace Go.Proofs.YtpkbdmieelgdlaaGreat
open Go Go.RowKit

section
variable {w w' w1 : World} {f h : Nat} {np : List Pst} {vw vp v' : Value} {l l' : List Int} {F F' : Int → Ob} {ws ps ys : List Int} {O Oh Oh' : Nat → Prop} {E : List Nat}
theorem dawait_no (f h : Nat) (np : List Pst) (a y : Int) (w : World) (H : DfO w f h np l F ws ps O) (ha : a ∉ l ∧ y = 2 ∨ a ∈ l ∧ ((F a).k = 4 ∧ y = 5 ∨ (F a).k ≠ 4 ∧ (F a).f = true ∧ y = 4)) :
    Calls Tryz.prog 11 #[.pointer (some ⟨f, 0, none⟩), .int .i64 a] w fun e w' => e = .returned (.int .i64 y) ∧ Upd [] w w' := by
  obtain ⟨vw, vp, Oh, H, rfl⟩ := H
  have hq : Calls Tryz.prog 57 #[.pointer (some ⟨h, 0, none⟩), .int .i64 a] w fun e w' => e = .returned (.int .i64 y) ∧ Upd [] w w' := by
    rcases ha with ⟨ha, rfl⟩ | ⟨ha, hy⟩
    · exact dfinal_no h np a w H.heap ha
    · exact dfinal_bad h np a y w H.heap ha hy
  have hy0 : y ≠ 0 := by omega
  obtain ⟨c0, _⟩ := H.cells
  have HQ := Lib.hid hq
  clear H hq ha
  go_enter Tryz.func11, Tryz.ntmps11
  go_wp2_with fail
  refine (HQ.out).mono ?_
  rintro e w1 ⟨rfl, hu⟩
  have HU := Lib.hid hu
  clear hu
  go_wp2_with fail
  go_ret
  exact ⟨rfl, HU.out⟩
set_option maxRecDepth 100000 in
theorem dawait_yes (f h : Nat) (np : List Pst) (a : Int) (w : World) (H : DfO w f h np l F ws ps O) (ha : a ∈ l) (hk : (F a).k ≠ 4) (hf : (F a).f = false) (hn : ws.length ≤ 100000) :
    Calls Tryz.prog 11 #[.pointer (some ⟨f, 0, none⟩), .int .i64 a] w fun e w' => e = .returned (.int .i64 0) ∧ ∃ O', DfO w' f h np l (fset F a { F a with f := true }) (ws ++ [a]) ps O' ∧ StepO O w O' w' := by
  obtain ⟨vw, vp, Oh, H, rfl⟩ := H
  obtain ⟨c0, _⟩ := H.cells
  have HQ := Lib.hid (dfinal_yes h np a w H.heap ha hk hf)
  have HH := Lib.hid H
  have HN := Lib.hid hn
  generalize fset F a { F a with f := true } = F' at *
  clear H ha hk hf hn
  go_enter Tryz.func11, Tryz.ntmps11
  go_wp2_with fail
  refine (HQ.out).mono ?_
  rintro e w1 ⟨rfl, O1, hh, hs⟩
  have HF1 := Lib.hid (HH.out.heaped hh hs)
  have HS1 := Lib.hid (hs.dfinals (f := f) (vw := vw) (vp := vp))
  obtain ⟨A, c, hv, hI, hne⟩ := HF1.out.waits.form
  obtain ⟨n, hn⟩ : ∃ n, ws.length = n := ⟨_, rfl⟩
  rw [hn] at hv
  subst hv
  have HNW := Lib.hid hn
  have HI : Hid (∀ W, Upd [] w1 W → IsInts W A ws) := Lib.hid fun W hu => by
    obtain ⟨A', c', e, hI', -⟩ := ((HF1.out.upd0 hu).waits).form
    simp only [Value.slice.injEq] at e
    obtain ⟨rfl, -, -⟩ := e
    exact hI'
  have HNE := Lib.hid hne
  obtain ⟨d0, d1, d2, d3, d4⟩ := HF1.out.cells
  have HC : Hid (∀ W, Upd [] w1 W → W.cell? ⟨f, 1, none⟩ = some (.slice A n c) ∧ W.frozen? ⟨f, 1, none⟩ = false) := Lib.hid fun W hu => ⟨(HF1.out.upd0 hu).cells.2.1, (HF1.out.upd0 hu).cells.2.2.2.1⟩
  obtain ⟨q1, q2⟩ := HC.out _ ((Upd.refl [] w1).alloc (.cells #[] 3))
  clear hh hs c0 hI hne hn
  go_wp2_with (at_builtin; refine wpList_pushes w1 rfl _ _ rfl w1.heap.size (.slice (some ⟨w1.heap.size, 0, none⟩) 0 0) [] rfl (own_emptyAt w1 _ rfl (Nat.le_refl _)) A c ws n HNW.out rfl (HI.out _ ((Upd.refl [] w1).alloc _)) HNE.out (by have := HN.out; simp; omega) (Nat.le_refl _) ((Upd.refl [] w1).alloc _) (by simp) ?_)
  intro v5 w5 h5 hu5 hz5
  have HO5 := Lib.hid h5
  have HU5 := Lib.hid hu5
  obtain ⟨A5, c5, hv5, -, -⟩ := h5.form
  rw [HNW.out] at hv5
  subst hv5
  clear h5 hu5
  go_wp2_with (at_builtin; refine wpList_push w1 rfl _ _ rfl w1.heap.size (.slice A5 n c5) ws rfl (HO5.out.alloc _) w5.heap.size a rfl (Blk.new _ _ _) (by have := HN.out; omega) (Nat.le_refl _) (HU5.out.alloc _) (by simp; omega) ?_)
  intro v6 w6 h6 hu6 hz6
  obtain ⟨hF3, hS3, -, -, -⟩ := HF1.out.setW (own_mono h6 (Nat.zero_le _)) hu6 (by simp) (fun g hg => .inr (own_low h6 hg).1)
  have HF3 := Lib.hid hF3
  have HS3 := Lib.hid hS3
  obtain ⟨e1, e2⟩ := HC.out _ hu6
  obtain ⟨A6, c6, hv6, -, -⟩ := h6.form
  obtain ⟨n6, hn6⟩ : ∃ n6, (ws ++ [a]).length = n6 := ⟨_, rfl⟩
  rw [hn6] at hv6
  subst hv6
  clear hn6 h6 hu6 hF3 hS3 d0 d1 d2 d3 d4 q1 q2
  go_wp2_with fail
  go_ret
  exact ⟨rfl, _, ⟨_, _, _, HF3.out, rfl⟩, HS1.out.trans HS3.out⟩
end
end Go.Proofs.YtpkbdmieelgdlaaGreat
namespace Go.Proofs.YtpkbdmieelgdlaaGreat
open Go Go.RowKit

section
variable {w w' w1 : World} {f h : Nat} {np : List Pst} {vw vp v' : Value} {l l' : List Int} {F F' : Int → Ob} {ws ps ys : List Int} {O Oh Oh' : Nat → Prop} {E : List Nat}
theorem dtake_no (f h : Nat) (np : List Pst) (i : Int) (w : World) (H : DfO w f h np l F ws ps O) (hi : i < 0 ∨ ps.length ≤ i) :
    Calls Tryz.prog 15 #[.pointer (some ⟨f, 0, none⟩), .int .i64 i] w fun e w' => e = .returned (.agg #[.int .i64 0, .int .i64 1]) ∧ Upd [] w w' := by
  obtain ⟨vw, vp, Oh, H, rfl⟩ := H
  obtain ⟨A, c, hv, -, -⟩ := H.pends.form
  obtain ⟨n, hn⟩ : ∃ n, ps.length = n := ⟨_, rfl⟩
  rw [hn] at hv hi
  subst hv
  obtain ⟨-, -, c2, -, -⟩ := (H.upd0 ((Upd.refl [] w).alloc (.cells #[.int .i64 0, .int .i64 0] 34))).cells
  clear H hn
  by_cases h0 : i < 0
  · clear hi
    go_enter Tryz.func15, Tryz.ntmps15
    go_wp2_with fail
    exact cell_ret rfl (Blk.new _ _ _) rfl rfl Tryz.underlying34 (by kernel_rfl) ⟨rfl, (Upd.refl [] w).alloc _⟩
  · have h1 : (n : Int) ≤ i := by omega
    clear hi
    go_enter Tryz.func15, Tryz.ntmps15
    go_wp2_with fail
    exact cell_ret rfl (Blk.new _ _ _) rfl rfl Tryz.underlying34 (by kernel_rfl) ⟨rfl, (Upd.refl [] w).alloc _⟩
end
end Go.Proofs.YtpkbdmieelgdlaaGreat
namespace Go.Proofs.YtpkbdmieelgdlaaGreat
open Go Go.RowKit

section
variable {w w' w1 : World} {f h : Nat} {np : List Pst} {vw vp v' : Value} {l l' : List Int} {F F' : Int → Ob} {ws ps ys : List Int} {O Oh Oh' : Nat → Prop} {E : List Nat}
set_option maxRecDepth 100000 in
set_option maxHeartbeats 3200000 in
theorem dtake_yes (f h : Nat) (np : List Pst) (i : Int) (j : Nat) (w : World) (H : DfO w f h np l F ws ps O) (hi : i = j) (hj : j < ps.length) (hn : ps.length ≤ 100000) :
    Calls Tryz.prog 15 #[.pointer (some ⟨f, 0, none⟩), .int .i64 i] w fun e w' => e = .returned (.agg #[.int .i64 (ps.getD j 0), .int .i64 0]) ∧ ∃ O', DfO w' f h np l F ws (ps.eraseIdx j) O' ∧ StepO O w O' w' := by
  subst hi
  have HG : Hid (Blk (w.alloc (.cells #[.int .i64 0, .int .i64 0] 34)) w.heap.size 34 #[.int .i64 0, .int .i64 0]) := Lib.hid (Blk.new _ _ _)
  have HUA : Hid (Upd [] w (w.alloc (.cells #[.int .i64 0, .int .i64 0] 34))) := Lib.hid ((Upd.refl [] w).alloc _)
  obtain ⟨vw, vp, Oh, H, rfl⟩ := H
  have HH := Lib.hid H
  have HH1 := Lib.hid (H.upd0 HUA.out)
  obtain ⟨-, -, c2, -, f2⟩ := HH1.out.cells
  rcases own_cases HH1.out.pends with ⟨-, rfl⟩ | ⟨g, c, rfl, hcs, hle, hcm⟩
  · simp at hj
  have d5 := hcs j hj
  rw [Nat.zero_add] at d5
  obtain ⟨x, hx⟩ : ∃ x, ps.getD j 0 = x := ⟨_, rfl⟩
  rw [hx] at d5 ⊢
  have hlt := (World.ownsRow.lt HH1.out.pends g rfl).2
  have HTL : Hid ((ps.take j).length = j) := Lib.hid (by rw [List.length_take]; omega)
  have HPS := Lib.hid (And.intro hj hcs)
  obtain ⟨n, hN⟩ : ∃ n, ps.length = n := ⟨_, rfl⟩
  have HN := Lib.hid hN
  rw [hN] at c2 hj hle hn
  obtain ⟨m, hm⟩ : ∃ m, n - (j + 1) = m := ⟨_, rfl⟩
  have hnm : n = j + 1 + m := by omega
  clear H hx hcs hN hm
  go_enter Tryz.func15, Tryz.ntmps15
  go_upto_region 4 with fail
  have HNG : Hid (w.heap.size ≠ f) := Lib.hid (fun e => by have := HH.out.box.lt; omega)
  obtain ⟨wc, hwc⟩ : ∃ wc, w.alloc (.cells #[.int .i64 0, .int .i64 0] 34) = wc := ⟨_, rfl⟩
  rw [hwc] at HG HUA HH1 c2 f2 d5 hlt HPS ⊢
  clear hwc
  have HF : Hid (∀ W, Upd [] wc W → W.cell? ⟨f, 2, none⟩ = some (.slice (some ⟨g, 0, none⟩) n c)) := Lib.hid fun W hu => (hu.cell (World.block_lt_of_cell? _ _ c2) (by simp)).trans c2
  have HFZ : Hid (∀ W, Upd [] wc W → W.frozen? ⟨f, 2, none⟩ = false) := Lib.hid fun W hu => (HH1.out.upd0 hu).cells.2.2.2.2
  have HCL : Hid (∀ W, Upd [] wc W → ∀ i, i < n → W.cell? ⟨g, i, none⟩ = some (.int .i64 (ps.getD i 0))) := Lib.hid fun W hu i hi => (hu.cell (p := ⟨g, i, none⟩) hlt (by simp)).trans (by have := HPS.out.2 i (by rw [HN.out]; exact hi); rwa [Nat.zero_add] at this)
  have HLT : Hid (g < wc.heap.size) := Lib.hid hlt
  have HS1 : Hid (∀ W, Upd [] wc W → IsInts W (some ⟨g, 0, none⟩) (ps.take j)) := Lib.hid fun W hu => .inr ⟨g, 0, rfl, Nat.lt_of_lt_of_le HLT.out hu.size, fun i hi => by
    rw [HTL.out] at hi
    rw [Nat.zero_add, HCL.out W hu i (by omega), List.getD_eq_getElem?_getD, List.getD_eq_getElem?_getD, List.getElem?_take_of_lt hi]⟩
  have HDL : Hid ((ps.drop (j + 1)).length = m) := Lib.hid (by rw [List.length_drop, HN.out]; omega)
  have hjc : j ≤ c := by omega
  have hj0 : (j : Int) ≤ (c : Int) := by omega
  have hj1 : (j : Int) + 1 ≤ (n : Int) := by omega
  have hj2 : (0 : Int) ≤ (j : Int) + 1 := by omega
  have hw1 : IntKind.i64.wrap ((j : Int) + 1) = (j : Int) + 1 := IntWalk.i64_in _ (by omega)
  clear d5 f2 HPS hlt
  by_cases hc1 : c = j + 1
  · have h0 : m = 0 := by omega
    have HS2 : Hid (∀ W, Upd [] wc W → IsInts W (some ⟨g, 0, none⟩) (ps.drop (j + 1))) := Lib.hid fun W hu => .inl (List.eq_nil_of_length_eq_zero (by rw [HDL.out]; exact h0))
    have hn1 : n = j + 1 := by omega
    clear hnm
    subst h0
    subst hn1
    subst hc1
    have hj3 : (j : Int) ≤ (j : Int) + 1 := by omega
    refine Sink.wp_sinkCH 19 (fun w' => w'.cell? ⟨f, 2, none⟩ = some (.slice (some ⟨g, 0, none⟩) (j + 1) (j + 1))) rfl (by kernel_rfl) (by kernel_rfl) (by kernel_rfl) (by kernel_rfl) (HF.out _ (Upd.refl [] wc).drew) (fun hHeld => ?_)
    simp only [List.dropLast]
    refine wpAnyH_take (i := 0) (oi := _) (v := ?_) rfl (by kernel_rfl) (by kernel_rfl) (by kernel_rfl) (fun _ _ _ h => h) (Or.inl ⟨by rfl, ?_⟩) hHeld ?_
    rotate_left
    · (intro w' hSw; (try dsimp only at hSw); go_simp; (try with_reducible rfl))
    refine wpAnyH_take (i := 2) (oi := _) (v := ?_) rfl (by kernel_rfl) (by kernel_rfl) (by kernel_rfl) (fun _ _ _ h => h) (Or.inl ⟨by rfl, ?_⟩) hHeld ?_
    rotate_left
    · (intro w' hSw; (try dsimp only at hSw); go_simp; (try with_reducible rfl))
    refine wpAnyH_take (i := 3) (oi := _) (v := ?_) rfl (by kernel_rfl) (by kernel_rfl) (by kernel_rfl) (fun _ _ _ h => h) (Or.inl ⟨by rfl, ?_⟩) hHeld ?_
    rotate_left
    · (intro w' hSw; (try dsimp only at hSw); go_simp; (try with_reducible rfl))
    refine wpAnyH_take (i := 4) (oi := _) (v := ?_) rfl (by kernel_rfl) (by kernel_rfl) (by kernel_rfl) (fun _ _ _ h => h) (Or.inl ⟨by rfl, ?_⟩) hHeld ?_
    rotate_left
    · (intro w' hSw; (try dsimp only at hSw); go_simp; (try with_reducible rfl))
    refine wpAnyH_take (i := 5) (oi := _) (v := ?_) rfl (by kernel_rfl) (by kernel_rfl) (by kernel_rfl) (fun _ _ _ h => h) (Or.inl ⟨by rfl, ?_⟩) hHeld ?_
    rotate_left
    · (intro w' hSw; (try dsimp only at hSw); go_simp; (try with_reducible rfl))
    refine wpAnyH_take (i := 6) (oi := _) (v := ?_) rfl (by kernel_rfl) (by kernel_rfl) (by kernel_rfl) (fun _ _ _ h => h) (Or.inl ⟨by rfl, ?_⟩) hHeld ?_
    rotate_left
    · (intro w' hSw; (try dsimp only at hSw); go_simp; (try with_reducible rfl))
    refine wpAnyH_take (i := 7) (oi := _) (v := ?_) rfl (by kernel_rfl) (by kernel_rfl) (by kernel_rfl) (fun _ _ _ h => h) (Or.inl ⟨by rfl, ?_⟩) hHeld ?_
    rotate_left
    · (intro w' hSw; (try dsimp only at hSw); go_simp; (try with_reducible rfl))
    refine wpAnyH_take (i := 9) (oi := _) (v := ?_) rfl (by kernel_rfl) (by kernel_rfl) (by kernel_rfl) (fun _ _ _ h => h) (Or.inl ⟨by rfl, ?_⟩) hHeld ?_
    rotate_left
    · (intro w' hSw; (try dsimp only at hSw); go_simp; (try with_reducible rfl))
    refine wpAnyH_take (i := 10) (oi := _) (v := ?_) rfl (by kernel_rfl) (by kernel_rfl) (by kernel_rfl) (fun _ _ _ h => h) (Or.inl ⟨by rfl, ?_⟩) hHeld ?_
    rotate_left
    · (intro w' hSw; (try dsimp only at hSw); go_simp; (try with_reducible rfl))
    refine wpAnyH_take (i := 11) (oi := _) (v := ?_) rfl (by kernel_rfl) (by kernel_rfl) (by kernel_rfl) (fun _ _ _ h => h) (Or.inl ⟨by rfl, ?_⟩) hHeld ?_
    rotate_left
    · (intro w' hSw; (try dsimp only at hSw); go_simp; (try with_reducible rfl))
    refine wpAnyH_take (i := 12) (oi := _) (v := ?_) rfl (by kernel_rfl) (by kernel_rfl) (by kernel_rfl) (fun _ _ _ h => h) (Or.inl ⟨by rfl, ?_⟩) hHeld ?_
    rotate_left
    · (intro w' hSw; (try dsimp only at hSw); go_simp; (try with_reducible rfl))
    refine wpAnyH_take (i := 13) (oi := _) (v := ?_) rfl (by kernel_rfl) (by kernel_rfl) (by kernel_rfl) (fun _ _ _ h => h) (Or.inl ⟨by rfl, ?_⟩) hHeld ?_
    rotate_left
    · (intro w' hSw; (try dsimp only at hSw); go_simp; (try with_reducible rfl))
    refine wpAnyH_take (i := 14) (oi := _) (v := ?_) rfl (by kernel_rfl) (by kernel_rfl) (by kernel_rfl) (fun _ _ _ h => h) (Or.inl ⟨by rfl, ?_⟩) hHeld ?_
    rotate_left
    · (intro w' hSw; (try dsimp only at hSw); go_simp; (try with_reducible rfl))
    refine wpAnyH_take (i := 15) (oi := _) (v := ?_) rfl (by kernel_rfl) (by kernel_rfl) (by kernel_rfl) (fun _ _ _ h => h) (Or.inl ⟨by rfl, ?_⟩) hHeld ?_
    rotate_left
    · (intro w' hSw; (try dsimp only at hSw); go_simp; (try with_reducible rfl))
    refine wpAnyH_ready (rs := [1]) (by kernel_rfl) (by simp) ?_
    refine AllReadyH.cons (o := _) rfl (fun K hK => ?_) ?_
    · go_simp
      refine hK.out _ _ (HF.out _ ((Upd.refl [] wc).alloc _).drew) (fun hHeld => ?_)
      clear hK K
      refine wpAnyH_ready (rs := [8]) (by kernel_rfl) (by simp) ?_
      refine AllReadyH.cons (o := _) rfl (fun K hK => ?_) ?_
      · refine step_pushes wc rfl _ _ rfl wc.heap.size (.slice (some ⟨wc.heap.size, 0, none⟩) 0 0) [] rfl (own_emptyAt wc _ rfl (Nat.le_refl _)) (some ⟨g, 0, none⟩) _ (ps.take j) j HTL.out rfl (HS1.out _ (((Upd.refl [] wc).alloc _).drew)) (fun e => by cases e) (by rw [HTL.out]; first | (simp; done) | (simp; omega)) (Nat.le_refl _) (((Upd.refl [] wc).alloc _).drew) (by simp) ?_
        intro v5 w5 h1 h2 h3 h4
        rw [List.nil_append] at h1
        have HO5 := Lib.hid h1
        have HU5 := Lib.hid h2
        clear h1 h2 h3 h4
        refine hK.out _ _ (HF.out _ HU5.out) (fun hHeld => ?_)
        clear hK K
        refine wpAnyH_ready (rs := [16]) (by kernel_rfl) (by simp) ?_
        refine AllReadyH.cons (o := _) rfl (fun K hK => ?_) ?_
        · refine step_pushes wc rfl _ _ rfl wc.heap.size v5 (ps.take j) rfl HO5.out (some ⟨g, 0, none⟩) _ (ps.drop (j + 1)) 0 HDL.out rfl (HS2.out _ HU5.out) (fun e => by cases e) (by rw [HTL.out, HDL.out]; omega) (Nat.le_refl _) HU5.out (by have := HU5.out.size; omega) ?_
          intro v6 w6 h1 h2 h3 h4
          rw [← List.eraseIdx_eq_take_drop_succ] at h1
          obtain ⟨A6, c6, hv6, -, -⟩ := h1.form
          obtain ⟨m6, hm6⟩ : ∃ m6, (ps.eraseIdx j).length = m6 := ⟨_, rfl⟩
          rw [hm6] at hv6
          subst hv6
          have HO6 := Lib.hid h1
          have HU6 := Lib.hid h2
          clear h1 h2 h3 h4 hm6
          refine hK.out _ _ (HF.out _ HU6.out) (fun hHeld => ?_)
          clear hK K
          refine wpAnyH_take (i := 17) (oi := _) (v := ?_) rfl (by kernel_rfl) (by kernel_rfl) (by kernel_rfl) (fun _ _ _ h => h) (Or.inl ⟨by rfl, ?_⟩) hHeld ?_
          rotate_left
          · (intro w' hSw; (try dsimp only at hSw); go_simp; (try with_reducible rfl))
          refine wpAnyH_take (i := 18) (oi := _) (v := ?_) rfl (by kernel_rfl) (by kernel_rfl) (by kernel_rfl) (fun _ _ _ h => h) (Or.inl ⟨by rfl, ?_⟩) hHeld ?_
          rotate_left
          · (intro w' hSw; (try dsimp only at hSw); go_simp; (try with_reducible rfl))
          refine wpAnyH_done (by kernel_rfl) ?_ _
          have k1 := HF.out _ HU6.out
          have k2 := HFZ.out _ HU6.out
          obtain ⟨hd, hs, -, -⟩ := HH1.out.setP (own_mono HO6.out (Nat.zero_le _)) HU6.out (by simp) (fun g hg => .inr (own_low HO6.out hg).1)
          have HD := Lib.hid hd
          have HS := Lib.hid (StepO.behind HUA.out hs)
          have hg6 := (HG.out.upd HU6.out (by simp)).far (p := ⟨f, 2, none⟩) HNG.out (.slice A6 m6 c6)
          have HG6 := Lib.hid hg6
          have hnb : ∀ k, OwnsDf f vw (.slice A6 m6 c6) Oh k → k ≠ w.heap.size := fun k hk e => by
            rcases hs.own k hk with h1 | h1
            · have := HH.out.owned h1; omega
            · have := HG.out.lt; omega
          have HNB := Lib.hid hnb
          have z0 := hg6.cell 0
          have z1 := hg6.cell 1
          have z2 := hg6.frozen 0
          have z3 := hg6.frozen 1
          simp only [List.getElem?_toArray, List.getElem?_cons_zero, List.getElem?_cons_succ] at z0 z1
          clear hHeld hd hs hg6 hnb
          change wpList _ _ _ _ _ _
          go_wp2_with fail
          exact cell_ret rfl ((HG6.out.set_ 0 _).set_ 1 _) rfl rfl Tryz.underlying34 (by kernel_rfl) ⟨rfl, _, ⟨_, _, _, HD.out.moved fun k hk => (Below.heap_setCell _ _ _ _ (HNB.out k hk)).trans (Below.heap_setCell _ _ _ _ (HNB.out k hk)), rfl⟩, ((HS.out).newCell (Nat.le_refl _) _).newCell (Nat.le_refl _) _⟩
        · exact AllReadyH.nil
      · exact AllReadyH.nil
    · exact AllReadyH.nil
  · have HS2 : Hid (∀ W, Upd [] wc W → IsInts W (some ⟨g, j + 1, none⟩) (ps.drop (j + 1))) := Lib.hid fun W hu => .inr ⟨g, j + 1, rfl, Nat.lt_of_lt_of_le HLT.out hu.size, fun i hi => by
      rw [HDL.out] at hi
      rw [HCL.out W hu (j + 1 + i) (by omega), List.getD_eq_getElem?_getD, List.getD_eq_getElem?_getD, List.getElem?_drop]⟩
    have hm0 : n - (j + 1) = m := by omega
    clear hnm
    refine Sink.wp_sinkCH 19 (fun w' => w'.cell? ⟨f, 2, none⟩ = some (.slice (some ⟨g, 0, none⟩) n c)) rfl (by kernel_rfl) (by kernel_rfl) (by kernel_rfl) (by kernel_rfl) (HF.out _ (Upd.refl [] wc).drew) (fun hHeld => ?_)
    simp only [List.dropLast]
    refine wpAnyH_take (i := 0) (oi := _) (v := ?_) rfl (by kernel_rfl) (by kernel_rfl) (by kernel_rfl) (fun _ _ _ h => h) (Or.inl ⟨by rfl, ?_⟩) hHeld ?_
    rotate_left
    · (intro w' hSw; (try dsimp only at hSw); go_simp; (try with_reducible rfl))
    refine wpAnyH_take (i := 2) (oi := _) (v := ?_) rfl (by kernel_rfl) (by kernel_rfl) (by kernel_rfl) (fun _ _ _ h => h) (Or.inl ⟨by rfl, ?_⟩) hHeld ?_
    rotate_left
    · (intro w' hSw; (try dsimp only at hSw); go_simp; (try with_reducible rfl))
    refine wpAnyH_take (i := 3) (oi := _) (v := ?_) rfl (by kernel_rfl) (by kernel_rfl) (by kernel_rfl) (fun _ _ _ h => h) (Or.inl ⟨by rfl, ?_⟩) hHeld ?_
    rotate_left
    · (intro w' hSw; (try dsimp only at hSw); go_simp; (try with_reducible rfl))
    refine wpAnyH_take (i := 4) (oi := _) (v := ?_) rfl (by kernel_rfl) (by kernel_rfl) (by kernel_rfl) (fun _ _ _ h => h) (Or.inl ⟨by rfl, ?_⟩) hHeld ?_
    rotate_left
    · (intro w' hSw; (try dsimp only at hSw); go_simp; (try with_reducible rfl))
    refine wpAnyH_take (i := 5) (oi := _) (v := ?_) rfl (by kernel_rfl) (by kernel_rfl) (by kernel_rfl) (fun _ _ _ h => h) (Or.inl ⟨by rfl, ?_⟩) hHeld ?_
    rotate_left
    · (intro w' hSw; (try dsimp only at hSw); go_simp; (try with_reducible rfl))
    refine wpAnyH_take (i := 6) (oi := _) (v := ?_) rfl (by kernel_rfl) (by kernel_rfl) (by kernel_rfl) (fun _ _ _ h => h) (Or.inl ⟨by rfl, ?_⟩) hHeld ?_
    rotate_left
    · (intro w' hSw; (try dsimp only at hSw); go_simp; (try with_reducible rfl))
    refine wpAnyH_take (i := 7) (oi := _) (v := ?_) rfl (by kernel_rfl) (by kernel_rfl) (by kernel_rfl) (fun _ _ _ h => h) (Or.inl ⟨by rfl, ?_⟩) hHeld ?_
    rotate_left
    · (intro w' hSw; (try dsimp only at hSw); go_simp; (try with_reducible rfl))
    refine wpAnyH_take (i := 9) (oi := _) (v := ?_) rfl (by kernel_rfl) (by kernel_rfl) (by kernel_rfl) (fun _ _ _ h => h) (Or.inl ⟨by rfl, ?_⟩) hHeld ?_
    rotate_left
    · (intro w' hSw; (try dsimp only at hSw); go_simp; (try with_reducible rfl))
    refine wpAnyH_take (i := 10) (oi := _) (v := ?_) rfl (by kernel_rfl) (by kernel_rfl) (by kernel_rfl) (fun _ _ _ h => h) (Or.inl ⟨by rfl, ?_⟩) hHeld ?_
    rotate_left
    · (intro w' hSw; (try dsimp only at hSw); go_simp; (try with_reducible rfl))
    refine wpAnyH_take (i := 11) (oi := _) (v := ?_) rfl (by kernel_rfl) (by kernel_rfl) (by kernel_rfl) (fun _ _ _ h => h) (Or.inl ⟨by rfl, ?_⟩) hHeld ?_
    rotate_left
    · (intro w' hSw; (try dsimp only at hSw); go_simp; (try with_reducible rfl))
    refine wpAnyH_take (i := 12) (oi := _) (v := ?_) rfl (by kernel_rfl) (by kernel_rfl) (by kernel_rfl) (fun _ _ _ h => h) (Or.inl ⟨by rfl, ?_⟩) hHeld ?_
    rotate_left
    · (intro w' hSw; (try dsimp only at hSw); go_simp; (try with_reducible rfl))
    refine wpAnyH_take (i := 13) (oi := _) (v := ?_) rfl (by kernel_rfl) (by kernel_rfl) (by kernel_rfl) (fun _ _ _ h => h) (Or.inl ⟨by rfl, ?_⟩) hHeld ?_
    rotate_left
    · (intro w' hSw; (try dsimp only at hSw); go_simp; (try with_reducible rfl))
    refine wpAnyH_take (i := 14) (oi := _) (v := ?_) rfl (by kernel_rfl) (by kernel_rfl) (by kernel_rfl) (fun _ _ _ h => h) (Or.inl ⟨by rfl, ?_⟩) hHeld ?_
    rotate_left
    · (intro w' hSw; (try dsimp only at hSw); go_simp; (try with_reducible rfl))
    refine wpAnyH_take (i := 15) (oi := _) (v := ?_) rfl (by kernel_rfl) (by kernel_rfl) (by kernel_rfl) (fun _ _ _ h => h) (Or.inl ⟨by rfl, ?_⟩) hHeld ?_
    rotate_left
    · (intro w' hSw; (try dsimp only at hSw); go_simp; (try with_reducible rfl))
    refine wpAnyH_ready (rs := [1]) (by kernel_rfl) (by simp) ?_
    refine AllReadyH.cons (o := _) rfl (fun K hK => ?_) ?_
    · go_simp
      refine hK.out _ _ (HF.out _ ((Upd.refl [] wc).alloc _).drew) (fun hHeld => ?_)
      clear hK K
      refine wpAnyH_ready (rs := [8]) (by kernel_rfl) (by simp) ?_
      refine AllReadyH.cons (o := _) rfl (fun K hK => ?_) ?_
      · refine step_pushes wc rfl _ _ rfl wc.heap.size (.slice (some ⟨wc.heap.size, 0, none⟩) 0 0) [] rfl (own_emptyAt wc _ rfl (Nat.le_refl _)) (some ⟨g, 0, none⟩) _ (ps.take j) j HTL.out rfl (HS1.out _ (((Upd.refl [] wc).alloc _).drew)) (fun e => by cases e) (by rw [HTL.out]; first | (simp; done) | (simp; omega)) (Nat.le_refl _) (((Upd.refl [] wc).alloc _).drew) (by simp) ?_
        intro v5 w5 h1 h2 h3 h4
        rw [List.nil_append] at h1
        have HO5 := Lib.hid h1
        have HU5 := Lib.hid h2
        clear h1 h2 h3 h4
        refine hK.out _ _ (HF.out _ HU5.out) (fun hHeld => ?_)
        clear hK K
        refine wpAnyH_ready (rs := [16]) (by kernel_rfl) (by simp) ?_
        refine AllReadyH.cons (o := _) rfl (fun K hK => ?_) ?_
        · refine step_pushes wc rfl _ _ rfl wc.heap.size v5 (ps.take j) rfl HO5.out (some ⟨g, j + 1, none⟩) _ (ps.drop (j + 1)) m HDL.out rfl (HS2.out _ HU5.out) (fun e => by cases e) (by rw [HTL.out, HDL.out]; omega) (Nat.le_refl _) HU5.out (by have := HU5.out.size; omega) ?_
          intro v6 w6 h1 h2 h3 h4
          rw [← List.eraseIdx_eq_take_drop_succ] at h1
          obtain ⟨A6, c6, hv6, -, -⟩ := h1.form
          obtain ⟨m6, hm6⟩ : ∃ m6, (ps.eraseIdx j).length = m6 := ⟨_, rfl⟩
          rw [hm6] at hv6
          subst hv6
          have HO6 := Lib.hid h1
          have HU6 := Lib.hid h2
          clear h1 h2 h3 h4 hm6
          refine hK.out _ _ (HF.out _ HU6.out) (fun hHeld => ?_)
          clear hK K
          refine wpAnyH_take (i := 17) (oi := _) (v := ?_) rfl (by kernel_rfl) (by kernel_rfl) (by kernel_rfl) (fun _ _ _ h => h) (Or.inl ⟨by rfl, ?_⟩) hHeld ?_
          rotate_left
          · (intro w' hSw; (try dsimp only at hSw); go_simp; (try with_reducible rfl))
          refine wpAnyH_take (i := 18) (oi := _) (v := ?_) rfl (by kernel_rfl) (by kernel_rfl) (by kernel_rfl) (fun _ _ _ h => h) (Or.inl ⟨by rfl, ?_⟩) hHeld ?_
          rotate_left
          · (intro w' hSw; (try dsimp only at hSw); go_simp; (try with_reducible rfl))
          refine wpAnyH_done (by kernel_rfl) ?_ _
          have k1 := HF.out _ HU6.out
          have k2 := HFZ.out _ HU6.out
          obtain ⟨hd, hs, -, -⟩ := HH1.out.setP (own_mono HO6.out (Nat.zero_le _)) HU6.out (by simp) (fun g hg => .inr (own_low HO6.out hg).1)
          have HD := Lib.hid hd
          have HS := Lib.hid (StepO.behind HUA.out hs)
          have hg6 := (HG.out.upd HU6.out (by simp)).far (p := ⟨f, 2, none⟩) HNG.out (.slice A6 m6 c6)
          have HG6 := Lib.hid hg6
          have hnb : ∀ k, OwnsDf f vw (.slice A6 m6 c6) Oh k → k ≠ w.heap.size := fun k hk e => by
            rcases hs.own k hk with h1 | h1
            · have := HH.out.owned h1; omega
            · have := HG.out.lt; omega
          have HNB := Lib.hid hnb
          have z0 := hg6.cell 0
          have z1 := hg6.cell 1
          have z2 := hg6.frozen 0
          have z3 := hg6.frozen 1
          simp only [List.getElem?_toArray, List.getElem?_cons_zero, List.getElem?_cons_succ] at z0 z1
          clear hHeld hd hs hg6 hnb
          change wpList _ _ _ _ _ _
          go_wp2_with fail
          exact cell_ret rfl ((HG6.out.set_ 0 _).set_ 1 _) rfl rfl Tryz.underlying34 (by kernel_rfl) ⟨rfl, _, ⟨_, _, _, HD.out.moved fun k hk => (Below.heap_setCell _ _ _ _ (HNB.out k hk)).trans (Below.heap_setCell _ _ _ _ (HNB.out k hk)), rfl⟩, ((HS.out).newCell (Nat.le_refl _) _).newCell (Nat.le_refl _) _⟩
        · exact AllReadyH.nil
      · exact AllReadyH.nil
    · exact AllReadyH.nil
end
end Go.Proofs.YtpkbdmieelgdlaaGreat
namespace Go.Proofs.YtpkbdmieelgdlaaGreat
open Go Go.RowKit

theorem ReadsO.cellAt {w : World} {A : Option Addr} {xs : List Int} {O : Nat → Prop} (h : ReadsO w A xs O) {n i : Nat} (hn : xs.length = n) (hi : i < n) : ∃ b off, A = some ⟨b, off, none⟩ ∧ ∀ W O', StepO O w O' W → W.cell? ⟨b, off + i, none⟩ = some (.int .i64 (xs.getD i 0)) := by
  rcases h with rfl | ⟨b, off, h1, h2, h3, h4⟩
  · simp at hn; omega
  · exact ⟨b, off, h1, fun W O' k => by rw [World.cell?_of_block (w := w) (k.block b h2 h3)]; exact h4 i (by omega)⟩
theorem pend1_sub (s : List Int × List Int) (x : Int) : (pend1 s x).1.Sublist s.1 := by
  unfold pend1
  split
  · exact List.erase_sublist
  · exact List.Sublist.refl _
theorem pendZ_sub (s : List Int × List Int) (xs : List Int) : (pendZ s xs).1.Sublist s.1 := by
  induction xs generalizing s with
  | nil => exact List.Sublist.refl _
  | cons x t ih => exact (ih _).trans (pend1_sub s x)
section
variable {w w' w1 : World} {f h : Nat} {np : List Pst} {vw vp v' : Value} {l l' : List Int} {F F' : Int → Ob} {ws ps ys : List Int} {O Oh Oh' : Nat → Prop} {E : List Nat}
theorem DfL.readW (H : DfL w f h np vw vp l F ws ps Oh) : ∃ A c, vw = .slice A ws.length c ∧ ∀ W, Upd [] w W → IsInts W A ws := by
  obtain ⟨A, c, e, -, -⟩ := H.waits.form
  refine ⟨A, c, e, fun W hu => ?_⟩
  obtain ⟨A', c', e', hI, -⟩ := (H.upd0 hu).waits.form
  rw [e] at e'
  simp only [Value.slice.injEq] at e'
  rw [e'.1]; exact hI
theorem DfL.readP (H : DfL w f h np vw vp l F ws ps Oh) : ∃ A c, vp = .slice A ps.length c ∧ (A = none → ps.length = 0 ∧ c = 0) ∧ ∀ W, Upd [] w W → IsInts W A ps := by
  obtain ⟨A, c, e, -, hz⟩ := H.pends.form
  refine ⟨A, c, e, hz, fun W hu => ?_⟩
  obtain ⟨A', c', e', hI, -⟩ := (H.upd0 hu).pends.form
  rw [e] at e'
  simp only [Value.slice.injEq] at e'
  rw [e'.1]; exact hI
set_option maxRecDepth 60000 in
set_option maxHeartbeats 6400000 in
theorem dpend_yes (f h : Nat) (np : List Pst) (A : Option Addr) (xs : List Int) (M cap : Nat) (w : World) (H : DfO w f h np l F ws ps O) (hA : ReadsO w A xs O) (hM : xs.length = M) (hnd : ws.Nodup) (hn : ws.length + ps.length ≤ 60000) (hl : M ≤ 4294967296) :
    Calls Tryz.prog 13 #[.pointer (some ⟨f, 0, none⟩), .slice A M cap] w fun e w' => e = .returned (.tuple #[]) ∧ ∃ O', DfO w' f h np l F (pendZ (ws, ps) xs).1 (pendZ (ws, ps) xs).2 O' ∧ StepO O w O' w' := by
  have HTK : Hid (∀ k, k < M → pendZ (ws, ps) (xs.take (k + 1)) = pend1 (pendZ (ws, ps) (xs.take k)) (xs.getD k 0)) := Lib.hid fun k hk => by
    rw [← pendZ_snoc, List.take_succ_eq_append_getElem (by omega : k < xs.length), List.getD_eq_getElem?_getD, List.getElem?_eq_getElem (by omega : k < xs.length)]; rfl
  have HLEN : Hid (∀ k, (pendZ (ws, ps) (xs.take k)).1.length + (pendZ (ws, ps) (xs.take k)).2.length ≤ 60000) := Lib.hid fun k => by rw [pendZ_len]; exact hn
  have HND : Hid (∀ k, (pendZ (ws, ps) (xs.take k)).1.Nodup) := Lib.hid fun k => hnd.sublist (pendZ_sub (ws, ps) _)
  have HR := Lib.hid H
  have HA := Lib.hid hA
  have HM := Lib.hid hM
  clear H hA hM hn hnd
  go_enter Tryz.func13, Tryz.ntmps13
  go_wp2_with fail
  go_loopg [4] M (fun gk i wr => ∃ (k : Nat) (O' : Nat → Prop), gk = M - k ∧ k ≤ M ∧ i = .int .i64 k ∧ Hid (DfO wr f h np l F (pendZ (ws, ps) (xs.take k)).1 (pendZ (ws, ps) (xs.take k)).2 O') ∧ Hid (StepO O w O' wr))
  case atStart => exact ⟨0, O, rfl, by omega, rfl, HR, Lib.hid (StepO.refl _ _)⟩
  case round =>
    obtain ⟨k, O', rfl, hk, rfl, HF, HS⟩ := hrel
    by_cases hlt : k < M
    · obtain ⟨b, off, rfl, hc⟩ := HA.out.cellAt HM.out hlt
      have HC := Lib.hid hc
      have HT := Lib.hid (HTK.out k hlt)
      have HN := Lib.hid (HLEN.out k)
      have HDU := Lib.hid (HND.out k)
      clear hc
      generalize xs.getD k 0 = x at *
      generalize pendZ (ws, ps) (xs.take k) = s at *
      obtain ⟨ws1, ps1⟩ := s
      obtain ⟨vw, vp, Oh, hF, rfl⟩ := HF.out
      have HL := Lib.hid hF
      clear hF
      obtain ⟨A1, cap1, rfl, hi1⟩ := HL.out.readW
      obtain ⟨n1, hn1⟩ : ∃ n1, ws1.length = n1 := ⟨_, rfl⟩
      have HN1 := Lib.hid hn1
      have HB1 : n1 ≤ 60000 := by have h1 := HN.out; have h2 : ws1.length + ps1.length ≤ 60000 := h1; omega
      have HIW := Lib.hid hi1
      have c1 : wr.cell? ⟨f, 1, none⟩ = some (.slice A1 n1 cap1) := by rw [← hn1]; exact HL.out.cells.2.1
      have d1 := HC.out wr _ HS.out
      have HQ : Hid (∀ W, Upd [] wr W → Calls Tryz.prog 28 #[.slice A1 n1 cap1, .int .i64 x] W fun e w' => e = .returned (.bool (decide (x ∈ ws1))) ∧ w' = W) := Lib.hid fun W hu => by
        have := in_walk A1 ws1 cap1 x W (HIW.out W hu) (by rw [HN1.out]; omega)
        rwa [HN1.out] at this
      clear hi1
      by_cases hx : x ∈ ws1
      · have HP : Hid (pend1 (ws1, ps1) x = (ws1.filter (fun y => y != x), ps1 ++ [x])) := Lib.hid ((if_pos hx).trans (by rw [show (ws1, ps1).1 = ws1 from rfl, (show ws1.Nodup from HDU.out).erase_eq_filter]))
        rw [decide_eq_true hx] at HQ
        clear hx
        rw [hn1] at HF HL HS
        clear hn1
        go_upto_region 3 with fail
        go_quiet ((go_at_call 28; exact Calls.quiet_of_same (HQ.out _ (by first | exact Upd.refl _ _ | exact (Upd.refl [] wr).drew | exact (Upd.refl [] wr).drewN _))))
        obtain ⟨w3, hw3⟩ : ∃ w3, wr.drewN nq = w3 := ⟨_, rfl⟩
        have HU3 : Hid (Upd [] wr w3) := Lib.hid (hw3 ▸ (Upd.refl [] wr).drewN nq)
        have HL3 := Lib.hid (HL.out.upd0 HU3.out)
        have HS3 := Lib.hid (HS.out.trans (.upd _ HU3.out))
        rw [hw3]
        clear hw3 c1 d1 HQ
        have HF4 : Hid (∀ W, Upd [] w3 W → W.cell? ⟨f, 1, none⟩ = some (.slice A1 n1 cap1) ∧ W.cell? ⟨b, off + k, none⟩ = some (.int .i64 x)) := Lib.hid fun W hu => ⟨(HL3.out.upd0 hu).cells.2.1, HC.out W _ (HS3.out.trans (.upd _ hu))⟩
        go_upto_region 4 with fail
        refine Sink.wp_sinkCH 12 (fun w' => w'.cell? ⟨f, 1, none⟩ = some (.slice A1 n1 cap1) ∧ w'.cell? ⟨b, off + k, none⟩ = some (.int .i64 x)) rfl (by kernel_rfl) (by kernel_rfl) (by kernel_rfl) (by kernel_rfl) (HF4.out _ (Upd.refl [] w3).drew) (fun hHeld => ?_)
        simp only [List.dropLast]
        refine wpAnyH_take (i := 0) (oi := _) (v := ?_) rfl (by kernel_rfl) (by kernel_rfl) (by kernel_rfl) (fun _ _ _ h => h) (Or.inl ⟨by rfl, ?_⟩) hHeld ?_
        rotate_left
        · (intro w' hSw; (try dsimp only at hSw); go_simp; (try with_reducible rfl))
        refine wpAnyH_take (i := 1) (oi := _) (v := ?_) rfl (by kernel_rfl) (by kernel_rfl) (by kernel_rfl) (fun _ _ _ h => h) (Or.inl ⟨by rfl, ?_⟩) hHeld ?_
        rotate_left
        · (intro w' hSw; (try dsimp only at hSw); go_simp; (try with_reducible rfl))
        refine wpAnyH_take (i := 2) (oi := _) (v := ?_) rfl (by kernel_rfl) (by kernel_rfl) (by kernel_rfl) (fun _ _ _ h => h) (Or.inl ⟨by rfl, ?_⟩) hHeld ?_
        rotate_left
        · (intro w' hSw; (try dsimp only at hSw); go_simp; (try with_reducible rfl))
        refine wpAnyH_take (i := 3) (oi := _) (v := ?_) rfl (by kernel_rfl) (by kernel_rfl) (by kernel_rfl) (fun _ _ _ h => h) (Or.inl ⟨by rfl, ?_⟩) hHeld ?_
        rotate_left
        · (intro w' hSw; (try dsimp only at hSw); go_simp; (try with_reducible rfl))
        refine wpAnyH_take (i := 4) (oi := _) (v := ?_) rfl (by kernel_rfl) (by kernel_rfl) (by kernel_rfl) (fun _ _ _ h => h) (Or.inl ⟨by rfl, ?_⟩) hHeld ?_
        rotate_left
        · (intro w' hSw; (try dsimp only at hSw); go_simp; (try with_reducible rfl))
        refine wpAnyH_take (i := 5) (oi := _) (v := ?_) rfl (by kernel_rfl) (by kernel_rfl) (by kernel_rfl) (fun _ _ _ h => h) (Or.inl ⟨by rfl, ?_⟩) hHeld ?_
        rotate_left
        · (intro w' hSw; (try dsimp only at hSw); go_simp; (try with_reducible rfl))
        refine wpAnyH_take (i := 6) (oi := _) (v := ?_) rfl (by kernel_rfl) (by kernel_rfl) (by kernel_rfl) (fun _ _ _ h => h) (Or.inl ⟨by rfl, ?_⟩) hHeld ?_
        rotate_left
        · (intro w' hSw; (try dsimp only at hSw); go_simp; (try with_reducible rfl))
        refine wpAnyH_take (i := 7) (oi := _) (v := ?_) rfl (by kernel_rfl) (by kernel_rfl) (by kernel_rfl) (fun _ _ _ h => h) (Or.inl ⟨by rfl, ?_⟩) hHeld ?_
        rotate_left
        · (intro w' hSw; (try dsimp only at hSw); go_simp; (try with_reducible rfl))
        refine wpAnyH_take (i := 8) (oi := _) (v := ?_) rfl (by kernel_rfl) (by kernel_rfl) (by kernel_rfl) (fun _ _ _ h => h) (Or.inl ⟨by rfl, ?_⟩) hHeld ?_
        rotate_left
        · (intro w' hSw; (try dsimp only at hSw); go_simp; (try with_reducible rfl))
        refine wpAnyH_ready (rs := [9]) (by kernel_rfl) (by simp) ?_
        refine AllReadyH.cons (o := _) rfl (fun K hK => ?_) ?_
        · go_simp
          refine (without_walk A1 ws1 n1 cap1 x _ (HIW.out _ (HU3.out.trans (Upd.refl [] w3).drew)) HN1.out (by omega)).mono ?_
          rintro e w5 ⟨v5, rfl, h5, hu5⟩
          obtain ⟨A5, n5, c5, rfl⟩ := h5.slice
          have HO5 := Lib.hid h5
          have HU5 : Hid (Upd [] w3 w5) := Lib.hid (((Upd.refl [] w3).drew).trans hu5)
          clear h5 hu5
          go_wp2_with fail
          refine hK.out _ _ (HF4.out _ HU5.out) (fun hHeld => ?_)
          clear hK K
          refine wpAnyH_take (i := 10) (oi := _) (v := ?_) rfl (by kernel_rfl) (by kernel_rfl) (by kernel_rfl) (fun _ _ _ h => h) (Or.inl ⟨by rfl, ?_⟩) hHeld ?_
          rotate_left
          · (intro w' hSw; (try dsimp only at hSw); go_simp; (try with_reducible rfl))
          refine wpAnyH_take (i := 11) (oi := _) (v := ?_) rfl (by kernel_rfl) (by kernel_rfl) (by kernel_rfl) (fun _ _ _ h => h) (Or.inl ⟨by rfl, ?_⟩) hHeld ?_
          rotate_left
          · (intro w' hSw; (try dsimp only at hSw); go_simp; (try with_reducible rfl))
          refine wpAnyH_done (by kernel_rfl) ?_ _
          obtain ⟨k1, k2⟩ := HF4.out _ HU5.out
          have k3 := (HL3.out.upd0 HU5.out).cells.2.2.2.1
          obtain ⟨hd, hs, -, -, -, -⟩ := HL3.out.setW (own_mono HO5.out (Nat.zero_le _)) HU5.out (by simp) (fun g hg => .inr (own_low HO5.out hg).1)
          obtain ⟨wc, hwc⟩ : ∃ wc, w5.setCell ⟨f, 1, none⟩ (.slice A5 n5 c5) = wc := ⟨_, rfl⟩
          rw [hwc] at hd hs
          have HL5 := Lib.hid hd
          have HS5 := Lib.hid (HS3.out.trans hs)
          clear hHeld hd hs
          change wpList _ _ _ _ _ _
          go_upto_region 5 with fail
          try rw [hwc]
          clear hwc k1 k2 k3 HL3 HS3 HF4 HL HS HO5 HU5 HU3
          obtain ⟨A2, cap2, rfl, hz2, hi2⟩ := HL5.out.readP
          have HIP := Lib.hid hi2
          have HZ2 := Lib.hid hz2
          obtain ⟨n2, hn2⟩ : ∃ n2, ps1.length = n2 := ⟨_, rfl⟩
          have HN2 := Lib.hid hn2
          have hb2 : n2 ≤ 60000 := by have h1 := HN.out; have h2 : ws1.length + ps1.length ≤ 60000 := h1; omega
          have HF5 : Hid (∀ W, Upd [] wc W → W.cell? ⟨f, 2, none⟩ = some (.slice A2 n2 cap2) ∧ W.cell? ⟨b, off + k, none⟩ = some (.int .i64 x)) := Lib.hid fun W hu => ⟨by rw [← hn2]; exact (HL5.out.upd0 hu).cells.2.2.1, HC.out W _ (HS5.out.trans (.upd _ hu))⟩
          have HZ5 : Hid (∀ W, Upd [] wc W → W.frozen? ⟨f, 2, none⟩ = false) := Lib.hid fun W hu => (HL5.out.upd0 hu).cells.2.2.2.2
          clear hi2 hz2 hn2
          refine Sink.wp_sinkCH 15 (fun w' => w'.cell? ⟨f, 2, none⟩ = some (.slice A2 n2 cap2) ∧ w'.cell? ⟨b, off + k, none⟩ = some (.int .i64 x)) rfl (by kernel_rfl) (by kernel_rfl) (by kernel_rfl) (by kernel_rfl) (HF5.out _ (Upd.refl [] wc).drew) (fun hHeld => ?_)
          simp only [List.dropLast]
          refine wpAnyH_take (i := 0) (oi := _) (v := ?_) rfl (by kernel_rfl) (by kernel_rfl) (by kernel_rfl) (fun _ _ _ h => h) (Or.inl ⟨by rfl, ?_⟩) hHeld ?_
          rotate_left
          · (intro w' hSw; (try dsimp only at hSw); go_simp; (try with_reducible rfl))
          refine wpAnyH_take (i := 2) (oi := _) (v := ?_) rfl (by kernel_rfl) (by kernel_rfl) (by kernel_rfl) (fun _ _ _ h => h) (Or.inl ⟨by rfl, ?_⟩) hHeld ?_
          rotate_left
          · (intro w' hSw; (try dsimp only at hSw); go_simp; (try with_reducible rfl))
          refine wpAnyH_take (i := 3) (oi := _) (v := ?_) rfl (by kernel_rfl) (by kernel_rfl) (by kernel_rfl) (fun _ _ _ h => h) (Or.inl ⟨by rfl, ?_⟩) hHeld ?_
          rotate_left
          · (intro w' hSw; (try dsimp only at hSw); go_simp; (try with_reducible rfl))
          refine wpAnyH_take (i := 4) (oi := _) (v := ?_) rfl (by kernel_rfl) (by kernel_rfl) (by kernel_rfl) (fun _ _ _ h => h) (Or.inl ⟨by rfl, ?_⟩) hHeld ?_
          rotate_left
          · (intro w' hSw; (try dsimp only at hSw); go_simp; (try with_reducible rfl))
          refine wpAnyH_take (i := 5) (oi := _) (v := ?_) rfl (by kernel_rfl) (by kernel_rfl) (by kernel_rfl) (fun _ _ _ h => h) (Or.inl ⟨by rfl, ?_⟩) hHeld ?_
          rotate_left
          · (intro w' hSw; (try dsimp only at hSw); go_simp; (try with_reducible rfl))
          refine wpAnyH_take (i := 7) (oi := _) (v := ?_) rfl (by kernel_rfl) (by kernel_rfl) (by kernel_rfl) (fun _ _ _ h => h) (Or.inl ⟨by rfl, ?_⟩) hHeld ?_
          rotate_left
          · (intro w' hSw; (try dsimp only at hSw); go_simp; (try with_reducible rfl))
          refine wpAnyH_take (i := 8) (oi := _) (v := ?_) rfl (by kernel_rfl) (by kernel_rfl) (by kernel_rfl) (fun _ _ _ h => h) (Or.inl ⟨by rfl, ?_⟩) hHeld ?_
          rotate_left
          · (intro w' hSw; (try dsimp only at hSw); go_simp; (try with_reducible rfl))
          refine wpAnyH_take (i := 9) (oi := _) (v := ?_) rfl (by kernel_rfl) (by kernel_rfl) (by kernel_rfl) (fun _ _ _ h => h) (Or.inl ⟨by rfl, ?_⟩) hHeld ?_
          rotate_left
          · (intro w' hSw; (try dsimp only at hSw); go_simp; (try with_reducible rfl))
          refine wpAnyH_take (i := 10) (oi := _) (v := ?_) rfl (by kernel_rfl) (by kernel_rfl) (by kernel_rfl) (fun _ _ _ h => h) (Or.inl ⟨by rfl, ?_⟩) hHeld ?_
          rotate_left
          · (intro w' hSw; (try dsimp only at hSw); go_simp; (try with_reducible rfl))
          refine wpAnyH_ready (rs := [1, 11]) (by kernel_rfl) (by simp) ?_
          refine AllReadyH.cons (o := _) rfl (fun K hK => ?_) ?_
          · go_simp
            refine hK.out _ _ (HF5.out _ ((Upd.refl [] wc).alloc _).drew) (fun hHeld => ?_)
            clear hK K
            refine wpAnyH_ready (rs := [6, 11]) (by kernel_rfl) (by simp) ?_
            refine AllReadyH.cons (o := _) rfl (fun K hK => ?_) ?_
            · refine step_pushes wc rfl _ _ rfl wc.heap.size (.slice (some ⟨wc.heap.size, 0, none⟩) 0 0) [] rfl (own_emptyAt wc _ rfl (Nat.le_refl _)) A2 cap2 ps1 n2 HN2.out rfl (HIP.out _ (((Upd.refl [] wc).alloc _).drew)) HZ2.out (by rw [HN2.out]; first | (simp; done) | (simp; omega)) (Nat.le_refl _) (((Upd.refl [] wc).alloc _).drew) (by simp) ?_
              intro v5 w5 h1 h2 h3 h4
              rw [List.nil_append] at h1
              have HO5 := Lib.hid h1
              have HU5 := Lib.hid h2
              have HV5 := Lib.hid h4
              clear h1 h2 h3 h4
              refine hK.out _ _ (HF5.out _ HU5.out) (fun hHeld => ?_)
              clear hK K
              refine wpAnyH_ready (rs := [11]) (by kernel_rfl) (by simp) ?_
              refine AllReadyH.cons (o := _) rfl (fun K hK => ?_) ?_
              · go_simp
                refine hK.out _ _ (HF5.out _ (HU5.out.alloc _)) (fun hHeld => ?_)
                clear hK K
                refine wpAnyH_ready (rs := [12]) (by kernel_rfl) (by simp) ?_
                refine AllReadyH.cons (o := _) rfl (fun K hK => ?_) ?_
                · refine step_pushes wc rfl _ _ rfl wc.heap.size v5 ps1 rfl (HO5.out.alloc _) (some ⟨w5.heap.size, 0, none⟩) 1 [x] 1 rfl rfl (ints_one _ _ (Blk.new _ _ _)) (fun e => by cases e) (by rw [HN2.out]; simp; omega) (Nat.le_refl _) (HU5.out.alloc _) (by have := HU5.out.size; simp; omega) ?_
                  intro v6 w6 h1 h2 h3 h4
                  obtain ⟨A6, c6, hv6, _, _⟩ := h1.form
                  obtain ⟨m6, hm6⟩ : ∃ m6, (ps1 ++ [x]).length = m6 := ⟨_, rfl⟩
                  rw [hm6] at hv6
                  subst hv6
                  clear hm6
                  have HO6 := Lib.hid h1
                  have HU6 := Lib.hid h2
                  clear h1 h2 h3 h4
                  refine hK.out _ _ (HF5.out _ HU6.out) (fun hHeld => ?_)
                  clear hK K
                  refine wpAnyH_take (i := 13) (oi := _) (v := ?_) rfl (by kernel_rfl) (by kernel_rfl) (by kernel_rfl) (fun _ _ _ h => h) (Or.inl ⟨by rfl, ?_⟩) hHeld ?_
                  rotate_left
                  · (intro w' hSw; (try dsimp only at hSw); go_simp; (try with_reducible rfl))
                  refine wpAnyH_take (i := 14) (oi := _) (v := ?_) rfl (by kernel_rfl) (by kernel_rfl) (by kernel_rfl) (fun _ _ _ h => h) (Or.inl ⟨by rfl, ?_⟩) hHeld ?_
                  rotate_left
                  · (intro w' hSw; (try dsimp only at hSw); go_simp; (try with_reducible rfl))
                  refine wpAnyH_done (by kernel_rfl) ?_ _
                  obtain ⟨k1, k2⟩ := HF5.out _ HU6.out
                  have k3 := HZ5.out _ HU6.out
                  obtain ⟨hd, hs, -, -⟩ := HL5.out.setP (own_mono HO6.out (Nat.zero_le _)) HU6.out (by simp) (fun g hg => .inr (own_low HO6.out hg).1)
                  have HD := Lib.hid hd
                  have HSD := Lib.hid (HS5.out.trans hs)
                  clear hHeld hd hs
                  change wpList _ _ _ _ _ _
                  go_wp2_with fail
                  go_roundg (M - (k + 1))
                  case measure => omega
                  case rel => exact ⟨k + 1, _, rfl, by omega, by go_num, Lib.hid ⟨_, _, _, by rw [HT.out, HP.out]; exact HD.out, rfl⟩, HSD⟩
                · exact AllReadyH.nil
              · exact AllReadyH.nil
            · refine AllReadyH.cons (o := _) rfl (fun K hK => ?_) ?_
              · go_simp
                refine hK.out _ _ (HF5.out _ (((Upd.refl [] wc).alloc _).alloc _).drew) (fun hHeld => ?_)
                clear hK K
                refine wpAnyH_ready (rs := [6]) (by kernel_rfl) (by simp) ?_
                refine AllReadyH.cons (o := _) rfl (fun K hK => ?_) ?_
                · refine step_pushes wc rfl _ _ rfl wc.heap.size (.slice (some ⟨wc.heap.size, 0, none⟩) 0 0) [] rfl ((own_emptyAt wc _ rfl (Nat.le_refl _)).alloc _) A2 cap2 ps1 n2 HN2.out rfl (HIP.out _ ((((Upd.refl [] wc).alloc _).alloc _).drew)) HZ2.out (by rw [HN2.out]; first | (simp; done) | (simp; omega)) (Nat.le_refl _) ((((Upd.refl [] wc).alloc _).alloc _).drew) (by simp; omega) ?_
                  intro v5 w5 h1 h2 h3 h4
                  rw [List.nil_append] at h1
                  have HO5 := Lib.hid h1
                  have HU5 := Lib.hid h2
                  have HV5 := Lib.hid h4
                  clear h1 h2 h3 h4
                  have HX5 := Lib.hid ((Blk.newAt (wc.alloc (.cells #[] 3)) (wc.heap.size + 1) 3 #[.int .i64 x] (by simp)).drew.upd HV5.out (by simp [Value.ownBlock]))
                  refine hK.out _ _ (HF5.out _ HU5.out) (fun hHeld => ?_)
                  clear hK K
                  refine wpAnyH_ready (rs := [12]) (by kernel_rfl) (by simp) ?_
                  refine AllReadyH.cons (o := _) rfl (fun K hK => ?_) ?_
                  · refine step_pushes wc rfl _ _ rfl wc.heap.size v5 ps1 rfl HO5.out (some ⟨(wc.heap.size + 1), 0, none⟩) 1 [x] 1 rfl rfl (ints_one _ _ HX5.out) (fun e => by cases e) (by rw [HN2.out]; simp; omega) (Nat.le_refl _) HU5.out (by have := HU5.out.size; omega) ?_
                    intro v6 w6 h1 h2 h3 h4
                    obtain ⟨A6, c6, hv6, _, _⟩ := h1.form
                    obtain ⟨m6, hm6⟩ : ∃ m6, (ps1 ++ [x]).length = m6 := ⟨_, rfl⟩
                    rw [hm6] at hv6
                    subst hv6
                    clear hm6
                    have HO6 := Lib.hid h1
                    have HU6 := Lib.hid h2
                    clear h1 h2 h3 h4
                    refine hK.out _ _ (HF5.out _ HU6.out) (fun hHeld => ?_)
                    clear hK K
                    refine wpAnyH_take (i := 13) (oi := _) (v := ?_) rfl (by kernel_rfl) (by kernel_rfl) (by kernel_rfl) (fun _ _ _ h => h) (Or.inl ⟨by rfl, ?_⟩) hHeld ?_
                    rotate_left
                    · (intro w' hSw; (try dsimp only at hSw); go_simp; (try with_reducible rfl))
                    refine wpAnyH_take (i := 14) (oi := _) (v := ?_) rfl (by kernel_rfl) (by kernel_rfl) (by kernel_rfl) (fun _ _ _ h => h) (Or.inl ⟨by rfl, ?_⟩) hHeld ?_
                    rotate_left
                    · (intro w' hSw; (try dsimp only at hSw); go_simp; (try with_reducible rfl))
                    refine wpAnyH_done (by kernel_rfl) ?_ _
                    obtain ⟨k1, k2⟩ := HF5.out _ HU6.out
                    have k3 := HZ5.out _ HU6.out
                    obtain ⟨hd, hs, -, -⟩ := HL5.out.setP (own_mono HO6.out (Nat.zero_le _)) HU6.out (by simp) (fun g hg => .inr (own_low HO6.out hg).1)
                    have HD := Lib.hid hd
                    have HSD := Lib.hid (HS5.out.trans hs)
                    clear hHeld hd hs
                    change wpList _ _ _ _ _ _
                    go_wp2_with fail
                    go_roundg (M - (k + 1))
                    case measure => omega
                    case rel => exact ⟨k + 1, _, rfl, by omega, by go_num, Lib.hid ⟨_, _, _, by rw [HT.out, HP.out]; exact HD.out, rfl⟩, HSD⟩
                  · exact AllReadyH.nil
                · exact AllReadyH.nil
              · exact AllReadyH.nil
          · refine AllReadyH.cons (o := _) rfl (fun K hK => ?_) ?_
            · go_simp
              refine hK.out _ _ (HF5.out _ ((Upd.refl [] wc).alloc _).drew) (fun hHeld => ?_)
              clear hK K
              refine wpAnyH_ready (rs := [1]) (by kernel_rfl) (by simp) ?_
              refine AllReadyH.cons (o := _) rfl (fun K hK => ?_) ?_
              · go_simp
                refine hK.out _ _ (HF5.out _ (((Upd.refl [] wc).alloc _).alloc _).drew) (fun hHeld => ?_)
                clear hK K
                refine wpAnyH_ready (rs := [6]) (by kernel_rfl) (by simp) ?_
                refine AllReadyH.cons (o := _) rfl (fun K hK => ?_) ?_
                · refine step_pushes wc rfl _ _ rfl wc.heap.size (.slice (some ⟨(wc.heap.size + 1), 0, none⟩) 0 0) [] rfl (own_emptyAt (wc.alloc _) _ (by simp) (by simp)) A2 cap2 ps1 n2 HN2.out rfl (HIP.out _ ((((Upd.refl [] wc).alloc _).alloc _).drew)) HZ2.out (by rw [HN2.out]; first | (simp; done) | (simp; omega)) (Nat.le_refl _) ((((Upd.refl [] wc).alloc _).alloc _).drew) (by simp; omega) ?_
                  intro v5 w5 h1 h2 h3 h4
                  rw [List.nil_append] at h1
                  have HO5 := Lib.hid h1
                  have HU5 := Lib.hid h2
                  have HV5 := Lib.hid h4
                  clear h1 h2 h3 h4
                  have HX5 := Lib.hid (((Blk.new wc 3 #[.int .i64 x]).alloc (.cells #[] 3)).drew.upd HV5.out (by simp [Value.ownBlock]))
                  refine hK.out _ _ (HF5.out _ HU5.out) (fun hHeld => ?_)
                  clear hK K
                  refine wpAnyH_ready (rs := [12]) (by kernel_rfl) (by simp) ?_
                  refine AllReadyH.cons (o := _) rfl (fun K hK => ?_) ?_
                  · refine step_pushes wc rfl _ _ rfl wc.heap.size v5 ps1 rfl HO5.out (some ⟨wc.heap.size, 0, none⟩) 1 [x] 1 rfl rfl (ints_one _ _ HX5.out) (fun e => by cases e) (by rw [HN2.out]; simp; omega) (Nat.le_refl _) HU5.out (by have := HU5.out.size; omega) ?_
                    intro v6 w6 h1 h2 h3 h4
                    obtain ⟨A6, c6, hv6, _, _⟩ := h1.form
                    obtain ⟨m6, hm6⟩ : ∃ m6, (ps1 ++ [x]).length = m6 := ⟨_, rfl⟩
                    rw [hm6] at hv6
                    subst hv6
                    clear hm6
                    have HO6 := Lib.hid h1
                    have HU6 := Lib.hid h2
                    clear h1 h2 h3 h4
                    refine hK.out _ _ (HF5.out _ HU6.out) (fun hHeld => ?_)
                    clear hK K
                    refine wpAnyH_take (i := 13) (oi := _) (v := ?_) rfl (by kernel_rfl) (by kernel_rfl) (by kernel_rfl) (fun _ _ _ h => h) (Or.inl ⟨by rfl, ?_⟩) hHeld ?_
                    rotate_left
                    · (intro w' hSw; (try dsimp only at hSw); go_simp; (try with_reducible rfl))
                    refine wpAnyH_take (i := 14) (oi := _) (v := ?_) rfl (by kernel_rfl) (by kernel_rfl) (by kernel_rfl) (fun _ _ _ h => h) (Or.inl ⟨by rfl, ?_⟩) hHeld ?_
                    rotate_left
                    · (intro w' hSw; (try dsimp only at hSw); go_simp; (try with_reducible rfl))
                    refine wpAnyH_done (by kernel_rfl) ?_ _
                    obtain ⟨k1, k2⟩ := HF5.out _ HU6.out
                    have k3 := HZ5.out _ HU6.out
                    obtain ⟨hd, hs, -, -⟩ := HL5.out.setP (own_mono HO6.out (Nat.zero_le _)) HU6.out (by simp) (fun g hg => .inr (own_low HO6.out hg).1)
                    have HD := Lib.hid hd
                    have HSD := Lib.hid (HS5.out.trans hs)
                    clear hHeld hd hs
                    change wpList _ _ _ _ _ _
                    go_wp2_with fail
                    go_roundg (M - (k + 1))
                    case measure => omega
                    case rel => exact ⟨k + 1, _, rfl, by omega, by go_num, Lib.hid ⟨_, _, _, by rw [HT.out, HP.out]; exact HD.out, rfl⟩, HSD⟩
                  · exact AllReadyH.nil
                · exact AllReadyH.nil
              · exact AllReadyH.nil
            · exact AllReadyH.nil
        · exact AllReadyH.nil
      · have HP : Hid (pend1 (ws1, ps1) x = (ws1, ps1)) := Lib.hid (if_neg hx)
        rw [decide_eq_false hx] at HQ
        clear hx
        go_upto_region 3 with fail
        go_quiet ((go_at_call 28; exact Calls.quiet_of_same (HQ.out _ (by first | exact Upd.refl _ _ | exact (Upd.refl [] wr).drew | exact (Upd.refl [] wr).drewN _))))
        have HF3 := Lib.hid (HF.out.upd0 ((Upd.refl [] wr).drewN nq))
        have HS3 := Lib.hid (HS.out.trans (.upd _ ((Upd.refl [] wr).drewN nq)))
        go_wp2_with fail
        go_roundg (M - (k + 1))
        case measure => omega
        case rel => exact ⟨k + 1, _, rfl, by omega, by go_num, Lib.hid (by rw [HT.out, HP.out]; exact HF3.out), HS3⟩
    · obtain rfl : k = M := by omega
      have hR := HF.out
      rw [List.take_of_length_le (by rw [HM.out]; exact Nat.le_refl _)] at hR
      have HR3 := Lib.hid hR
      clear hR
      go_wp2_with fail
      go_end0
      exact ⟨rfl, O', HR3.out, HS.out⟩
end
end Go.Proofs.YtpkbdmieelgdlaaGreat
namespace Go.Proofs.YtpkbdmieelgdlaaGreat
open Go Go.RowKit

/-- The program's finalizers at f over its heap h, the document's at g over its heap m; the law's own list of all objects (lv). -/
structure FB (w0 w : World) (h f m g : Nat) (pg : List Pst) (l : List Int) (F : Int → Ob) (ws ps : List Int) (pg2 : List Pst) (l2 : List Int) (F2 : Int → Ob) (ws2 ps2 : List Int) (Of Od : Nat → Prop) (lv : Value) : Prop where
  fin : FinO w f h pg l F ws ps Of
  doc : DfO w g m pg2 l2 F2 ws2 ps2 Od
  apart : ∀ k, Od k → ¬ Of k
  env : Env w0 w (fun k => Of k ∨ Od k)
  lst : OwnA w w0.heap.size lv l (fun k => Of k ∨ Od k)
section
variable {w0 w w' : World} {h f m g : Nat} {pg pg2 pg' : List Pst} {l l2 l' : List Int} {F F2 F' : Int → Ob} {ws ps ws2 ps2 ws' ps' : List Int} {Of Od O' : Nat → Prop} {lv : Value}
theorem FB.stepF (H : FB w0 w h f m g pg l F ws ps pg2 l2 F2 ws2 ps2 Of Od lv) (hq : FinO w' f h pg l F' ws' ps' O') (k : StepO Of w O' w') : FB w0 w' h f m g pg l F' ws' ps' pg2 l2 F2 ws2 ps2 O' Od lv := by
  have hw := k.wide (P := Od)
  exact ⟨hq, H.doc.moved (apart_moved H.apart (fun _ hb => H.doc.owned hb) k), apart_step H.apart (fun _ hb => H.doc.owned hb) k, H.env.step hw, H.lst.step hw⟩
theorem FB.stepD (H : FB w0 w h f m g pg l F ws ps pg2 l2 F2 ws2 ps2 Of Od lv) (hd : DfO w' g m pg' l' F' ws' ps' O') (k : StepO Od w O' w') : FB w0 w' h f m g pg l F ws ps pg' l' F' ws' ps' Of O' lv := by
  have hw := k.wideR (P := Of)
  have ha : ∀ k, Of k → ¬ Od k := fun b hb hx => H.apart b hx hb
  exact ⟨H.fin.moved (apart_moved ha (fun _ hb => H.fin.owned hb) k), hd, fun b hb hx => apart_step ha (fun _ hb => H.fin.owned hb) k b hx hb, H.env.step hw, H.lst.step hw⟩
theorem FB.upd0 (H : FB w0 w h f m g pg l F ws ps pg2 l2 F2 ws2 ps2 Of Od lv) (hu : Upd [] w w') : FB w0 w' h f m g pg l F ws ps pg2 l2 F2 ws2 ps2 Of Od lv :=
  ⟨H.fin.upd0 hu, H.doc.upd0 hu, H.apart, H.env.upd0 hu, H.lst.upd0 hu⟩
end

/-- What is so of those that wait, and of those that are pending. -/
structure FI (l : List Int) (F : Int → Ob) (ws ps : List Int) (n : Nat) : Prop where
  len : l.length = 9
  nodup : ws.Nodup
  flag : ∀ a ∈ ws, (F a).f = true
  few : ws.length + ps.length ≤ n
section
variable {l : List Int} {F : Int → Ob} {ws ps : List Int} {n : Nat}
theorem FI.more (H : FI l F ws ps n) : FI l F ws ps (n + 1) := ⟨H.len, H.nodup, H.flag, Nat.le_trans H.few (Nat.le_succ n)⟩
theorem FI.mono {n' : Nat} (H : FI l F ws ps n) (hn : n ≤ n') : FI l F ws ps n' := ⟨H.len, H.nodup, H.flag, Nat.le_trans H.few hn⟩
theorem FI.awaited (H : FI l F ws ps n) (a : Int) (hf : (F a).f = false) : FI l (fset F a { F a with f := true }) (ws ++ [a]) ps (n + 1) := by
  have hn : a ∉ ws := fun e => by rw [H.flag a e] at hf; cases hf
  refine ⟨H.len, ?_, fun b hb => ?_, by have := H.few; simp only [List.length_append, List.length_cons, List.length_nil]; omega⟩
  · rw [List.nodup_append]
    refine ⟨H.nodup, by simp, fun x hx y hy e => ?_⟩
    have := List.mem_singleton.1 hy
    subst this; subst e
    exact hn hx
  · by_cases e : b = a
    · rw [e, fset_same]
    · rw [fset_ne _ e]
      rcases List.mem_append.1 hb with h1 | h1
      · exact H.flag b h1
      · exact absurd (List.mem_singleton.1 h1) e
theorem FI.pended (H : FI l F ws ps n) (xs : List Int) : FI l F (pendZ (ws, ps) xs).1 (pendZ (ws, ps) xs).2 n :=
  ⟨H.len, H.nodup.sublist (pendZ_sub (ws, ps) xs), fun a ha => H.flag a ((pendZ_sub (ws, ps) xs).subset ha), by rw [pendZ_len]; exact H.few⟩
theorem FI.taken (H : FI l F ws ps n) (j : Nat) : FI l F ws (ps.eraseIdx j) n :=
  ⟨H.len, H.nodup, H.flag, by have := H.few; have := (List.eraseIdx_sublist ps j).length_le; omega⟩
end

section
variable {w0 w : World} {h f m g : Nat} {pg : List Pst} {l : List Int} {F F2 : Int → Ob} {ws ps ws2 ps2 : List Int} {n : Nat} {Of Od : Nat → Prop} {lv : Value}
/-- Await, of both: the program's first. -/
theorem both_await (H : FB w0 w h f m g pg l F ws ps pg l F ws ps Of Od lv) (hI : FI l F ws ps n) (hn : n ≤ 1000) (a : Int) : ∃ (e : Int) (F' : Int → Ob) (ws' : List Int), 0 ≤ e ∧ e ≤ 5 ∧ FI l F' ws' ps (n + 1) ∧
    (∀ W, Upd [] w W → Calls Tryz.prog 10 #[.pointer (some ⟨f, 0, none⟩), .int .i64 a] W fun u w1 => u = .returned (.int .i64 e) ∧ ∃ Of', Hid (FB w0 w1 h f m g pg l F' ws' ps pg l F ws ps Of' Od lv)) ∧
    ∀ W Of', FB w0 W h f m g pg l F' ws' ps pg l F ws ps Of' Od lv → Calls Tryz.prog 11 #[.pointer (some ⟨g, 0, none⟩), .int .i64 a] W fun u w1 => u = .returned (.int .i64 e) ∧ ∃ Od', Hid (FB w0 w1 h f m g pg l F' ws' ps pg l F' ws' ps Of' Od' lv) := by
  have hno : ∀ y : Int, (a ∉ l ∧ y = 2 ∨ a ∈ l ∧ ((F a).k = 4 ∧ y = 5 ∨ (F a).k ≠ 4 ∧ (F a).f = true ∧ y = 4)) → ∃ (e : Int) (F' : Int → Ob) (ws' : List Int), 0 ≤ e ∧ e ≤ 5 ∧ FI l F' ws' ps (n + 1) ∧
    (∀ W, Upd [] w W → Calls Tryz.prog 10 #[.pointer (some ⟨f, 0, none⟩), .int .i64 a] W fun u w1 => u = .returned (.int .i64 e) ∧ ∃ Of', Hid (FB w0 w1 h f m g pg l F' ws' ps pg l F ws ps Of' Od lv)) ∧
    ∀ W Of', FB w0 W h f m g pg l F' ws' ps pg l F ws ps Of' Od lv → Calls Tryz.prog 11 #[.pointer (some ⟨g, 0, none⟩), .int .i64 a] W fun u w1 => u = .returned (.int .i64 e) ∧ ∃ Od', Hid (FB w0 w1 h f m g pg l F' ws' ps pg l F' ws' ps Of' Od' lv) := fun y hy => by
    refine ⟨y, F, ws, by omega, by omega, hI.more, fun W hu => ?_, fun W Of' HB => ?_⟩
    · refine (await_no f h pg a y W (H.upd0 hu).fin hy).mono fun e w1 he => ?_
      obtain ⟨rfl, hu2⟩ := he
      exact ⟨rfl, Of, Lib.hid ((H.upd0 hu).upd0 hu2)⟩
    · refine (dawait_no g m pg a y W HB.doc hy).mono fun e w1 he => ?_
      obtain ⟨rfl, hu2⟩ := he
      exact ⟨rfl, Od, Lib.hid (HB.upd0 hu2)⟩
  have hfew := hI.few
  by_cases ha : a ∈ l
  · by_cases hk : (F a).k = 4
    · exact hno 5 (.inr ⟨ha, .inl ⟨hk, rfl⟩⟩)
    · cases hf : (F a).f with
      | true => exact hno 4 (.inr ⟨ha, .inr ⟨hk, hf, rfl⟩⟩)
      | false =>
        refine ⟨0, _, _, by omega, by omega, hI.awaited a hf, fun W hu => ?_, fun W Of' HB => ?_⟩
        · refine (await_yes f h pg a W (H.upd0 hu).fin ha hk hf (by omega)).mono fun e w1 he => ?_
          obtain ⟨rfl, O', hq, hs⟩ := he
          exact ⟨rfl, O', Lib.hid ((H.upd0 hu).stepF hq hs)⟩
        · refine (dawait_yes g m pg a W HB.doc ha hk hf (by omega)).mono fun e w1 he => ?_
          obtain ⟨rfl, O', hq, hs⟩ := he
          exact ⟨rfl, O', Lib.hid (HB.stepD hq hs)⟩
  · exact hno 2 (.inl ⟨ha, rfl⟩)
theorem ReadsO.less {w : World} {A : Option Addr} {xs : List Int} {O O' : Nat → Prop} (h : ReadsO w A xs O) (hO : ∀ k, O' k → O k) : ReadsO w A xs O' := by
  rcases h with h | ⟨b, off, h1, h2, h3, h4⟩
  · exact .inl h
  · exact .inr ⟨b, off, h1, h2, fun hx => h3 (hO b hx), h4⟩
/-- Pend, of both: the program's first. -/
theorem both_pend (H : FB w0 w h f m g pg l F ws ps pg l F ws ps Of Od lv) (hI : FI l F ws ps n) (hn : n ≤ 1000) (A : Option Addr) (xs : List Int) (M c : Nat) (hM : xs.length = M) (hl : M ≤ 1000) (hA : ReadsO w A xs (fun k => Of k ∨ Od k)) : ∃ (ws' ps' : List Int), FI l F ws' ps' (n + 1) ∧
    (∀ W, Upd [] w W → Calls Tryz.prog 12 #[.pointer (some ⟨f, 0, none⟩), .slice A M c] W fun u w1 => u = .returned (.tuple #[]) ∧ ∃ Of', Hid (FB w0 w1 h f m g pg l F ws' ps' pg l F ws ps Of' Od lv) ∧ Hid (ReadsO w1 A xs (fun k => Of' k ∨ Od k))) ∧
    ∀ W Of', FB w0 W h f m g pg l F ws' ps' pg l F ws ps Of' Od lv → ReadsO W A xs (fun k => Of' k ∨ Od k) → Calls Tryz.prog 13 #[.pointer (some ⟨g, 0, none⟩), .slice A M c] W fun u w1 => u = .returned (.tuple #[]) ∧ ∃ Od', Hid (FB w0 w1 h f m g pg l F ws' ps' pg l F ws' ps' Of' Od' lv) := by
  have hfew := hI.few
  refine ⟨_, _, (hI.pended xs).more, fun W hu => ?_, fun W Of' HB hR => ?_⟩
  · have hR := hA.upd0 hu
    refine (pend_yes f h pg A xs M c W (H.upd0 hu).fin (hR.less fun k hk => .inl hk) hM (by omega) (by omega)).mono fun e w1 he => ?_
    obtain ⟨rfl, O', hq, hs⟩ := he
    exact ⟨rfl, O', Lib.hid ((H.upd0 hu).stepF hq hs), Lib.hid (hR.step hs.wide)⟩
  · refine (dpend_yes g m pg A xs M c W HB.doc (hR.less fun k hk => .inr hk) hM hI.nodup (by omega) (by omega)).mono fun e w1 he => ?_
    obtain ⟨rfl, O', hq, hs⟩ := he
    exact ⟨rfl, O', Lib.hid (HB.stepD hq hs)⟩
/-- Take, of both: the program's first. -/
theorem both_take (H : FB w0 w h f m g pg l F ws ps pg l F ws ps Of Od lv) (hI : FI l F ws ps n) (hn : n ≤ 1000) (i : Int) : ∃ (x e : Int) (ps' : List Int), 0 ≤ e ∧ e ≤ 5 ∧ FI l F ws ps' (n + 1) ∧
    (∀ W, Upd [] w W → Calls Tryz.prog 14 #[.pointer (some ⟨f, 0, none⟩), .int .i64 i] W fun u w1 => u = .returned (.tuple #[.int .i64 x, .int .i64 e]) ∧ ∃ Of', Hid (FB w0 w1 h f m g pg l F ws ps' pg l F ws ps Of' Od lv)) ∧
    ∀ W Of', FB w0 W h f m g pg l F ws ps' pg l F ws ps Of' Od lv → Calls Tryz.prog 15 #[.pointer (some ⟨g, 0, none⟩), .int .i64 i] W fun u w1 => u = .returned (.agg #[.int .i64 x, .int .i64 e]) ∧ ∃ Od', Hid (FB w0 w1 h f m g pg l F ws ps' pg l F ws ps' Of' Od' lv) := by
  have hfew := hI.few
  by_cases hi : 0 ≤ i ∧ i < ps.length
  · obtain ⟨j, rfl⟩ : ∃ j : Nat, i = j := ⟨i.toNat, by omega⟩
    have hj : j < ps.length := by omega
    refine ⟨ps.getD j 0, 0, ps.eraseIdx j, by omega, by omega, (hI.taken j).more, fun W hu => ?_, fun W Of' HB => ?_⟩
    · refine (ftake_yes f h pg j j W (H.upd0 hu).fin rfl hj (by omega)).mono fun e w1 he => ?_
      obtain ⟨rfl, O', hq, hs⟩ := he
      exact ⟨rfl, O', Lib.hid ((H.upd0 hu).stepF hq hs)⟩
    · refine (dtake_yes g m pg j j W HB.doc rfl hj (by omega)).mono fun e w1 he => ?_
      obtain ⟨rfl, O', hq, hs⟩ := he
      exact ⟨rfl, O', Lib.hid (HB.stepD hq hs)⟩
  · refine ⟨0, 1, ps, by omega, by omega, hI.more, fun W hu => ?_, fun W Of' HB => ?_⟩
    · refine (ftake_no f h pg i W (H.upd0 hu).fin (by omega) (by omega)).mono fun e w1 he => ?_
      obtain ⟨rfl, rfl⟩ := he
      exact ⟨rfl, Of, Lib.hid (H.upd0 hu)⟩
    · refine (dtake_no g m pg i W HB.doc (by omega)).mono fun e w1 he => ?_
      obtain ⟨rfl, hu2⟩ := he
      exact ⟨rfl, Od, Lib.hid (HB.upd0 hu2)⟩
end
end Go.Proofs.YtpkbdmieelgdlaaGreat
namespace Go.Proofs.YtpkbdmieelgdlaaGreat
open Go Go.RowKit

/-- n objects of a number and a reference, of 40 pages: the pages, the places, the objects. -/
def mkF (n : Nat) : Nat → List Pst × List Int × (Int → Ob)
  | 0 => ((newSp 40).pg, [], F00)
  | k + 1 => ((allocP (mkF n k).1 (if k = n then 6 else 2)).1, (mkF n k).2.1 ++ [(allocP (mkF n k).1 (if k = n then 6 else 2)).2], fset (mkF n k).2.2 (allocP (mkF n k).1 (if k = n then 6 else 2)).2 (if k = n then ⟨4, 2, false, List.replicate 5 0⟩ else ⟨3, 0, false, List.replicate 1 0⟩))
theorem mkF_len (n : Nat) : ∀ k, (mkF n k).2.1.length = k
  | 0 => rfl
  | k + 1 => by simp only [mkF, List.length_append, List.length_cons, List.length_nil, mkF_len n k]
section
variable {l : List Int} {F : Int → Ob} {ws ps : List Int} {O : Nat → Prop} {w : World} {f h : Nat} {np : List Pst}
theorem fin_make (f h : Nat) (np : List Pst) (k c : Int) (n : Nat) (w : World) (H : FinO w f h np l F ws ps O) (hm : mayB k c n false = true) (hk : k ≠ 1) (hn : n ≤ 31) (hroom : l.length + 1 < np.length) :
    Calls Tryz.prog 51 #[.pointer (some ⟨h, 0, none⟩), .agg #[.int .i64 k, .int .i64 c, .int .i64 n, .bool false]] w fun e w' =>
      ∃ a pg O', allocP np ((n : Int) + 1) = (pg, a) ∧ e = .returned (.tuple #[.int .i64 a, .int .i64 0]) ∧ pg.length = np.length ∧ FinO w' f h pg (l ++ [a]) (fset F a ⟨k, c, false, List.replicate n 0⟩) ws ps O' ∧ StepO O w O' w' := by
  obtain ⟨vw, vp, Oh, H, rfl⟩ := H
  refine (heap_make h np k c n w H.heap hm hk hn hroom).mono ?_
  rintro e w' ⟨a, pg, O', h1, rfl, _, _, _, h3, hh, hs⟩
  exact ⟨a, pg, _, h1, rfl, h3, ⟨_, _, _, H.heaped hh hs, rfl⟩, hs.finals⟩
theorem df_make (f h : Nat) (np : List Pst) (k c : Int) (n : Nat) (w : World) (H : DfO w f h np l F ws ps O) (hm : mayB k c n false = true) (hk : k ≠ 1) (hn : n ≤ 31) (hroom : l.length + 1 < np.length) :
    Calls Tryz.prog 8 #[.pointer (some ⟨h, 0, none⟩), .agg #[.int .i64 k, .int .i64 c, .int .i64 n, .bool false]] w fun e w' =>
      ∃ a pg O', allocP np ((n : Int) + 1) = (pg, a) ∧ e = .returned (.agg #[.int .i64 a, .int .i64 0]) ∧ pg.length = np.length ∧ DfO w' f h pg (l ++ [a]) (fset F a ⟨k, c, false, List.replicate n 0⟩) ws ps O' ∧ StepO O w O' w' := by
  obtain ⟨vw, vp, Oh, H, rfl⟩ := H
  refine (dmake_room h k c n H.heap hm hk hn hroom).mono ?_
  rintro e w' ⟨a, pg, O', h1, rfl, _, h3, hh, hs⟩
  exact ⟨a, pg, _, h1, rfl, h3, ⟨_, _, _, H.heaped hh hs, rfl⟩, hs.dfinals⟩
end
set_option maxRecDepth 100000 in
set_option maxHeartbeats 6400000 in
theorem made15 (n : Nat) (w : World) (hn : n ≤ 8) : Calls Tryz.prog 6 #[.int .i64 n] w fun e w' =>
    ∃ h f v O, e = .returned (.tuple #[.pointer (some ⟨h, 0, none⟩), .pointer (some ⟨f, 0, none⟩), v]) ∧ FinO w' f h (mkF n (n + 1)).1 (mkF n (n + 1)).2.1 (mkF n (n + 1)).2.2 [] [] O ∧ OwnA w' w.heap.size v (mkF n (n + 1)).2.1 O ∧ Env w w' O := by
  go_enter Tryz.func6, Tryz.ntmps6
  go_wp2_with fail
  refine (heap_new 40 _ (by omega) (by omega)).mono ?_
  rintro e w1 ⟨h, O, rfl, hh, ho, hu⟩
  have HH := Lib.hid hh
  have HE : Hid (Env w w1 O) := Lib.hid ⟨ho, hu⟩
  clear hh ho hu
  go_wp2_with fail
  refine (whole_yes h (newSp 40).pg _ HH.out).mono ?_
  rintro e w2 ⟨rfl, hu⟩
  have HH2 := Lib.hid (HH.out.upd0 hu)
  have HE2 := Lib.hid (HE.out.upd0 hu)
  clear hu
  go_wp2_with fail
  refine (err_calls 0 _ (by omega)).mono ?_
  rintro e w' ⟨rfl, rfl⟩
  go_wp2_with fail
  refine (fin_new h (newSp 40).pg _ HH2.out).mono ?_
  rintro e w3 ⟨f, O3, rfl, hr, hs⟩
  have HR3 : Hid (FinO w3 f h (mkF n 0).1 (mkF n 0).2.1 (mkF n 0).2.2 [] [] O3) := Lib.hid hr
  have HE3 := Lib.hid (HE2.out.step hs)
  have HL0 : Hid ((mkF n 0).1.length = 40) := Lib.hid (by simp [mkF, newSp])
  clear hr hs
  go_wp2_with fail
  go_loopg [8, 9] (n + 1) (fun gk v i wr => ∃ (k : Nat) (O : Nat → Prop), gk = n + 1 - k ∧ k ≤ n + 1 ∧ i = .int .i64 k ∧ Hid (FinO wr f h (mkF n k).1 (mkF n k).2.1 (mkF n k).2.2 [] [] O) ∧ Hid (OwnA wr w.heap.size v (mkF n k).2.1 O) ∧ Hid (Env w wr O) ∧ Hid ((mkF n k).1.length = 40))
  case atStart => exact ⟨0, O3, rfl, by omega, rfl, HR3, Lib.hid (OwnA.nil _ _ _), HE3, HL0⟩
  case round =>
    clear HH HE HH2 HE2 HR3 HE3 HL0
    obtain ⟨k, O, rfl, hk, rfl, HR, HO, HE, HL⟩ := hrel
    by_cases hlt : k ≤ n
    · by_cases hkn : k = n
      · obtain rfl : n = k := hkn.symm
        have HUX : Hid (Upd [] wr (wr.alloc (.cells #[.int .i64 4, .int .i64 2, .int .i64 5, .bool false] 37))) := Lib.hid ((Upd.refl [] wr).alloc _)
        go_wp2_with fail
        refine (fin_make f h (mkF n n).1 4 2 5 _ (HR.out.upd0 HUX.out) (by decide) (by omega) (by omega) (by rw [HL.out, mkF_len]; omega)).mono ?_
        rintro e w4 ⟨a, pg, O4, hal, rfl, hln, hh, hs⟩
        have hal : allocP (mkF n n).1 6 = (pg, a) := hal
        have e1 : (mkF n (n + 1)).1 = pg ∧ (mkF n (n + 1)).2.1 = (mkF n n).2.1 ++ [a] ∧ (mkF n (n + 1)).2.2 = fset (mkF n n).2.2 a ⟨4, 2, false, List.replicate 5 0⟩ := by
          simp only [mkF, if_true, hal]
          exact ⟨trivial, trivial, trivial⟩
        have HR4 : Hid (FinO w4 f h (mkF n (n + 1)).1 (mkF n (n + 1)).2.1 (mkF n (n + 1)).2.2 [] [] O4) := Lib.hid (by rw [e1.1, e1.2.1, e1.2.2]; exact hh)
        have HO4 := Lib.hid ((HO.out.upd0 HUX.out).step hs)
        have HE4 := Lib.hid ((HE.out.upd0 HUX.out).step hs)
        have HL4 : Hid ((mkF n (n + 1)).1.length = 40) := Lib.hid (by rw [e1.1, hln, HL.out])
        have HEQ := Lib.hid e1.2.1
        clear hh hs hal e1 hln
        go_wp2_with fail
        refine (err_calls 0 _ (by omega)).mono ?_
        rintro e w' ⟨rfl, rfl⟩
        go_wp2_with (at_builtin; refine wpList_pushO rfl _ _ rfl w.heap.size _ (mkF n n).2.1 O4 rfl (HO4.out.upd0 ((Upd.refl [] w4).alloc _)) w4.heap.size a rfl (Blk.new _ _ _) (by rw [mkF_len]; omega) (by have := HE4.out.upd.size; simp; omega) (fun k hk => by have := HR4.out.owned hk; simp; omega) ?_)
        intro v' w5 E h1 h2 h3 h4
        rw [← HEQ.out] at h1
        have hE : ∀ i ∈ E, w.heap.size ≤ i ∧ ¬ O4 i := fun i hi => ⟨(World.ownsRow.lt HO4.out.own i (h2 i hi)).1, HO4.out.far i (h2 i hi)⟩
        have HR5 := Lib.hid ((HR4.out.upd0 ((Upd.refl [] w4).alloc (.cells #[.int .i64 a] 3))).upd h3 fun i hi => (hE i hi).2)
        have HE5 := Lib.hid ((HE4.out.upd0 ((Upd.refl [] w4).alloc (.cells #[.int .i64 a] 3))).upd' h3 fun i hi => (hE i hi).1)
        have HO5 := Lib.hid h1
        clear h1 h2 h3 h4 hE
        go_wp2_with fail
        go_roundg (n + 1 - (n + 1))
        case measure => omega
        case rel => exact ⟨n + 1, O4, rfl, by omega, by go_num, HR5, HO5, HE5, HL4⟩
      · have hkn' : ¬ (k : Int) = n := by omega
        have hltn : k < n := by omega
        have HKN : Hid ((k = n) = False) := Lib.hid (by simpa using hkn)
        have HUX : Hid (Upd [] wr (wr.alloc (.cells #[.int .i64 3, .int .i64 0, .int .i64 1, .bool false] 37))) := Lib.hid ((Upd.refl [] wr).alloc _)
        go_wp2_with fail
        refine (fin_make f h (mkF n k).1 3 0 1 _ (HR.out.upd0 HUX.out) (by decide) (by omega) (by omega) (by rw [HL.out, mkF_len]; omega)).mono ?_
        rintro e w4 ⟨a, pg, O4, hal, rfl, hln, hh, hs⟩
        have hal : allocP (mkF n k).1 2 = (pg, a) := hal
        have e1 : (mkF n (k + 1)).1 = pg ∧ (mkF n (k + 1)).2.1 = (mkF n k).2.1 ++ [a] ∧ (mkF n (k + 1)).2.2 = fset (mkF n k).2.2 a ⟨3, 0, false, List.replicate 1 0⟩ := by
          simp only [mkF, HKN.out, if_false, hal]
          exact ⟨trivial, trivial, trivial⟩
        have HR4 : Hid (FinO w4 f h (mkF n (k + 1)).1 (mkF n (k + 1)).2.1 (mkF n (k + 1)).2.2 [] [] O4) := Lib.hid (by rw [e1.1, e1.2.1, e1.2.2]; exact hh)
        have HO4 := Lib.hid ((HO.out.upd0 HUX.out).step hs)
        have HE4 := Lib.hid ((HE.out.upd0 HUX.out).step hs)
        have HL4 : Hid ((mkF n (k + 1)).1.length = 40) := Lib.hid (by rw [e1.1, hln, HL.out])
        have HEQ := Lib.hid e1.2.1
        clear hh hs hal e1 hln
        go_wp2_with fail
        refine (err_calls 0 _ (by omega)).mono ?_
        rintro e w' ⟨rfl, rfl⟩
        go_wp2_with (at_builtin; refine wpList_pushO rfl _ _ rfl w.heap.size _ (mkF n k).2.1 O4 rfl (HO4.out.upd0 ((Upd.refl [] w4).alloc _)) w4.heap.size a rfl (Blk.new _ _ _) (by rw [mkF_len]; omega) (by have := HE4.out.upd.size; simp; omega) (fun k hk => by have := HR4.out.owned hk; simp; omega) ?_)
        intro v' w5 E h1 h2 h3 h4
        rw [← HEQ.out] at h1
        have hE : ∀ i ∈ E, w.heap.size ≤ i ∧ ¬ O4 i := fun i hi => ⟨(World.ownsRow.lt HO4.out.own i (h2 i hi)).1, HO4.out.far i (h2 i hi)⟩
        have HR5 := Lib.hid ((HR4.out.upd0 ((Upd.refl [] w4).alloc (.cells #[.int .i64 a] 3))).upd h3 fun i hi => (hE i hi).2)
        have HE5 := Lib.hid ((HE4.out.upd0 ((Upd.refl [] w4).alloc (.cells #[.int .i64 a] 3))).upd' h3 fun i hi => (hE i hi).1)
        have HO5 := Lib.hid h1
        clear h1 h2 h3 h4 hE
        go_wp2_with fail
        go_roundg (n + 1 - (k + 1))
        case measure => omega
        case rel => exact ⟨k + 1, O4, rfl, by omega, by go_num, HR5, HO5, HE5, HL4⟩
    · obtain rfl : k = n + 1 := by omega
      go_wp2_with fail
      go_ret3
      exact ⟨h, f, _, O, rfl, HR.out, HO.out, HE.out⟩

theorem mkF_head (w : World) {f h : Nat} {O : Nat → Prop} (H : FinO w f h (mkF 1 2).1 (mkF 1 2).2.1 (mkF 1 2).2.2 [] [] O) : ∃ x y, (mkF 1 2).2.1 = [x, y] ∧ ((mkF 1 2).2.2 x).k ≠ 4 ∧ ((mkF 1 2).2.2 x).f = false := by
  obtain ⟨Oh, hh⟩ := H.heap
  have hnd := hh.nodup
  have e : (mkF 1 2).2.1 = [(allocP (newSp 40).pg 2).2, (allocP (mkF 1 1).1 6).2] := rfl
  have e2 : (mkF 1 2).2.2 = fset (fset F00 (allocP (newSp 40).pg 2).2 ⟨3, 0, false, List.replicate 1 0⟩) (allocP (mkF 1 1).1 6).2 ⟨4, 2, false, List.replicate 5 0⟩ := rfl
  rw [e] at hnd
  have hne : (allocP (newSp 40).pg 2).2 ≠ (allocP (mkF 1 1).1 6).2 := by simpa using hnd
  refine ⟨_, _, e, ?_, ?_⟩ <;> rw [e2, fset_ne _ hne, fset_same]
  simp
set_option maxRecDepth 100000 in
set_option maxHeartbeats 1600000 in
theorem awake15 (w : World) : Calls Tryz.prog 22 #[] w fun e w' => e = .returned (.bool true) ∧ Upd [] w w' := by
  go_enter Tryz.func22, Tryz.ntmps22
  go_wp2_with fail
  refine (made15 1 _ (by omega)).mono ?_
  rintro e w1 ⟨h, f, v, O, rfl, hr, ho, he⟩
  obtain ⟨x, y, hl, hk, hf⟩ := mkF_head _ hr
  obtain ⟨pg, hpg⟩ : ∃ pg, (mkF 1 2).1 = pg := ⟨_, rfl⟩
  obtain ⟨F, hF⟩ : ∃ F, (mkF 1 2).2.2 = F := ⟨_, rfl⟩
  change FinO w1 f h (mkF 1 2).1 (mkF 1 2).2.1 (mkF 1 2).2.2 [] [] O at hr
  change OwnA w1 w.heap.size v (mkF 1 2).2.1 O at ho
  rw [hl] at ho
  rw [hl, hpg, hF] at hr
  rw [hF] at hk hf
  have HR := Lib.hid hr
  have HE := Lib.hid he
  have HK := Lib.hid hk
  have HF := Lib.hid hf
  obtain ⟨A, cap, hv, hI, _⟩ := ho.own.form
  have hv' : v = .slice A 2 cap := hv
  subst hv'
  obtain ⟨b, off, rfl, hb, hc⟩ := Reads.at (k := .i64) hI (rfl : [x, y].length = 2) (by omega : 0 < 2)
  have hc' : w1.cell? ⟨b, off, none⟩ = some (.int .i64 x) := hc
  clear hr ho he hl hI hv hc hk hf hpg hF
  go_wp2_with fail
  refine (ftake_no f h pg 0 _ HR.out (by simp) (by simp)).mono ?_
  rintro e w' ⟨rfl, rfl⟩
  go_wp2_with fail
  refine (await_yes f h pg x _ HR.out (by simp) HK.out HF.out (by simp)).mono ?_
  rintro e w2 ⟨rfl, O2, hr, hs⟩
  have HR2 := Lib.hid hr
  have HE2 := Lib.hid (HE.out.step hs)
  clear hr hs hc'
  go_wp2_with fail
  refine (err_calls 1 _ (by omega)).mono ?_
  rintro e w' ⟨rfl, rfl⟩
  go_wp2_with fail
  refine (err_calls 0 _ (by omega)).mono ?_
  rintro e w' ⟨rfl, rfl⟩
  go_wp2_with fail
  refine (finals_yes f h pg _ HR2.out (by simp)).mono ?_
  rintro e w3 ⟨vf, rfl, ho, hu⟩
  obtain ⟨A3, cap3, hv3, _⟩ := ho.form
  have hv4 : vf = .slice A3 1 cap3 := hv3
  subst hv4
  have HE3 := Lib.hid (HE2.out.upd0 hu)
  clear ho hu hv3
  go_wp2_with fail
  go_ret
  exact ⟨by first | rfl | (simp; done), HE3.out.upd⟩
end Go.Proofs.YtpkbdmieelgdlaaGreat
namespace Go.Proofs.YtpkbdmieelgdlaaGreat
open Go Go.RowKit

theorem df_new {w : World} {m : Nat} {pg : List Pst} {l : List Int} {F : Int → Ob} {Om : Nat → Prop} (H : HeapD w m pg l F Om) : ∃ Od, DfO (w.alloc (.cells #[.pointer (some ⟨m, 0, none⟩), .slice none 0 0, .slice none 0 0] 32)) w.heap.size m pg l F [] [] Od ∧ ∀ k, Od k → Om k ∨ k = w.heap.size := by
  refine ⟨_, ⟨.slice none 0 0, .slice none 0 0, Om, ⟨H.upd0 ((Upd.refl [] w).alloc _), Blk.new _ _ _, World.ownsRow_nil _ _ _ _, World.ownsRow_nil _ _ _ _, (fun g h1 _ => by cases h1), (fun e => by cases e), (fun e => by cases e), fun e => by have := H.owned e; omega, fun g hg => (by cases hg), fun g hg => (by cases hg)⟩, rfl⟩, fun k hk => ?_⟩
  rcases hk with hk | rfl | hk | hk
  · exact .inl hk
  · exact .inr rfl
  · cases hk
  · cases hk
/-- Both at the beginning: the document's heap is empty yet. -/
theorem fb_start {w0 w1 w2 : World} {h f m : Nat} {pg pg2 : List Pst} {l l2 : List Int} {F F2 : Int → Ob} {Of Om : Nat → Prop} {lv : Value} (he : Env w0 w1 Of) (hl : OwnA w1 w0.heap.size lv l Of) (hq : FinO w1 f h pg l F [] [] Of) (hm : HeapD w2 m pg2 l2 F2 Om) (hom : ∀ k, Om k → w1.heap.size ≤ k) (hu : Upd [] w1 w2) :
    ∃ Od, FB w0 (w2.alloc (.cells #[.pointer (some ⟨m, 0, none⟩), .slice none 0 0, .slice none 0 0] 32)) h f m w2.heap.size pg l F [] [] pg2 l2 F2 [] [] Of Od lv := by
  obtain ⟨Od, hd, hO⟩ := df_new hm
  have hu2 : Upd [] w1 (w2.alloc (.cells #[.pointer (some ⟨m, 0, none⟩), .slice none 0 0, .slice none 0 0] 32)) := hu.alloc _
  have hl2 := hl.upd0 hu2
  have hsz := hu.size
  have hlo : ∀ k, Od k → w1.heap.size ≤ k := fun k hk => by
    rcases hO k hk with h1 | rfl
    · exact hom k h1
    · exact hsz
  refine ⟨Od, hq.upd0 hu2, hd, fun k hk hx => ?_, ⟨fun k hk => ?_, (he.upd0 hu2).upd⟩, ⟨hl2.own, fun g hg hx => ?_⟩⟩
  · have h1 := hlo k hk
    have h2 := hq.owned hx
    omega
  · rcases hk with hk | hk
    · exact he.low k hk
    · exact Nat.le_trans he.upd.size (hlo k hk)
  · rcases hx with hx | hx
    · exact hl2.far g hg hx
    · have h1 := hlo g hx
      have h2 := (own_low hl.own hg).2
      omega
section
variable {w0 w : World} {h f m g : Nat} {pg : List Pst} {l : List Int} {F : Int → Ob} {ws ps : List Int} {n : Nat} {Of Od : Nat → Prop} {lv : Value}
theorem FI.start {F : Int → Ob} (hl : l.length = 9) : FI l F [] [] 0 := ⟨hl, List.nodup_nil, fun a ha => by (cases ha), Nat.le_refl _⟩
/-- What the law asks behind each step: both rows. -/
theorem fb_rows (H : FB w0 w h f m g pg l F ws ps pg l F ws ps Of Od lv) (hI : FI l F ws ps n) (hn : n ≤ 1000) : ∃ (n1 n2 : Nat) (A1 A2 : Option Addr) (c1 c2 : Nat),
    (∀ W, Upd [] w W → W.cell? ⟨g, 1, none⟩ = some (.slice A1 n1 c1) ∧ W.cell? ⟨g, 2, none⟩ = some (.slice A2 n2 c2)) ∧
    (∀ W, Upd [] w W → Calls Tryz.prog 17 #[.pointer (some ⟨f, 0, none⟩)] W fun e w' => ∃ A c, e = .returned (.slice A n1 c) ∧ IsInts w' A ws ∧ Upd [] W w') ∧
    (∀ W A c, Upd [] w W → IsInts W A ws → Calls Tryz.prog 16 #[.slice A n1 c, .slice A1 n1 c1] W fun e w' => e = .returned (.bool true) ∧ Upd [] W w') ∧
    (∀ W, Upd [] w W → Calls Tryz.prog 18 #[.pointer (some ⟨f, 0, none⟩)] W fun e w' => ∃ A c, e = .returned (.slice A n2 c) ∧ IsInts w' A ps ∧ Upd [] W w') ∧
    ∀ W A c, Upd [] w W → IsInts W A ps → Calls Tryz.prog 16 #[.slice A n2 c, .slice A2 n2 c2] W fun e w' => e = .returned (.bool true) ∧ Upd [] W w' := by
  obtain ⟨vw, vp, Oh, hd, -⟩ := H.doc
  obtain ⟨A1, c1, rfl, hi1⟩ := hd.readW
  obtain ⟨A2, c2, rfl, -, hi2⟩ := hd.readP
  have hfew := hI.few
  refine ⟨ws.length, ps.length, A1, A2, c1, c2, fun W hu => ⟨(hd.upd0 hu).cells.2.1, (hd.upd0 hu).cells.2.2.1⟩, fun W hu => ?_, fun W A c hu hA => ?_, fun W hu => ?_, fun W A c hu hA => ?_⟩
  · refine (finals_yes f h pg W (H.upd0 hu).fin (by omega)).mono fun e w' he => ?_
    obtain ⟨v, rfl, ho, hu2⟩ := he
    obtain ⟨A, c, rfl, hA, -⟩ := ho.form
    exact ⟨A, c, rfl, hA, hu2⟩
  · have := same_calls A A1 ws.length ws.length c c1 ws ws W rfl rfl hA (hi1 W hu) (by omega) (by omega)
    rw [decide_eq_true (rfl : ws = ws)] at this
    refine this.mono fun e w' he => ?_
    obtain ⟨rfl, q, rfl⟩ := he
    exact ⟨rfl, (Upd.refl [] W).drewN q⟩
  · refine (pending_yes f h pg W (H.upd0 hu).fin (by omega)).mono fun e w' he => ?_
    obtain ⟨v, rfl, ho, hu2⟩ := he
    obtain ⟨A, c, rfl, hA, -⟩ := ho.form
    exact ⟨A, c, rfl, hA, hu2⟩
  · have := same_calls A A2 ps.length ps.length c c2 ps ps W rfl rfl hA (hi2 W hu) (by omega) (by omega)
    rw [decide_eq_true (rfl : ps = ps)] at this
    refine this.mono fun e w' he => ?_
    obtain ⟨rfl, q, rfl⟩ := he
    exact ⟨rfl, (Upd.refl [] W).drewN q⟩
/-- What the law asks at its end, at any later world. -/
theorem fb_end (H : FB w0 w h f m g pg l F ws ps pg l F ws ps Of Od lv) :
    (∀ W, Upd [] w W → W.cell? ⟨g, 0, none⟩ = some (.pointer (some ⟨m, 0, none⟩))) ∧
    (∀ W, Upd [] w W → Calls Tryz.prog 20 #[.pointer (some ⟨h, 0, none⟩)] W fun e w' => ∃ v, e = .returned v ∧ ObV w' pg F v ∧ Upd [] W w') ∧
    (∀ W, Upd [] w W → Calls Tryz.prog 21 #[.pointer (some ⟨m, 0, none⟩)] W fun e w' => ∃ v, e = .returned v ∧ ObV w' pg F v ∧ Upd [] W w') ∧
    (∀ W v v2, ObV W pg F v → ObV W pg F v2 → Calls Tryz.prog 19 #[v, v2] W fun e w' => e = .returned (.bool true) ∧ Upd [] W w') := by
  refine ⟨fun W hu => ?_, fun W hu => ?_, fun W hu => ?_, fun W v v2 h1 h2 => ?_⟩
  · obtain ⟨vw, vp, Oh, hd, -⟩ := (H.upd0 hu).doc
    exact hd.cells.1
  · obtain ⟨Oh, hh⟩ := (H.fin.upd0 hu).heap
    refine (heap_objects h pg W hh).mono fun e w' he => ?_
    obtain ⟨v, ss, rfl, ho, hu⟩ := he
    exact ⟨v, rfl, ⟨_, ss, ho⟩, hu⟩
  · obtain ⟨Oh, hh⟩ := (H.doc.upd0 hu).heap
    refine (dheap_objects m pg W hh).mono fun e w' he => ?_
    obtain ⟨v, ss, rfl, ho, hu⟩ := he
    exact ⟨v, rfl, ⟨_, ss, ho⟩, hu⟩
  · obtain ⟨Oh, hh⟩ := H.fin.heap
    obtain ⟨hm1, hm2⟩ := hh.mem
    obtain ⟨B1, s1, h1⟩ := h1
    obtain ⟨B2, s2, h2⟩ := h2
    refine (same_objs W h1 h2 (by rw [objsOf_len]; exact hm1) fun i => ?_).mono fun e w' he => ?_
    · by_cases hi : i < (objsOf pg F).length
      · have hmem : (objsOf pg F).getD i ob0 ∈ objsOf pg F := by rw [List.getD_eq_getElem?_getD, List.getElem?_eq_getElem hi]; exact List.getElem_mem hi
        obtain ⟨a, ha, e⟩ := List.mem_map.1 hmem
        rw [← e]
        exact (hh.pos (hm2 a ha)).2.2
      · rw [List.getD_eq_getElem?_getD, List.getElem?_eq_none (by omega)]
        exact Nat.zero_le _
    · obtain ⟨rfl, q, rfl⟩ := he
      exact ⟨rfl, (Upd.refl [] W).drewN q⟩
/-- The list that the law hands to both. -/
theorem reads_some {pg2 : List Pst} {l2 : List Int} {F2 : Int → Ob} {ws2 ps2 : List Int} {x y z : Int} {k : Nat} (H : FB w0 w h f m g pg l F ws ps pg2 l2 F2 ws2 ps2 Of Od lv) (hk : k ≤ 3) : ReadsO (w.alloc (.cells #[.int .i64 x, .int .i64 y, .int .i64 z] 3)).drew (some ⟨w.heap.size, 0, none⟩) ([x, y, z].take k) (fun k => Of k ∨ Od k) := by
  have hb : Blk (w.alloc (.cells #[.int .i64 x, .int .i64 y, .int .i64 z] 3)).drew w.heap.size 3 #[.int .i64 x, .int .i64 y, .int .i64 z] := (Blk.new _ _ _).drew
  refine .inr ⟨w.heap.size, 0, rfl, hb.lt, fun hx => ?_, fun i hi => ?_⟩
  · rcases hx with hx | hx
    · have := H.fin.owned hx; omega
    · have := H.doc.owned hx; omega
  · have hi : i < k ∧ i < 3 := by rw [List.length_take] at hi; simp at hi; omega
    rw [List.getD_eq_getElem?_getD, List.getElem?_take_of_lt hi.1, Nat.zero_add, hb.cell i]
    have h3 : i = 0 ∨ i = 1 ∨ i = 2 := by omega
    rcases h3 with rfl | rfl | rfl <;> rfl
/-- A heap of the document's that grows. -/
theorem FB.made {w' : World} {pg2 pg' : List Pst} {l2 l' : List Int} {F2 F' : Int → Ob} {O' : Nat → Prop} (H : FB w0 w h f m g pg l F [] [] pg2 l2 F2 [] [] Of Od lv) (hd : DfO w' g m pg' l' F' [] [] O') (k : StepO Od w O' w') : FB w0 w' h f m g pg l F [] [] pg' l' F' [] [] Of O' lv := H.stepD hd k
/-- The cells of the law's own list. -/
theorem FB.cell {pg2 : List Pst} {l2 : List Int} {F2 : Int → Ob} {ws2 ps2 : List Int} {AL : Option Addr} {N cL : Nat} (H : FB w0 w h f m g pg l F ws ps pg2 l2 F2 ws2 ps2 Of Od (.slice AL N cL)) (hl : l.length = N) {t : Nat} (ht : t < N) : ∃ b o, AL = some ⟨b, o, none⟩ ∧ ∀ W, Upd [] w W → W.cell? ⟨b, o + t, none⟩ = some (.int .i64 (l.getD t 0)) := by
  obtain ⟨al, cl', eL, hIL, -⟩ := H.lst.own.form
  simp only [Value.slice.injEq] at eL
  obtain ⟨rfl, -, -⟩ := eL
  obtain ⟨b, o, e, hb, c⟩ := Reads.at hIL hl ht
  exact ⟨b, o, e, fun W hu => (hu.cell (p := ⟨b, o + t, none⟩) hb (by simp)).trans c⟩
end
end Go.Proofs.YtpkbdmieelgdlaaGreat
