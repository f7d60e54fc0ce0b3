/- The document's references: rows over a heap, as they lie in memory. -/
import Derived.Test.YtpkbdmieelgdlaaGreatDh4
import Derived.Test.YtpkbdmieelgdlaaGreatOv
import Derived.Test.YtpkbdmieelgdlaaGreatStepP
import Derived.Deep.RegionHeld3
namespace Go.Proofs.YtpkbdmieelgdlaaGreat
open Go Go.RowKit

structure DqL (w : World) (r h : Nat) (V : Value) (vs : List Value) (np : List Pst) (l : List Int) (F : Int → Ob) (rows : List (List Int)) (n : Int) (Oh : Nat → Prop) : Prop where
  box : Blk w r 61 #[.pointer (some ⟨h, 0, none⟩), V, .int .i64 n]
  heap : HeapD w h np l F Oh
  row : w.ownsRow 0 23 1 V rows.length vs
  own : ∀ i, i < rows.length → Own w 0 (vs.getD i snil) (rows.getD i [])
  sr : ¬ Oh r
  sV : ∀ g, V.ownBlock = some g → ¬ Oh g
  sv : ∀ i, i < rows.length → ∀ g, (vs.getD i snil).ownBlock = some g → ¬ Oh g
def OwnsDq (r : Nat) (V : Value) (vs : List Value) (Oh : Nat → Prop) (k : Nat) : Prop := Oh k ∨ (k = r ∨ V.ownBlock = some k ∨ ∃ i, i < vs.length ∧ (vs.getD i snil).ownBlock = some k)
/-- The document's references: the rows, over a heap; n were made; the blocks are O. -/
def DqO (w : World) (r h : Nat) (np : List Pst) (l : List Int) (F : Int → Ob) (rows : List (List Int)) (n : Int) (O : Nat → Prop) : Prop := ∃ V vs Oh, DqL w r h V vs np l F rows n Oh ∧ O = OwnsDq r V vs Oh
section
variable {w w' : World} {r h : Nat} {V V' : Value} {vs vs' : List Value} {np np' : List Pst} {l l' : List Int} {F F' : Int → Ob} {rows rows' : List (List Int)} {n n' : Int} {O Oh Oh' : Nat → Prop}
theorem DqL.len (H : DqL w r h V vs np l F rows n Oh) : vs.length = rows.length := by have := H.row.1; omega
theorem DqL.owned (H : DqL w r h V vs np l F rows n Oh) {k : Nat} (hk : OwnsDq r V vs Oh k) : k < w.heap.size := by
  rcases hk with hk | rfl | hk | ⟨i, hi, hk⟩
  · exact H.heap.owned hk
  · exact H.box.lt
  · exact (World.ownsRow.lt H.row k hk).2
  · exact (own_low (H.own i (by rw [← H.len]; exact hi)) hk).2
theorem DqO.owned (H : DqO w r h np l F rows n O) {k : Nat} (hk : O k) : k < w.heap.size := by obtain ⟨V, vs, Oh, H, rfl⟩ := H; exact H.owned hk
theorem DqL.moved (H : DqL w r h V vs np l F rows n Oh) (hb : ∀ k, OwnsDq r V vs Oh k → w'.heap[k]? = w.heap[k]?) : DqL w' r h V vs np l F rows n Oh :=
  ⟨H.box.moved (hb _ (.inr (.inl rfl))), H.heap.moved fun k hk => hb k (.inl hk), ownsRow_moved H.row fun g hg => hb g (.inr (.inr (.inl hg))), fun i hi => (H.own i hi).moved fun g hg => hb g (.inr (.inr (.inr ⟨i, by rw [H.len]; exact hi, hg⟩))), H.sr, H.sV, H.sv⟩
theorem DqO.moved (H : DqO w r h np l F rows n O) (hb : ∀ k, O k → w'.heap[k]? = w.heap[k]?) : DqO w' r h np l F rows n O := by
  obtain ⟨V, vs, Oh, H, rfl⟩ := H
  exact ⟨V, vs, Oh, H.moved hb, rfl⟩
theorem DqO.upd0 (H : DqO w r h np l F rows n O) (hu : Upd [] w w') : DqO w' r h np l F rows n O := H.moved fun k hk => hu.block k (H.owned hk) (by simp)
theorem DqL.upd0 (H : DqL w r h V vs np l F rows n Oh) (hu : Upd [] w w') : DqL w' r h V vs np l F rows n Oh := H.moved fun k hk => hu.block k (H.owned hk) (by simp)
theorem DqL.slice (H : DqL w r h V vs np l F rows n Oh) : (V = .slice none 0 0 ∧ rows.length = 0) ∨ ∃ g c, V = .slice (some ⟨g, 0, none⟩) rows.length c := by
  rcases H.row.2 with ⟨h1, h2⟩ | ⟨g, cap, cur, h1, _⟩
  · exact .inl ⟨h1, h2⟩
  · exact .inr ⟨g, cap, h1⟩
theorem DqL.form (H : DqL w r h V vs np l F rows n Oh) : ∃ A c, V = .slice A rows.length c := by
  rcases H.slice with ⟨h1, h2⟩ | ⟨g, c, h1⟩
  · exact ⟨none, 0, by rw [h1, h2]⟩
  · exact ⟨_, c, h1⟩
theorem DqL.cells (H : DqL w r h V vs np l F rows n Oh) : w.cell? ⟨r, 0, none⟩ = some (.pointer (some ⟨h, 0, none⟩)) ∧ w.cell? ⟨r, 1, none⟩ = some V ∧ w.cell? ⟨r, 2, none⟩ = some (.int .i64 n) ∧ w.frozen? ⟨r, 1, none⟩ = false ∧ w.frozen? ⟨r, 2, none⟩ = false := ⟨H.box.cell 0, H.box.cell 1, H.box.cell 2, H.box.frozen 1, H.box.frozen 2⟩
/-- A row's cell. -/
theorem DqL.at (H : DqL w r h V vs np l F rows n Oh) {i : Nat} (hi : i < rows.length) : ∃ g c A c2, V = .slice (some ⟨g, 0, none⟩) rows.length c ∧ vs.getD i snil = .slice A (rows.getD i []).length c2 ∧
    w.cell? ⟨g, i, none⟩ = some (.slice A (rows.getD i []).length c2) ∧ w.frozen? ⟨g, i, none⟩ = false ∧ IsInts w A (rows.getD i []) ∧ (A = none → (rows.getD i []).length = 0 ∧ c2 = 0) := by
  obtain ⟨A, c2, hs, hI, hn⟩ := (H.own i hi).form
  have hr := H.row
  rcases H.slice with ⟨_, h2⟩ | ⟨g, c, rfl⟩
  · omega
  · have hc := World.ownsRow.cellAt hr i (by omega)
    have hv : vs[i]? = some (vs.getD i snil) := by rw [List.getD_eq_getElem?_getD, List.getElem?_eq_getElem (by rw [H.len]; exact hi)]; rfl
    rw [hv, hs] at hc
    exact ⟨g, c, A, c2, rfl, hs, hc, World.ownsRow.frozenAt hr i, hI, hn⟩
/-- What the heap has done the references have done. -/
theorem DqL.heaped (H : DqL w r h V vs np l F rows n Oh) (hH : HeapD w' h np' l' F' Oh') (hs : StepO Oh w Oh' w') : DqL w' r h V vs np' l' F' rows n Oh' ∧ StepO (OwnsDq r V vs Oh) w (OwnsDq r V vs Oh') w' := by
  have hno : ∀ k, k < w.heap.size → ¬ Oh k → ¬ Oh' k := fun k hk hn hx => by
    rcases hs.own k hx with h1 | h1
    · exact hn h1
    · omega
  refine ⟨⟨H.box.moved (hs.block r H.box.lt H.sr), hH, ownsRow_moved H.row fun g hg => hs.block g (World.ownsRow.lt H.row g hg).2 (H.sV g hg), fun i hi => (H.own i hi).moved fun g hg => hs.block g (own_low (H.own i hi) hg).2 (H.sv i hi g hg),
    hno r H.box.lt H.sr, fun g hg => hno g (World.ownsRow.lt H.row g hg).2 (H.sV g hg), fun i hi g hg => hno g (own_low (H.own i hi) hg).2 (H.sv i hi g hg)⟩, hs.wide⟩
theorem DqO.heaped (H : DqO w r h np l F rows n O) : ∃ Oh, HeapD w h np l F Oh ∧ ∀ W w' np' l' F' Oh', Upd [] w W → HeapD w' h np' l' F' Oh' → StepO Oh W Oh' w' → ∃ O', DqO w' r h np' l' F' rows n O' ∧ StepO O w O' w' := by
  obtain ⟨V, vs, Oh, H, rfl⟩ := H
  refine ⟨Oh, H.heap, fun W w' np' l' F' Oh' hu hh hs => ?_⟩
  obtain ⟨h1, h2⟩ := (H.upd0 hu).heaped hh hs
  exact ⟨_, ⟨V, vs, Oh', h1, rfl⟩, StepO.behind hu h2⟩
end
end Go.Proofs.YtpkbdmieelgdlaaGreat
