/- Queues: what they are in memory, and the contracts of their calls. -/
import Derived.Test.YtpkbdmieelgdlaaGreatObj4P
namespace Go.Proofs.YtpkbdmieelgdlaaGreat
open Go Go.RowKit

theorem getLastD_snoc (r : List Int) (a : Int) : (r ++ [a]).getLastD 0 = a := by rw [List.getLastD_eq_getLast?]; simp
theorem headD_snoc {r : List Int} (h : r ≠ []) (a : Int) : (r ++ [a]).headD 0 = r.headD 0 := by cases r with
  | nil => exact absurd rfl h
  | cons x t => rfl
theorem set_same {α : Type} {l : List α} {i : Nat} {x : α} (h : l[i]? = some x) : l.set i x = l := by
  apply List.ext_getElem?
  intro k
  rw [List.getElem?_set]
  by_cases e : i = k
  · subst e
    rw [if_pos rfl]
    have hl := (List.getElem?_eq_some_iff.1 h).1
    rw [if_pos hl, h]
  · rw [if_neg e]
def endsV (rows : List (List Int)) : List Value := rows.flatMap fun r => [.int .i64 (r.headD 0), .int .i64 (r.getLastD 0)]
theorem endsV_length (rows : List (List Int)) : (endsV rows).length = rows.length * 2 := by
  induction rows with
  | nil => rfl
  | cons r t ih => unfold endsV at ih ⊢; simp only [List.flatMap_cons, List.length_append, List.length_cons, List.length_nil, ih]; omega
theorem endsV_at (rows : List (List Int)) (j : Nat) (hj : j < rows.length) : (endsV rows)[j * 2]? = some (.int .i64 ((rows.getD j []).headD 0)) ∧ (endsV rows)[j * 2 + 1]? = some (.int .i64 ((rows.getD j []).getLastD 0)) := by
  induction rows generalizing j with
  | nil => simp at hj
  | cons r t ih =>
    have e : endsV (r :: t) = [.int .i64 (r.headD 0), .int .i64 (r.getLastD 0)] ++ endsV t := rfl
    rw [e]
    cases j with
    | zero => exact ⟨rfl, rfl⟩
    | succ j =>
      have := ih j (by simpa using hj)
      rw [List.getElem?_append_right (by simp; omega), List.getElem?_append_right (by simp; omega)]
      have e1 : (j + 1) * 2 - 2 = j * 2 := by omega
      have e2 : (j + 1) * 2 + 1 - 2 = j * 2 + 1 := by omega
      simpa [e1, e2] using this
theorem endsV_set (rows : List (List Int)) (j : Nat) (r : List Int) (hj : j < rows.length) : endsV (rows.set j r) = ((endsV rows).set (j * 2) (.int .i64 (r.headD 0))).set (j * 2 + 1) (.int .i64 (r.getLastD 0)) := by
  induction rows generalizing j with
  | nil => simp at hj
  | cons x t ih =>
    have e : ∀ (x : List Int) t, endsV (x :: t) = Value.int .i64 (x.headD 0) :: Value.int .i64 (x.getLastD 0) :: endsV t := fun _ _ => rfl
    cases j with
    | zero => simp only [List.set_cons_zero, e]; rfl
    | succ j =>
      have e1 : (j + 1) * 2 = j * 2 + 1 + 1 := by omega
      rw [List.set_cons_succ, e, e, ih j (by simpa using hj), e1]
      rfl
theorem endsV_open (rows : List (List Int)) : endsV (rows ++ [[]]) = endsV rows ++ [.int .i64 0, .int .i64 0] := by
  unfold endsV; rw [List.flatMap_append]; rfl

theorem endsV_first (rows : List (List Int)) (j : Nat) (a : Int) (hj : j < rows.length) (hr : rows.getD j [] = []) : endsV (rows.set j (rows.getD j [] ++ [a])) = ((endsV rows).set (j * 2) (.int .i64 a)).set (j * 2 + 1) (.int .i64 a) := by
  rw [endsV_set _ _ _ hj, hr]; rfl
theorem endsV_next (rows : List (List Int)) (j : Nat) (a : Int) (hj : j < rows.length) (hr : rows.getD j [] ≠ []) : endsV (rows.set j (rows.getD j [] ++ [a])) = (endsV rows).set (j * 2 + 1) (.int .i64 a) := by
  rw [endsV_set _ _ _ hj, headD_snoc hr, getLastD_snoc, set_same (endsV_at rows j hj).1]
theorem endsV_last (rows : List (List Int)) (j : Nat) (hj : j < rows.length) : endsV (rows.set j []) = ((endsV rows).set (j * 2) (.int .i64 0)).set (j * 2 + 1) (.int .i64 0) := by
  rw [endsV_set _ _ _ hj]; rfl
theorem endsV_poll (rows : List (List Int)) (j : Nat) (a b : Int) (t : List Int) (hj : j < rows.length) (hr : rows.getD j [] = a :: b :: t) : endsV (rows.set j (b :: t)) = (endsV rows).set (j * 2) (.int .i64 b) := by
  rw [endsV_set _ _ _ hj]
  have h2 := (endsV_at rows j hj).2
  rw [hr] at h2
  have e : (a :: b :: t).getLastD 0 = (b :: t).getLastD 0 := rfl
  rw [e] at h2
  rw [set_same]
  · rfl
  · rw [List.getElem?_set, if_neg (by omega)]; exact h2

def OwnsQ (q : Nat) (v : Value) (Oh : Nat → Prop) (k : Nat) : Prop := Oh k ∨ k = q ∨ v.ownBlock = some k
/-- Queues over a heap, as they lie in memory: n queues, their ends are cs. -/
structure QueR (w : World) (q h : Nat) (np : List Pst) (v : Value) (l : List Int) (F : Int → Ob) (n : Nat) (cs : List Value) (Oh : Nat → Prop) : Prop where
  heap : HeapO w h np l F Oh
  box : Blk w q 117 #[.pointer (some ⟨h, 0, none⟩), v]
  row : w.ownsRow 0 119 2 v n cs
  sq : ¬ Oh q
  sv : ∀ g, v.ownBlock = some g → ¬ Oh g
structure QueL (w : World) (q h : Nat) (np : List Pst) (v : Value) (l : List Int) (F : Int → Ob) (rows : List (List Int)) (Oh : Nat → Prop) : Prop where
  raw : QueR w q h np v l F rows.length (endsV rows) Oh
  links : Linked l F rows
  few : rows.length ≤ 8
/-- Queues over a heap: rows of references. -/
def QueO (w : World) (q h : Nat) (np : List Pst) (l : List Int) (F : Int → Ob) (rows : List (List Int)) (O : Nat → Prop) : Prop := ∃ v Oh, QueL w q h np v l F rows Oh ∧ O = OwnsQ q v Oh

theorem StepO.setCell {O : Nat → Prop} {w w' : World} {O' : Nat → Prop} (h : StepO O w O' w') {p : Addr} (hp : O' p.block) (u : Value) : StepO O w O' (w'.setCell p u) := by
  refine h.trans ⟨rfl, rfl, rfl, by simp [World.setCell], fun k hk hn => Below.heap_setCell _ _ _ _ (fun e => hn (e ▸ hp)), fun k hk => .inl hk⟩

section
variable {w w' : World} {q h : Nat} {np : List Pst} {n : Nat} {cs cs' : List Value} {v : Value} {l l' : List Int} {F F' : Int → Ob} {rows : List (List Int)} {O Oh Oh' : Nat → Prop} {E : List Nat}
theorem ownsRow_moved {e : TypeId} {B n m : Nat} {xs : List Value} (h : w.ownsRow B e m v n xs) (hb : ∀ g, v.ownBlock = some g → w'.heap[g]? = w.heap[g]?) : w'.ownsRow B e m v n xs := by
  obtain ⟨h1, h2⟩ := h
  refine ⟨h1, ?_⟩
  rcases h2 with h2 | ⟨g, cap, cur, h2, h3, h4, h5⟩
  · exact .inl h2
  · exact .inr ⟨g, cap, cur, h2, h3, (hb g (by rw [h2]; rfl)).trans h4, h5⟩
theorem QueR.owned (H : QueR w q h np v l F n cs Oh) {k : Nat} (hk : OwnsQ q v Oh k) : k < w.heap.size := by
  rcases hk with hk | rfl | hk
  · exact H.heap.owned hk
  · exact H.box.lt
  · exact (World.ownsRow.lt H.row k hk).2
theorem QueO.owned (H : QueO w q h np l F rows O) {k : Nat} (hk : O k) : k < w.heap.size := by obtain ⟨v, Oh, H, rfl⟩ := H; exact H.raw.owned hk
theorem QueR.moved (H : QueR w q h np v l F n cs Oh) (hb : ∀ k, OwnsQ q v Oh k → w'.heap[k]? = w.heap[k]?) : QueR w' q h np v l F n cs Oh :=
  ⟨H.heap.moved fun k hk => hb k (.inl hk), H.box.moved (hb _ (.inr (.inl rfl))), ownsRow_moved H.row fun g hg => hb g (.inr (.inr hg)), H.sq, H.sv⟩
theorem QueO.moved (H : QueO w q h np l F rows O) (hb : ∀ k, O k → w'.heap[k]? = w.heap[k]?) : QueO w' q h np l F rows O := by
  obtain ⟨v, Oh, ⟨H, h1, h2⟩, rfl⟩ := H
  exact ⟨v, Oh, ⟨H.moved hb, h1, h2⟩, rfl⟩
theorem QueO.upd (H : QueO w q h np l F rows O) (hu : Upd E w w') (hE : ∀ k ∈ E, ¬ O k) : QueO w' q h np l F rows O := H.moved fun k hk => hu.block k (H.owned hk) fun hm => hE k hm hk
theorem QueO.upd0 (H : QueO w q h np l F rows O) (hu : Upd [] w w') : QueO w' q h np l F rows O := H.upd hu (by simp)
theorem QueR.upd0 (H : QueR w q h np v l F n cs Oh) (hu : Upd [] w w') : QueR w' q h np v l F n cs Oh := H.moved fun k hk => hu.block k (H.owned hk) (by simp)
theorem QueO.drewN (H : QueO w q h np l F rows O) (n : Nat) : QueO (w.drewN n) q h np l F rows O := H.upd0 ((Upd.refl [] w).drewN n)
theorem QueO.alloc (H : QueO w q h np l F rows O) (o : Obj) : QueO (w.alloc o) q h np l F rows O := H.upd0 ((Upd.refl [] w).alloc o)
theorem QueR.cells (H : QueR w q h np v l F n cs Oh) : w.cell? ⟨q, 0, none⟩ = some (.pointer (some ⟨h, 0, none⟩)) ∧ w.cell? ⟨q, 1, none⟩ = some v ∧ w.frozen? ⟨q, 1, none⟩ = false := ⟨H.box.cell 0, H.box.cell 1, H.box.frozen 1⟩
/-- What the heap has done the queues have done. -/
theorem QueR.heaped {np' : List Pst} (H : QueR w q h np v l F n cs Oh) (hH : HeapO w' h np' l' F' Oh') (hs : StepO Oh w Oh' w') : QueR w' q h np' v l' F' n cs Oh' := by
  refine ⟨hH, H.box.moved (hs.block q H.box.lt H.sq), ownsRow_moved H.row fun g hg => hs.block g (World.ownsRow.lt H.row g hg).2 (H.sv g hg), fun hx => ?_, fun g hg hx => ?_⟩
  · rcases hs.own q hx with h1 | h1
    · exact H.sq h1
    · have := H.box.lt; omega
  · rcases hs.own g hx with h1 | h1
    · exact H.sv g hg h1
    · have := (World.ownsRow.lt H.row g hg).2; omega
theorem StepO.queued {q : Nat} {v : Value} (h : StepO Oh w Oh' w') : StepO (OwnsQ q v Oh) w (OwnsQ q v Oh') w' := h.wide (P := fun k => k = q ∨ v.ownBlock = some k)
/-- The slice of the ends. -/
theorem QueR.slice (H : QueR w q h np v l F n cs Oh) : (v = .slice none 0 0 ∧ n = 0) ∨ ∃ g cap, v = .slice (some ⟨g, 0, none⟩) n cap := by
  rcases H.row.2 with ⟨h1, h2⟩ | ⟨g, cap, cur, h1, _⟩
  · exact .inl ⟨h1, h2⟩
  · exact .inr ⟨g, cap, h1⟩
theorem QueR.ends (H : QueR w q h np v l F n cs Oh) {j : Nat} (hj : j < n) : ∃ g cap, v = .slice (some ⟨g, 0, none⟩) n cap ∧ ¬ Oh g ∧ g ≠ q ∧ w.cell? ⟨g, j * 2, none⟩ = cs[j * 2]? ∧ w.cell? ⟨g, j * 2 + 1, none⟩ = cs[j * 2 + 1]? ∧ (∀ k, w.frozen? ⟨g, k, none⟩ = false) := by
  have hrow := H.row
  rcases H.slice with ⟨_, h2⟩ | ⟨g, cap, rfl⟩
  · omega
  · refine ⟨g, cap, rfl, H.sv g rfl, ?_, World.ownsRow.cellAt hrow _ (by omega), World.ownsRow.cellAt hrow _ (by omega), fun k => World.ownsRow.frozenAt hrow k⟩
    obtain ⟨g', cap', cur, e, _, hc, _⟩ := hrow.2.resolve_left (by simp)
    simp only [Value.slice.injEq, Option.some.injEq, Addr.mk.injEq] at e
    obtain ⟨⟨rfl, _⟩, _⟩ := e
    exact (Blk.ne_ H.box (show Blk w g _ cur from hc) (by decide)).symm
theorem QueR.at {g cap : Nat} (H : QueR w q h np (.slice (some ⟨g, 0, none⟩) n cap) l F n cs Oh) {j : Nat} (hj : j < n) : w.cell? ⟨g, j * 2, none⟩ = cs[j * 2]? ∧ w.cell? ⟨g, j * 2 + 1, none⟩ = cs[j * 2 + 1]? ∧ w.frozen? ⟨g, j * 2, none⟩ = false ∧ w.frozen? ⟨g, j * 2 + 1, none⟩ = false :=
  ⟨World.ownsRow.cellAt H.row _ (by omega), World.ownsRow.cellAt H.row _ (by omega), World.ownsRow.frozenAt H.row _, World.ownsRow.frozenAt H.row _⟩
/-- One of the ends is stored. -/
theorem QueR.set {g cap : Nat} (H : QueR w q h np (.slice (some ⟨g, 0, none⟩) n cap) l F n cs Oh) (hgq : g ≠ q) (k : Nat) (x : Int) :
    QueR (w.setCell ⟨g, k, none⟩ (.int .i64 x)) q h np (.slice (some ⟨g, 0, none⟩) n cap) l F n (cs.set k (.int .i64 x)) Oh := by
  have hb : ∀ i, i ≠ g → (w.setCell ⟨g, k, none⟩ (.int .i64 x)).heap[i]? = w.heap[i]? := fun i hi => Below.heap_setCell _ _ _ _ hi
  exact ⟨H.heap.moved fun i hi => hb i (fun e => H.sv g rfl (e ▸ hi)), H.box.moved (hb q (Ne.symm hgq)), (World.ownsRow.stored H.row k _).1, H.sq, H.sv⟩
end
end Go.Proofs.YtpkbdmieelgdlaaGreat
