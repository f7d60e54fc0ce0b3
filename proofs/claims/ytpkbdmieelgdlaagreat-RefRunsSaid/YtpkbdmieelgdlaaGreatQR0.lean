/- The beginning of QueueRuns: both are made. -/
import Derived.Test.YtpkbdmieelgdlaaGreatQB
import Derived.Test.YtpkbdmieelgdlaaGreatL12
import Derived.Test.YtpkbdmieelgdlaaGreatIn
import Derived.Test.YtpkbdmieelgdlaaGreatObjs2
import Derived.Test.YtpkbdmieelgdlaaGreatObjs3
namespace Go.Proofs.YtpkbdmieelgdlaaGreat
open Go Go.RowKit

theorem mkR_ref : ∀ k, ∀ a ∈ (mkR k).2.1, ((mkR k).2.2 a).k = 4 ∧ ((mkR k).2.2 a).ws.length = 5
  | 0, a, h => by cases h
  | k + 1, a, h => by
    simp only [mkR] at h ⊢
    by_cases e : a = (allocP (mkR k).1 6).2
    · rw [e, fset_same]; exact ⟨rfl, by simp⟩
    · rw [fset_ne _ e]
      rcases List.mem_append.1 h with h | h
      · exact mkR_ref k a h
      · exact absurd (List.mem_singleton.1 h) e
theorem dq_new {w : World} {m : Nat} {pg : List Pst} {l : List Int} {F : Int → Ob} {Om : Nat → Prop} (H : HeapD w m pg l F Om) : ∃ Od, DqO (w.alloc (.cells #[.pointer (some ⟨m, 0, none⟩), .slice none 0 0, .int .i64 0] 61)) w.heap.size m pg l F [] 0 Od ∧ ∀ k, Od k → Om k ∨ k = w.heap.size := by
  refine ⟨_, ⟨.slice none 0 0, [], Om, ⟨Blk.new _ _ _, H.upd0 ((Upd.refl [] w).alloc _), World.ownsRow_nil _ _ _ _, fun i hi => by simp at hi, fun e => by have := H.owned e; omega, fun g hg => (by cases hg), fun i hi => by simp at hi⟩, rfl⟩, fun k hk => ?_⟩
  rcases hk with hk | rfl | hk | ⟨i, hi, _⟩
  · exact .inl hk
  · exact .inr rfl
  · cases hk
  · simp at hi
/-- Both at the beginning. -/
theorem qb_start {w0 w1 w2 w3 : World} {h q m : Nat} {pg : List Pst} {l : List Int} {F : Int → Ob} {O1 Oq Om : Nat → Prop} {lv : Value} (he : Env w0 w1 O1) (hl : OwnA w1 w0.heap.size lv l O1) (hq : QueO w2 q h pg l F [] Oq) (hs : StepO O1 w1 Oq w2) (hm : HeapD w3 m pg l F Om) (hem : Env w2 w3 Om) :
    ∃ Od, QB w0 (w3.alloc (.cells #[.pointer (some ⟨m, 0, none⟩), .slice none 0 0, .int .i64 0] 61)) h q w3.heap.size m pg l F [] F [] Oq Od lv (.slice none 0 0) [] := by
  obtain ⟨Od, hd, hO⟩ := dq_new hm
  have hu : Upd [] w2 (w3.alloc (.cells #[.pointer (some ⟨m, 0, none⟩), .slice none 0 0, .int .i64 0] 61)) := hem.upd.alloc _
  have he2 := he.step hs
  have hl2 := (hl.step hs).upd0 hu
  have hsz := hem.upd.size
  have hlo : ∀ k, Od k → w2.heap.size ≤ k := fun k hk => by
    rcases hO k hk with h1 | rfl
    · exact hem.low k h1
    · exact hsz
  refine ⟨Od, hq.upd0 hu, hd, fun k hk hx => ?_, ⟨fun k hk => ?_, (he2.upd0 hu).upd⟩, ⟨hl2.own, fun g hg hx => ?_⟩, OwnA.nil _ _ _, fun g hg => by cases hg⟩
  · have h1 := hlo k hk
    have h2 := hq.owned hx
    omega
  · rcases hk with hk | hk
    · exact he2.low k hk
    · exact Nat.le_trans he2.upd.size (hlo k hk)
  · rcases hx with hx | hx
    · exact hl2.far g hg hx
    · have h1 := hlo g hx
      have h2 := (own_low (hl.step hs).own hg).2
      omega
theorem qi_start {w : World} {h : Nat} {O : Nat → Prop} (H : HeapO w h (mkR 12).1 (mkR 12).2.1 (mkR 12).2.2 O) : QI (mkR 12).2.1 (mkR 12).2.2 [] [] :=
  ⟨mkR_len 12, fun a ha => (H.pos ha).1, mkR_ref 12, fun j x hx => by simp at hx, by simp⟩
theorem getD_bytes {ns : List Int} (hb : ∀ x ∈ ns, 0 ≤ x ∧ x ≤ 255) {i : Nat} (hi : i < ns.length) : ∃ k : Nat, ns.getD i 0 = k ∧ k ≤ 255 := by
  have hm : ns.getD i 0 ∈ ns := by rw [getD_of hi]; exact List.getElem_mem _
  obtain ⟨h1, h2⟩ := hb _ hm
  exact ⟨(ns.getD i 0).toNat, by omega, by omega⟩
/-- A list of objects, as both heaps tell it. -/
def ObV (w : World) (pg : List Pst) (F : Int → Ob) (v : Value) : Prop := ∃ B ss, ObjsV w B v (objsOf pg F) ss
theorem ObV.upd0 {w w' : World} {pg : List Pst} {F : Int → Ob} {v : Value} (h : ObV w pg F v) (hu : Upd [] w w') : ObV w' pg F v := by
  obtain ⟨B, ss, h⟩ := h
  exact ⟨B, ss, h.upd0 hu⟩
theorem DqO.parts {w : World} {r m : Nat} {pg : List Pst} {l : List Int} {F : Int → Ob} {rows : List (List Int)} {n : Int} {O : Nat → Prop} (h : DqO w r m pg l F rows n O) : w.cell? ⟨r, 0, none⟩ = some (.pointer (some ⟨m, 0, none⟩)) ∧ ∃ Oh, HeapD w m pg l F Oh := by
  obtain ⟨V, vs, Oh, H, _⟩ := h
  exact ⟨H.cells.1, Oh, H.heap⟩
theorem QueO.heapO {w : World} {q h : Nat} {pg : List Pst} {l : List Int} {F : Int → Ob} {rows : List (List Int)} {O : Nat → Prop} (H : QueO w q h pg l F rows O) : ∃ Oh, HeapO w h pg l F Oh := by
  obtain ⟨v, Oh, ⟨hr, _, _⟩, _⟩ := H
  exact ⟨Oh, hr.heap⟩
theorem QueO.count {w : World} {q h : Nat} {pg : List Pst} {l : List Int} {F : Int → Ob} {rows : List (List Int)} {O : Nat → Prop} (H : QueO w q h pg l F rows O) : Calls Tryz.prog 33 #[.pointer (some ⟨q, 0, none⟩)] w fun e w' => e = .returned (.int .i64 rows.length) ∧ w = w' := by
  obtain ⟨v, Oh, ⟨hr, _, _⟩, _⟩ := H
  exact queues_len q h pg _ w hr
/-- What the law asks at its end, at any later world. -/
theorem qb_end {w0 w : World} {h q r m : Nat} {pg : List Pst} {l : List Int} {F : Int → Ob} {rows : List (List Int)} {Oq Od : Nat → Prop} {lv iv : Value} {ins : List Int} (H : QB w0 w h q r m pg l F rows F rows Oq Od lv iv ins) :
    (∀ W, Upd [] w W → W.cell? ⟨r, 0, none⟩ = some (.pointer (some ⟨m, 0, none⟩))) ∧
    (∀ W, Upd [] w W → Calls Tryz.prog 20 #[.pointer (some ⟨h, 0, none⟩)] W fun e w' => ∃ v, e = .returned v ∧ ObV w' pg F v ∧ Upd [] W w') ∧
    (∀ W, Upd [] w W → Calls Tryz.prog 21 #[.pointer (some ⟨m, 0, none⟩)] W fun e w' => ∃ v, e = .returned v ∧ ObV w' pg F v ∧ Upd [] W w') ∧
    (∀ W v v2, ObV W pg F v → ObV W pg F v2 → Calls Tryz.prog 19 #[v, v2] W fun e w' => e = .returned (.bool true) ∧ Upd [] W w') := by
  refine ⟨fun W hu => (H.doc.upd0 hu).parts.1, fun W hu => ?_, fun W hu => ?_, fun W v v2 h1 h2 => ?_⟩
  · obtain ⟨Oh, hh⟩ := (H.que.upd0 hu).heapO
    refine (heap_objects h pg W hh).mono fun e w' he => ?_
    obtain ⟨v, ss, rfl, ho, hu⟩ := he
    exact ⟨v, rfl, ⟨_, ss, ho⟩, hu⟩
  · obtain ⟨-, Oh, hh⟩ := (H.doc.upd0 hu).parts
    refine (dheap_objects m pg W hh).mono fun e w' he => ?_
    obtain ⟨v, ss, rfl, ho, hu⟩ := he
    exact ⟨v, rfl, ⟨_, ss, ho⟩, hu⟩
  · obtain ⟨Oh, hh⟩ := H.que.heapO
    obtain ⟨hm1, hm2⟩ := hh.mem
    obtain ⟨B1, s1, h1⟩ := h1
    obtain ⟨B2, s2, h2⟩ := h2
    refine (same_objs W h1 h2 (by rw [objsOf_len]; exact hm1) fun i => ?_).mono fun e w' he => ?_
    · by_cases hi : i < (objsOf pg F).length
      · have hmem : (objsOf pg F).getD i ob0 ∈ objsOf pg F := by rw [List.getD_eq_getElem?_getD, List.getElem?_eq_getElem hi]; exact List.getElem_mem hi
        obtain ⟨a, ha, e⟩ := List.mem_map.1 hmem
        rw [← e]
        exact (hh.pos (hm2 a ha)).2.2
      · rw [List.getD_eq_getElem?_getD, List.getElem?_eq_none (by omega)]
        exact Nat.zero_le _
    · obtain ⟨rfl, q, rfl⟩ := he
      exact ⟨rfl, (Upd.refl [] W).drewN q⟩
theorem take_getD {xs : List Int} {j : Nat} (hj : j < xs.length) : xs.take (j + 1) = xs.take j ++ [xs.getD j 0] := by
  rw [List.take_succ_eq_append_getElem hj, List.getD_eq_getElem?_getD, List.getElem?_eq_getElem hj]; rfl
/-- What is not a stays: one step. -/
theorem keep_step {xs : List Int} {j : Nat} (hj : j < xs.length) (x : Int) : (xs.take (j + 1)).filter (fun y => y != x) = if xs.getD j 0 = x then (xs.take j).filter (fun y => y != x) else (xs.take j).filter (fun y => y != x) ++ [xs.getD j 0] := by
  rw [take_getD hj, List.filter_append]
  by_cases e : xs.getD j 0 = x
  · rw [if_pos e, e]; simp
  · rw [if_neg e, List.filter_cons_of_pos (by exact bne_iff_ne.2 e), List.filter_nil]
/-- The cells of the document's rows, and a row's own. -/
theorem DqO.rowCells {w : World} {r m : Nat} {pg : List Pst} {l : List Int} {F : Int → Ob} {rows : List (List Int)} {n : Int} {O : Nat → Prop} (h : DqO w r m pg l F rows n O) : ∃ A c, (∀ W, Upd [] w W → W.cell? ⟨r, 1, none⟩ = some (.slice A rows.length c)) ∧
    ∀ i, i < rows.length → ∃ g B c2, A = some ⟨g, 0, none⟩ ∧ ∀ W, Upd [] w W → W.cell? ⟨g, i, none⟩ = some (.slice B (rows.getD i []).length c2) ∧ IsInts W B (rows.getD i []) := by
  obtain ⟨V, vs, Oh, H, _⟩ := h
  obtain ⟨A, c, rfl⟩ := H.form
  refine ⟨A, c, fun W hu => (H.upd0 hu).cells.2.1, fun i hi => ?_⟩
  obtain ⟨g, c1, B, c2, e, hs, -⟩ := H.at hi
  cases e
  refine ⟨g, B, c2, rfl, fun W hu => ?_⟩
  obtain ⟨g', c1', B', c2', e', hs', hc, -, hI, -⟩ := (H.upd0 hu).at hi
  cases e'
  rw [hs] at hs'
  cases hs'
  exact ⟨hc, hI⟩
end Go.Proofs.YtpkbdmieelgdlaaGreat
