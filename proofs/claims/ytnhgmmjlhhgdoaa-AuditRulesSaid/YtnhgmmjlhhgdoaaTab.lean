/- A map by int that the call itself has made: what it holds, as a function. -/
import Derived.Test.YtnhgmmjlhhgdoaaErr
import Derived.MapKept
import Derived.Maps.OwnOps
import Derived.Carry
namespace Go.Proofs.Ytnhgmmjlhhgdoaa
open Go Go.RowKit Go.MapKept

def getI : List MapEntry → Int → Option Value
  | [], _ => none
  | e :: es, k => match e.key with
    | .int _ a => if k = a then some e.val else getI es k
    | _ => getI es k

theorem getI_append (l : List MapEntry) (e : MapEntry) (k : Int) (he : e.key = .int .i64 k) (h : getI l k = none) (j : Int) : getI (l ++ [e]) j = if j = k then some e.val else getI l j := by
  induction l with
  | nil => simp [getI, he]
  | cons x l ih =>
    simp only [List.cons_append, getI] at h ⊢
    cases hx : x.key <;> simp only [hx] at h ⊢ <;> try exact ih h
    rename_i q a
    by_cases hk : k = a
    · rw [if_pos hk] at h; cases h
    · rw [if_neg hk] at h
      by_cases hj : j = a
      · rw [if_pos hj, if_pos hj, if_neg (by omega)]
      · rw [if_neg hj, if_neg hj, ih h]

theorem find_get {k : Int} : ∀ (l : List MapEntry) (i : Nat), (∀ x ∈ l, ∃ a, x.key = .int .i64 a) →
    (Instr.findNow (.int .i64) (.int .i64 k) l i = some none ∧ getI l k = none) ∨
    ∃ j e, Instr.findNow (.int .i64) (.int .i64 k) l i = some (some (i + j, e.val)) ∧ l[j]? = some e ∧ e.key = .int .i64 k ∧ getI l k = some e.val ∧
      ∀ v j', getI (l.modify j (fun e => { e with key := .int .i64 k, val := v })) j' = if j' = k then some v else getI l j'
  | [], _, _ => .inl ⟨rfl, rfl⟩
  | e :: es, i, h => by
    obtain ⟨a, ha⟩ := h e (.head _)
    by_cases hka : k = a
    · subst hka
      refine .inr ⟨0, e, by simp [Instr.findNow, Instr.sameNow, ha], rfl, ha, by simp [getI, ha], fun v j' => ?_⟩
      simp only [List.modify_zero_cons, getI, ha]
      split <;> rfl
    · have hbk : (k == a) = false := by simp [hka]
      rcases find_get (k := k) es (i + 1) (fun x hx => h x (.tail _ hx)) with ⟨h1, h2⟩ | ⟨j, e', h1, h2, h3, h4, h5⟩
      · exact .inl ⟨by simp [Instr.findNow, Instr.sameNow, ha, hbk, h1], by simp [getI, ha, hka, h2]⟩
      · refine .inr ⟨j + 1, e', by simp [Instr.findNow, Instr.sameNow, ha, hbk, h1]; omega, by simpa using h2, h3, by simp [getI, ha, hka, h4], fun v j' => ?_⟩
        simp only [List.modify_succ_cons, getI, ha]
        by_cases hj : j' = a
        · rw [if_pos hj, if_pos hj, if_neg (by omega)]
        · rw [if_neg hj, if_neg hj, h5]

/-- Block b is a map by int of at most n entries; what it holds is f. -/
def Tab (w : World) (b n : Nat) (f : Int → Option Value) : Prop :=
  ∃ es clock, w.heap[b]? = some (.map es clock) ∧ (∀ e ∈ es.toList, ∃ a, e.key = .int .i64 a) ∧ es.size ≤ n ∧ ∀ k, getI es.toList k = f k

section
variable {w w' : World} {b n : Nat} {f : Int → Option Value} {E : List Nat}
theorem Tab.lt (h : Tab w b n f) : b < w.heap.size := by
  obtain ⟨es, clock, hb, _⟩ := h
  exact (Array.getElem?_eq_some_iff.1 hb).1
theorem Tab.new (w : World) : Tab (w.alloc (.map #[] 0)) w.heap.size 0 (fun _ => none) :=
  ⟨#[], 0, heap_alloc_new w _, by simp, Nat.le_refl _, fun _ => rfl⟩
theorem Tab.upd (h : Tab w b n f) (hu : Upd E w w') (hE : b ∉ E) : Tab w' b n f := by
  have hlt := h.lt
  obtain ⟨es, clock, hb, h1⟩ := h
  exact ⟨es, clock, (hu.block b hlt hE).trans hb, h1⟩
theorem Tab.drew (h : Tab w b n f) : Tab w.drew b n f := h
theorem Tab.drewN (h : Tab w b n f) (m : Nat) : Tab (w.drewN m) b n f := h
theorem Tab.alloc (h : Tab w b n f) (o : Obj) : Tab (w.alloc o) b n f := h.upd ((Upd.refl [] w).alloc o) (by simp)

theorem Tab.look {P : Program} {t k e : TypeId} {z : Value} (h : Tab w b n f) (ht : P.underlying t = some (.map k e)) (hk : P.underlying k = some (.int .i64)) (hz : (zeroValue e).run P w = .ok z w) (x : Int) :
    (Instr.lookup t (.map (some b)) (.int .i64 x) false).run P w = .ok ((f x).getD z) w := by
  obtain ⟨es, clock, hb, hks, _, hf⟩ := h
  have hI : IsKey (.int .i64) (.int .i64 x) := rfl
  rcases find_get (k := x) es.toList 0 hks with ⟨h1, h2⟩ | ⟨j, e0, h1, _, _, h4, _⟩
  · rw [← hf x, h2]
    simp [Instr.lookup, run_underlying ht, MapKept.run_getObj_map hb, MapKept.run_checkKey hk hI, MapKept.run_findKey hk h1, hz, Result.andThen]
  · rw [← hf x, h4]
    simp [Instr.lookup, run_underlying ht, MapKept.run_getObj_map hb, MapKept.run_checkKey hk hI, MapKept.run_findKey hk h1, Result.andThen]
theorem Tab.look_ok {P : Program} {t k e : TypeId} {z : Value} (h : Tab w b n f) (ht : P.underlying t = some (.map k e)) (hk : P.underlying k = some (.int .i64)) (hz : (zeroValue e).run P w = .ok z w) (x : Int) :
    (Instr.lookup t (.map (some b)) (.int .i64 x) true).run P w = .ok (.tuple #[(f x).getD z, .bool (f x).isSome]) w := by
  obtain ⟨es, clock, hb, hks, _, hf⟩ := h
  have hI : IsKey (.int .i64) (.int .i64 x) := rfl
  rcases find_get (k := x) es.toList 0 hks with ⟨h1, h2⟩ | ⟨j, e0, h1, _, _, h4, _⟩
  · rw [← hf x, h2]
    simp [Instr.lookup, run_underlying ht, MapKept.run_getObj_map hb, MapKept.run_checkKey hk hI, MapKept.run_findKey hk h1, hz, Result.andThen]
  · rw [← hf x, h4]
    simp [Instr.lookup, run_underlying ht, MapKept.run_getObj_map hb, MapKept.run_checkKey hk hI, MapKept.run_findKey hk h1, Result.andThen]
theorem Tab.put {P : Program} {t k e : TypeId} (h : Tab w b n f) (ht : P.underlying t = some (.map k e)) (hk : P.underlying k = some (.int .i64)) (x : Int) (v : Value) :
    ∃ w', (Instr.mapUpdate t (.map (some b)) (.int .i64 x) v).run P w = .ok () w' ∧ Tab w' b (n + 1) (fun y => if y = x then some v else f y) ∧ w.grownBy w' (some b) := by
  obtain ⟨es, clock, hb, hks, hn, hf⟩ := h
  have hI : IsKey (.int .i64) (.int .i64 x) := rfl
  have hg : ∀ o, w.grownBy { w with heap := w.heap.setIfInBounds b o } (some b) := fun o =>
    ⟨rfl, rfl, rfl, by simp, fun i _ hi => (heap_set hb).2 i (fun e => hi (by rw [e]))⟩
  rcases find_get (k := x) es.toList 0 hks with ⟨h1, h2⟩ | ⟨j, e0, h1, h2, h3, h4, h5⟩
  · refine ⟨_, ?_, ⟨es.push ⟨.int .i64 x, v, clock⟩, clock + 1, (heap_set hb).1, ?_, ?_, ?_⟩, hg _⟩
    · simp [Instr.mapUpdate, run_underlying ht, MapKept.run_getObj_map hb, MapKept.run_checkKey hk hI, MapKept.run_findKey hk h1, MapKept.run_setObj_map _ hb, Result.andThen]
    · intro y hy
      simp only [Array.toList_push, List.mem_append, List.mem_singleton] at hy
      rcases hy with hy | rfl
      · exact hks y hy
      · exact ⟨x, rfl⟩
    · simp; omega
    · intro y
      rw [Array.toList_push, getI_append _ _ x rfl h2, hf]
  · have hj : es[j]? = some e0 := by simpa using h2
    refine ⟨_, ?_, ⟨es.modify j (fun e => { e with key := .int .i64 x, val := v }), clock, (heap_set hb).1, ?_, ?_, ?_⟩, hg _⟩
    · simp [Instr.mapUpdate, run_underlying ht, MapKept.run_getObj_map hb, MapKept.run_checkKey hk hI, MapKept.run_findKey hk h1, hj, h3, run_keyThatStays hI, MapKept.run_setObj_map _ hb, Result.andThen]
    · intro y hy
      rw [Array.toList_modify] at hy
      obtain ⟨i, hi⟩ := List.mem_iff_getElem?.1 hy
      rw [List.getElem?_modify] at hi
      cases hl : es.toList[i]? with
      | none => rw [hl] at hi; cases hi
      | some e1 =>
        rw [hl] at hi
        have hi2 := Option.some.inj hi
        rw [← hi2]
        split
        · exact ⟨x, rfl⟩
        · exact hks e1 (List.mem_iff_getElem?.2 ⟨i, hl⟩)
    · show (es.modify j _).size ≤ n + 1
      rw [Array.size_modify]; omega
    · intro y
      rw [Array.toList_modify, h5, hf]
end

section
variable {P : Program} {w : World} {ops : Array Oper} {rest : List Oper} {o : Oper} {a : Act} {Q : Exit → Act → World → Prop}
theorem wpList_put_tab (hg : o.guard = none) (m x v : Operand) (t k e : TypeId) (hop : o.op = Op.mapUpdate t m x v) (ht : P.underlying t = some (.map k e)) (hk : P.underlying k = some (.int .i64)) {b n : Nat} {f : Int → Option Value}
    (h : Tab w b n f) (hm : a.eval m = .map (some b)) (key : Int) (val : Value) (hx : a.eval x = .int .i64 key) (hv : a.eval v = val)
    (hK : ∀ w', Tab w' b (n + 1) (fun y => if y = key then some val else f y) → w.grownBy w' (some b) → wpList P ops Q rest (a.put o.dst undef) w') : wpList P ops Q (o :: rest) a w := by
  refine wpList_plain hg fun K' hK' => ?_
  obtain ⟨w', hrun, r1, r2⟩ := h.put ht hk key val
  unfold Oper.wp
  simp [execOp, hop, hm, hx, hv, hrun, Result.andThen]
  exact hK' _ _ (hK w' r1 r2)
theorem wpList_look_tab (hg : o.guard = none) (m x : Operand) (t k e : TypeId) (hop : o.op = Op.lookup t m x false) (ht : P.underlying t = some (.map k e)) (hk : P.underlying k = some (.int .i64)) {b n : Nat} {f : Int → Option Value}
    (h : Tab w b n f) {z : Value} (hz : (zeroValue e).run P w = .ok z w) (hm : a.eval m = .map (some b)) (key : Int) (hx : a.eval x = .int .i64 key)
    (hK : wpList P ops Q rest (a.put o.dst ((f key).getD z)) w) : wpList P ops Q (o :: rest) a w := by
  refine wpList_plain hg fun K' hK' => ?_
  have hrun := h.look ht hk hz key
  unfold Oper.wp
  simp [execOp, hop, hm, hx, hrun, Result.andThen]
  exact hK' _ _ hK
theorem wpList_look_tab_ok (hg : o.guard = none) (m x : Operand) (t k e : TypeId) (hop : o.op = Op.lookup t m x true) (ht : P.underlying t = some (.map k e)) (hk : P.underlying k = some (.int .i64)) {b n : Nat} {f : Int → Option Value}
    (h : Tab w b n f) {z : Value} (hz : (zeroValue e).run P w = .ok z w) (hm : a.eval m = .map (some b)) (key : Int) (hx : a.eval x = .int .i64 key)
    (hK : wpList P ops Q rest (a.put o.dst (.tuple #[(f key).getD z, .bool (f key).isSome])) w) : wpList P ops Q (o :: rest) a w := by
  refine wpList_plain hg fun K' hK' => ?_
  have hrun := h.look_ok ht hk hz key
  unfold Oper.wp
  simp [execOp, hop, hm, hx, hrun, Result.andThen]
  exact hK' _ _ hK
end
end Go.Proofs.Ytnhgmmjlhhgdoaa
