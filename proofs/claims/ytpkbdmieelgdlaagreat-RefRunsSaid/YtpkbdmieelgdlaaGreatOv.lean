/- A slice of objects that the call has built by append: what it holds, and append itself. -/
import Derived.Test.YtpkbdmieelgdlaaGreatMkAny
import Derived.Test.YtpkbdmieelgdlaaGreatQue4P
import Derived.Maps.AppendAt
import Derived.Deep.RegionLaw
namespace Go.Proofs.YtpkbdmieelgdlaaGreat
open Go Go.RowKit

def snil : Value := .slice none 0 0
def ob0 : Int × Ob := (0, ⟨0, 0, false, []⟩)
def objCells (x : Int × Ob) (s : Value) : List Value := [.int .i64 x.1, .int .i64 x.2.k, .int .i64 x.2.c, .int .i64 (x.2.ws.length : Nat), .bool x.2.f, s]
def objsC : List (Int × Ob) → List Value → List Value
  | x :: os, s :: ss => objCells x s ++ objsC os ss
  | _, _ => []
theorem objsC_len : ∀ (os : List (Int × Ob)) (ss : List Value), ss.length = os.length → (objsC os ss).length = os.length * 6
  | [], [], _ => rfl
  | x :: os, s :: ss, h => by
    have := objsC_len os ss (by simpa using h)
    simp only [objsC, List.length_append, List.length_cons, this, objCells, List.length_nil]; omega
theorem objsC_push : ∀ (os : List (Int × Ob)) (ss : List Value) (x : Int × Ob) (s : Value), ss.length = os.length → objsC (os ++ [x]) (ss ++ [s]) = objsC os ss ++ objCells x s
  | [], [], x, s, _ => by simp [objsC]
  | y :: os, t :: ss, x, s, h => by
    have := objsC_push os ss x s (by simpa using h)
    simp only [objsC, List.cons_append, this, List.append_assoc]
theorem objsC_at : ∀ (os : List (Int × Ob)) (ss : List Value) (i j : Nat), ss.length = os.length → i < os.length → j < 6 → (objsC os ss)[i * 6 + j]? = (objCells (os.getD i ob0) (ss.getD i snil))[j]?
  | [], [], i, j, _, hi, _ => by simp at hi
  | x :: os, s :: ss, i, j, h, hi, hj => by
    have hl : (objCells x s).length = 6 := rfl
    cases i with
    | zero =>
      show (objCells x s ++ objsC os ss)[0 * 6 + j]? = _
      rw [List.getElem?_append_left (by omega), Nat.zero_mul, Nat.zero_add]; rfl
    | succ i =>
      show (objCells x s ++ objsC os ss)[(i + 1) * 6 + j]? = _
      rw [List.getElem?_append_right (by omega), hl, show (i + 1) * 6 + j - 6 = i * 6 + j by omega, objsC_at os ss i j (by simpa using h) (by simpa using hi) hj]
      rfl

/-- A slice of the call's own, from block B on: the objects os, their words in the slices ss. -/
structure ObjsV (w : World) (B : Nat) (v : Value) (os : List (Int × Ob)) (ss : List Value) : Prop where
  len : ss.length = os.length
  row : w.ownsRow B 105 6 v os.length (objsC os ss)
  own : ∀ i, i < os.length → Own w B (ss.getD i snil) (os.getD i ob0).2.ws
section
variable {w w' a0 : World} {B : Nat} {v s : Value} {os : List (Int × Ob)} {ss : List Value} {xs : List Int}
theorem ObjsV.nil (w : World) (B : Nat) : ObjsV w B (.slice none 0 0) [] [] := ⟨rfl, World.ownsRow_nil _ _ _ _, fun i hi => by simp at hi⟩
theorem own_low (h : Own w B s xs) {g : Nat} (hg : s.ownBlock = some g) : B ≤ g ∧ g < w.heap.size := World.ownsRow.lt h g hg
theorem ObjsV.low (h : ObjsV w B v os ss) {g : Nat} (hg : v.ownBlock = some g) : B ≤ g ∧ g < w.heap.size := World.ownsRow.lt h.row g hg
theorem ObjsV.moved (h : ObjsV w B v os ss) (hb : ∀ k, B ≤ k → k < w.heap.size → w'.heap[k]? = w.heap[k]?) : ObjsV w' B v os ss :=
  ⟨h.len, ownsRow_moved h.row fun g hg => hb g (h.low hg).1 (h.low hg).2, fun i hi => Own.moved (h.own i hi) fun g hg => hb g (own_low (h.own i hi) hg).1 (own_low (h.own i hi) hg).2⟩
theorem ObjsV.upd0 (h : ObjsV w B v os ss) (hu : Upd [] w w') : ObjsV w' B v os ss := h.moved fun k _ hk => hu.block k hk (by simp)
/-- The slice's own block is none that holds words. -/
theorem ObjsV.apart (h : ObjsV w B v os ss) (hs : Own w B s xs) {g : Nat} (hg : v.ownBlock = some g) : s.ownBlock ≠ some g := fun e => by
  obtain ⟨_, h2⟩ := h.row
  obtain ⟨_, k2⟩ := hs
  rcases h2 with ⟨rfl, _⟩ | ⟨g1, _, cur, rfl, _, h3, _⟩
  · cases hg
  · rcases k2 with ⟨rfl, _⟩ | ⟨g2, _, cur2, rfl, _, h4, _⟩
    · cases e
    · simp only [Value.ownBlock, Option.some.injEq] at hg e
      subst hg
      rw [e, h3] at h4
      simp only [Option.some.injEq, Obj.cells.injEq] at h4
      exact absurd h4.2.1 (by decide)
/-- The slice's own block is none of another type. -/
theorem ObjsV.ne {g : Nat} {t : TypeId} {cs : Array Value} (h : ObjsV w B v os ss) (hb : Blk w g t cs) (ht : t ≠ 105) : v.ownBlock ≠ some g := fun e => by
  obtain ⟨_, h2⟩ := h.row
  rcases h2 with ⟨rfl, _⟩ | ⟨g1, _, cur, rfl, _, h3, _⟩
  · cases e
  · simp only [Value.ownBlock, Option.some.injEq] at e
    subst e
    have hb' : w.heap[g1]? = some (.cells cs t (0, 0)) := hb
    rw [hb'] at h3
    simp only [Option.some.injEq, Obj.cells.injEq] at h3
    exact ht h3.2.1
/-- One object more. -/
theorem ObjsV.push (h : ObjsV w B v os ss) {x : Int × Ob} (hs : Own w B s x.2.ws) {v' : Value} (hr : w'.ownsRow B 105 6 v' (os.length + 1) (objsC os ss ++ objCells x s)) (hg : w.grownBy w' v.ownBlock) : ObjsV w' B v' (os ++ [x]) (ss ++ [s]) := by
  have hm : ∀ {t : Value} {ys : List Int}, Own w B t ys → Own w' B t ys := fun {t ys} ht => Own.moved ht fun g hg2 => hg.block g (own_low ht hg2).2 fun e => by
    cases hv : v.ownBlock with
    | none => rw [hv] at e; cases e
    | some g1 => rw [hv] at e; simp only [Option.some.injEq] at e; subst e; exact h.apart ht hv hg2
  refine ⟨by simp [h.len], ?_, fun i hi => ?_⟩
  · rw [objsC_push _ _ _ _ h.len, List.length_append]; exact hr
  · by_cases e : i < os.length
    · have h1 : (ss ++ [s]).getD i snil = ss.getD i snil := by rw [List.getD_eq_getElem?_getD, List.getD_eq_getElem?_getD, List.getElem?_append_left (by rw [h.len]; exact e)]
      have h2 : (os ++ [x]).getD i ob0 = os.getD i ob0 := by rw [List.getD_eq_getElem?_getD, List.getD_eq_getElem?_getD, List.getElem?_append_left e]
      rw [h1, h2]
      exact hm (h.own i e)
    · have e2 : i = os.length := by simp at hi; omega
      subst e2
      have h1 : (ss ++ [s]).getD os.length snil = s := by rw [← h.len, List.getD_eq_getElem?_getD, List.getElem?_append_right (Nat.le_refl _)]; simp
      have h2 : (os ++ [x]).getD os.length ob0 = x := by rw [List.getD_eq_getElem?_getD, List.getElem?_append_right (Nat.le_refl _)]; simp
      rw [h1, h2]
      exact hm hs
end
theorem obj_info : (Tryz.prog.info? 105).map (fun i => (i.zero, i.size, i.bytes)) = some (some (.agg #[.int .i64 0, .int .i64 0, .int .i64 0, .int .i64 0, .bool false, .slice none 0 0]), 6, 64) := by kernel_rfl
section
variable {w : World} {ops : Array Oper} {o : Oper} {a : Act} {Q : Exit → Act → World → Prop}
theorem own_one {B : Nat} {s : Value} {xs : List Int} (h : Own w B s xs) : s.oneCell' = true := by
  obtain ⟨A, c, rfl, _⟩ := h.form
  rfl
theorem news_at {b : Nat} {x : Int × Ob} {s : Value} (hb : Blk w b 105 (objCells x s).toArray) (j : Nat) (u : Value) (hj : (objCells x s)[j]? = some u) : w.cell? ((⟨b, 0, none⟩ : Addr).add j) = some u := by
  have := hb.cell j
  rw [List.getElem?_toArray, hj] at this
  rw [add_plain, Nat.zero_add]
  exact this
theorem news_one {B : Nat} {x : Int × Ob} {s : Value} (hs : Own w B s x.2.ws) : ∀ u ∈ objCells x s, u.oneCell' = true := fun u hu => by
  simp only [objCells, List.mem_cons, List.not_mem_nil, or_false] at hu
  rcases hu with rfl | rfl | rfl | rfl | rfl | rfl
  · rfl
  · rfl
  · rfl
  · rfl
  · rfl
  · exact own_one hs
/-- 'append' of one object. -/
theorem wpList_pushObj {rest : List Oper} (a0 : World) (hgd : o.guard = none) (p q : Operand)
    (ho : o.op = .call { callee := .builtin .append, args := #[p, q], argTypes := #[50, 50] })
    (B : Nat) (v : Value) (os : List (Int × Ob)) (ss : List Value) (hs : a.eval p = v) (H : ObjsV w B v os ss) (b : Nat) (x : Int × Ob) (s : Value) (hx : a.eval q = .slice (some ⟨b, 0, none⟩) 1 1) (hb : Blk w b 105 (objCells x s).toArray) (hw : Own w B s x.2.ws)
    (hl : os.length ≤ 65536) (hB : a0.heap.size ≤ B) (hU : Upd [] a0 w) (hBw : B ≤ w.heap.size)
    (h : ∀ v' w', ObjsV w' B v' (os ++ [x]) (ss ++ [s]) → Upd [] a0 w' → B ≤ w'.heap.size → Upd v.ownBlock.toList w w' → wpList Tryz.prog ops Q rest (a.put o.dst v') w') : wpList Tryz.prog ops Q (o :: rest) a w := by
  obtain ⟨i0, hi, hz0, hz1, hz2⟩ := info_parts obj_info
  refine wpList_append_own_at _ hgd p q 50 ho B 105 i0 (.agg #[.int .i64 0, .int .i64 0, .int .i64 0, .int .i64 0, .bool false, .slice none 0 0]) 6 64 Tryz.underlying50 hi hz0 hz1 hz2 rfl (by decide) v os.length (objsC os ss) hs H.row ⟨b, 0, none⟩ 1 1 (objCells x s) hx rfl (news_at hb) (news_one hw) (by unfold maxLen; omega) (by omega) hBw ?_
  intro v' w' h1 h2 _ _
  exact h v' w' (H.push hw h1 h2) (hU.grown h2 fun k hk => .inr (by have := H.low hk; omega)) (Nat.le_trans hBw h2.size) ⟨h2.os, h2.tape, h2.output, h2.size, fun k hk hn => h2.block k hk (fun e => hn (by rw [← e]; simp))⟩
/-- The same, as one step of a region that draws. -/
theorem step_pushObj {K : Act → World → Prop} {E : Prop} (a0 : World) (hgd : o.guard = none) (p q : Operand)
    (ho : o.op = .call { callee := .builtin .append, args := #[p, q], argTypes := #[50, 50] })
    (B : Nat) (v : Value) (os : List (Int × Ob)) (ss : List Value) (hs : a.eval p = v) (H : ObjsV w B v os ss) (b : Nat) (x : Int × Ob) (s : Value) (hx : a.eval q = .slice (some ⟨b, 0, none⟩) 1 1) (hb : Blk w b 105 (objCells x s).toArray) (hw : Own w B s x.2.ws)
    (hl : os.length ≤ 65536) (hB : a0.heap.size ≤ B) (hU : Upd [] a0 w) (hBw : B ≤ w.heap.size)
    (h : ∀ v' w', ObjsV w' B v' (os ++ [x]) (ss ++ [s]) → Upd [] a0 w' → B ≤ w'.heap.size → Upd v.ownBlock.toList w w' → K (a.put o.dst v') w') :
    if Region.wanted o (yielded ops a.tmps) = true then Oper.wp Tryz.prog o a w K Q else E := by
  have hwn : Region.wanted o (yielded ops a.tmps) = true := by simp [Region.wanted, hgd]
  rw [if_pos hwn]
  obtain ⟨i0, hi, hz0, hz1, hz2⟩ := info_parts obj_info
  obtain ⟨v', w', hrun, h1, h2, _, h4⟩ := run_append_own_at (P := Tryz.prog) (w := w) B 50 o.type 105 i0 (.agg #[.int .i64 0, .int .i64 0, .int .i64 0, .int .i64 0, .bool false, .slice none 0 0]) 6 64 Tryz.underlying50 hi hz0 hz1 hz2 rfl (by decide) v os.length (objsC os ss) H.row ⟨b, 0, none⟩ 1 1 (objCells x s) rfl (news_at hb) (news_one hw) (by unfold maxLen; omega) (by omega) hBw
  unfold Oper.wp
  simp [execOp, ho, resolve, invoke, builtin, hs, hx, hrun, Result.andThen]
  exact h v' w' (H.push hw h1 h2) (hU.grown h2 fun k hk => .inr (by have := H.low hk; omega)) (Nat.le_trans hBw h2.size) ⟨h2.os, h2.tape, h2.output, h2.size, fun k hk hn => h2.block k hk (fun e => hn (by rw [← e]; simp))⟩
/-- 'append' of one number to a slice of the call's own. -/
theorem wpList_push1 {rest : List Oper} (hgd : o.guard = none) (s x : Operand)
    (ho : o.op = .call { callee := .builtin .append, args := #[s, x], argTypes := #[23, 23] })
    (B : Nat) (v : Value) (xs : List Int) (hs : a.eval s = v) (hown : Own w B v xs) (b : Nat) (y : Int) (hx : a.eval x = .slice (some ⟨b, 0, none⟩) 1 1) (hb : Blk w b 3 #[.int .i64 y])
    (hl : xs.length ≤ 4294967296) (hBw : B ≤ w.heap.size)
    (h : ∀ v' w', Own w' B v' (xs ++ [y]) → Upd v.ownBlock.toList w w' → (v'.ownBlock = v.ownBlock ∨ v'.ownBlock = some w.heap.size) → wpList Tryz.prog ops Q rest (a.put o.dst v') w') : wpList Tryz.prog ops Q (o :: rest) a w := by
  obtain ⟨i0, hi, hz0, hz1, hz2⟩ := info_parts int_info
  refine wpList_append_own_at _ hgd s x 23 ho B 3 i0 (.int .i64 0) 1 8 Tryz.underlying23 hi hz0 hz1 hz2 rfl (by decide) v xs.length (xs.map (Value.int .i64)) hs hown ⟨b, 0, none⟩ 1 1 [.int .i64 y] hx rfl ?_ ?_ (by unfold maxLen; omega) (by omega) hBw ?_
  · intro j u hj
    match j, hj with
    | 0, hj => simp at hj; subst hj; simpa [Addr.add] using hb.one
  · intro u hu; simp at hu; subst hu; rfl
  · intro v' w' h1 h2 _ h4
    refine h v' w' ?_ ⟨h2.os, h2.tape, h2.output, h2.size, fun k hk hn => h2.block k hk (fun e => hn (by rw [← e]; simp))⟩ h4
    unfold Own
    rw [List.length_append, List.map_append]
    exact h1
/-- An object's own cells are no slice's. -/
theorem own_ne {B g : Nat} {s : Value} {xs : List Int} {t : TypeId} {cs : Array Value} (h : Own w B s xs) (hb : Blk w g t cs) (ht : t ≠ 3) : s.ownBlock ≠ some g := fun e => by
  obtain ⟨_, k2⟩ := h
  rcases k2 with ⟨rfl, _⟩ | ⟨g2, _, cur2, rfl, _, h4, _⟩
  · cases e
  · simp only [Value.ownBlock, Option.some.injEq] at e
    subst e
    have hb' : w.heap[g2]? = some (.cells cs t (0, 0)) := hb
    rw [hb'] at h4
    simp only [Option.some.injEq, Obj.cells.injEq] at h4
    exact ht h4.2.1
theorem own_at {B n c : Nat} {A : Option Addr} {xs : List Int} (h : Own w B (.slice A n c) xs) {i : Nat} (hi : i < n) : xs.length = n ∧ ∃ b off, A = some ⟨b, off, none⟩ ∧ b < w.heap.size ∧ w.cell? ⟨b, off + i, none⟩ = some (.int .i64 (xs.getD i 0)) := by
  obtain ⟨A', cap', e, hI, _⟩ := h.form
  simp only [Value.slice.injEq] at e
  obtain ⟨rfl, rfl, rfl⟩ := e
  obtain ⟨b, off, h1, h2, h3⟩ := Reads.at (k := .i64) hI rfl hi
  exact ⟨rfl, b, off, h1, h2, h3⟩
theorem own_mono {B B' : Nat} {s : Value} {xs : List Int} (h : Own w B s xs) (hB : B' ≤ B) : Own w B' s xs := by
  obtain ⟨h1, h2⟩ := h
  refine ⟨h1, h2.imp id ?_⟩
  rintro ⟨g, cap, cur, e, h3, h4⟩
  exact ⟨g, cap, cur, e, Nat.le_trans hB h3, h4⟩
end
end Go.Proofs.YtpkbdmieelgdlaaGreat
