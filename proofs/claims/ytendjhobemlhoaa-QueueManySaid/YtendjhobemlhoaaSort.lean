/- slices.Sort on a slice of numbers of the call's own; append to a slice that stands beside other blocks. -/
import Derived.Test.YtendjhobemlhoaaShelf
import Derived.Test.YtendjhobemlhoaaOwn
import Derived.Maps.AppendAt
import Derived.Lib.OwnBridge
import Derived.Sort.OwnSortedInts
namespace Go.Proofs.Ytendjhobemlhoaa
open Go Go.RowKit Go.Sort

abbrev sortL (zs : List Int) : List Int := zs.mergeSort fun x y => decide (x ≤ y)
theorem sort_world {a0 w : World} {g q : Nat} {d : Array Int} {os : Array Obj} (h : Upd [] a0 w) (hg : a0.heap.size ≤ g) : Upd [] a0 (Go.Sort.grow (Go.Sort.putRow (Value.int .i64) (Go.Sort.ahead w q) g 0 d) os) := by
  refine ⟨h.os, h.tape, h.output, ?_, fun k hk hn => ?_⟩
  · have := h.size
    simp [Go.Sort.grow, Go.Sort.putRow, Go.Sort.mapBlock, Go.Sort.ahead]
    omega
  · rw [← h.block k hk hn]
    have hs := h.size
    have h1 : k < (Go.Sort.putRow (Value.int .i64) (Go.Sort.ahead w q) g 0 d).heap.size := by simp [Go.Sort.putRow, Go.Sort.mapBlock, Go.Sort.ahead]; omega
    show ((Go.Sort.putRow (Value.int .i64) (Go.Sort.ahead w q) g 0 d).heap ++ os)[k]? = _
    rw [Array.getElem?_append, if_pos h1]
    simp [Go.Sort.putRow, Go.Sort.mapBlock, Go.Sort.ahead, Array.getElem?_modify, show g ≠ k by omega]
theorem own_sorted {w : World} {B g n cap q : Nat} {os : Array Obj} {zs ts : List Int} (h : Own w B (.slice (some ⟨g, 0, none⟩) n cap) zs) (hn : zs.length = n) (hl : ts.length = n) :
    Own (Go.Sort.grow (Go.Sort.putRow (Value.int .i64) (Go.Sort.ahead w q) g 0 ts.toArray) os) B (.slice (some ⟨g, 0, none⟩) n cap) ts := by
  subst hn
  rcases h.2 with ⟨h0, _⟩ | ⟨g', cap', cur, h0, hb, hg, hnc, hcm, hcs, _⟩
  · cases h0
  · simp only [Value.slice.injEq, Option.some.injEq, Addr.mk.injEq, and_true, true_and] at h0
    obtain ⟨rfl, rfl⟩ := h0
    have := ownsRow_sortedI (os := os) (n := q) (e := 3) hl hb hg hnc hcm hcs
    unfold Own
    rw [hl]
    exact this

theorem sort_own (v : Value) (B : Nat) (zs : List Int) (w : World) (h : Own w B v zs) (hne : zs ≠ []) (hl : zs.length ≤ 65536) : Calls Try.prog 102 #[v] w fun e w' => e = .returned (.tuple #[]) ∧ Own w' B v (sortL zs) ∧ ∀ a0 : World, Upd [] a0 w → a0.heap.size ≤ B → Upd [] a0 w' := by
  have hv : v ≠ .slice none 0 0 := by
    rintro rfl
    rcases h.2 with ⟨_, h0⟩ | ⟨g, cap, cur, h0, _⟩
    · exact hne (List.eq_nil_of_length_eq_zero h0)
    · cases h0
  obtain ⟨g, cap, rfl, hb, hg, hn, hm, _, hH⟩ := Lib.holds_of_ownsRow h hv
  refine (Try.slices_Sort_int g 0 cap zs w hH hg (by omega)).mono ?_
  rintro e w' ⟨rfl, q, os, rfl⟩
  exact ⟨rfl, own_sorted h rfl (by simp), fun a0 hU hB => sort_world hU (by omega)⟩
theorem Own.empty_form {w : World} {B : Nat} {v : Value} (h : Own w B v []) : ∃ A c, v = .slice A 0 c := by
  obtain ⟨A, c, h1, _, _⟩ := h.form
  exact ⟨A, c, h1⟩
theorem sort_any (v : Value) (B : Nat) (zs : List Int) (w : World) (h : Own w B v zs) (hl : zs.length ≤ 65536) : Calls Try.prog 102 #[v] w fun e w' => e = .returned (.tuple #[]) ∧ Own w' B v (sortL zs) ∧ ∀ a0 : World, Upd [] a0 w → a0.heap.size ≤ B → Upd [] a0 w' := by
  by_cases hne : zs = []
  · subst hne
    obtain ⟨A, c, rfl⟩ := h.empty_form
    refine (Try.slices_Sort_int_none A c w).mono ?_
    rintro e w' ⟨rfl, rfl⟩
    exact ⟨rfl, by simpa [sortL] using h, fun a0 hU _ => hU⟩
  · exact sort_own v B zs w h hne hl

theorem Own.updN {w w' : World} {B : Nat} {v : Value} {xs : List Int} {E : List Nat} (h : Own w B v xs) (hu : Upd E w w') (hE : ∀ k, v.ownBlock = some k → k ∉ E) : Own w' B v xs := by
  obtain ⟨h1, h2⟩ := h
  refine ⟨h1, ?_⟩
  rcases h2 with h2 | ⟨g, cap, cur, rfl, h3, h4, h5⟩
  · exact .inl h2
  · refine .inr ⟨g, cap, cur, rfl, h3, ?_, h5⟩
    have hlt : g < w.heap.size := by
      rcases Nat.lt_or_ge g w.heap.size with hlt | hge
      · exact hlt
      · rw [Array.getElem?_eq_none hge] at h4; cases h4
    rw [hu.block g hlt (hE g rfl)]
    exact h4
theorem Own.block {w : World} {B : Nat} {v : Value} {xs : List Int} (h : Own w B v xs) {k : Nat} (hk : v.ownBlock = some k) : B ≤ k ∧ k < w.heap.size := World.ownsRow.lt h k hk

/-- 'append' of one number: what is written is the slice's own block, or a new one. -/
theorem wpList_pushN {w : World} {ops : Array Oper} {rest : List Oper} {o : Oper} {a : Act} {Q : Exit → Act → World → Prop} (hgd : o.guard = none) (s x : Operand)
    (ho : o.op = .call { callee := .builtin .append, args := #[s, x], argTypes := #[25, 25] })
    (B : Nat) (v : Value) (xs : List Int) (hs : a.eval s = v) (hown : Own w B v xs) (b : Nat) (y : Int) (hx : a.eval x = .slice (some ⟨b, 0, none⟩) 1 1) (hb : Blk w b 3 #[.int .i64 y])
    (hl : xs.length ≤ 4294967296) (hBw : B ≤ w.heap.size)
    (h : ∀ v' w', Own w' B v' (xs ++ [y]) → (∀ k, v'.ownBlock = some k → v.ownBlock = some k ∨ w.heap.size ≤ k) → Upd v.ownBlock.toList w w' → wpList Try.prog ops Q rest (a.put o.dst v') w') : wpList Try.prog ops Q (o :: rest) a w := by
  obtain ⟨i0, hi, hz0, hz1, hz2⟩ := info_parts int_info
  refine wpList_append_own_at _ hgd s x 25 ho B 3 i0 (.int .i64 0) 1 8 Try.underlying25 hi hz0 hz1 hz2 rfl (by decide) v xs.length (xs.map (Value.int .i64)) hs hown ⟨b, 0, none⟩ 1 1 [.int .i64 y] hx rfl ?_ ?_ (by unfold maxLen; omega) (by omega) hBw ?_
  · intro j u hj
    match j, hj with
    | 0, hj => simp at hj; subst hj; simpa [Addr.add] using hb.one
  · intro u hu; simp at hu; subst hu; rfl
  · intro v' w' h1 h2 _ h4
    refine h v' w' ?_ (fun k hk => ?_) ⟨h2.os, h2.tape, h2.output, h2.size, fun k hk hn => h2.block k hk (fun e => hn (by rw [← e]; simp))⟩
    · unfold Own
      rw [List.length_append, List.map_append]
      exact h1
    · rcases h4 with h4 | h4
      · exact .inl (h4 ▸ hk)
      · rw [h4] at hk
        injection hk with hk
        exact .inr (by omega)
end Go.Proofs.Ytendjhobemlhoaa
