/- What AuditAll is handed, opened: a view. -/
import Derived.Test.YtnhgmmjlhhgdoaaOpenL
import Derived.Test.YtnhgmmjlhhgdoaaAuditAll
namespace Go.Proofs.Ytnhgmmjlhhgdoaa
open Go Go.RowKit Go.ChangeShapes Go.WideShapes Go.Deep

section
variable {H : Type} {enc : TypeId × Value → H} {P : Program} {w : World} {base : Nat} {spare : Nat → Bool} {held : Bool}
/-- The fields of a struct: types, offsets, cells. -/
def shapeB (P : Program) (t : TypeId) (l : List (TypeId × Nat × Nat)) : Bool := match P.underlying t with
  | some (.struct fs) => decide ((fs.map fun f => (f.type, f.offset, P.cellsOf f.type)).toList = l)
  | _ => false
theorem struct_fields {t : TypeId} {l : List (TypeId × Nat × Nat)} {fuel : Nat} {cs : List Value} {x : DataW H × List MemPlace} (h : shapeB P t l = true) (ht : DataW.trod enc P w base spare held fuel t cs = some x) :
    cs.length = P.cellsOf t ∧ ∃ n, ∀ j (hj : j < l.length), ∃ y, DataW.trod enc P w base spare held n (l[j]).1 ((cs.drop (l[j]).2.1).take (l[j]).2.2) = some y := by
  unfold shapeB at h
  split at h
  · rename_i fs hfs
    have hl := of_decide_eq_true h
    obtain ⟨ys, n, _, _, h1, h2, h3⟩ := DataW.trod_struct hfs ht
    refine ⟨h1, n, fun j hj => ?_⟩
    subst hl
    have hs : j < fs.size := by simpa using hj
    have h4 := h3 j fs[j] (Array.getElem?_eq_getElem hs)
    have hys : ys[j]? = some (ys[j]'(by omega)) := List.getElem?_eq_getElem (by omega)
    rw [hys] at h4
    exact ⟨_, by simpa using h4⟩
  · cases h
theorem shape_struct {t : TypeId} {l : List (TypeId × Nat × Nat)} (h : shapeB P t l = true) : ∃ fs, P.underlying t = some (.struct fs) := by
  unfold shapeB at h
  split at h
  · exact ⟨_, by assumption⟩
  · cases h
theorem choose_list {α : Type} (d : α) {Q : Nat → α → Prop} : ∀ n, (∀ i, i < n → ∃ a, Q i a) → ∃ l : List α, l.length = n ∧ ∀ i, i < n → Q i (l.getD i d)
  | 0, _ => ⟨[], rfl, fun i h => by omega⟩
  | n + 1, h => by
    obtain ⟨l, h1, h2⟩ := choose_list d n (fun i hi => h i (by omega))
    obtain ⟨a, ha⟩ := h n (by omega)
    refine ⟨l ++ [a], by simp [h1], fun i hi => ?_⟩
    rcases Nat.eq_or_lt_of_le (show i ≤ n by omega) with rfl | h3
    · rw [List.getD_eq_getElem?_getD, List.getElem?_append_right (by omega), h1]
      simpa using ha
    · rw [List.getD_eq_getElem?_getD, List.getElem?_append_left (by omega), ← List.getD_eq_getElem?_getD]
      exact h2 i h3
/-- A slice, opened to the cells of its elements. -/
theorem slice_field {t e : TypeId} {C fuel : Nat} {v : Value} {x : DataW H × List MemPlace} (ht : P.underlying t = some (.slice e)) (hC : P.cellsOf e = C) (hpos : 0 < C) (h : DataW.trod enc P w base spare held fuel t [v] = some x) :
    ∃ A len cap, v = .slice A len cap ∧ len ≤ maxLen ∧ (A = none → len = 0 ∧ cap = 0) ∧ (len = 0 ∨ ∃ b off, A = some ⟨b, off, none⟩ ∧ b < w.heap.size ∧
      ∀ i, i < len → ∃ n cs y, cs.length = C ∧ (∀ k, k < C → w.cell? ⟨b, off + i * C + k, none⟩ = cs[k]?) ∧ DataW.trod enc P w base spare held n e cs = some y) := by
  rcases open_slice ht h with h0 | ⟨a, len, cap, m, n, D, Pl, hcs, _, hl, hm, hmm, _, hi⟩
  · simp at h0
    exact ⟨none, 0, 0, h0.1, Nat.zero_le _, fun _ => ⟨rfl, rfl⟩, .inl rfl⟩
  · simp only [List.cons.injEq, and_true] at hcs
    refine ⟨some a, len, cap, hcs, by omega, (fun h => by cases h), ?_⟩
    rcases Nat.eq_zero_or_pos len with h0 | hlp
    · exact .inl h0
    · right
      have hlm : len ≤ m := by rw [hmm]; split <;> omega
      rw [hC] at hi
      have key : ∀ i, i < len → ∃ n cs y, cs.length = C ∧ (∀ k, k < C → w.cell? (a.add (i * C + k)) = cs[k]?) ∧ DataW.trod enc P w base spare held n e cs = some y := fun i hil => by
        obtain ⟨cs', hc, ht'⟩ := hi i (by omega)
        obtain ⟨_, hcl, hat⟩ := World.cells?_some hc
        exact ⟨_, cs', _, hcl, fun k hk => by rw [← Go.Deep.add_add]; exact hat k hk, ht'⟩
      obtain ⟨n0, cs0, y0, hl0, hc0, _⟩ := key 0 hlp
      have hcell0 := hc0 0 hpos
      rw [List.getElem?_eq_getElem (by omega)] at hcell0
      have ha : a.spot = none := by simpa [Addr.add] using spot_of_cell hcell0
      obtain ⟨b, off, sp⟩ := a
      simp only at ha
      subst ha
      rw [add_plain] at hcell0
      refine ⟨b, off, rfl, World.block_lt_of_cell? _ _ hcell0, fun i hil => ?_⟩
      obtain ⟨n1, cs1, y1, h1, h2, h3⟩ := key i hil
      refine ⟨n1, cs1, y1, h1, fun k hk => ?_, h3⟩
      have := h2 k hk
      rwa [add_plain, ← Nat.add_assoc] at this
end

theorem shape_obj : shapeB Try.prog 37 [(3, 0, 1), (35, 1, 4), (22, 5, 1)] = true := by kernel_rfl
theorem shape_head : shapeB Try.prog 35 [(3, 0, 1), (3, 1, 1), (3, 2, 1), (4, 3, 1)] = true := by kernel_rfl
theorem shape_held : shapeB Try.prog 39 [(3, 0, 1), (3, 1, 1)] = true := by kernel_rfl
theorem shape_view : shapeB Try.prog 30 [(26, 0, 1), (27, 1, 1), (22, 2, 1), (28, 3, 1), (22, 4, 1), (22, 5, 1), (3, 6, 1), (3, 7, 1), (3, 8, 1), (3, 9, 1)] = true := by kernel_rfl
theorem cells_obj : Try.prog.cellsOf 37 = 6 := by kernel_rfl
theorem cells_held : Try.prog.cellsOf 39 = 2 := by kernel_rfl
theorem cells_ints : Try.prog.cellsOf 22 = 1 := by kernel_rfl
theorem cells_view : Try.prog.cellsOf 30 = 10 := by kernel_rfl
theorem cells_head : Try.prog.cellsOf 35 = 4 := by kernel_rfl
section
variable {H : Type} {enc : TypeId × Value → H} {w : World} {base : Nat}
theorem int_one {fuel : Nat} {v : Value} {x : DataW H × List MemPlace} (h : DataW.trod enc Try.prog w base (fun _ => true) true fuel 3 [v] = some x) : ∃ n, v = .int .i64 n ∧ i64 n := by
  obtain ⟨n, e, _, hw⟩ := DataW.trod_int Try.underlying3 h
  simp only [List.cons.injEq, and_true] at e
  exact ⟨n, e, bounds_i64 hw⟩
theorem bool_one {fuel : Nat} {v : Value} {x : DataW H × List MemPlace} (h : DataW.trod enc Try.prog w base (fun _ => true) true fuel 4 [v] = some x) : ∃ n, v = .bool n := by
  obtain ⟨n, e, _⟩ := DataW.trod_bool Try.underlying4 h
  simp only [List.cons.injEq, and_true] at e
  exact ⟨n, e⟩
/-- An object's six cells. -/
theorem obj_of {fuel : Nat} {cs : List Value} {x : DataW H × List MemPlace} (h : DataW.trod enc Try.prog w base (fun _ => true) true fuel 37 cs = some x) :
    ∃ o : Ob, cs = [.int .i64 o.adr, .int .i64 o.kind, .int .i64 o.cls, .int .i64 o.len, .bool o.fin, .slice o.wa o.ws.length o.wc] ∧ i64 o.adr ∧ IsInts w o.wa o.ws := by
  obtain ⟨hl, n, hf⟩ := struct_fields shape_obj h
  rw [cells_obj] at hl
  match cs, hl with
  | [v0, v1, v2, v3, v4, v5], _ =>
    obtain ⟨_, h0⟩ := hf 0 (by decide)
    obtain ⟨_, h1⟩ := hf 1 (by decide)
    obtain ⟨_, h2⟩ := hf 2 (by decide)
    simp only [List.getElem_cons_zero, List.getElem_cons_succ, List.drop_zero, List.take_succ_cons, List.take_zero, List.drop_succ_cons] at h0 h1 h2
    obtain ⟨_, n', hg⟩ := struct_fields shape_head h1
    obtain ⟨_, g0⟩ := hg 0 (by decide)
    obtain ⟨_, g1⟩ := hg 1 (by decide)
    obtain ⟨_, g2⟩ := hg 2 (by decide)
    obtain ⟨_, g3⟩ := hg 3 (by decide)
    simp only [List.getElem_cons_zero, List.getElem_cons_succ, List.drop_zero, List.take_succ_cons, List.take_zero, List.drop_succ_cons] at g0 g1 g2 g3
    obtain ⟨ad, rfl, had⟩ := int_one h0
    obtain ⟨kd, rfl, _⟩ := int_one g0
    obtain ⟨cl, rfl, _⟩ := int_one g1
    obtain ⟨ln, rfl, _⟩ := int_one g2
    obtain ⟨fi, rfl⟩ := bool_one g3
    obtain ⟨wa, wc, ws, rfl, _, hr, _⟩ := ints_field h2
    exact ⟨⟨ad, kd, cl, ln, fi, wa, wc, ws⟩, rfl, had, hr⟩
theorem objs_of {fuel : Nat} {v : Value} {x : DataW H × List MemPlace} (h : DataW.trod enc Try.prog w base (fun _ => true) true fuel 26 [v] = some x) :
    ∃ A cap os, v = .slice A (List.length os) cap ∧ os.length ≤ maxLen ∧ Obs w A os ∧ ∀ o ∈ os, i64 (Ob.adr o) := by
  obtain ⟨A, len, cap, rfl, hm, hn, h0⟩ := slice_field Try.underlying26 cells_obj (by decide) h
  rcases h0 with rfl | ⟨b, off, rfl, hb, hi⟩
  · exact ⟨A, cap, [], rfl, Nat.zero_le _, .inl rfl, fun o ho => by cases ho⟩
  · obtain ⟨os, hl, ho⟩ := choose_list ob0 (Q := fun i o => ((w.cell? ⟨b, off + i * 6, none⟩ = some (.int .i64 o.adr) ∧ w.cell? ⟨b, off + i * 6 + 1, none⟩ = some (.int .i64 o.kind) ∧ w.cell? ⟨b, off + i * 6 + 2, none⟩ = some (.int .i64 o.cls) ∧ w.cell? ⟨b, off + i * 6 + 3, none⟩ = some (.int .i64 o.len) ∧ w.cell? ⟨b, off + i * 6 + 4, none⟩ = some (.bool o.fin) ∧ w.cell? ⟨b, off + i * 6 + 5, none⟩ = some (.slice o.wa o.ws.length o.wc)) ∧ IsInts w o.wa o.ws) ∧ i64 o.adr) len (fun i hil => by
      obtain ⟨n, cs, y, _, hc, ht⟩ := hi i hil
      obtain ⟨o, rfl, h1, h2⟩ := obj_of ht
      exact ⟨o, ⟨⟨hc 0 (by decide), hc 1 (by decide), hc 2 (by decide), hc 3 (by decide), hc 4 (by decide), hc 5 (by decide)⟩, h2⟩, h1⟩)
    subst hl
    refine ⟨_, cap, os, rfl, hm, .inr ⟨b, off, rfl, hb, fun i hil => (ho i hil).1⟩, fun o hmem => ?_⟩
    obtain ⟨i, hil, rfl⟩ := List.mem_iff_getElem.1 hmem
    have := (ho i hil).2
    rwa [getD_of hil] at this
theorem helds_of {fuel : Nat} {v : Value} {x : DataW H × List MemPlace} (h : DataW.trod enc Try.prog w base (fun _ => true) true fuel 27 [v] = some x) :
    ∃ A cap hs, v = .slice A (List.length hs) cap ∧ hs.length ≤ maxLen ∧ Helds w A hs := by
  obtain ⟨A, len, cap, rfl, hm, hn, h0⟩ := slice_field Try.underlying27 cells_held (by decide) h
  rcases h0 with rfl | ⟨b, off, rfl, hb, hi⟩
  · exact ⟨A, cap, [], rfl, Nat.zero_le _, .inl rfl⟩
  · obtain ⟨hs, hl, ho⟩ := choose_list ((0, 0) : Int × Int) (Q := fun i h => w.cell? ⟨b, off + i * 2, none⟩ = some (.int .i64 h.1) ∧ w.cell? ⟨b, off + i * 2 + 1, none⟩ = some (.int .i64 h.2)) len (fun i hil => by
      obtain ⟨n, cs, y, hcl, hc, ht⟩ := hi i hil
      obtain ⟨_, n', hf⟩ := struct_fields shape_held ht
      match cs, hcl with
      | [v0, v1], _ =>
        obtain ⟨_, h0⟩ := hf 0 (by decide)
        obtain ⟨_, h1⟩ := hf 1 (by decide)
        simp only [List.getElem_cons_zero, List.getElem_cons_succ, List.drop_zero, List.take_succ_cons, List.take_zero, List.drop_succ_cons] at h0 h1
        obtain ⟨x0, rfl, _⟩ := int_one h0
        obtain ⟨x1, rfl, _⟩ := int_one h1
        exact ⟨(x0, x1), hc 0 (by decide), hc 1 (by decide)⟩)
    subst hl
    exact ⟨_, cap, hs, rfl, hm, .inr ⟨b, off, rfl, hb, ho⟩⟩
theorem lists_field {fuel : Nat} {v : Value} {x : DataW H × List MemPlace} (h : DataW.trod enc Try.prog w base (fun _ => true) true fuel 28 [v] = some x) :
    ∃ A cap LS, v = .slice A (List.length LS) cap ∧ LS.length ≤ maxLen ∧ Lists w A LS := by
  obtain ⟨A, len, cap, rfl, hm, hn, h0⟩ := slice_field Try.underlying28 cells_ints (by decide) h
  rcases h0 with rfl | ⟨b, off, rfl, hb, hi⟩
  · exact ⟨A, cap, [], rfl, Nat.zero_le _, .inl rfl⟩
  · obtain ⟨LS, hl, ho⟩ := choose_list ([] : List Int) (Q := fun i l => ∃ Ai ci, w.cell? ⟨b, off + i, none⟩ = some (.slice Ai l.length ci) ∧ IsInts w Ai l ∧ (Ai = none → l.length = 0 ∧ ci = 0)) len (fun i hil => by
      obtain ⟨n, cs, y, hcl, hc, ht⟩ := hi i hil
      match cs, hcl with
      | [v0], _ =>
        obtain ⟨Ai, ci, xs, rfl, _, hr, _, hn⟩ := ints_field ht
        have := hc 0 (by decide)
        rw [Nat.mul_one, Nat.add_zero] at this
        exact ⟨xs, Ai, ci, this, hr, hn⟩)
    subst hl
    exact ⟨_, cap, LS, rfl, hm, .inr ⟨b, off, rfl, hb, ho⟩⟩
set_option maxRecDepth 100000 in
/-- A view that is handed in. -/
theorem view_of {r : Reach} {b0 : Nat} {v : Value} {d : DataW H} {ps : List MemPlace} (hv : Value.okWide Try.prog w r b0 30 v) (h : DataW.Trod enc Try.prog w base (fun _ => true) true 30 v d ps) :
    ∃ V : Vw, v = V.val ∧ Sees w V ∧ Given V := by
  obtain ⟨fs, hfs⟩ := shape_struct shape_view
  obtain ⟨cs, rfl, hsz⟩ := okWide_struct hfs hv
  rw [cells_view] at hsz
  obtain ⟨fuel, hf⟩ := h
  have hc : Value.cells (.agg cs) = cs := by simp [Value.cells]
  rw [hc] at hf
  obtain ⟨l⟩ := cs
  match l, hsz with
  | [v0, v1, v2, v3, v4, v5, v6, v7, v8, v9], _ =>
    obtain ⟨_, n, hg⟩ := struct_fields shape_view hf
    obtain ⟨_, h0⟩ := hg 0 (by decide)
    obtain ⟨_, h1⟩ := hg 1 (by decide)
    obtain ⟨_, h2⟩ := hg 2 (by decide)
    obtain ⟨_, h3⟩ := hg 3 (by decide)
    obtain ⟨_, h4⟩ := hg 4 (by decide)
    obtain ⟨_, h5⟩ := hg 5 (by decide)
    obtain ⟨_, h6⟩ := hg 6 (by decide)
    obtain ⟨_, h7⟩ := hg 7 (by decide)
    obtain ⟨_, h8⟩ := hg 8 (by decide)
    obtain ⟨_, h9⟩ := hg 9 (by decide)
    simp only [List.getElem_cons_zero, List.getElem_cons_succ, List.drop_zero, List.take_succ_cons, List.take_zero, List.drop_succ_cons] at h0 h1 h2 h3 h4 h5 h6 h7 h8 h9
    obtain ⟨oa, oc, os, rfl, ho1, ho2, ho3⟩ := objs_of h0
    obtain ⟨ha, hc', hs, rfl, hh1, hh2⟩ := helds_of h1
    obtain ⟨ra, rc, rs, rfl, _, hr, _, _⟩ := ints_field h2
    obtain ⟨qa, qc, qs, rfl, hq1, hq2⟩ := lists_field h3
    obtain ⟨fa, fc, gs, rfl, _, hf', _, hfn⟩ := ints_field h4
    obtain ⟨pa, pc, ps', rfl, _, hp, _, hpn⟩ := ints_field h5
    obtain ⟨clock, rfl, _⟩ := int_one h6
    obtain ⟨serial, rfl, _⟩ := int_one h7
    obtain ⟨used, rfl, _⟩ := int_one h8
    obtain ⟨runs, rfl, _⟩ := int_one h9
    unfold maxLen at ho1 hq1
    exact ⟨⟨oa, oc, os, ha, hc', hs, ra, rc, rs, qa, qc, qs, fa, fc, gs, pa, pc, ps', clock, serial, used, runs⟩, rfl, ⟨ho2, hh2, hr, hq2, hf', hp⟩, ⟨ho1, hq1, fun o ho => (ho3 o ho).2, hfn, hpn⟩⟩
end
end Go.Proofs.Ytnhgmmjlhhgdoaa
