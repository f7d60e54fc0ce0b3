/- The document's references: Open. -/
import Derived.Test.YtpkbdmieelgdlaaGreatDq2
namespace Go.Proofs.YtpkbdmieelgdlaaGreat
open Go Go.RowKit

theorem rows_info : (Tryz.prog.info? 23).map (fun i => (i.zero, i.size, i.bytes)) = some (some (.slice none 0 0), 1, 24) := by kernel_rfl
section
variable {w w' : World} {r h : Nat} {V V' : Value} {vs vs' : List Value} {np np' : List Pst} {l l' : List Int} {F F' : Int → Ob} {rows rows' : List (List Int)} {n n' : Int} {O Oh Oh' : Nat → Prop}
theorem wpList_openD {ops : Array Oper} {rest : List Oper} {o : Oper} {a : Act} {Q : Exit → Act → World → Prop} (hgd : o.guard = none) (s x : Operand)
    (ho : o.op = .call { callee := .builtin .append, args := #[s, x], argTypes := #[59, 59] })
    (v : Value) (k : Nat) (xs : List Value) (hs : a.eval s = v) (hown : w.ownsRow 0 23 1 v k xs) (b : Nat) (hx : a.eval x = .slice (some ⟨b, 0, none⟩) 1 1) (hb : Blk w b 23 #[.slice none 0 0]) (hn : k ≤ 8)
    (h : ∀ v' w', w'.ownsRow 0 23 1 v' (k + 1) (xs ++ [.slice none 0 0]) → w.grownBy w' v.ownBlock → (v'.ownBlock = v.ownBlock ∨ v'.ownBlock = some w.heap.size) → wpList Tryz.prog ops Q rest (a.put o.dst v') w') : wpList Tryz.prog ops Q (o :: rest) a w := by
  obtain ⟨i0, hi, hz0, hz1, hz2⟩ := info_parts rows_info
  refine wpList_append_own_at _ hgd s x 59 ho 0 23 i0 (.slice none 0 0) 1 24 Tryz.underlying59 hi hz0 hz1 hz2 rfl (by decide) v k xs hs hown ⟨b, 0, none⟩ 1 1 [.slice none 0 0] hx rfl ?_ ?_ (by unfold maxLen; omega) (by omega) (Nat.zero_le _) ?_
  · intro j u hj
    match j, hj with
    | 0, hj => simp at hj; subst hj; simpa [Addr.add] using hb.cell 0
  · intro u hu; simp at hu; subst hu; rfl
  · intro v' w' h1 h2 _ h4
    exact h v' w' h1 h2 h4
theorem DqL.opened (H : DqL w r h V vs np l F rows n Oh) (hr : w'.ownsRow 0 23 1 V' (rows.length + 1) (vs ++ [.slice none 0 0])) (hg : w.grownBy w' V.ownBlock) (hv : V'.ownBlock = V.ownBlock ∨ V'.ownBlock = some w.heap.size) :
    DqL (w'.setCell ⟨r, 1, none⟩ V') r h V' (vs ++ [.slice none 0 0]) np l F (rows ++ [[]]) n Oh ∧ StepO (OwnsDq r V vs Oh) w (OwnsDq r V' (vs ++ [.slice none 0 0]) Oh) (w'.setCell ⟨r, 1, none⟩ V') ∧ w'.cell? ⟨r, 1, none⟩ = some V ∧ w'.frozen? ⟨r, 1, none⟩ = false := by
  have hb : ∀ k, k ≠ r → (w'.setCell ⟨r, 1, none⟩ V').heap[k]? = w'.heap[k]? := fun k hk => Below.heap_setCell _ _ _ _ hk
  have hg' : ∀ k, k < w.heap.size → V.ownBlock ≠ some k → w'.heap[k]? = w.heap[k]? := fun k hk hn => hg.block k hk (fun e => hn e.symm)
  have hbox : Blk w' r 61 #[.pointer (some ⟨h, 0, none⟩), V, .int .i64 n] := H.box.moved (hg' r H.box.lt H.rne)
  have hVr : V'.ownBlock ≠ some r := fun e => by
    rcases hv with h1 | h1
    · exact H.rne (h1 ▸ e)
    · rw [h1] at e; simp only [Option.some.injEq] at e
      have := H.box.lt; omega
  have hlen : (vs ++ [Value.slice none 0 0]).length = rows.length + 1 := by simp [H.len]
  have hget : ∀ i, i < rows.length → (vs ++ [Value.slice none 0 0]).getD i snil = vs.getD i snil ∧ (rows ++ [[]]).getD i [] = rows.getD i [] := fun i hi => by
    refine ⟨?_, ?_⟩
    · rw [List.getD_eq_getElem?_getD, List.getD_eq_getElem?_getD, List.getElem?_append_left (by rw [H.len]; exact hi)]
    · rw [List.getD_eq_getElem?_getD, List.getD_eq_getElem?_getD, List.getElem?_append_left hi]
  have hlast : (vs ++ [Value.slice none 0 0]).getD rows.length snil = .slice none 0 0 ∧ (rows ++ [[]]).getD rows.length [] = [] := by
    refine ⟨?_, ?_⟩
    · rw [← H.len, List.getD_eq_getElem?_getD, List.getElem?_append_right (Nat.le_refl _)]; simp
    · rw [List.getD_eq_getElem?_getD, List.getElem?_append_right (Nat.le_refl _)]; simp
  refine ⟨⟨?_, H.heap.moved fun k hk => (hb k (fun e => H.sr (e ▸ hk))).trans (hg' k (H.heap.owned hk) fun e => H.sV k e hk), ?_, fun i hi => ?_, H.sr, fun g hg2 hx => ?_, fun i hi g hg2 => ?_⟩, ⟨hg.os, hg.tape, hg.output, by simpa [World.setCell] using hg.size, fun k hk hn => ?_, fun k hk => ?_⟩, hbox.cell 1, hbox.frozen 1⟩
  · exact hbox.set_ 1 V'
  · rw [List.length_append]
    exact ownsRow_moved hr fun g hg2 => hb g (fun e => hVr (e ▸ hg2))
  · by_cases e : i < rows.length
    · rw [(hget i e).1, (hget i e).2]
      exact (H.own i e).moved fun q hq => (hb q (fun e2 => own_ne (H.own i e) H.box (by decide) (e2 ▸ hq))).trans (hg' q (own_low (H.own i e) hq).2 fun e2 => H.apart (H.own i e) e2 hq)
    · have e2 : i = rows.length := by simp at hi; omega
      subst e2
      rw [hlast.1, hlast.2]
      exact Own.nil _ _
  · rcases hv with h1 | h1
    · exact H.sV g (h1 ▸ hg2) hx
    · rw [h1] at hg2; simp only [Option.some.injEq] at hg2
      have := H.heap.owned hx; omega
  · by_cases e : i < rows.length
    · rw [(hget i e).1] at hg2
      exact H.sv i e g hg2
    · have e2 : i = rows.length := by simp at hi; omega
      subst e2
      rw [hlast.1] at hg2
      cases hg2
  · exact (hb k (fun e => hn (.inr (.inl e)))).trans (hg' k hk fun e => hn (.inr (.inr (.inl e))))
  · rcases hk with hk | rfl | hk | ⟨j, hj, hk⟩
    · exact .inl (.inl hk)
    · exact .inl (.inr (.inl rfl))
    · rcases hv with h1 | h1
      · exact .inl (.inr (.inr (.inl (h1 ▸ hk))))
      · rw [h1] at hk; simp only [Option.some.injEq] at hk
        exact .inr (by omega)
    · by_cases e : j < rows.length
      · rw [(hget j e).1] at hk
        exact .inl (.inr (.inr (.inr ⟨j, by rw [H.len]; exact e, hk⟩)))
      · have e2 : j = rows.length := by rw [hlen] at hj; omega
        subst e2
        rw [hlast.1] at hk
        cases hk
theorem dopen_full (r h : Nat) (np : List Pst) (w : World) (H : DqO w r h np l F rows n O) (hn : rows.length = 8) : Calls Tryz.prog 27 #[.pointer (some ⟨r, 0, none⟩)] w fun e w' => e = .returned (.agg #[.int .i64 0, .int .i64 3]) ∧ Upd [] w w' := by
  obtain ⟨V, vs, Oh, H, _⟩ := H
  have HG : Hid (Blk (w.alloc (.cells #[.int .i64 0, .int .i64 0] 34)) w.heap.size 34 #[.int .i64 0, .int .i64 0]) := Lib.hid (Blk.new _ _ _)
  have HUA : Hid (Upd [] w (w.alloc (.cells #[.int .i64 0, .int .i64 0] 34))) := Lib.hid ((Upd.refl [] w).alloc _)
  obtain ⟨c0, c1, c2, _, _⟩ := (H.upd0 HUA.out).cells
  obtain ⟨A, c, rfl⟩ := H.form
  rw [hn] at c1
  have z0 := HG.out.cell 0
  have z1 := HG.out.cell 1
  have z2 := HG.out.frozen 0
  have z3 := HG.out.frozen 1
  simp only [List.getElem?_toArray, List.getElem?_cons_zero, List.getElem?_cons_succ] at z0 z1
  clear H hn
  go_enter Tryz.func27, Tryz.ntmps27
  go_wp2_with fail
  exact cell_ret rfl (Blk.new _ _ _) rfl rfl Tryz.underlying34 (by kernel_rfl) ⟨rfl, (Upd.refl [] w).alloc _⟩
set_option maxRecDepth 100000 in
theorem dopen_yes (r h : Nat) (np : List Pst) (w : World) (H : DqO w r h np l F rows n O) (hn : rows.length < 8) : Calls Tryz.prog 27 #[.pointer (some ⟨r, 0, none⟩)] w fun e w' =>
    e = .returned (.agg #[.int .i64 rows.length, .int .i64 0]) ∧ ∃ O', DqO w' r h np l F (rows ++ [[]]) n O' ∧ StepO O w O' w' := by
  obtain ⟨V, vs, Oh, H, rfl⟩ := H
  have HG : Hid (Blk (w.alloc (.cells #[.int .i64 0, .int .i64 0] 34)) w.heap.size 34 #[.int .i64 0, .int .i64 0]) := Lib.hid (Blk.new _ _ _)
  have HUA : Hid (Upd [] w (w.alloc (.cells #[.int .i64 0, .int .i64 0] 34))) := Lib.hid ((Upd.refl [] w).alloc _)
  have HH := Lib.hid (H.upd0 HUA.out)
  have HH0 := Lib.hid H
  obtain ⟨c0, c1, c2, _, _⟩ := HH.out.cells
  obtain ⟨A, c, rfl⟩ := H.form
  clear H
  have HU2 : Hid (Upd [] (w.alloc (.cells #[.int .i64 0, .int .i64 0] 34)) ((w.alloc (.cells #[.int .i64 0, .int .i64 0] 34)).alloc (.cells #[.slice none 0 0] 23))) := Lib.hid ((Upd.refl [] _).alloc _)
  go_enter Tryz.func27, Tryz.ntmps27
  go_wp2_with (at_builtin; refine wpList_openD rfl _ _ rfl (.slice A rows.length c) rows.length vs rfl (HH.out.upd0 HU2.out).row (w.heap.size + 1) rfl (Blk.newAt _ _ _ _ (by simp)) (by omega) ?_)
  intro V' w2 h1 h2 h3
  obtain ⟨d1, d2, d3, d4⟩ := (HH.out.upd0 HU2.out).opened h1 h2 (by rcases h3 with h3 | h3; exact .inl h3; exact .inr (by rw [h3]; simp))
  obtain ⟨g', c', rfl⟩ : ∃ g' c', V' = .slice (some ⟨g', 0, none⟩) (rows.length + 1) c' := by
    rcases h1.2 with ⟨_, h5⟩ | ⟨g', cap, cur, h5, _⟩
    · omega
    · exact ⟨g', cap, h5⟩
  have hb := ((HG.out.alloc (.cells #[.slice none 0 0] 23)).moved (h2.block w.heap.size (by simp; omega) (fun e => by
    cases A with
    | none => cases e
    | some ad => simp only [Value.ownBlock, Option.some.injEq] at e; have := (World.ownsRow.lt HH0.out.row ad.block rfl).2; omega))).far (p := ⟨r, 1, none⟩) (by have := HH0.out.box.lt; exact Nat.ne_of_gt this) (.slice (some ⟨g', 0, none⟩) (rows.length + 1) c')
  obtain ⟨e0, e1, e2, _, _⟩ := d1.cells
  have hst := StepO.behind HUA.out (StepO.behind HU2.out d2)
  have HNN := Lib.hid (show ¬ OwnsDq r (.slice (some ⟨g', 0, none⟩) (rows.length + 1) c') (vs ++ [.slice none 0 0]) Oh w.heap.size from fun e => (d2.own _ e).elim (fun e => by have := HH0.out.owned e; omega) (fun e => by simp at e; omega))
  have HD := Lib.hid d1
  have HS := Lib.hid hst
  have HB := Lib.hid hb
  have z0 := hb.cell 0
  have z1 := hb.cell 1
  have z2 := hb.frozen 0
  have z3 := hb.frozen 1
  simp only [List.getElem?_toArray, List.getElem?_cons_zero, List.getElem?_cons_succ] at z0 z1
  clear h1 h2 h3 d1 d2 hb hst c0 c1 c2
  go_wp2_with fail
  have hne : ∀ k, OwnsDq r (.slice (some ⟨g', 0, none⟩) (rows.length + 1) c') (vs ++ [.slice none 0 0]) Oh k → k ≠ w.heap.size := fun k hk e => HNN.out (e ▸ hk)
  refine cell_ret rfl ((HB.out.set_ 0 _).set_ 1 _) rfl rfl Tryz.underlying34 (by kernel_rfl) ⟨rfl, _, ⟨_, _, Oh, HD.out.moved fun k hk => (Below.heap_setCell _ _ _ _ (hne k hk)).trans (Below.heap_setCell _ _ _ _ (hne k hk)), rfl⟩, (HS.out.newCell (Nat.le_refl _) _).newCell (Nat.le_refl _) _⟩
end
end Go.Proofs.YtpkbdmieelgdlaaGreat
