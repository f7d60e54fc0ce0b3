/- The document's references: has, is, Open; a row is stored. -/
import Derived.Test.YtpkbdmieelgdlaaGreatDq
namespace Go.Proofs.YtpkbdmieelgdlaaGreat
open Go Go.RowKit

section
variable {w w' : World} {r h : Nat} {V V' : Value} {vs vs' : List Value} {np np' : List Pst} {l l' : List Int} {F F' : Int → Ob} {rows rows' : List (List Int)} {n n' : Int} {O Oh Oh' : Nat → Prop}
theorem vals_set (vs : List Value) (k i : Nat) (v : Value) (hk : k < vs.length) : (vs.set k v).getD i snil = if i = k then v else vs.getD i snil := by
  rw [List.getD_eq_getElem?_getD, List.getD_eq_getElem?_getD, List.getElem?_set]
  by_cases h : k = i
  · subst h; rw [if_pos rfl, if_pos rfl, if_pos hk]; rfl
  · rw [if_neg h, if_neg (Ne.symm h)]
/-- The block of the rows is none that holds numbers. -/
theorem DqL.apart {g : Nat} {B : Nat} {s : Value} {xs : List Int} (H : DqL w r h V vs np l F rows n Oh) (hs : Own w B s xs) (hg : V.ownBlock = some g) : s.ownBlock ≠ some g := fun e => by
  rcases H.row.2 with ⟨rfl, _⟩ | ⟨g1, _, cur, rfl, _, h3, _⟩
  · cases hg
  · simp only [Value.ownBlock, Option.some.injEq] at hg
    subst hg
    exact own_ne hs (show Blk w g1 23 cur from h3) (by decide) e
theorem DqL.rne (H : DqL w r h V vs np l F rows n Oh) : V.ownBlock ≠ some r := fun e => by
  rcases H.row.2 with ⟨rfl, _⟩ | ⟨g1, _, cur, rfl, _, h3, _⟩
  · cases e
  · simp only [Value.ownBlock, Option.some.injEq] at e
    subst e
    exact absurd rfl ((H.box.ne_ (show Blk w g1 23 cur from h3) (by decide)))
/-- A row is stored. -/
theorem DqL.put {g c : Nat} {s : Value} {xs : List Int} {i : Nat} (H : DqL w r h (.slice (some ⟨g, 0, none⟩) rows.length c) vs np l F rows n Oh) (hu : Upd [] w w') (hi : i < rows.length) (hs : Own w' w.heap.size s xs) :
    DqL (w'.setCell ⟨g, i, none⟩ s) r h (.slice (some ⟨g, 0, none⟩) (rows.set i xs).length c) (vs.set i s) np l F (rows.set i xs) n Oh ∧ StepO (OwnsDq r (.slice (some ⟨g, 0, none⟩) rows.length c) vs Oh) w (OwnsDq r (.slice (some ⟨g, 0, none⟩) (rows.set i xs).length c) (vs.set i s) Oh) (w'.setCell ⟨g, i, none⟩ s) := by
  have H' := H.upd0 hu
  have hb : ∀ k, k ≠ g → (w'.setCell ⟨g, i, none⟩ s).heap[k]? = w'.heap[k]? := fun k hk => Below.heap_setCell _ _ _ _ hk
  have hgo : ¬ Oh g := H.sV g rfl
  have hgr : g ≠ r := fun e => H.rne (by rw [e]; rfl)
  have hsg : ∀ k, s.ownBlock = some k → k ≠ g := fun k hk e => H'.apart hs rfl (e ▸ hk)
  have hvl : vs.length = rows.length := H.len
  refine ⟨⟨?_, H'.heap.moved fun k hk => hb k (fun e => hgo (e ▸ hk)), ?_, fun k hk => ?_, H.sr, H.sV, fun k hk q hq => ?_⟩, ⟨hu.os, hu.tape, hu.output, by simpa [World.setCell] using hu.size, fun k hk hn => (hb k (fun e => hn (.inr (.inr (.inl (by rw [e]; rfl)))))).trans (hu.block k hk (by simp)), fun k hk => ?_⟩⟩
  · rw [List.length_set]
    exact H'.box.moved (hb r (Ne.symm hgr))
  · rw [List.length_set]
    exact (World.ownsRow.stored H'.row i s).1
  · rw [List.length_set] at hk
    rw [vals_set _ _ _ _ (by omega), rows_set _ _ _ _ hi]
    by_cases e : k = i
    · rw [if_pos e, if_pos e]
      exact own_mono (hs.moved fun q hq => hb q (hsg q hq)) (Nat.zero_le _)
    · rw [if_neg e, if_neg e]
      exact (H'.own k hk).moved fun q hq => hb q (fun e2 => H'.apart (H'.own k hk) rfl (e2 ▸ hq))
  · rw [List.length_set] at hk
    rw [vals_set _ _ _ _ (by omega)] at hq
    by_cases e : k = i
    · rw [if_pos e] at hq
      intro hx
      have h1 := H.heap.owned hx
      have h2 := (own_low hs hq).1
      omega
    · rw [if_neg e] at hq
      exact H.sv k hk q hq
  · rcases hk with hk | rfl | hk | ⟨j, hj, hk⟩
    · exact .inl (.inl hk)
    · exact .inl (.inr (.inl rfl))
    · exact .inl (.inr (.inr (.inl hk)))
    · rw [List.length_set] at hj
      rw [vals_set _ _ _ _ (by omega)] at hk
      by_cases e : j = i
      · rw [if_pos e] at hk
        exact .inr (own_low hs hk).1
      · rw [if_neg e] at hk
        exact .inl (.inr (.inr (.inr ⟨j, hj, hk⟩)))

theorem dhas (r h : Nat) (np : List Pst) (i : Int) (b : Bool) (w : World) (H : DqO w r h np l F rows n O) (hb : b = decide (0 ≤ i ∧ i < rows.length)) : Calls Tryz.prog 67 #[.pointer (some ⟨r, 0, none⟩), .int .i64 i] w fun e w' => e = .returned (.bool b) ∧ w = w' := by
  obtain ⟨V, vs, Oh, H, _⟩ := H
  obtain ⟨c0, c1, c2, _, _⟩ := H.cells
  obtain ⟨A, c, rfl⟩ := H.form
  clear H
  generalize rows.length = N at *
  rcases (show (i < 0 ∧ b = false) ∨ (0 ≤ i ∧ N ≤ i ∧ b = false) ∨ (0 ≤ i ∧ i < N ∧ b = true) by rw [hb]; simp only [decide_eq_false_iff_not, decide_eq_true_eq]; omega) with ⟨h1, rfl⟩ | ⟨h1, h2, rfl⟩ | ⟨h1, h2, rfl⟩
  all_goals
    clear hb
    go_enter Tryz.func67, Tryz.ntmps67
    go_wp2_with fail
    go_ret
    first | exact ⟨rfl, rfl⟩ | (refine ⟨?_, rfl⟩; simp; omega)
theorem dis_no (r h : Nat) (np : List Pst) (a : Int) (w : World) (H : DqO w r h np l F rows n O) (ha : a ∉ l ∨ a ∈ l ∧ (F a).k ≠ 4) : Calls Tryz.prog 68 #[.pointer (some ⟨r, 0, none⟩), .int .i64 a] w fun e w' => e = .returned (.bool false) ∧ Upd [] w w' := by
  obtain ⟨V, vs, Oh, H, _⟩ := H
  obtain ⟨c0, _, _, _, _⟩ := H.cells
  rcases ha with ha | ⟨ha, hk⟩
  · have HQ := Lib.hid (dhead_no h np a w H.heap ha)
    clear H ha
    go_enter Tryz.func68, Tryz.ntmps68
    go_wp2_with fail
    refine (HQ.out).mono ?_
    rintro e w1 ⟨rfl, hu⟩
    have HU := Lib.hid (hu.alloc (.cells #[.int .i64 0, .int .i64 0, .int .i64 0, .bool false, .bool false] 113))
    clear hu
    go_wp2_with fail
    go_ret
    exact ⟨rfl, HU.out⟩
  · have HQ := Lib.hid (dhead_yes h np a (F a).k (F a).c (F a).ws.length (F a).f w H.heap ha rfl)
    generalize (F a).k = k at *
    generalize (F a).c = c at *
    generalize (F a).f = f at *
    generalize (F a).ws.length = m at *
    clear H ha
    go_enter Tryz.func68, Tryz.ntmps68
    go_wp2_with fail
    refine (HQ.out).mono ?_
    rintro e w1 ⟨rfl, hu⟩
    have HU := Lib.hid (hu.alloc (.cells #[.int .i64 k, .int .i64 c, .int .i64 m, .bool f, .bool true] 113))
    clear hu
    go_wp2_with fail
    go_ret
    exact ⟨by first | rfl | (simp; done) | simp [hk], HU.out⟩
theorem dis_yes (r h : Nat) (np : List Pst) (a : Int) (w : World) (H : DqO w r h np l F rows n O) (ha : a ∈ l) (hk : (F a).k = 4) : Calls Tryz.prog 68 #[.pointer (some ⟨r, 0, none⟩), .int .i64 a] w fun e w' => e = .returned (.bool true) ∧ Upd [] w w' := by
  obtain ⟨V, vs, Oh, H, _⟩ := H
  obtain ⟨c0, _, _, _, _⟩ := H.cells
  have HQ := Lib.hid (dhead_yes h np a 4 (F a).c (F a).ws.length (F a).f w H.heap ha (by rw [← hk]; rfl))
  generalize (F a).c = c at *
  generalize (F a).f = f at *
  generalize (F a).ws.length = m at *
  clear H ha hk
  go_enter Tryz.func68, Tryz.ntmps68
  go_wp2_with fail
  refine (HQ.out).mono ?_
  rintro e w1 ⟨rfl, hu⟩
  have HU := Lib.hid (hu.alloc (.cells #[.int .i64 4, .int .i64 c, .int .i64 m, .bool f, .bool true] 113))
  clear hu
  go_wp2_with fail
  go_ret
  exact ⟨rfl, HU.out⟩
end
end Go.Proofs.YtpkbdmieelgdlaaGreat
