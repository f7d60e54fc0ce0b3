/- The contracts of finalizers: New, Await, Finals, Pending, Take; the library's Index, Delete and Clone. -/
import Derived.Test.YtendjhobemlhoaaFin
namespace Go.Proofs.Ytendjhobemlhoaa
open Go Go.RowKit

section
variable {w : World} {B : Nat} {v : Value} {xs : List Int}
theorem own_cases (h : Own w B v xs) : (v = .slice none 0 0 ∧ xs = []) ∨ ∃ g cap, v = .slice (some ⟨g, 0, none⟩) xs.length cap ∧ (∀ j, j < xs.length → w.cell? ⟨g, 0 + j, none⟩ = some (.int .i64 (xs.getD j 0))) ∧ xs.length ≤ cap ∧ cap ≤ maxLen := by
  have h0 := h
  rcases h.2 with ⟨e, h2⟩ | ⟨g, cap, cur, rfl, _, _, h5, h6, _⟩
  · exact .inl ⟨e, List.eq_nil_of_length_eq_zero h2⟩
  · refine .inr ⟨g, cap, rfl, fun j hj => ?_, h5, h6⟩
    rw [Nat.zero_add, World.ownsRow.cellAt h0 j (by omega), List.getElem?_map, List.getD_eq_getElem?_getD, List.getElem?_eq_getElem hj]
    rfl
theorem Own.slice (h : Own w B v xs) : ∃ A n cap, v = .slice A n cap := by
  obtain ⟨A, cap, e, _⟩ := h.form
  exact ⟨A, _, cap, e⟩
theorem index_hit (B : Nat) (v : Value) (xs : List Int) (x : Int) (k : Nat) (w : World) (h : Own w B v xs) (hk : k < xs.length) (hx : xs.getD k 0 = x) (hne : ∀ j, j < k → xs.getD j 0 ≠ x) (hl : xs.length ≤ 4294967296) :
    Calls Try.prog 51 #[v, .int .i64 x] w fun e w' => e = .returned (.int .i64 k) ∧ w = w' := by
  rcases own_cases h with ⟨_, rfl⟩ | ⟨g, cap, rfl, hc, _, _⟩
  · simp at hk
  · refine (Try.slices_Index_int g 0 xs.length cap xs x w (Nat.le_refl _) (by omega) hc).mono ?_
    rintro e w' ⟨rfl, rfl⟩
    rw [Go.Lib.idxOf_hit xs xs.length k x hk (Nat.le_refl _) hx hne]
    exact ⟨rfl, rfl⟩
theorem index_miss (B : Nat) (v : Value) (xs : List Int) (x : Int) (w : World) (h : Own w B v xs) (hx : x ∉ xs) (hl : xs.length ≤ 4294967296) :
    Calls Try.prog 51 #[v, .int .i64 x] w fun e w' => e = .returned (.int .i64 (-1)) ∧ w = w' := by
  rcases own_cases h with ⟨rfl, rfl⟩ | ⟨g, cap, rfl, hc, _, _⟩
  · refine (Try.slices_Index_int_empty none 0 x w).mono ?_
    rintro e w' ⟨rfl, rfl⟩
    exact ⟨rfl, rfl⟩
  · refine (Try.slices_Index_int g 0 xs.length cap xs x w (Nat.le_refl _) (by omega) hc).mono ?_
    rintro e w' ⟨rfl, rfl⟩
    rw [Go.Lib.idxOf_miss xs xs.length x (fun j hj e => hx (by rw [← e]; exact getD_mem hj))]
    exact ⟨rfl, rfl⟩
theorem clone_own (B : Nat) (v : Value) (xs : List Int) (w : World) (h : Own w B v xs) (hl : xs.length ≤ 4294967296) :
    Calls Try.prog 50 #[v] w fun e w' => ∃ v', e = .returned v' ∧ Own w' w.heap.size v' xs ∧ Upd [] w w' := by
  rcases own_cases h with ⟨rfl, rfl⟩ | ⟨g, cap, rfl, hc, _, _⟩
  · refine (Try.slices_Clone_int_nil 0 0 w).mono ?_
    rintro e w' ⟨rfl, rfl⟩
    exact ⟨_, rfl, Own.nil _ _, Upd.refl _ _⟩
  · refine (Try.slices_Clone_int g 0 xs.length cap xs w (Nat.le_refl _) (by omega) hc).mono ?_
    rintro e w' ⟨v', rfl, h1, _, hb⟩
    rw [List.take_length] at h1
    exact ⟨v', rfl, h1, Upd.of_below hb⟩
theorem delete_own (B : Nat) (v : Value) (xs : List Int) (i j : Int) (k : Nat) (w : World) (h : Own w B v xs) (hi : i = k) (hj : j = (k : Int) + 1) (hk : k < xs.length) (hl : xs.length ≤ 4294967296) :
    Calls Try.prog 52 #[v, .int .i64 i, .int .i64 j] w fun e w' => ∃ v', e = .returned v' ∧ Own w' B v' (xs.eraseIdx k) ∧ v'.ownBlock = v.ownBlock ∧ Upd v.ownBlock.toList w w' := by
  subst hi
  obtain rfl : j = ((k + 1 : Nat) : Int) := by omega
  have hne : v ≠ .slice none 0 0 := fun e => by
    rcases h.2 with ⟨_, h2⟩ | ⟨g, cap, cur, e2, _⟩
    · omega
    · rw [e] at e2; cases e2
  obtain ⟨g, cap, rfl, _, _, h4, h5, _, hH⟩ := Go.Lib.holds_of_ownsRow h hne
  unfold maxLen at h5
  refine (Try.slices_Delete_int g 0 cap k (k + 1) xs w hH h4 (by omega) (by omega) (by omega)).mono ?_
  rintro e w' ⟨rfl, q, rfl⟩
  have ho := Go.Lib.ownsRow_putRow (q := q) (k := xs.length - 1) (ys := xs.take k ++ xs.drop (k + 1) ++ List.replicate (k + 1 - k) 0) h (by simp; omega) (by omega)
  have e1 : (xs.take k ++ xs.drop (k + 1) ++ List.replicate (k + 1 - k) 0).take (xs.length - 1) = xs.eraseIdx k := by
    rw [List.eraseIdx_eq_take_drop_succ, List.take_append_of_le_length (by simp; omega), List.take_of_length_le (by simp; omega)]
  rw [e1] at ho
  have e2 : (xs.eraseIdx k).length = xs.length - 1 := by rw [List.length_eraseIdx_of_lt hk]
  refine ⟨.slice (some ⟨g, 0, none⟩) (xs.length - 1) cap, by rw [show k + 1 - k = 1 by omega], ?_, rfl, upd_putRow⟩
  unfold Own
  rw [e2]
  exact ho
end

theorem fin_new_nil (w : World) : Calls Try.prog 25 #[.pointer none] w fun e w' => e = .returned (.pointer none) ∧ w = w' := by
  go_enter Try.func25, Try.ntmps25
  go_wp2_with fail
  go_ret
  exact ⟨rfl, rfl⟩
theorem await_nil (a : Int) (w : World) : Calls Try.prog 18 #[.pointer none, .int .i64 a] w fun e w' => e = .returned (.int .i64 2) ∧ w = w' := by
  go_enter Try.func18, Try.ntmps18
  go_wp2_with fail
  go_ret
  exact ⟨rfl, rfl⟩
theorem finals_nil (w : World) : Calls Try.prog 20 #[.pointer none] w fun e w' => e = .returned (.slice none 0 0) ∧ w = w' := by
  go_enter Try.func20, Try.ntmps20
  go_wp2_with fail
  go_ret
  exact ⟨rfl, rfl⟩
theorem pending_nil (w : World) : Calls Try.prog 23 #[.pointer none] w fun e w' => e = .returned (.slice none 0 0) ∧ w = w' := by
  go_enter Try.func23, Try.ntmps23
  go_wp2_with fail
  go_ret
  exact ⟨rfl, rfl⟩
theorem ftake_nil (i : Int) (w : World) : Calls Try.prog 24 #[.pointer none, .int .i64 i] w fun e w' => e = .returned (.tuple #[.int .i64 0, .int .i64 1]) ∧ w = w' := by
  go_enter Try.func24, Try.ntmps24
  go_wp2_with fail
  go_ret2
  exact ⟨rfl, rfl⟩
section
variable {O Oh : Nat → Prop} {l : List Int} {F : Int → Ob} {ws ps : List Int}
theorem fin_new (h np : Nat) (w : World) (H : HeapO w h np l F Oh) : Calls Try.prog 25 #[.pointer (some ⟨h, 0, none⟩)] w fun e w' =>
    ∃ f O, e = .returned (.pointer (some ⟨f, 0, none⟩)) ∧ FinO w' f h np l F [] [] O ∧ StepO Oh w O w' := by
  have HH := Lib.hid H
  clear H
  go_enter Try.func25, Try.ntmps25
  go_wp2_with fail
  go_ret
  have hu : Upd [] w (w.alloc (.cells #[.pointer (some ⟨h, 0, none⟩), .slice none 0 0, .slice none 0 0] 82)) := (Upd.refl [] w).alloc _
  refine ⟨w.heap.size, _, rfl, ⟨.slice none 0 0, .slice none 0 0, Oh, ⟨HH.out.upd0 hu, Blk.new _ _ _, Own.nil _ _, Own.nil _ _, Apart.none _ _ _, by simp [Value.ownBlock], by simp [Value.ownBlock], fun hx => ?_, fun g hg => (by cases hg), fun g hg => (by cases hg)⟩, rfl⟩, hu.os, hu.tape, hu.output, hu.size, fun k hk _ => hu.block k hk (by simp), fun k hk => ?_⟩
  · have := HH.out.owned hx; omega
  · rcases hk with hk | rfl | hk | hk
    · exact .inl hk
    · exact .inr (Nat.le_refl _)
    · cases hk
    · cases hk
theorem await_no (f h np : Nat) (a y : Int) (w : World) (H : FinO w f h np l F ws ps O) (ha : a ∉ l ∧ y = 2 ∨ a ∈ l ∧ ((F a).k = 4 ∧ y = 5 ∨ (F a).k ≠ 4 ∧ (F a).f = true ∧ y = 4)) :
    Calls Try.prog 18 #[.pointer (some ⟨f, 0, none⟩), .int .i64 a] w fun e w' => e = .returned (.int .i64 y) ∧ Upd [] w w' := by
  obtain ⟨vw, vp, Oh, H, rfl⟩ := H
  have hq : Calls Try.prog 49 #[.pointer (some ⟨h, 0, none⟩), .int .i64 a] w fun e w' => e = .returned (.int .i64 y) ∧ Upd [] w w' := by
    rcases ha with ⟨ha, rfl⟩ | ⟨ha, hy⟩
    · exact final_no h np a w H.heap ha
    · exact final_bad h np a y w H.heap ha hy
  have hy0 : y ≠ 0 := by omega
  obtain ⟨c0, _⟩ := H.cells
  have HQ := Lib.hid hq
  clear H hq ha
  go_enter Try.func18, Try.ntmps18
  go_wp2_with fail
  refine (HQ.out).mono ?_
  rintro e w1 ⟨rfl, hu⟩
  have HU := Lib.hid hu
  clear hu
  go_wp2_with fail
  go_ret
  exact ⟨rfl, HU.out⟩
set_option maxRecDepth 100000 in
theorem await_yes (f h np : Nat) (a : Int) (w : World) (H : FinO w f h np l F ws ps O) (ha : a ∈ l) (hk : (F a).k ≠ 4) (hf : (F a).f = false) (hn : ws.length ≤ 100000) :
    Calls Try.prog 18 #[.pointer (some ⟨f, 0, none⟩), .int .i64 a] w fun e w' => e = .returned (.int .i64 0) ∧ ∃ O', FinO w' f h np l (fset F a { F a with f := true }) (ws ++ [a]) ps O' ∧ StepO O w O' w' := by
  obtain ⟨vw, vp, Oh, H, rfl⟩ := H
  obtain ⟨c0, _⟩ := H.cells
  have HQ := Lib.hid (final_yes h np a w H.heap ha hk hf)
  have HH := Lib.hid H
  have HN := Lib.hid hn
  generalize fset F a { F a with f := true } = F' at *
  clear H ha hk hf hn
  go_enter Try.func18, Try.ntmps18
  go_wp2_with fail
  refine (HQ.out).mono ?_
  rintro e w1 ⟨rfl, O1, hh, hs⟩
  have HF1 := Lib.hid (HH.out.heaped hh hs)
  have HS1 := Lib.hid (hs.finals (f := f) (vw := vw) (vp := vp))
  obtain ⟨d0, d1, d2, d3, d4⟩ := HF1.out.cells
  clear hh hs c0
  go_wp2_with (at_builtin; refine wpList_pushA rfl _ _ rfl 0 vw ws rfl (HF1.out.waits.alloc _) w1.heap.size a rfl (Blk.new _ _ _) (by have := HN.out; omega) (Nat.zero_le _) ?_)
  intro v' w2 ho hu hv
  have hF2 := (HF1.out.upd0 ((Upd.refl [] w1).alloc (.cells #[.int .i64 a] 3))).setW ho hu (by simp) (fun g hg => by
    rcases hv with h1 | h1
    · exact .inl (h1 ▸ hg)
    · rw [hg] at h1; simp only [Option.some.injEq] at h1; exact .inr (by simp; omega))
  obtain ⟨hF3, hS3, e1, e2, e3, e4⟩ := hF2
  have HF3 := Lib.hid hF3
  have HS3 := Lib.hid hS3
  obtain ⟨A', n', cap', rfl⟩ := ho.slice
  clear ho hu hv hF3 hS3 d0 d1 d2 d3 d4
  go_wp2_with fail
  go_ret
  exact ⟨rfl, _, ⟨_, _, _, HF3.out, rfl⟩, HS1.out.trans (StepO.behind ((Upd.refl [] w1).alloc _) HS3.out)⟩
theorem finals_yes (f h np : Nat) (w : World) (H : FinO w f h np l F ws ps O) (hn : ws.length ≤ 100000) :
    Calls Try.prog 20 #[.pointer (some ⟨f, 0, none⟩)] w fun e w' => ∃ v, e = .returned v ∧ Own w' w.heap.size v ws ∧ Upd [] w w' := by
  obtain ⟨vw, vp, Oh, H, rfl⟩ := H
  obtain ⟨c0, c1, c2, _⟩ := H.cells
  have HQ := Lib.hid (clone_own 0 vw ws w H.waits (by omega))
  clear H hn
  go_enter Try.func20, Try.ntmps20
  go_wp2_with fail
  refine (HQ.out).mono ?_
  rintro e w1 ⟨v, rfl, ho, hu⟩
  have HU := Lib.hid (And.intro ho hu)
  clear ho hu
  go_wp2_with fail
  go_ret
  exact ⟨_, rfl, HU.out⟩
theorem pending_yes (f h np : Nat) (w : World) (H : FinO w f h np l F ws ps O) (hn : ps.length ≤ 100000) :
    Calls Try.prog 23 #[.pointer (some ⟨f, 0, none⟩)] w fun e w' => ∃ v, e = .returned v ∧ Own w' w.heap.size v ps ∧ Upd [] w w' := by
  obtain ⟨vw, vp, Oh, H, rfl⟩ := H
  obtain ⟨c0, c1, c2, _⟩ := H.cells
  have HQ := Lib.hid (clone_own 0 vp ps w H.pends (by omega))
  clear H hn
  go_enter Try.func23, Try.ntmps23
  go_wp2_with fail
  refine (HQ.out).mono ?_
  rintro e w1 ⟨v, rfl, ho, hu⟩
  have HU := Lib.hid (And.intro ho hu)
  clear ho hu
  go_wp2_with fail
  go_ret
  exact ⟨_, rfl, HU.out⟩
theorem ftake_no (f h np : Nat) (i : Int) (w : World) (H : FinO w f h np l F ws ps O) (hi : i < 0 ∨ ps.length ≤ i) (hn : ps.length ≤ 100000) :
    Calls Try.prog 24 #[.pointer (some ⟨f, 0, none⟩), .int .i64 i] w fun e w' => e = .returned (.tuple #[.int .i64 0, .int .i64 1]) ∧ w = w' := by
  obtain ⟨vw, vp, Oh, H, rfl⟩ := H
  obtain ⟨c0, c1, c2, _⟩ := H.cells
  have hform := own_cases H.pends
  obtain ⟨n, hnn⟩ : ∃ n, ps.length = n := ⟨_, rfl⟩
  rw [hnn] at hform hi hn
  have hv : ∃ A cap, vp = .slice A n cap := by
    rcases hform with ⟨rfl, rfl⟩ | ⟨g, cap, rfl, _⟩
    · obtain rfl : 0 = n := hnn
      exact ⟨_, _, rfl⟩
    · exact ⟨_, _, rfl⟩
  obtain ⟨A, cap, rfl⟩ := hv
  clear H hform hnn
  by_cases h0 : i < 0
  · clear hi
    go_enter Try.func24, Try.ntmps24
    go_wp2_with fail
    go_ret2
    exact ⟨rfl, rfl⟩
  · have h1 : (n : Int) ≤ i := by omega
    have h2 : 0 ≤ i := by omega
    clear hi
    go_enter Try.func24, Try.ntmps24
    go_wp2_with fail
    go_ret2
    exact ⟨rfl, rfl⟩
set_option maxRecDepth 100000 in
theorem ftake_yes (f h np : Nat) (i : Int) (j : Nat) (w : World) (H : FinO w f h np l F ws ps O) (hi : i = j) (hj : j < ps.length) (hn : ps.length ≤ 100000) :
    Calls Try.prog 24 #[.pointer (some ⟨f, 0, none⟩), .int .i64 i] w fun e w' => e = .returned (.tuple #[.int .i64 (ps.getD j 0), .int .i64 0]) ∧ ∃ O', FinO w' f h np l F ws (ps.eraseIdx j) O' ∧ StepO O w O' w' := by
  subst hi
  obtain ⟨vw, vp, Oh, H, rfl⟩ := H
  obtain ⟨c0, c1, c2, c3, c4⟩ := H.cells
  have HH := Lib.hid H
  have HQ := Lib.hid (delete_own 0 vp ps j ((j : Int) + 1) j w H.pends rfl rfl hj (by omega))
  rcases own_cases H.pends with ⟨_, rfl⟩ | ⟨g, cap, rfl, hc, _, _⟩
  · simp at hj
  · have hcj := hc j hj
    rw [Nat.zero_add] at hcj
    obtain ⟨n, hnn⟩ : ∃ n, ps.length = n := ⟨_, rfl⟩
    obtain ⟨x, hx⟩ : ∃ x, ps.getD j 0 = x := ⟨_, rfl⟩
    rw [hnn] at c2 hj hn HQ HH
    rw [hx] at hcj ⊢
    clear H hc hnn hx
    go_enter Try.func24, Try.ntmps24
    go_wp2_with fail
    refine (HQ.out).mono ?_
    rintro e w1 ⟨v', rfl, ho, hv, hu⟩
    obtain ⟨hF, hS, e1, e2⟩ := HH.out.setP ho hu (by simp) (fun g hg => .inl (hv ▸ hg))
    have HF := Lib.hid hF
    have HS := Lib.hid hS
    obtain ⟨A', n', cap', rfl⟩ := ho.slice
    clear hF hS ho hu hv
    go_wp2_with fail
    go_ret2
    exact ⟨rfl, _, ⟨_, _, _, HF.out, rfl⟩, HS.out⟩
end
end Go.Proofs.Ytendjhobemlhoaa
