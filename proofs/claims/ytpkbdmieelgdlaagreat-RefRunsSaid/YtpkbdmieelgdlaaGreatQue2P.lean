/- The contracts of queues: New, Queues, Open, has, Push, Poll. -/
import Derived.Test.YtpkbdmieelgdlaaGreatQueP
namespace Go.Proofs.YtpkbdmieelgdlaaGreat
open Go Go.RowKit

theorem queue_new_nil (w : World) : Calls Tryz.prog 24 #[.pointer none] w fun e w' => e = .returned (.pointer none) ∧ w = w' := by
  go_enter Tryz.func24, Tryz.ntmps24
  go_wp2_with fail
  go_ret
  exact ⟨rfl, rfl⟩
theorem queues_nil (w : World) : Calls Tryz.prog 33 #[.pointer none] w fun e w' => e = .returned (.int .i64 0) ∧ w = w' := by
  go_enter Tryz.func33, Tryz.ntmps33
  go_wp2_with fail
  go_ret
  exact ⟨rfl, rfl⟩
section
variable {O Oh : Nat → Prop} {l : List Int} {F : Int → Ob} {rows : List (List Int)} {v : Value} {cs : List Value}
theorem queue_new (h : Nat) (np : List Pst) (w : World) (H : HeapO w h np l F Oh) : Calls Tryz.prog 24 #[.pointer (some ⟨h, 0, none⟩)] w fun e w' =>
    ∃ q O, e = .returned (.pointer (some ⟨q, 0, none⟩)) ∧ QueO w' q h np l F [] O ∧ StepO Oh w O w' := by
  have HH := Lib.hid H
  clear H
  go_enter Tryz.func24, Tryz.ntmps24
  go_wp2_with fail
  go_ret
  have hu : Upd [] w (w.alloc (.cells #[.pointer (some ⟨h, 0, none⟩), .slice none 0 0] 117)) := (Upd.refl [] w).alloc _
  refine ⟨w.heap.size, OwnsQ w.heap.size (.slice none 0 0) Oh, rfl, ⟨.slice none 0 0, Oh, ⟨⟨HH.out.upd0 hu, Blk.new _ _ _, World.ownsRow_nil _ _ _ _, fun hx => ?_, fun g hg => by cases hg⟩, Linked.nil _ _, by simp⟩, rfl⟩, hu.os, hu.tape, hu.output, hu.size, fun k hk _ => hu.block k hk (by simp), fun k hk => ?_⟩
  · have := HH.out.owned hx; omega
  · rcases hk with hk | rfl | hk
    · exact .inl hk
    · exact .inr (Nat.le_refl _)
    · cases hk

theorem queues_len (q h : Nat) (np : List Pst) (n : Nat) (w : World) (H : QueR w q h np v l F n cs Oh) : Calls Tryz.prog 33 #[.pointer (some ⟨q, 0, none⟩)] w fun e w' => e = .returned (.int .i64 n) ∧ w = w' := by
  obtain ⟨c0, c1, _⟩ := H.cells
  rcases H.slice with ⟨rfl, rfl⟩ | ⟨g, cap, rfl⟩
  all_goals
    clear H
    go_enter Tryz.func33, Tryz.ntmps33
    go_wp2_with fail
    go_ret
    exact ⟨rfl, rfl⟩
theorem qhas (q h : Nat) (np : List Pst) (n : Nat) (i : Int) (r : Bool) (w : World) (H : QueR w q h np v l F n cs Oh) (hr : r = decide (0 ≤ i ∧ i < n)) : Calls Tryz.prog 70 #[.pointer (some ⟨q, 0, none⟩), .int .i64 i] w fun e w' => e = .returned (.bool r) ∧ w = w' := by
  have HQ := Lib.hid (queues_len q h np n w H)
  clear H
  rcases (show (i < 0 ∧ r = false) ∨ (0 ≤ i ∧ n ≤ i ∧ r = false) ∨ (0 ≤ i ∧ i < n ∧ r = true) by rw [hr]; simp only [decide_eq_false_iff_not, decide_eq_true_eq]; omega) with ⟨h1, rfl⟩ | ⟨h1, h2, rfl⟩ | ⟨h1, h2, rfl⟩
  all_goals clear hr
  · go_enter Tryz.func70, Tryz.ntmps70
    go_wp2_with fail
    go_ret
    exact ⟨rfl, rfl⟩
  · go_enter Tryz.func70, Tryz.ntmps70
    go_wp2_with fail
    refine (HQ.out).mono ?_
    rintro e w' ⟨rfl, rfl⟩
    go_wp2_with fail
    go_ret
    exact ⟨by first | rfl | (simp; done) | (simp; omega), rfl⟩
  · go_enter Tryz.func70, Tryz.ntmps70
    go_wp2_with fail
    refine (HQ.out).mono ?_
    rintro e w' ⟨rfl, rfl⟩
    go_wp2_with fail
    go_ret
    exact ⟨by first | rfl | (simp; done) | (simp; omega), rfl⟩
theorem qopen_full (q h : Nat) (np : List Pst) (w : World) (H : QueO w q h np l F rows O) (hn : rows.length = 8) : Calls Tryz.prog 26 #[.pointer (some ⟨q, 0, none⟩)] w fun e w' => e = .returned (.tuple #[.int .i64 0, .int .i64 3]) ∧ w = w' := by
  obtain ⟨v, Oh, ⟨H, _, _⟩, rfl⟩ := H
  rw [hn] at H
  obtain ⟨c0, c1, _⟩ := H.cells
  rcases H.slice with ⟨_, h2⟩ | ⟨g, cap, rfl⟩
  · omega
  · clear H
    go_enter Tryz.func26, Tryz.ntmps26
    go_wp2_with fail
    go_ret2
    exact ⟨rfl, rfl⟩
theorem ends_info : (Tryz.prog.info? 119).map (fun i => (i.zero, i.size, i.bytes)) = some (some (.agg #[.int .i64 0, .int .i64 0]), 2, 16) := by kernel_rfl
/-- 'append' of new ends. -/
theorem wpList_open {w : World} {ops : Array Oper} {rest : List Oper} {o : Oper} {a : Act} {Q : Exit → Act → World → Prop} (hgd : o.guard = none) (s x : Operand)
    (ho : o.op = .call { callee := .builtin .append, args := #[s, x], argTypes := #[115, 115] })
    (v : Value) (n : Nat) (xs : List Value) (hs : a.eval s = v) (hown : w.ownsRow 0 119 2 v n xs) (b : Nat) (hx : a.eval x = .slice (some ⟨b, 0, none⟩) 1 1) (hb : Blk w b 119 #[.int .i64 0, .int .i64 0]) (hn : n ≤ 8)
    (h : ∀ v' w', w'.ownsRow 0 119 2 v' (n + 1) (xs ++ [.int .i64 0, .int .i64 0]) → w.grownBy w' v.ownBlock → (v'.ownBlock = v.ownBlock ∨ v'.ownBlock = some w.heap.size) → wpList Tryz.prog ops Q rest (a.put o.dst v') w') : wpList Tryz.prog ops Q (o :: rest) a w := by
  obtain ⟨i0, hi, hz0, hz1, hz2⟩ := info_parts ends_info
  refine wpList_append_own_at _ hgd s x 115 ho 0 119 i0 (.agg #[.int .i64 0, .int .i64 0]) 2 16 Tryz.underlying115 hi hz0 hz1 hz2 rfl (by decide) v n xs hs hown ⟨b, 0, none⟩ 1 1 [.int .i64 0, .int .i64 0] hx rfl ?_ ?_ (by unfold maxLen; omega) (by omega) (Nat.zero_le _) ?_
  · intro j u hj
    match j, hj with
    | 0, hj => simp at hj; subst hj; simpa [Addr.add] using hb.cell 0
    | 1, hj => simp at hj; subst hj; simpa [Addr.add] using hb.cell 1
  · intro u hu; simp at hu; subst hu; rfl
  · intro v' w' h1 h2 _ h4
    exact h v' w' h1 h2 h4
set_option maxRecDepth 100000 in
theorem qopen_yes (q h : Nat) (np : List Pst) (w : World) (H : QueO w q h np l F rows O) (hn : rows.length < 8) : Calls Tryz.prog 26 #[.pointer (some ⟨q, 0, none⟩)] w fun e w' =>
    e = .returned (.tuple #[.int .i64 rows.length, .int .i64 0]) ∧ ∃ O', QueO w' q h np l F (rows ++ [[]]) O' ∧ StepO O w O' w' := by
  obtain ⟨v, Oh, ⟨H, hl, hf⟩, rfl⟩ := H
  obtain ⟨c0, c1, c2⟩ := H.cells
  have HH := Lib.hid H
  have HL := Lib.hid hl
  generalize hm : rows.length = n at *
  have HM := Lib.hid hm
  have hfin : ∀ (v' : Value) (w1 : World), w1.ownsRow 0 119 2 v' (n + 1) (endsV rows ++ [.int .i64 0, .int .i64 0]) → (w.alloc (.cells #[.int .i64 0, .int .i64 0] 119)).grownBy w1 v.ownBlock → (v'.ownBlock = v.ownBlock ∨ v'.ownBlock = some (w.heap.size + 1)) →
      w1.cell? ⟨q, 1, none⟩ = some v ∧ w1.frozen? ⟨q, 1, none⟩ = false ∧ (∃ O', QueO (w1.setCell ⟨q, 1, none⟩ v') q h np l F (rows ++ [[]]) O' ∧ StepO (OwnsQ q v Oh) w O' (w1.setCell ⟨q, 1, none⟩ v')) ∧ (w1.setCell ⟨q, 1, none⟩ v').cell? ⟨q, 1, none⟩ = some v' ∧ ∃ g cap, v' = .slice (some ⟨g, 0, none⟩) (n + 1) cap := fun v' w1 h1 h2 h3 => by
    have H := HH.out
    have hqb : v.ownBlock ≠ some q := fun e => by
      rcases H.slice with ⟨rfl, _⟩ | ⟨g, cap, rfl⟩
      · cases e
      · obtain ⟨g', cap', cur, e', _, hc, _⟩ := H.row.2.resolve_left (by simp)
        simp only [Value.slice.injEq, Option.some.injEq, Addr.mk.injEq] at e'
        obtain ⟨⟨rfl, _⟩, _⟩ := e'
        simp only [Value.ownBlock, Option.some.injEq] at e
        exact Blk.ne_ H.box (show Blk w g _ cur from hc) (by decide) e.symm
    have hz := H.box.lt
    have hsz : (w.alloc (.cells #[.int .i64 0, .int .i64 0] 119)).heap.size = w.heap.size + 1 := by simp
    have hb : ∀ k, k < w.heap.size → v.ownBlock ≠ some k → w1.heap[k]? = w.heap[k]? := fun k hk hn => (h2.block k (by omega) (fun e => hn e.symm)).trans (Below.heap_alloc _ _ _ hk)
    have hbx : Blk w1 q 117 #[.pointer (some ⟨h, 0, none⟩), v] := H.box.moved (hb q hz hqb)
    have hvq : v'.ownBlock ≠ some q := fun e => by
      rcases h3 with h3 | h3
      · exact hqb (h3 ▸ e)
      · rw [e] at h3; simp only [Option.some.injEq] at h3; omega
    have hvO : ∀ g, v'.ownBlock = some g → ¬ Oh g := fun g hg hx => by
      rcases h3 with h3 | h3
      · exact H.sv g (h3 ▸ hg) hx
      · rw [hg] at h3; simp only [Option.some.injEq] at h3
        have := H.heap.owned hx; omega
    have hs : ∀ k, k ≠ q → (w1.setCell ⟨q, 1, none⟩ v').heap[k]? = w1.heap[k]? := fun k hk => Below.heap_setCell _ _ _ _ hk
    refine ⟨hbx.cell 1, hbx.frozen 1, ⟨OwnsQ q v' Oh, ⟨v', Oh, ⟨⟨H.heap.moved fun k hk => (hs k (fun e => H.sq (e ▸ hk))).trans (hb k (H.heap.owned hk) fun e => H.sv k e hk), hbx.set_ 1 v', ?_, H.sq, hvO⟩, HL.out.open, by simp [HM.out]; omega⟩, rfl⟩, ?_⟩, (hbx.set_ 1 v').cell 1, ?_⟩
    · rw [endsV_open, List.length_append, HM.out]
      exact ownsRow_moved h1 fun g hg => hs g fun e => hvq (e ▸ hg)
    · refine ⟨h2.os, h2.tape, h2.output, ?_, fun k hk hn => ?_, fun k hk => ?_⟩
      · have := h2.size
        simp [World.setCell]; omega
      · exact (hs k fun e => hn (.inr (.inl e))).trans (hb k hk fun e => hn (.inr (.inr e)))
      · rcases hk with hk | hk | hk
        · exact .inl (.inl hk)
        · exact .inl (.inr (.inl hk))
        · rcases h3 with h3 | h3
          · exact .inl (.inr (.inr (h3 ▸ hk)))
          · rw [hk] at h3; simp only [Option.some.injEq] at h3; exact .inr (by omega)
    · rcases h1.2 with ⟨_, h4⟩ | ⟨g, cap, _, h4, _⟩
      · omega
      · exact ⟨g, cap, h4⟩
  have HF := Lib.hid hfin
  have HR := Lib.hid ((World.ownsRow.alloc H.row (.cells #[.int .i64 0, .int .i64 0] 119)))
  have HB := Lib.hid (Blk.new w 119 #[.int .i64 0, .int .i64 0])
  have hcase := H.slice
  have d1 : (w.alloc (.cells #[.int .i64 0, .int .i64 0] 119)).cell? ⟨q, 1, none⟩ = some v := (H.box.alloc _).cell 1
  clear hfin hm hl
  rcases hcase with ⟨rfl, rfl⟩ | ⟨g, cap, rfl⟩
  · clear H
    go_enter Tryz.func26, Tryz.ntmps26
    go_wp2_with (at_builtin; refine wpList_open rfl _ _ rfl (.slice none 0 0) 0 (endsV rows) rfl HR.out w.heap.size rfl HB.out (by omega) ?_)
    intro v' w1 h1 h2 h3
    obtain ⟨e1, e2, hq, e3, g2, cap2, rfl⟩ := HF.out v' w1 h1 h2 h3
    have HQ := Lib.hid hq
    clear h1 h2 h3 hq
    go_wp2_with fail
    go_ret2
    exact ⟨rfl, HQ.out⟩
  · clear H
    go_enter Tryz.func26, Tryz.ntmps26
    go_wp2_with (at_builtin; refine wpList_open rfl _ _ rfl (.slice (some ⟨g, 0, none⟩) n cap) n (endsV rows) rfl HR.out w.heap.size rfl HB.out (by omega) ?_)
    intro v' w1 h1 h2 h3
    obtain ⟨e1, e2, hq, e3, g2, cap2, rfl⟩ := HF.out v' w1 h1 h2 h3
    have HQ := Lib.hid hq
    clear h1 h2 h3 hq
    go_wp2_with fail
    go_ret2
    exact ⟨rfl, HQ.out⟩
end
end Go.Proofs.YtpkbdmieelgdlaaGreat
