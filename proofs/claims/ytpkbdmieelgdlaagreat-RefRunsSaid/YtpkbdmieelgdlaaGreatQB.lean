/- The program's queues and the document's beside each other, and what is asked of both. -/
import Derived.Test.YtpkbdmieelgdlaaGreatMd12
import Derived.Test.YtpkbdmieelgdlaaGreatSpO
namespace Go.Proofs.YtpkbdmieelgdlaaGreat
open Go Go.RowKit

/-- The program's queues at q, the document's at r; the law's own lists: all references (lv), and those that are in a row (iv). -/
structure QB (w0 w : World) (h q r m : Nat) (pg : List Pst) (l : List Int) (F : Int → Ob) (rows : List (List Int)) (F2 : Int → Ob) (rows2 : List (List Int)) (Oq Od : Nat → Prop) (lv iv : Value) (ins : List Int) : Prop where
  que : QueO w q h pg l F rows Oq
  doc : DqO w r m pg l F2 rows2 0 Od
  apart : ∀ k, Od k → ¬ Oq k
  env : Env w0 w (fun k => Oq k ∨ Od k)
  lst : OwnA w w0.heap.size lv l (fun k => Oq k ∨ Od k)
  inl : OwnA w w0.heap.size iv ins (fun k => Oq k ∨ Od k)
  two : ∀ g, iv.ownBlock = some g → lv.ownBlock ≠ some g
section
variable {w0 w w' : World} {h q r m : Nat} {pg : List Pst} {l : List Int} {F F2 F' : Int → Ob} {rows rows2 rows' : List (List Int)} {Oq Od O' : Nat → Prop} {lv iv iv' : Value} {ins ins' : List Int}
theorem StepO.wideR {O O' P : Nat → Prop} {w w' : World} (h : StepO O w O' w') : StepO (fun k => P k ∨ O k) w (fun k => P k ∨ O' k) w' :=
  ⟨h.os, h.tape, h.output, h.size, fun i hi hn => h.block i hi fun e => hn (.inr e), fun i hi => by
    rcases hi with hi | hi
    · exact .inl (.inl hi)
    · rcases h.own i hi with h1 | h1
      · exact .inl (.inr h1)
      · exact .inr h1⟩
theorem QB.stepQ (H : QB w0 w h q r m pg l F rows F2 rows2 Oq Od lv iv ins) (hq : QueO w' q h pg l F' rows' O') (k : StepO Oq w O' w') : QB w0 w' h q r m pg l F' rows' F2 rows2 O' Od lv iv ins := by
  have hw := k.wide (P := Od)
  exact ⟨hq, H.doc.moved (apart_moved H.apart (fun _ hb => H.doc.owned hb) k), apart_step H.apart (fun _ hb => H.doc.owned hb) k, H.env.step hw, H.lst.step hw, H.inl.step hw, H.two⟩
theorem QB.stepD (H : QB w0 w h q r m pg l F rows F2 rows2 Oq Od lv iv ins) (hd : DqO w' r m pg l F' rows' 0 O') (k : StepO Od w O' w') : QB w0 w' h q r m pg l F rows F' rows' Oq O' lv iv ins := by
  have hw := k.wideR (P := Oq)
  have ha : ∀ k, Oq k → ¬ Od k := fun b hb hx => H.apart b hx hb
  exact ⟨H.que.moved (apart_moved ha (fun _ hb => H.que.owned hb) k), hd, fun b hb hx => apart_step ha (fun _ hb => H.que.owned hb) k b hx hb, H.env.step hw, H.lst.step hw, H.inl.step hw, H.two⟩
theorem QB.upd0 (H : QB w0 w h q r m pg l F rows F2 rows2 Oq Od lv iv ins) (hu : Upd [] w w') : QB w0 w' h q r m pg l F rows F2 rows2 Oq Od lv iv ins :=
  ⟨H.que.upd0 hu, H.doc.upd0 hu, H.apart, H.env.upd0 hu, H.lst.upd0 hu, H.inl.upd0 hu, H.two⟩
/-- The list of those that are in a row grows. -/
theorem QB.grow (H : QB w0 w h q r m pg l F rows F2 rows2 Oq Od lv iv ins) {E : List Nat} (h1 : OwnA w' w0.heap.size iv' ins' (fun k => Oq k ∨ Od k)) (hE : ∀ i ∈ E, iv.ownBlock = some i) (hu : Upd E w w') (h4 : iv'.ownBlock = iv.ownBlock ∨ iv'.ownBlock = some w.heap.size) : QB w0 w' h q r m pg l F rows F2 rows2 Oq Od lv iv' ins' := by
  have hfar : ∀ i ∈ E, ¬ (Oq i ∨ Od i) := fun i hi => H.inl.far i (hE i hi)
  have hlow : ∀ i ∈ E, w0.heap.size ≤ i := fun i hi => (own_low H.inl.own (hE i hi)).1
  refine ⟨H.que.upd hu fun k hk hx => hfar k hk (.inl hx), H.doc.moved fun k hk => hu.block k (H.doc.owned hk) fun hm => hfar k hm (.inr hk), H.apart, H.env.upd' hu hlow, ⟨H.lst.own.moved fun g hg => hu.block g (own_low H.lst.own hg).2 fun hm => H.two g (hE g hm) hg, H.lst.far⟩, h1, fun g hg hl => ?_⟩
  rcases h4 with h4 | h4
  · exact H.two g (h4 ▸ hg) hl
  · rw [h4] at hg; simp only [Option.some.injEq] at hg
    have := (own_low H.lst.own hl).2; omega
/-- What turns blocks of a third list alone. -/
theorem QB.side (H : QB w0 w h q r m pg l F rows F2 rows2 Oq Od lv iv ins) {E : List Nat} (hu : Upd E w w') (hE : ∀ i ∈ E, w0.heap.size ≤ i ∧ ¬ (Oq i ∨ Od i) ∧ lv.ownBlock ≠ some i ∧ iv.ownBlock ≠ some i) : QB w0 w' h q r m pg l F rows F2 rows2 Oq Od lv iv ins :=
  ⟨H.que.upd hu fun k hk hx => (hE k hk).2.1 (.inl hx), H.doc.moved fun k hk => hu.block k (H.doc.owned hk) fun hm => (hE k hm).2.1 (.inr hk), H.apart, H.env.upd' hu fun i hi => (hE i hi).1,
    ⟨H.lst.own.moved fun g hg => hu.block g (own_low H.lst.own hg).2 fun hm => (hE g hm).2.2.1 hg, H.lst.far⟩, ⟨H.inl.own.moved fun g hg => hu.block g (own_low H.inl.own hg).2 fun hm => (hE g hm).2.2.2 hg, H.inl.far⟩, H.two⟩
/-- Another list takes its place. -/
theorem QB.other (H : QB w0 w h q r m pg l F rows F2 rows2 Oq Od lv iv ins) (h1 : OwnA w w0.heap.size iv' ins' (fun k => Oq k ∨ Od k)) (h2 : ∀ g, iv'.ownBlock = some g → lv.ownBlock ≠ some g) : QB w0 w h q r m pg l F rows F2 rows2 Oq Od lv iv' ins' :=
  ⟨H.que, H.doc, H.apart, H.env, H.lst, h1, h2⟩
end

/-- What is so of the references, their rows, and the law's list. -/
structure QI (l : List Int) (F : Int → Ob) (rows : List (List Int)) (ins : List Int) : Prop where
  len : l.length = 12
  pos : ∀ a ∈ l, 64 ≤ a
  ref : ∀ a ∈ l, (F a).k = 4 ∧ (F a).ws.length = 5
  sub : ∀ j x, x ∈ rows.getD j [] → x ∈ ins
  few : ins.length ≤ 240
section
variable {l : List Int} {F : Int → Ob} {rows : List (List Int)} {ins : List Int}
theorem getD_app {rows : List (List Int)} {j : Nat} {x : Int} (h : x ∈ (rows ++ [[]]).getD j []) : x ∈ rows.getD j [] := by
  by_cases e : j < rows.length
  · rwa [List.getD_eq_getElem?_getD, List.getElem?_append_left e, ← List.getD_eq_getElem?_getD] at h
  · rw [List.getD_eq_getElem?_getD, List.getElem?_append_right (by omega)] at h
    cases hj : j - rows.length with
    | zero => rw [hj] at h; simp at h
    | succ k => rw [hj] at h; simp at h
theorem QI.opened (H : QI l F rows ins) : QI l F (rows ++ [[]]) ins := ⟨H.len, H.pos, H.ref, fun j x hx => H.sub j x (getD_app hx), H.few⟩
theorem k45_next (H : ∀ a ∈ l, (F a).k = 4 ∧ (F a).ws.length = 5) (a x : Int) : ∀ b ∈ l, (nextF F a x b).k = 4 ∧ (nextF F a x b).ws.length = 5 := fun b hb => by
  rw [nextF_k, nextF_len]; exact H b hb
theorem k45_push (H : ∀ a ∈ l, (F a).k = 4 ∧ (F a).ws.length = 5) (r : List Int) (a : Int) : ∀ b ∈ l, (pushF F r a b).k = 4 ∧ (pushF F r a b).ws.length = 5 := by
  unfold pushF
  split
  · exact k45_next H _ _
  · exact k45_next (k45_next H _ _) _ _
theorem QI.pushed (H : QI l F rows ins) {j : Nat} (hj : j < rows.length) (a : Int) (hf : ins.length + 1 ≤ 240) : QI l (pushF F (rows.getD j []) a) (rows.set j (rows.getD j [] ++ [a])) (ins ++ [a]) :=
  ⟨H.len, H.pos, k45_push H.ref _ _, fun i x hx => by
    rw [rows_set _ _ _ _ hj] at hx
    split at hx
    · rcases List.mem_append.1 hx with hx | hx
      · exact List.mem_append_left _ (H.sub j x hx)
      · exact List.mem_append_right _ hx
    · exact List.mem_append_left _ (H.sub i x hx), by simpa using hf⟩
theorem QI.polled (H : QI l F rows ins) {j : Nat} {a : Int} {t : List Int} (hj : j < rows.length) (hr : rows.getD j [] = a :: t) (hn : ∀ i, a ∉ (rows.set j t).getD i []) : QI l (nextF F a 0) (rows.set j t) (ins.filter fun x => x != a) :=
  ⟨H.len, H.pos, k45_next H.ref _ _, fun i x hx => by
    refine List.mem_filter.2 ⟨?_, ?_⟩
    · rw [rows_set _ _ _ _ hj] at hx
      split at hx
      · exact H.sub j x (by rw [hr]; exact List.mem_cons_of_mem _ hx)
      · exact H.sub i x hx
    · have : x ≠ a := fun e => hn i (e ▸ hx)
      simpa using this, Nat.le_trans (List.length_filter_le _ _) H.few⟩
theorem QI.row (H : QI l F rows ins) {h q : Nat} {pg : List Pst} {w : World} {O : Nat → Prop} (hq : QueO w q h pg l F rows O) (j : Nat) : (∀ x ∈ rows.getD j [], x ∈ l ∧ x ≠ 0 ∧ 2 < (F x).ws.length) ∧ (rows.getD j []).length ≤ 12 ∧ (rows.getD j []).Nodup := by
  obtain ⟨v, Oh, ⟨_, hl, _⟩, _⟩ := hq
  refine ⟨fun x hx => ?_, ?_, hl.nodup j⟩
  · obtain ⟨h1, h2, _, h4⟩ := hl.ref j x hx
    exact ⟨h1, h2, by omega⟩
  · have := nodup_sub _ l (hl.nodup j) fun x hx => (hl.ref j x hx).1
    rw [H.len] at this
    exact this
end
theorem QueO.few {h q : Nat} {pg : List Pst} {l : List Int} {F : Int → Ob} {rows : List (List Int)} {w : World} {O : Nat → Prop} (hq : QueO w q h pg l F rows O) : rows.length ≤ 8 := by
  obtain ⟨v, Oh, ⟨_, _, hf⟩, _⟩ := hq
  exact hf
theorem QueO.linked {h q : Nat} {pg : List Pst} {l : List Int} {F : Int → Ob} {rows : List (List Int)} {w : World} {O : Nat → Prop} (hq : QueO w q h pg l F rows O) : Linked l F rows := by
  obtain ⟨v, Oh, ⟨_, hl, _⟩, _⟩ := hq
  exact hl

section
variable {w0 w : World} {h q r m : Nat} {pg : List Pst} {l : List Int} {F F2 : Int → Ob} {rows rows2 : List (List Int)} {Oq Od : Nat → Prop} {lv iv : Value} {ins : List Int}
/-- Open, of both. -/
theorem both_open (H : QB w0 w h q r m pg l F rows F rows Oq Od lv iv ins) (hI : QI l F rows ins) : ∃ (x e : Int) (rows' : List (List Int)), 0 ≤ e ∧ e ≤ 3 ∧ QI l F rows' ins ∧
    (∀ W, Upd [] w W → Calls Tryz.prog 26 #[.pointer (some ⟨q, 0, none⟩)] W fun u w1 => u = .returned (.tuple #[.int .i64 x, .int .i64 e]) ∧ ∃ Oq', Hid (QB w0 w1 h q r m pg l F rows' F rows Oq' Od lv iv ins)) ∧
    ∀ W Oq', QB w0 W h q r m pg l F rows' F rows Oq' Od lv iv ins → Calls Tryz.prog 27 #[.pointer (some ⟨r, 0, none⟩)] W fun u w1 => u = .returned (.agg #[.int .i64 x, .int .i64 e]) ∧ ∃ Od', Hid (QB w0 w1 h q r m pg l F rows' F rows' Oq' Od' lv iv ins) := by
  have hf := H.que.few
  by_cases h8 : rows.length = 8
  · refine ⟨0, 3, rows, by omega, by omega, hI, fun W hu => ?_, fun W Oq' HB => ?_⟩
    · refine (qopen_full q h pg W (H.upd0 hu).que h8).mono fun e w1 he => ?_
      obtain ⟨rfl, rfl⟩ := he
      exact ⟨rfl, Oq, Lib.hid (H.upd0 hu)⟩
    · refine (dopen_full r m pg W HB.doc h8).mono fun e w1 he => ?_
      obtain ⟨rfl, hu⟩ := he
      exact ⟨rfl, Od, Lib.hid (HB.upd0 hu)⟩
  · refine ⟨rows.length, 0, rows ++ [[]], by omega, by omega, hI.opened, fun W hu => ?_, fun W Oq' HB => ?_⟩
    · refine (qopen_yes q h pg W (H.upd0 hu).que (by omega)).mono fun e w1 he => ?_
      obtain ⟨rfl, O', hq, hs⟩ := he
      exact ⟨rfl, O', Lib.hid ((H.upd0 hu).stepQ hq hs)⟩
    · refine (dopen_yes r m pg W HB.doc (by omega)).mono fun e w1 he => ?_
      obtain ⟨rfl, O', hd, hs⟩ := he
      exact ⟨rfl, O', Lib.hid (HB.stepD hd hs)⟩
/-- Push, of both: the document's first. -/
theorem both_push (H : QB w0 w h q r m pg l F rows F rows Oq Od lv iv ins) (hI : QI l F rows ins) (k : Nat) (a : Int) (ha : a ∉ ins) (hf : ins.length + 1 ≤ 240) : ∃ (e : Int) (F' : Int → Ob) (rows' : List (List Int)), 0 ≤ e ∧ e ≤ 5 ∧ (e = 0 → QI l F' rows' (ins ++ [a])) ∧ (e ≠ 0 → QI l F' rows' ins) ∧
    (∀ W, Upd [] w W → Calls Tryz.prog 29 #[.pointer (some ⟨r, 0, none⟩), .int .i64 (k : Int), .int .i64 a] W fun u w1 => u = .returned (.int .i64 e) ∧ ∃ Od', Hid (QB w0 w1 h q r m pg l F rows F' rows' Oq Od' lv iv ins)) ∧
    ∀ W Od', QB w0 W h q r m pg l F rows F' rows' Oq Od' lv iv ins → Calls Tryz.prog 30 #[.pointer (some ⟨q, 0, none⟩), .int .i64 (k : Int), .int .i64 a] W fun u w1 => u = .returned (.int .i64 e) ∧ ∃ Oq', Hid (QB w0 w1 h q r m pg l F' rows' F' rows' Oq' Od' lv iv ins) := by
  by_cases hk : k < rows.length
  · by_cases hal : a ∈ l
    · obtain ⟨hk4, hw5⟩ := hI.ref a hal
      obtain ⟨hrow, hrl, _⟩ := hI.row H.que k
      refine ⟨0, _, _, by omega, by omega, fun _ => hI.pushed hk a hf, fun h0 => absurd rfl h0, fun W hu => ?_, fun W Od' HB => ?_⟩
      · refine (dpush_yes r m pg k a k W (H.upd0 hu).doc rfl hk hal hk4 (by omega) (fun x hx => ⟨(hrow x hx).1, (hrow x hx).2.2⟩) (by omega)).mono fun e w1 he => ?_
        obtain ⟨rfl, O', hd, hs⟩ := he
        exact ⟨rfl, O', Lib.hid ((H.upd0 hu).stepD hd hs)⟩
      · refine (push_yes q h pg k a k W HB.que rfl hk hal hk4 (fun i hx => ha (hI.sub i a hx))).mono fun e w1 he => ?_
        obtain ⟨rfl, O', hq, hs⟩ := he
        exact ⟨rfl, O', Lib.hid (HB.stepQ hq hs)⟩
    · refine ⟨5, F, rows, by omega, by omega, fun h0 => by omega, fun _ => hI, fun W hu => ?_, fun W Od' HB => ?_⟩
      · refine (dpush_kind r m pg k a W (H.upd0 hu).doc ⟨by omega, by omega⟩ (.inl hal)).mono fun e w1 he => ?_
        obtain ⟨rfl, hu2⟩ := he
        exact ⟨rfl, Od, Lib.hid ((H.upd0 hu).upd0 hu2)⟩
      · refine (push_kind q h pg k a W HB.que ⟨by omega, by omega⟩ (.inl hal)).mono fun e w1 he => ?_
        obtain ⟨rfl, hu2⟩ := he
        exact ⟨rfl, Oq, Lib.hid (HB.upd0 hu2)⟩
  · refine ⟨2, F, rows, by omega, by omega, fun h0 => by omega, fun _ => hI, fun W hu => ?_, fun W Od' HB => ?_⟩
    · refine (dpush_none r m pg k a W (H.upd0 hu).doc (.inr (by omega))).mono fun e w1 he => ?_
      obtain ⟨rfl, rfl⟩ := he
      exact ⟨rfl, Od, Lib.hid (H.upd0 hu)⟩
    · refine (push_none q h pg k a W HB.que (.inr (by omega))).mono fun e w1 he => ?_
      obtain ⟨rfl, rfl⟩ := he
      exact ⟨rfl, Oq, Lib.hid HB⟩
/-- Poll, of both. -/
theorem both_poll (H : QB w0 w h q r m pg l F rows F rows Oq Od lv iv ins) (hI : QI l F rows ins) (k : Nat) : ∃ (x e : Int) (F' : Int → Ob) (rows' : List (List Int)), 0 ≤ e ∧ e ≤ 3 ∧ QI l F' rows' (ins.filter fun y => y != x) ∧
    (∀ W, Upd [] w W → Calls Tryz.prog 31 #[.pointer (some ⟨q, 0, none⟩), .int .i64 (k : Int)] W fun u w1 => u = .returned (.tuple #[.int .i64 x, .int .i64 e]) ∧ ∃ Oq', Hid (QB w0 w1 h q r m pg l F' rows' F rows Oq' Od lv iv ins)) ∧
    ∀ W Oq', QB w0 W h q r m pg l F' rows' F rows Oq' Od lv iv ins → Calls Tryz.prog 32 #[.pointer (some ⟨r, 0, none⟩), .int .i64 (k : Int)] W fun u w1 => u = .returned (.agg #[.int .i64 x, .int .i64 e]) ∧ ∃ Od', Hid (QB w0 w1 h q r m pg l F' rows' F' rows' Oq' Od' lv iv ins) := by
  have hz : QI l F rows (ins.filter fun y => y != 0) := ⟨hI.len, hI.pos, hI.ref, fun j x hx => List.mem_filter.2 ⟨hI.sub j x hx, by have := ((hI.row H.que j).1 x hx).2.1; simpa using this⟩, Nat.le_trans (List.length_filter_le _ _) hI.few⟩
  by_cases hk : k < rows.length
  · cases hr : rows.getD k [] with
    | nil =>
      refine ⟨0, 0, F, rows, by omega, by omega, hz, fun W hu => ?_, fun W Oq' HB => ?_⟩
      · refine (poll_empty q h pg k k W (H.upd0 hu).que rfl hk hr).mono fun e w1 he => ?_
        obtain ⟨rfl, rfl⟩ := he
        exact ⟨rfl, Oq, Lib.hid (H.upd0 hu)⟩
      · refine (dpoll_empty r m pg k k W HB.doc rfl hk hr).mono fun e w1 he => ?_
        obtain ⟨rfl, hu⟩ := he
        exact ⟨rfl, Od, Lib.hid (HB.upd0 hu)⟩
    | cons a t =>
      obtain ⟨hrow, hrl, hnd⟩ := hI.row H.que k
      rw [hr] at hrow hrl hnd
      obtain ⟨ha1, ha2, ha3⟩ := hrow a (List.mem_cons_self ..)
      have hlk := H.que.linked
      refine ⟨a, 0, _, _, by omega, by omega, hI.polled hk hr fun i hx => ?_, fun W hu => ?_, fun W Oq' HB => ?_⟩
      · rw [rows_set _ _ _ _ hk] at hx
        split at hx
        · exact (List.nodup_cons.1 hnd).1 hx
        · rename_i hne
          exact hne (hlk.apart i k a hx (by rw [hr]; exact List.mem_cons_self ..))
      · refine (poll_yes q h pg k a t k W (H.upd0 hu).que rfl hk hr).mono fun e w1 he => ?_
        obtain ⟨rfl, O', hq, hs⟩ := he
        exact ⟨rfl, O', Lib.hid ((H.upd0 hu).stepQ hq hs)⟩
      · refine (dpoll_yes r m pg k a t k W HB.doc rfl hk hr ha1 ha3 (by simp at hrl; omega)).mono fun e w1 he => ?_
        obtain ⟨rfl, O', hd, hs⟩ := he
        exact ⟨rfl, O', Lib.hid (HB.stepD hd hs)⟩
  · refine ⟨0, 2, F, rows, by omega, by omega, hz, fun W hu => ?_, fun W Oq' HB => ?_⟩
    · refine (poll_none q h pg k W (H.upd0 hu).que (.inr (by omega))).mono fun e w1 he => ?_
      obtain ⟨rfl, rfl⟩ := he
      exact ⟨rfl, Oq, Lib.hid (H.upd0 hu)⟩
    · refine (dpoll_none r m pg k W HB.doc (.inr (by omega))).mono fun e w1 he => ?_
      obtain ⟨rfl, hu⟩ := he
      exact ⟨rfl, Od, Lib.hid (HB.upd0 hu)⟩
end
end Go.Proofs.YtpkbdmieelgdlaaGreat
