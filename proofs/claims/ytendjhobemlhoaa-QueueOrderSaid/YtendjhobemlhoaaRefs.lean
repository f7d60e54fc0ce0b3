/- References: what they are in memory; the contracts of New, Serial, may, strength. -/
import Derived.Test.YtendjhobemlhoaaP3
namespace Go.Proofs.Ytendjhobemlhoaa
open Go Go.RowKit

/-- References over queues; n of them were made. -/
structure RefL (w : World) (r q h np : Nat) (l : List Int) (F : Int → Ob) (rows : List (List Int)) (n : Nat) (Oq : Nat → Prop) : Prop where
  que : QueO w q h np l F rows Oq
  box : Blk w r 73 #[.pointer (some ⟨q, 0, none⟩), .int .i64 n]
  far : ¬ Oq r
def OwnsR (r : Nat) (Oq : Nat → Prop) (k : Nat) : Prop := Oq k ∨ k = r
def RefO (w : World) (r q h np : Nat) (l : List Int) (F : Int → Ob) (rows : List (List Int)) (n : Nat) (O : Nat → Prop) : Prop := ∃ Oq, RefL w r q h np l F rows n Oq ∧ O = OwnsR r Oq
section
variable {w w' : World} {r q h np n : Nat} {l l' : List Int} {F F' : Int → Ob} {rows rows' : List (List Int)} {O Oq Oq' : Nat → Prop} {E : List Nat}
theorem QueO.box (H : QueO w q h np l F rows O) : w.cell? ⟨q, 0, none⟩ = some (.pointer (some ⟨h, 0, none⟩)) := by obtain ⟨v, Oh, H, rfl⟩ := H; exact H.raw.cells.1
theorem QueO.heap (H : QueO w q h np l F rows O) : ∃ Oh, HeapO w h np l F Oh ∧ ∀ k, Oh k → O k := by obtain ⟨v, Oh, H, rfl⟩ := H; exact ⟨Oh, H.raw.heap, fun k hk => .inl hk⟩
theorem QueO.links (H : QueO w q h np l F rows O) : Linked l F rows := by obtain ⟨v, Oh, H, rfl⟩ := H; exact H.links
theorem RefO.owned (H : RefO w r q h np l F rows n O) {k : Nat} (hk : O k) : k < w.heap.size := by
  obtain ⟨Oq, H, rfl⟩ := H
  rcases hk with hk | rfl
  · exact H.que.owned hk
  · exact H.box.lt
theorem RefO.moved (H : RefO w r q h np l F rows n O) (hb : ∀ k, O k → w'.heap[k]? = w.heap[k]?) : RefO w' r q h np l F rows n O := by
  obtain ⟨Oq, H, rfl⟩ := H
  exact ⟨Oq, ⟨H.que.moved fun k hk => hb k (.inl hk), H.box.moved (hb r (.inr rfl)), H.far⟩, rfl⟩
theorem RefO.upd (H : RefO w r q h np l F rows n O) (hu : Upd E w w') (hE : ∀ k ∈ E, ¬ O k) : RefO w' r q h np l F rows n O := H.moved fun k hk => hu.block k (H.owned hk) fun hm => hE k hm hk
theorem RefO.upd0 (H : RefO w r q h np l F rows n O) (hu : Upd [] w w') : RefO w' r q h np l F rows n O := H.upd hu (by simp)
theorem RefL.cells (H : RefL w r q h np l F rows n Oq) : w.cell? ⟨r, 0, none⟩ = some (.pointer (some ⟨q, 0, none⟩)) ∧ w.cell? ⟨r, 1, none⟩ = some (.int .i64 n) ∧ w.cell? ⟨q, 0, none⟩ = some (.pointer (some ⟨h, 0, none⟩)) ∧ w.frozen? ⟨r, 1, none⟩ = false := ⟨H.box.cell 0, H.box.cell 1, H.que.box, H.box.frozen 1⟩
theorem RefO.cells (H : RefO w r q h np l F rows n O) : w.cell? ⟨r, 0, none⟩ = some (.pointer (some ⟨q, 0, none⟩)) ∧ w.cell? ⟨r, 1, none⟩ = some (.int .i64 n) ∧ w.cell? ⟨q, 0, none⟩ = some (.pointer (some ⟨h, 0, none⟩)) ∧ w.frozen? ⟨r, 1, none⟩ = false := by obtain ⟨Oq, H, rfl⟩ := H; exact H.cells
/-- What the queues have done the references have done. -/
theorem RefL.queued (H : RefL w r q h np l F rows n Oq) (hq : QueO w' q h np l' F' rows' Oq') (hs : StepO Oq w Oq' w') : RefO w' r q h np l' F' rows' n (OwnsR r Oq') ∧ StepO (OwnsR r Oq) w (OwnsR r Oq') w' := by
  refine ⟨⟨Oq', ⟨hq, H.box.moved (hs.block r H.box.lt H.far), fun hx => ?_⟩, rfl⟩, hs.wide (P := fun k => k = r)⟩
  rcases hs.own r hx with h1 | h1
  · exact H.far h1
  · have := H.box.lt; omega
theorem RefO.heap (H : RefO w r q h np l F rows n O) : ∃ Oh, HeapO w h np l F Oh := by
  obtain ⟨Oq, H, rfl⟩ := H
  obtain ⟨Oh, hh, _⟩ := H.que.heap
  exact ⟨Oh, hh⟩
theorem RefO.links (H : RefO w r q h np l F rows n O) : Linked l F rows := by obtain ⟨Oq, H, rfl⟩ := H; exact H.que.links
/-- A field is put that does not lead on. -/
theorem que_put (q h np : Nat) (a i : Int) (j : Nat) (x : Int) (w : World) (H : QueO w q h np l F rows O) (ha : a ∈ l) (hi : i = j) (hj : j < (F a).ws.length) (hx : j = 2 → (F a).ws.getD 2 0 = x) :
    Calls Try.prog 37 #[.pointer (some ⟨h, 0, none⟩), .int .i64 a, .int .i64 i, .int .i64 x] w fun e w' => e = .returned (.int .i64 0) ∧ ∃ O', QueO w' q h np l (putF F a j x) rows O' ∧ StepO O w O' w' := by
  obtain ⟨v, Oh, ⟨H, hl, hf⟩, rfl⟩ := H
  refine (put_yes h np a i j x w H.heap ha hi hj).mono ?_
  rintro e w' ⟨rfl, O', hh, hs⟩
  refine ⟨rfl, _, ⟨v, O', ⟨H.heaped hh hs, hl.congr (fun b hb => hb) (fun b hb => ⟨putF_k .., putF_len .., ?_⟩), hf⟩, rfl⟩, hs.queued⟩
  rw [putF_get]
  split
  · rename_i e
    obtain ⟨rfl, e2, _⟩ := e
    rw [hx e2]
  · rfl
theorem ref_put (r q h np n : Nat) (a i : Int) (j : Nat) (x : Int) (w : World) (H : RefO w r q h np l F rows n O) (ha : a ∈ l) (hi : i = j) (hj : j < (F a).ws.length) (hx : j = 2 → (F a).ws.getD 2 0 = x) :
    Calls Try.prog 37 #[.pointer (some ⟨h, 0, none⟩), .int .i64 a, .int .i64 i, .int .i64 x] w fun e w' => e = .returned (.int .i64 0) ∧ ∃ O', RefO w' r q h np l (putF F a j x) rows n O' ∧ StepO O w O' w' := by
  obtain ⟨Oq, H, rfl⟩ := H
  refine (que_put q h np a i j x w H.que ha hi hj hx).mono ?_
  rintro e w' ⟨rfl, O', hq, hs⟩
  exact ⟨rfl, _, H.queued hq hs⟩

theorem ref_new_nil (w : World) : Calls Try.prog 43 #[.pointer none] w fun e w' => e = .returned (.pointer none) ∧ w = w' := by
  go_enter Try.func43, Try.ntmps43
  go_wp2_with fail
  refine (queue_new_nil _).mono ?_
  rintro e w' ⟨rfl, rfl⟩
  go_wp2_with fail
  go_ret
  exact ⟨rfl, rfl⟩
theorem ref_new (h np : Nat) (w : World) (H : HeapO w h np l F O) : Calls Try.prog 43 #[.pointer (some ⟨h, 0, none⟩)] w fun e w' =>
    ∃ r q O', e = .returned (.pointer (some ⟨r, 0, none⟩)) ∧ RefO w' r q h np l F [] 0 O' ∧ StepO O w O' w' := by
  have HH := Lib.hid H
  clear H
  go_enter Try.func43, Try.ntmps43
  go_wp2_with fail
  refine (queue_new h np _ HH.out).mono ?_
  rintro e w1 ⟨q, O1, rfl, hq, hs⟩
  have HQ := Lib.hid hq
  have HS := Lib.hid hs
  clear hq hs
  go_wp2_with fail
  go_ret
  have hu : Upd [] w1 (w1.alloc (.cells #[.pointer (some ⟨q, 0, none⟩), .int .i64 0] 73)) := (Upd.refl [] w1).alloc _
  have hz := HS.out.size
  refine ⟨w1.heap.size, q, OwnsR w1.heap.size O1, rfl, ⟨O1, ⟨HQ.out.upd0 hu, Blk.new _ _ _, fun hx => by have := HQ.out.owned hx; omega⟩, rfl⟩, ?_⟩
  refine HS.out.trans ⟨hu.os, hu.tape, hu.output, hu.size, fun k hk _ => hu.block k hk (by simp), fun k hk => ?_⟩
  rcases hk with hk | rfl
  · exact .inl hk
  · exact .inr (Nat.le_refl _)
theorem serial_nil (w : World) : Calls Try.prog 42 #[.pointer none] w fun e w' => e = .returned (.int .i64 0) ∧ w = w' := by
  go_enter Try.func42, Try.ntmps42
  go_wp2_with fail
  go_ret
  exact ⟨rfl, rfl⟩
theorem serial_yes (r q h np n : Nat) (w : World) (H : RefO w r q h np l F rows n O) : Calls Try.prog 42 #[.pointer (some ⟨r, 0, none⟩)] w fun e w' => e = .returned (.int .i64 n) ∧ w = w' := by
  obtain ⟨c0, c1, c2, c3⟩ := H.cells
  clear H
  go_enter Try.func42, Try.ntmps42
  go_wp2_with fail
  go_ret
  exact ⟨rfl, rfl⟩

theorem ref_len (r q h np n : Nat) (w : World) (H : RefO w r q h np l F rows n O) : Calls Try.prog 35 #[.pointer (some ⟨q, 0, none⟩)] w fun e w' => e = .returned (.int .i64 rows.length) ∧ w = w' := by
  obtain ⟨Oq, H, rfl⟩ := H
  obtain ⟨v, Oh, H5, rfl⟩ := H.que
  exact queues_len q h np _ w H5.raw
/-- Why a reference may not be made: the three tests ahead of the referent. -/
theorem rmay_arg (r : Nat) (s a b : Int) (w : World) (hs : s < 1 ∨ 3 < s) : Calls Try.prog 62 #[.pointer (some ⟨r, 0, none⟩), .int .i64 s, .int .i64 a, .int .i64 b] w fun e w' => e = .returned (.int .i64 1) ∧ w = w' := by
  rcases hs with h1 | h1
  · go_enter Try.func62, Try.ntmps62
    go_wp2_with fail
    go_ret
    exact ⟨rfl, rfl⟩
  · have h0 : ¬ s < 1 := by omega
    go_enter Try.func62, Try.ntmps62
    go_wp2_with fail
    go_ret
    exact ⟨rfl, rfl⟩
end
end Go.Proofs.Ytendjhobemlhoaa
