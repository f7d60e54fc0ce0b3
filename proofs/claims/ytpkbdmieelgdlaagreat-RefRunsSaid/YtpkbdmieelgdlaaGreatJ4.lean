/- Joined: the references, the program's and the document's, beside each other (the texts RefsP Refs2P Refs3P MkP Dr Dr2 Rf Refs4P Dr3 Refs5P Dr4 Refs6P Dr5 Md13 RB RB2 RR0). -/
import Derived.Test.YtpkbdmieelgdlaaGreatQue4P
import Derived.Test.YtpkbdmieelgdlaaGreatQueueMany0P
import Derived.Test.YtpkbdmieelgdlaaGreatObj2P
import Derived.Test.YtpkbdmieelgdlaaGreatMkAny
import Derived.Test.YtpkbdmieelgdlaaGreatDq5
import Derived.StillTailTactics
import Derived.Test.YtpkbdmieelgdlaaGreatReadsO
import Derived.Deep.CutBlock
import Derived.Deep.DeepCutAuto
import Derived.Deep.LoopGhost
import Derived.Test.YtpkbdmieelgdlaaGreatQR0
namespace Go.Proofs.YtpkbdmieelgdlaaGreat
open Go Go.RowKit

/-- References over queues; n of them were made. -/
structure RefL (w : World) (r q h : Nat) (np : List Pst) (l : List Int) (F : Int → Ob) (rows : List (List Int)) (n : Nat) (Oq : Nat → Prop) : Prop where
  que : QueO w q h np l F rows Oq
  box : Blk w r 83 #[.pointer (some ⟨q, 0, none⟩), .int .i64 n]
  far : ¬ Oq r
def OwnsR (r : Nat) (Oq : Nat → Prop) (k : Nat) : Prop := Oq k ∨ k = r
def RefO (w : World) (r q h : Nat) (np : List Pst) (l : List Int) (F : Int → Ob) (rows : List (List Int)) (n : Nat) (O : Nat → Prop) : Prop := ∃ Oq, RefL w r q h np l F rows n Oq ∧ O = OwnsR r Oq
section
variable {w w' : World} {r q h : Nat} {np : List Pst} {n : Nat} {l l' : List Int} {F F' : Int → Ob} {rows rows' : List (List Int)} {O Oq Oq' : Nat → Prop} {E : List Nat}
theorem QueO.box (H : QueO w q h np l F rows O) : w.cell? ⟨q, 0, none⟩ = some (.pointer (some ⟨h, 0, none⟩)) := by obtain ⟨v, Oh, H, rfl⟩ := H; exact H.raw.cells.1
theorem QueO.heap (H : QueO w q h np l F rows O) : ∃ Oh, HeapO w h np l F Oh ∧ ∀ k, Oh k → O k := by obtain ⟨v, Oh, H, rfl⟩ := H; exact ⟨Oh, H.raw.heap, fun k hk => .inl hk⟩
theorem QueO.links (H : QueO w q h np l F rows O) : Linked l F rows := by obtain ⟨v, Oh, H, rfl⟩ := H; exact H.links
theorem RefO.owned (H : RefO w r q h np l F rows n O) {k : Nat} (hk : O k) : k < w.heap.size := by
  obtain ⟨Oq, H, rfl⟩ := H
  rcases hk with hk | rfl
  · exact H.que.owned hk
  · exact H.box.lt
theorem RefO.moved (H : RefO w r q h np l F rows n O) (hb : ∀ k, O k → w'.heap[k]? = w.heap[k]?) : RefO w' r q h np l F rows n O := by
  obtain ⟨Oq, H, rfl⟩ := H
  exact ⟨Oq, ⟨H.que.moved fun k hk => hb k (.inl hk), H.box.moved (hb r (.inr rfl)), H.far⟩, rfl⟩
theorem RefO.upd (H : RefO w r q h np l F rows n O) (hu : Upd E w w') (hE : ∀ k ∈ E, ¬ O k) : RefO w' r q h np l F rows n O := H.moved fun k hk => hu.block k (H.owned hk) fun hm => hE k hm hk
theorem RefO.upd0 (H : RefO w r q h np l F rows n O) (hu : Upd [] w w') : RefO w' r q h np l F rows n O := H.upd hu (by simp)
theorem RefL.cells (H : RefL w r q h np l F rows n Oq) : w.cell? ⟨r, 0, none⟩ = some (.pointer (some ⟨q, 0, none⟩)) ∧ w.cell? ⟨r, 1, none⟩ = some (.int .i64 n) ∧ w.cell? ⟨q, 0, none⟩ = some (.pointer (some ⟨h, 0, none⟩)) ∧ w.frozen? ⟨r, 1, none⟩ = false := ⟨H.box.cell 0, H.box.cell 1, H.que.box, H.box.frozen 1⟩
theorem RefO.cells (H : RefO w r q h np l F rows n O) : w.cell? ⟨r, 0, none⟩ = some (.pointer (some ⟨q, 0, none⟩)) ∧ w.cell? ⟨r, 1, none⟩ = some (.int .i64 n) ∧ w.cell? ⟨q, 0, none⟩ = some (.pointer (some ⟨h, 0, none⟩)) ∧ w.frozen? ⟨r, 1, none⟩ = false := by obtain ⟨Oq, H, rfl⟩ := H; exact H.cells
/-- What the queues have done the references have done. -/
theorem RefL.queued {np' : List Pst} (H : RefL w r q h np l F rows n Oq) (hq : QueO w' q h np' l' F' rows' Oq') (hs : StepO Oq w Oq' w') : RefO w' r q h np' l' F' rows' n (OwnsR r Oq') ∧ StepO (OwnsR r Oq) w (OwnsR r Oq') w' := by
  refine ⟨⟨Oq', ⟨hq, H.box.moved (hs.block r H.box.lt H.far), fun hx => ?_⟩, rfl⟩, hs.wide (P := fun k => k = r)⟩
  rcases hs.own r hx with h1 | h1
  · exact H.far h1
  · have := H.box.lt; omega
theorem RefO.heap (H : RefO w r q h np l F rows n O) : ∃ Oh, HeapO w h np l F Oh := by
  obtain ⟨Oq, H, rfl⟩ := H
  obtain ⟨Oh, hh, _⟩ := H.que.heap
  exact ⟨Oh, hh⟩
theorem RefO.links (H : RefO w r q h np l F rows n O) : Linked l F rows := by obtain ⟨Oq, H, rfl⟩ := H; exact H.que.links
/-- A field is put that does not lead on. -/
theorem que_put (q h : Nat) (np : List Pst) (a i : Int) (j : Nat) (x : Int) (w : World) (H : QueO w q h np l F rows O) (ha : a ∈ l) (hi : i = j) (hj : j < (F a).ws.length) (hx : j = 2 → (F a).ws.getD 2 0 = x) :
    Calls Tryz.prog 71 #[.pointer (some ⟨h, 0, none⟩), .int .i64 a, .int .i64 i, .int .i64 x] w fun e w' => e = .returned (.int .i64 0) ∧ ∃ O', QueO w' q h np l (putF F a j x) rows O' ∧ StepO O w O' w' := by
  obtain ⟨v, Oh, ⟨H, hl, hf⟩, rfl⟩ := H
  refine (put_yes h np a i j x w H.heap ha hi hj).mono ?_
  rintro e w' ⟨rfl, O', hh, hs⟩
  refine ⟨rfl, _, ⟨v, O', ⟨H.heaped hh hs, hl.congr (fun b hb => hb) (fun b hb => ⟨putF_k .., putF_len .., ?_⟩), hf⟩, rfl⟩, hs.queued⟩
  rw [putF_get]
  split
  · rename_i e
    obtain ⟨rfl, e2, _⟩ := e
    rw [hx e2]
  · rfl
theorem ref_put (r q h : Nat) (np : List Pst) (n : Nat) (a i : Int) (j : Nat) (x : Int) (w : World) (H : RefO w r q h np l F rows n O) (ha : a ∈ l) (hi : i = j) (hj : j < (F a).ws.length) (hx : j = 2 → (F a).ws.getD 2 0 = x) :
    Calls Tryz.prog 71 #[.pointer (some ⟨h, 0, none⟩), .int .i64 a, .int .i64 i, .int .i64 x] w fun e w' => e = .returned (.int .i64 0) ∧ ∃ O', RefO w' r q h np l (putF F a j x) rows n O' ∧ StepO O w O' w' := by
  obtain ⟨Oq, H, rfl⟩ := H
  refine (que_put q h np a i j x w H.que ha hi hj hx).mono ?_
  rintro e w' ⟨rfl, O', hq, hs⟩
  exact ⟨rfl, _, H.queued hq hs⟩

theorem ref_new_nil (w : World) : Calls Tryz.prog 72 #[.pointer none] w fun e w' => e = .returned (.pointer none) ∧ w = w' := by
  go_enter Tryz.func72, Tryz.ntmps72
  go_wp2_with fail
  refine (queue_new_nil _).mono ?_
  rintro e w' ⟨rfl, rfl⟩
  go_wp2_with fail
  go_ret
  exact ⟨rfl, rfl⟩
theorem ref_new (h : Nat) (np : List Pst) (w : World) (H : HeapO w h np l F O) : Calls Tryz.prog 72 #[.pointer (some ⟨h, 0, none⟩)] w fun e w' =>
    ∃ r q O', e = .returned (.pointer (some ⟨r, 0, none⟩)) ∧ RefO w' r q h np l F [] 0 O' ∧ StepO O w O' w' := by
  have HH := Lib.hid H
  clear H
  go_enter Tryz.func72, Tryz.ntmps72
  go_wp2_with fail
  refine (queue_new h np _ HH.out).mono ?_
  rintro e w1 ⟨q, O1, rfl, hq, hs⟩
  have HQ := Lib.hid hq
  have HS := Lib.hid hs
  clear hq hs
  go_wp2_with fail
  go_ret
  have hu : Upd [] w1 (w1.alloc (.cells #[.pointer (some ⟨q, 0, none⟩), .int .i64 0] 83)) := (Upd.refl [] w1).alloc _
  have hz := HS.out.size
  refine ⟨w1.heap.size, q, OwnsR w1.heap.size O1, rfl, ⟨O1, ⟨HQ.out.upd0 hu, Blk.new _ _ _, fun hx => by have := HQ.out.owned hx; omega⟩, rfl⟩, ?_⟩
  refine HS.out.trans ⟨hu.os, hu.tape, hu.output, hu.size, fun k hk _ => hu.block k hk (by simp), fun k hk => ?_⟩
  rcases hk with hk | rfl
  · exact .inl hk
  · exact .inr (Nat.le_refl _)
theorem serial_nil (w : World) : Calls Tryz.prog 46 #[.pointer none] w fun e w' => e = .returned (.int .i64 0) ∧ w = w' := by
  go_enter Tryz.func46, Tryz.ntmps46
  go_wp2_with fail
  go_ret
  exact ⟨rfl, rfl⟩
theorem serial_yes (r q h : Nat) (np : List Pst) (n : Nat) (w : World) (H : RefO w r q h np l F rows n O) : Calls Tryz.prog 46 #[.pointer (some ⟨r, 0, none⟩)] w fun e w' => e = .returned (.int .i64 n) ∧ w = w' := by
  obtain ⟨c0, c1, c2, c3⟩ := H.cells
  clear H
  go_enter Tryz.func46, Tryz.ntmps46
  go_wp2_with fail
  go_ret
  exact ⟨rfl, rfl⟩

theorem ref_len (r q h : Nat) (np : List Pst) (n : Nat) (w : World) (H : RefO w r q h np l F rows n O) : Calls Tryz.prog 33 #[.pointer (some ⟨q, 0, none⟩)] w fun e w' => e = .returned (.int .i64 rows.length) ∧ w = w' := by
  obtain ⟨Oq, H, rfl⟩ := H
  obtain ⟨v, Oh, H5, rfl⟩ := H.que
  exact queues_len q h np _ w H5.raw
/-- Why a reference may not be made: the three tests ahead of the referent. -/
theorem rmay_arg (r : Nat) (s a b : Int) (w : World) (hs : s < 1 ∨ 3 < s) : Calls Tryz.prog 73 #[.pointer (some ⟨r, 0, none⟩), .int .i64 s, .int .i64 a, .int .i64 b] w fun e w' => e = .returned (.int .i64 1) ∧ w = w' := by
  rcases hs with h1 | h1
  · go_enter Tryz.func73, Tryz.ntmps73
    go_wp2_with fail
    go_ret
    exact ⟨rfl, rfl⟩
  · have h0 : ¬ s < 1 := by omega
    go_enter Tryz.func73, Tryz.ntmps73
    go_wp2_with fail
    go_ret
    exact ⟨rfl, rfl⟩
end
end Go.Proofs.YtpkbdmieelgdlaaGreat
namespace Go.Proofs.YtpkbdmieelgdlaaGreat
open Go Go.RowKit

section
variable {l : List Int} {F : Int → Ob} {rows : List (List Int)} {O : Nat → Prop}
theorem rmay_none (r q h : Nat) (np : List Pst) (n : Nat) (s a b : Int) (w : World) (H : RefO w r q h np l F rows n O) (hs : 1 ≤ s ∧ s ≤ 3) (hb : b < -1 ∨ rows.length ≤ b) : Calls Tryz.prog 73 #[.pointer (some ⟨r, 0, none⟩), .int .i64 s, .int .i64 a, .int .i64 b] w fun e w' => e = .returned (.int .i64 2) ∧ w = w' := by
  obtain ⟨s1, s2⟩ := hs
  obtain ⟨c0, c1, c2, c3⟩ := H.cells
  have HL := Lib.hid (ref_len r q h np n w H)
  generalize hm : rows.length = m at *
  have hm8 : m ≤ 8 := by
    obtain ⟨Oq, H5, _⟩ := H
    obtain ⟨v, Oh, H6, _⟩ := H5.que
    have := H6.few
    omega
  clear hm
  clear H
  have n1 : ¬ s < 1 := by omega
  have n2 : ¬ 3 < s := by omega
  by_cases h1 : b < -1
  · clear hb
    go_enter Tryz.func73, Tryz.ntmps73
    go_wp2_with fail
    go_ret
    exact ⟨rfl, rfl⟩
  · have h2 : (m : Int) ≤ b := by omega
    clear hb
    go_enter Tryz.func73, Tryz.ntmps73
    go_wp2_with fail
    refine (HL.out).mono ?_
    rintro e w' ⟨rfl, rfl⟩
    go_wp2_with fail
    go_ret
    exact ⟨rfl, rfl⟩
theorem rmay_phantom (r q h : Nat) (np : List Pst) (n : Nat) (a : Int) (w : World) (H : RefO w r q h np l F rows n O) : Calls Tryz.prog 73 #[.pointer (some ⟨r, 0, none⟩), .int .i64 3, .int .i64 a, .int .i64 (-1)] w fun e w' => e = .returned (.int .i64 1) ∧ w = w' := by
  obtain ⟨c0, c1, c2, c3⟩ := H.cells
  have HL := Lib.hid (ref_len r q h np n w H)
  generalize hm : rows.length = m at *
  have hm8 : m ≤ 8 := by
    obtain ⟨Oq, H5, _⟩ := H
    obtain ⟨v, Oh, H6, _⟩ := H5.que
    have := H6.few
    omega
  clear hm
  clear H
  have h2 : ¬ (m : Int) ≤ -1 := by omega
  go_enter Tryz.func73, Tryz.ntmps73
  go_wp2_with fail
  refine (HL.out).mono ?_
  rintro e w' ⟨rfl, rfl⟩
  go_wp2_with fail
  go_ret
  exact ⟨rfl, rfl⟩
theorem rmay_head (r q h : Nat) (np : List Pst) (n : Nat) (s a b : Int) (w : World) (H : RefO w r q h np l F rows n O) (hs : 1 ≤ s ∧ s ≤ 3) (hb : -1 ≤ b ∧ b < rows.length) (hp : s ≠ 3 ∨ 0 ≤ b) (ha : a ∉ l) :
    Calls Tryz.prog 73 #[.pointer (some ⟨r, 0, none⟩), .int .i64 s, .int .i64 a, .int .i64 b] w fun e w' => e = .returned (.int .i64 2) ∧ Upd [] w w' := by
  obtain ⟨s1, s2⟩ := hs
  obtain ⟨Oh, hh⟩ := H.heap
  have HH := Lib.hid (head_no h np a w hh ha)
  clear hh ha
  obtain ⟨c0, c1, c2, c3⟩ := H.cells
  have HL := Lib.hid (ref_len r q h np n w H)
  generalize hm : rows.length = m at *
  have hm8 : m ≤ 8 := by
    obtain ⟨Oq, H5, _⟩ := H
    obtain ⟨v, Oh, H6, _⟩ := H5.que
    have := H6.few
    omega
  clear hm
  by_cases h3 : s = 3
  · subst h3
    have hb0 : ¬ b < 0 := by omega
    have hb1 : 0 ≤ b := by omega
    clear hp s1 s2
    clear H
    have n3 : ¬ b < -1 := by omega
    have n4 : ¬ (m : Int) ≤ b := by omega
    go_enter Tryz.func73, Tryz.ntmps73
    go_wp2_with fail
    refine (HL.out).mono ?_
    rintro e w' ⟨rfl, rfl⟩
    go_wp2_with fail
    refine (HH.out).mono ?_
    rintro e w1 ⟨rfl, hu⟩
    have HU := Lib.hid hu
    clear hu
    go_wp2_with fail
    go_ret
    exact ⟨rfl, HU.out.alloc _⟩
  · clear hp
    clear H
    have n1 : ¬ s < 1 := by omega
    have n2 : ¬ 3 < s := by omega
    have n3 : ¬ b < -1 := by omega
    have n4 : ¬ (m : Int) ≤ b := by omega
    have n5 : b < m := by omega
    go_enter Tryz.func73, Tryz.ntmps73
    go_wp2_with fail
    refine (HL.out).mono ?_
    rintro e w' ⟨rfl, rfl⟩
    go_wp2_with fail
    refine (HH.out).mono ?_
    rintro e w1 ⟨rfl, hu⟩
    have HU := Lib.hid hu
    clear hu
    go_wp2_with fail
    go_ret
    exact ⟨rfl, HU.out.alloc _⟩
theorem rmay_yes (r q h : Nat) (np : List Pst) (n : Nat) (s a b : Int) (w : World) (H : RefO w r q h np l F rows n O) (hs : 1 ≤ s ∧ s ≤ 3) (hb : -1 ≤ b ∧ b < rows.length) (hp : s ≠ 3 ∨ 0 ≤ b) (ha : a ∈ l) :
    Calls Tryz.prog 73 #[.pointer (some ⟨r, 0, none⟩), .int .i64 s, .int .i64 a, .int .i64 b] w fun e w' => e = .returned (.int .i64 0) ∧ Upd [] w w' := by
  obtain ⟨s1, s2⟩ := hs
  obtain ⟨Oh, hh⟩ := H.heap
  have hq := head_yes h np a (F a).k (F a).c (F a).ws.length (F a).f w hh ha rfl
  generalize (F a).k = k at *
  generalize (F a).c = c at *
  generalize (F a).f = f at *
  generalize (F a).ws.length = len at *
  have HH := Lib.hid hq
  clear hh ha hq
  obtain ⟨c0, c1, c2, c3⟩ := H.cells
  have HL := Lib.hid (ref_len r q h np n w H)
  generalize hm : rows.length = m at *
  have hm8 : m ≤ 8 := by
    obtain ⟨Oq, H5, _⟩ := H
    obtain ⟨v, Oh, H6, _⟩ := H5.que
    have := H6.few
    omega
  clear hm
  by_cases h3 : s = 3
  · subst h3
    have hb0 : ¬ b < 0 := by omega
    have hb1 : 0 ≤ b := by omega
    clear hp s1 s2
    clear H
    have n3 : ¬ b < -1 := by omega
    have n4 : ¬ (m : Int) ≤ b := by omega
    go_enter Tryz.func73, Tryz.ntmps73
    go_wp2_with fail
    refine (HL.out).mono ?_
    rintro e w' ⟨rfl, rfl⟩
    go_wp2_with fail
    refine (HH.out).mono ?_
    rintro e w1 ⟨rfl, hu⟩
    have HU := Lib.hid hu
    clear hu
    go_wp2_with fail
    go_ret
    exact ⟨rfl, HU.out.alloc _⟩
  · clear hp
    clear H
    have n1 : ¬ s < 1 := by omega
    have n2 : ¬ 3 < s := by omega
    have n3 : ¬ b < -1 := by omega
    have n4 : ¬ (m : Int) ≤ b := by omega
    have n5 : b < m := by omega
    go_enter Tryz.func73, Tryz.ntmps73
    go_wp2_with fail
    refine (HL.out).mono ?_
    rintro e w' ⟨rfl, rfl⟩
    go_wp2_with fail
    refine (HH.out).mono ?_
    rintro e w1 ⟨rfl, hu⟩
    have HU := Lib.hid hu
    clear hu
    go_wp2_with fail
    go_ret
    exact ⟨rfl, HU.out.alloc _⟩

theorem strength_nil (a : Int) (w : World) : Calls Tryz.prog 75 #[.pointer none, .int .i64 a] w fun e w' => e = .returned (.tuple #[.int .i64 0, .int .i64 5]) ∧ w = w' := by
  go_enter Tryz.func75, Tryz.ntmps75
  go_wp2_with fail
  go_ret2
  exact ⟨rfl, rfl⟩
theorem strength_no (r q h : Nat) (np : List Pst) (n : Nat) (a : Int) (w : World) (H : RefO w r q h np l F rows n O) (ha : a ∉ l ∨ a ∈ l ∧ (F a).k ≠ 4) : Calls Tryz.prog 75 #[.pointer (some ⟨r, 0, none⟩), .int .i64 a] w fun e w' => e = .returned (.tuple #[.int .i64 0, .int .i64 5]) ∧ Upd [] w w' := by
  obtain ⟨Oh, hh⟩ := H.heap
  obtain ⟨c0, c1, c2, c3⟩ := H.cells
  rcases ha with ha | ⟨ha, hk⟩
  · have HH := Lib.hid (head_no h np a w hh ha)
    clear hh ha H
    go_enter Tryz.func75, Tryz.ntmps75
    go_wp2_with fail
    refine (HH.out).mono ?_
    rintro e w1 ⟨rfl, hu⟩
    have HU := Lib.hid hu
    clear hu
    go_wp2_with fail
    go_ret2
    exact ⟨rfl, HU.out.alloc _⟩
  · have hq := head_yes h np a (F a).k (F a).c (F a).ws.length (F a).f w hh ha rfl
    generalize (F a).k = k at *
    generalize (F a).c = c at *
    generalize (F a).f = f at *
    generalize (F a).ws.length = len at *
    have HH := Lib.hid hq
    clear hh ha hq H
    go_enter Tryz.func75, Tryz.ntmps75
    go_wp2_with fail
    refine (HH.out).mono ?_
    rintro e w1 ⟨rfl, hu⟩
    have HU := Lib.hid hu
    clear hu
    go_wp2_with fail
    go_ret2
    exact ⟨rfl, HU.out.alloc _⟩
theorem strength_yes (r q h : Nat) (np : List Pst) (n : Nat) (a c : Int) (w : World) (H : RefO w r q h np l F rows n O) (ha : a ∈ l) (hk : (F a).k = 4) (hc : (F a).c = c) : Calls Tryz.prog 75 #[.pointer (some ⟨r, 0, none⟩), .int .i64 a] w fun e w' => e = .returned (.tuple #[.int .i64 c, .int .i64 0]) ∧ Upd [] w w' := by
  obtain ⟨Oh, hh⟩ := H.heap
  obtain ⟨c0, c1, c2, c3⟩ := H.cells
  have hq := head_yes h np a (F a).k (F a).c (F a).ws.length (F a).f w hh ha rfl
  rw [hk, hc] at hq
  generalize (F a).f = f at *
  generalize (F a).ws.length = len at *
  have HH := Lib.hid hq
  clear hh ha hq H hc hk
  go_enter Tryz.func75, Tryz.ntmps75
  go_wp2_with fail
  refine (HH.out).mono ?_
  rintro e w1 ⟨rfl, hu⟩
  have HU := Lib.hid hu
  clear hu
  go_wp2_with fail
  go_ret2
  exact ⟨rfl, HU.out.alloc _⟩
end
end Go.Proofs.YtpkbdmieelgdlaaGreat
namespace Go.Proofs.YtpkbdmieelgdlaaGreat
open Go Go.RowKit

theorem putF_fset (F : Int → Ob) (a : Int) (o : Ob) (j : Nat) (x : Int) : putF (fset F a o) a j x = fset F a { o with ws := o.ws.set j x } := by
  unfold putF
  rw [fset_same]
  funext y
  unfold fset
  split <;> rfl
section
variable {l : List Int} {F : Int → Ob} {rows : List (List Int)} {O : Nat → Prop}
theorem ref_make (r q h : Nat) (np : List Pst) (m : Nat) (k c : Int) (n : Nat) (w : World) (H : RefO w r q h np l F rows m O) (hm : mayB k c n false = true) (hk : k ≠ 1) (hn : n ≤ 31) (hroom : l.length + 1 < np.length) :
    Calls Tryz.prog 51 #[.pointer (some ⟨h, 0, none⟩), .agg #[.int .i64 k, .int .i64 c, .int .i64 n, .bool false]] w fun e w' =>
      ∃ a pg O', allocP np ((n : Int) + 1) = (pg, a) ∧ e = .returned (.tuple #[.int .i64 a, .int .i64 0]) ∧ 64 ≤ a ∧ a ≤ 16384 ∧ a ∉ l ∧ pg.length = np.length ∧ RefO w' r q h pg (l ++ [a]) (fset F a ⟨k, c, false, List.replicate n 0⟩) rows m O' ∧ StepO O w O' w' := by
  obtain ⟨Oq, H, rfl⟩ := H
  refine (que_make q h np k c n w H.que hm hk hn hroom).mono ?_
  rintro e w' ⟨a, pg, O', hal, rfl, h1, h2, h3, hln, hq, hs⟩
  exact ⟨a, pg, _, hal, rfl, h1, h2, h3, hln, H.queued hq hs⟩
theorem RefO.serial {w : World} {r q h : Nat} {np : List Pst} {n : Nat} (H : RefO w r q h np l F rows n O) (m : Nat) : RefO (w.setCell ⟨r, 1, none⟩ (.int .i64 m)) r q h np l F rows m O ∧ O r := by
  obtain ⟨Oq, H, rfl⟩ := H
  exact ⟨⟨Oq, ⟨H.que.moved fun k hk => Below.heap_setCell _ _ _ _ (fun e => H.far (by rw [← show k = r from e]; exact hk)), H.box.set_ 1 _, H.far⟩, rfl⟩, .inr rfl⟩
theorem refer_nil (s a b c : Int) (w : World) : Calls Tryz.prog 38 #[.pointer none, .int .i64 s, .int .i64 a, .int .i64 b, .int .i64 c] w fun e w' => e = .returned (.tuple #[.int .i64 0, .int .i64 2]) ∧ w = w' := by
  go_enter Tryz.func38, Tryz.ntmps38
  go_wp2_with fail
  go_ret2
  exact ⟨rfl, rfl⟩
/-- What may says is told. -/
theorem refer_no (r : Nat) (s a b c y : Int) (w : World) (hy : y = 1 ∨ y = 2) (hm : Calls Tryz.prog 73 #[.pointer (some ⟨r, 0, none⟩), .int .i64 s, .int .i64 a, .int .i64 b] w fun e w' => e = .returned (.int .i64 y) ∧ Upd [] w w') :
    Calls Tryz.prog 38 #[.pointer (some ⟨r, 0, none⟩), .int .i64 s, .int .i64 a, .int .i64 b, .int .i64 c] w fun e w' => e = .returned (.tuple #[.int .i64 0, .int .i64 y]) ∧ Upd [] w w' := by
  have HM := Lib.hid hm
  clear hm
  have hy0 : y ≠ 0 := by omega
  clear hy
  go_enter Tryz.func38, Tryz.ntmps38
  go_wp2_with fail
  refine (HM.out).mono ?_
  rintro e w1 ⟨rfl, hu⟩
  have HU := Lib.hid hu
  clear hu
  go_wp2_with fail
  go_ret2
  exact ⟨rfl, HU.out⟩

theorem arr_at (a b c d e : Int) (i : Nat) (hi : i < 5) (W : World) : (Instr.index 125 (.agg #[.int .i64 a, .int .i64 b, .int .i64 c, .int .i64 d, .int .i64 e]) (.int .i64 i)).run Tryz.prog W = .ok (.int .i64 ([a, b, c, d, e].getD i 0)) W := by
  have : i = 0 ∨ i = 1 ∨ i = 2 ∨ i = 3 ∨ i = 4 := by omega
  rcases this with rfl | rfl | rfl | rfl | rfl
  all_goals simp [Instr.index, run_underlying Tryz.underlying125, asIntOf, go_sem]
def valsR (a b c : Int) (n : Nat) : List Int := [a, b + 1, 0, c, (n : Int) + 1]
def partR (F : Int → Ob) (at_ s a b c : Int) (n k : Nat) : Int → Ob := fset F at_ ⟨4, s, false, (valsR a b c n).take k ++ List.replicate (5 - k) 0⟩
set_option maxRecDepth 100000 in
set_option maxHeartbeats 6400000 in
theorem refer_yes (r q h : Nat) (np : List Pst) (n : Nat) (s a b c : Int) (w : World) (H : RefO w r q h np l F rows n O) (hs : 1 ≤ s ∧ s ≤ 3) (hb : -1 ≤ b ∧ b < rows.length) (hp : s ≠ 3 ∨ 0 ≤ b) (ha : a ∈ l) (hroom : l.length + 1 < np.length) (hn : n ≤ 1000000) :
    Calls Tryz.prog 38 #[.pointer (some ⟨r, 0, none⟩), .int .i64 s, .int .i64 a, .int .i64 b, .int .i64 c] w fun e w' =>
      ∃ x pg O', allocP np 6 = (pg, x) ∧ e = .returned (.tuple #[.int .i64 x, .int .i64 0]) ∧ x ∉ l ∧ pg.length = np.length ∧ RefO w' r q h pg (l ++ [x]) (fset F x ⟨4, s, false, valsR a b c n⟩) rows (n + 1) O' ∧ StepO O w O' w' := by
  have HM := Lib.hid (rmay_yes r q h np n s a b w H hs hb hp ha)
  have hb8 : b ≤ 8 := by
    obtain ⟨Oq, H5, _⟩ := H
    obtain ⟨v, Oh, H6, _⟩ := H5.que
    have := H6.few
    omega
  have hb1 := hb.1
  have HR := Lib.hid H
  have HKM := Lib.hid (kref_may s hs.1 hs.2)
  have HROOM := Lib.hid hroom
  clear H hs hb hp ha hroom
  go_enter Tryz.func38, Tryz.ntmps38
  go_wp2_with fail
  refine (HM.out).mono ?_
  rintro e w1 ⟨rfl, hu⟩
  have HR1 := Lib.hid (HR.out.upd0 hu)
  have HU := Lib.hid hu
  clear hu
  obtain ⟨c0, c1, c2, c3⟩ := HR1.out.cells
  go_wp2_with fail
  refine (ref_make r q h np n 4 s 5 _ HR1.out HKM.out (by omega) (by omega) HROOM.out).mono ?_
  rintro e w2 ⟨at_, pg, O2, hal, rfl, hx1, hx2, hx3, hln, hr, hs⟩
  clear c0 c1 c2 c3
  obtain ⟨c0, c1, c2, c3⟩ := hr.cells
  have HR2 := Lib.hid hr
  have HS2 := Lib.hid (StepO.behind HU.out hs)
  have HX := Lib.hid hx3
  have HAL : Hid (allocP np 6 = (pg, at_)) := Lib.hid hal
  have HLN := Lib.hid hln
  have hser := hr.serial (n + 1)
  have HR3 := Lib.hid hser.1
  have HS3 := Lib.hid (HS2.out.setCell (p := ⟨r, 1, none⟩) hser.2 (.int .i64 ((n + 1 : Nat) : Int)))
  clear hr hs hx3 hser hal hln
  go_wp2_with fail
  have HCAST : Hid (((n + 1 : Nat) : Int) = (n : Int) + 1) := Lib.hid (by omega)
  rw [HCAST.out] at HR3 HS3
  go_loopg [59] 5 (fun gk i wr => ∃ (k : Nat) (O' : Nat → Prop), gk = 5 - k ∧ k ≤ 5 ∧ i = .int .i64 k ∧ Hid (RefO wr r q h pg (l ++ [at_]) (partR F at_ s a b c n k) rows (n + 1) O') ∧ Hid (StepO O w O' wr))
  case atStart => exact ⟨0, O2, rfl, by omega, rfl, HR3, HS3⟩
  case round =>
    clear HR HM HR1 HU HR2 HS2 HR3 HS3 c0 c1 c2 c3
    obtain ⟨k, O', rfl, hk, rfl, HR, HS⟩ := hrel
    have HAT : Hid (at_ ∈ l ++ [at_]) := Lib.hid (by simp)
    obtain ⟨c0, c1, c2, c3⟩ := HR.out.cells
    rcases (show k = 0 ∨ k = 1 ∨ k = 2 ∨ k = 3 ∨ k = 4 ∨ k = 5 by omega) with rfl | rfl | rfl | rfl | rfl | rfl
    · have hix : ∀ W, (Instr.index 125 (.agg #[.int .i64 a, .int .i64 (b + 1), .int .i64 0, .int .i64 c, .int .i64 ((n : Int) + 1)]) (.int .i64 0)).run Tryz.prog W = .ok (.int .i64 a) W := fun W => arr_at a (b + 1) 0 c ((n : Int) + 1) 0 (by omega) W
      go_wp2_with fail
      refine (ref_put r q h pg (n + 1) at_ 0 0 a wr HR.out HAT.out rfl (by unfold partR; rw [fset_same]; simp [valsR]) (fun e => by unfold partR; rw [fset_same]; first | omega | rfl)).mono ?_
      rintro e w5 ⟨rfl, O5, hr, hs⟩
      have hr' : RefO w5 r q h pg (l ++ [at_]) (partR F at_ s a b c n (0 + 1)) rows (n + 1) O5 := by
        unfold partR at hr
        rw [putF_fset] at hr
        exact hr
      have HR5 := Lib.hid hr'
      have HS5 := Lib.hid (HS.out.trans hs)
      clear hr hr' hs
      go_wp2_with fail
      go_roundg (5 - (0 + 1))
      case measure => omega
      case rel => exact ⟨0 + 1, O5, rfl, by omega, by go_num, HR5, HS5⟩
    · have hix : ∀ W, (Instr.index 125 (.agg #[.int .i64 a, .int .i64 (b + 1), .int .i64 0, .int .i64 c, .int .i64 ((n : Int) + 1)]) (.int .i64 1)).run Tryz.prog W = .ok (.int .i64 (b + 1)) W := fun W => arr_at a (b + 1) 0 c ((n : Int) + 1) 1 (by omega) W
      go_wp2_with fail
      refine (ref_put r q h pg (n + 1) at_ 1 1 (b + 1) wr HR.out HAT.out rfl (by unfold partR; rw [fset_same]; simp [valsR]) (fun e => by unfold partR; rw [fset_same]; first | omega | rfl)).mono ?_
      rintro e w5 ⟨rfl, O5, hr, hs⟩
      have hr' : RefO w5 r q h pg (l ++ [at_]) (partR F at_ s a b c n (1 + 1)) rows (n + 1) O5 := by
        unfold partR at hr
        rw [putF_fset] at hr
        exact hr
      have HR5 := Lib.hid hr'
      have HS5 := Lib.hid (HS.out.trans hs)
      clear hr hr' hs
      go_wp2_with fail
      go_roundg (5 - (1 + 1))
      case measure => omega
      case rel => exact ⟨1 + 1, O5, rfl, by omega, by go_num, HR5, HS5⟩
    · have hix : ∀ W, (Instr.index 125 (.agg #[.int .i64 a, .int .i64 (b + 1), .int .i64 0, .int .i64 c, .int .i64 ((n : Int) + 1)]) (.int .i64 2)).run Tryz.prog W = .ok (.int .i64 0) W := fun W => arr_at a (b + 1) 0 c ((n : Int) + 1) 2 (by omega) W
      go_wp2_with fail
      refine (ref_put r q h pg (n + 1) at_ 2 2 0 wr HR.out HAT.out rfl (by unfold partR; rw [fset_same]; simp [valsR]) (fun e => by unfold partR; rw [fset_same]; first | omega | rfl)).mono ?_
      rintro e w5 ⟨rfl, O5, hr, hs⟩
      have hr' : RefO w5 r q h pg (l ++ [at_]) (partR F at_ s a b c n (2 + 1)) rows (n + 1) O5 := by
        unfold partR at hr
        rw [putF_fset] at hr
        exact hr
      have HR5 := Lib.hid hr'
      have HS5 := Lib.hid (HS.out.trans hs)
      clear hr hr' hs
      go_wp2_with fail
      go_roundg (5 - (2 + 1))
      case measure => omega
      case rel => exact ⟨2 + 1, O5, rfl, by omega, by go_num, HR5, HS5⟩
    · have hix : ∀ W, (Instr.index 125 (.agg #[.int .i64 a, .int .i64 (b + 1), .int .i64 0, .int .i64 c, .int .i64 ((n : Int) + 1)]) (.int .i64 3)).run Tryz.prog W = .ok (.int .i64 c) W := fun W => arr_at a (b + 1) 0 c ((n : Int) + 1) 3 (by omega) W
      go_wp2_with fail
      refine (ref_put r q h pg (n + 1) at_ 3 3 c wr HR.out HAT.out rfl (by unfold partR; rw [fset_same]; simp [valsR]) (fun e => by unfold partR; rw [fset_same]; first | omega | rfl)).mono ?_
      rintro e w5 ⟨rfl, O5, hr, hs⟩
      have hr' : RefO w5 r q h pg (l ++ [at_]) (partR F at_ s a b c n (3 + 1)) rows (n + 1) O5 := by
        unfold partR at hr
        rw [putF_fset] at hr
        exact hr
      have HR5 := Lib.hid hr'
      have HS5 := Lib.hid (HS.out.trans hs)
      clear hr hr' hs
      go_wp2_with fail
      go_roundg (5 - (3 + 1))
      case measure => omega
      case rel => exact ⟨3 + 1, O5, rfl, by omega, by go_num, HR5, HS5⟩
    · have hix : ∀ W, (Instr.index 125 (.agg #[.int .i64 a, .int .i64 (b + 1), .int .i64 0, .int .i64 c, .int .i64 ((n : Int) + 1)]) (.int .i64 4)).run Tryz.prog W = .ok (.int .i64 ((n : Int) + 1)) W := fun W => arr_at a (b + 1) 0 c ((n : Int) + 1) 4 (by omega) W
      go_wp2_with fail
      refine (ref_put r q h pg (n + 1) at_ 4 4 ((n : Int) + 1) wr HR.out HAT.out rfl (by unfold partR; rw [fset_same]; simp [valsR]) (fun e => by unfold partR; rw [fset_same]; first | omega | rfl)).mono ?_
      rintro e w5 ⟨rfl, O5, hr, hs⟩
      have hr' : RefO w5 r q h pg (l ++ [at_]) (partR F at_ s a b c n (4 + 1)) rows (n + 1) O5 := by
        unfold partR at hr
        rw [putF_fset] at hr
        exact hr
      have HR5 := Lib.hid hr'
      have HS5 := Lib.hid (HS.out.trans hs)
      clear hr hr' hs
      go_wp2_with fail
      go_roundg (5 - (4 + 1))
      case measure => omega
      case rel => exact ⟨4 + 1, O5, rfl, by omega, by go_num, HR5, HS5⟩
    · go_wp2_with fail
      go_ret2
      exact ⟨at_, pg, O', HAL.out, rfl, HX.out, HLN.out, HR.out, HS.out⟩
end
end Go.Proofs.YtpkbdmieelgdlaaGreat
namespace Go.Proofs.YtpkbdmieelgdlaaGreat
open Go Go.RowKit

section
variable {O : Nat → Prop} {l : List Int} {F : Int → Ob} {rows : List (List Int)}
set_option maxHeartbeats 1600000 in
set_option maxRecDepth 100000 in
theorem heap_make_any (h : Nat) (np : List Pst) (k c : Int) (n : Nat) (w : World) (H : HeapO w h np l F O) (hm : mayB k c n false = true) (hk : k ≠ 1) (hn : n ≤ 31) :
    Calls Tryz.prog 51 #[.pointer (some ⟨h, 0, none⟩), .agg #[.int .i64 k, .int .i64 c, .int .i64 n, .bool false]] w fun e w' =>
      ∃ a r pg l' F' O', MadeAs np l F ⟨k, c, false, List.replicate n 0⟩ pg l' F' a r ∧ e = .returned (.tuple #[.int .i64 a, .int .i64 r]) ∧ HeapO w' h pg l' F' O' ∧ StepO O w O' w' := by
  obtain ⟨t, s, L, S, H, rfl, rfl⟩ := H
  rcases H.objs.make_any H.space.wf (o := ⟨k, c, false, List.replicate n 0⟩) (n := n) (by simpa [Ob.may] using hm) rfl hn with ⟨hal, hma⟩ | ⟨S1, a, hal, ha1, ha2, hob, hma⟩
  · have HMA := Lib.hid hma
    have HOB := Lib.hid H.objs
    clear hma
    have HH := Lib.hid H
    have HM := Lib.hid hm
    have HAL := Lib.hid hal
    have HWR : Hid (IntKind.i64.wrap ((n : Int) + 1) = n + 1) := Lib.hid (IntWalk.i64_in _ (by omega))
    clear H hm hal
    go_enter Tryz.func51, Tryz.ntmps51
    go_wp2_with fail
    refine (heap_may h k c n _ HM.out hk).mono ?_
    rintro e w1 ⟨rfl, hu⟩
    have g0 := (Blk.new w 37 #[.int .i64 k, .int .i64 c, .int .i64 n, .bool false]).upd hu (by simp)
    have HU : Hid (Upd [] w w1) := Lib.hid (((Upd.refl [] w).alloc _).trans hu)
    clear hu
    obtain ⟨c0, c1, c2, c3⟩ := (HH.out.upd0 HU.out).cells
    have x0 := g0.cell 0
    have x1 := g0.cell 1
    have x2 := g0.cell 2
    have x3 := g0.cell 3
    have G0 := Lib.hid g0
    clear g0
    go_upto_region 6 with fail
    go_region_held3 (fun w' => w'.cell? ⟨h, 0, none⟩ = some (.pointer (some ⟨s, 0, none⟩)) ∧ w'.cell? ⟨w.heap.size, 2, none⟩ = some (.int .i64 n)) (first | exact ⟨c0, x2⟩ | exact ⟨e0, y2⟩)
      (first
        | (go_at_call 80; rw [HWR.out]; have hq := alloc_calls s L S ((n : Int) + 1) w1.drew (HH.out.upd0 HU.out.drew).space
           unfold AllocVal at hq
           rw [HAL.out] at hq
           refine hq.mono ?_
           clear hq
           rintro e w2 ⟨rfl, ha⟩
           obtain ⟨L2, h1, h2, h3, h4⟩ := ha
           have hb2 := (HH.out.upd0 HU.out.drew).box.upd h2 (fun hm => (HH.out.sep _ (foot_owns hm)).1 rfl)
           have e0 : w2.cell? ⟨h, 0, none⟩ = some (.pointer (some ⟨s, 0, none⟩)) := hb2.cell 0
           obtain ⟨y0, y1, y2, y3⟩ := head_cells (G0.out.drew.upd h2 (fun hm => by have := HH.out.space.owned (foot_owns hm); omega))
           have HB2 := Lib.hid hb2
           have HA : Hid (IsSpace w2 s L2 S ∧ Upd (Foot L S) w w2 ∧ (∀ k ∈ Foot L2 S, k ∈ Foot L S ∨ w.heap.size ≤ k) ∧ ∀ k, Owns s L2 S k → Owns s L S k ∨ w.heap.size ≤ k) :=
             Lib.hid ⟨h1, (HU.out.drew.mono (by simp)).trans h2, fun k hk => (h3 k hk).imp id (fun h => Nat.le_trans HU.out.size h), fun k hk => (h4 k hk).imp id (fun h => Nat.le_trans HU.out.size h)⟩
           clear h1 h2 h3 h4 hb2))
    all_goals
      go_wp2_with fail
      go_ret2
      obtain ⟨k1, k2, k3, k4⟩ := HA.out
      have haf : After s L S S w w2 := ⟨L2, k1, k2, k3, k4⟩
      obtain ⟨L', hh, hst⟩ := HH.out.after haf HOB.out
      exact ⟨0, 3, _, _, _, _, HMA.out, rfl, ⟨t, s, L', _, hh, rfl, rfl⟩, hst⟩
  · have hword : Ob.word ⟨k, c, false, List.replicate n 0⟩ = putZ k c n false := by simp [Ob.word]
    rw [hword] at hob
    have HMA := Lib.hid hma
    have HOB := Lib.hid hob
    have HX := Lib.hid (And.intro ha1 ha2)
    clear hma hob hword ha1 ha2
    have HH := Lib.hid H
    have HM := Lib.hid hm
    have HAL := Lib.hid hal
    have HWR : Hid (IntKind.i64.wrap ((n : Int) + 1) = n + 1) := Lib.hid (IntWalk.i64_in _ (by omega))
    clear H hm hal
    go_enter Tryz.func51, Tryz.ntmps51
    go_wp2_with fail
    refine (heap_may h k c n _ HM.out hk).mono ?_
    rintro e w1 ⟨rfl, hu⟩
    have g0 := (Blk.new w 37 #[.int .i64 k, .int .i64 c, .int .i64 n, .bool false]).upd hu (by simp)
    have HU : Hid (Upd [] w w1) := Lib.hid (((Upd.refl [] w).alloc _).trans hu)
    clear hu
    obtain ⟨c0, c1, c2, c3⟩ := (HH.out.upd0 HU.out).cells
    have x0 := g0.cell 0
    have x1 := g0.cell 1
    have x2 := g0.cell 2
    have x3 := g0.cell 3
    have G0 := Lib.hid g0
    clear g0
    go_upto_region 6 with fail
    go_region_held3 (fun w' => w'.cell? ⟨h, 0, none⟩ = some (.pointer (some ⟨s, 0, none⟩)) ∧ w'.cell? ⟨w.heap.size, 2, none⟩ = some (.int .i64 n)) (first | exact ⟨c0, x2⟩ | exact ⟨e0, y2⟩)
      (first
        | (go_at_call 80; rw [HWR.out]; have hq := alloc_calls s L S ((n : Int) + 1) w1.drew (HH.out.upd0 HU.out.drew).space
           unfold AllocVal at hq
           rw [HAL.out] at hq
           refine hq.mono ?_
           clear hq
           rintro e w2 ⟨rfl, ha⟩
           obtain ⟨L2, h1, h2, h3, h4⟩ := ha
           have hb2 := (HH.out.upd0 HU.out.drew).box.upd h2 (fun hm => (HH.out.sep _ (foot_owns hm)).1 rfl)
           have e0 : w2.cell? ⟨h, 0, none⟩ = some (.pointer (some ⟨s, 0, none⟩)) := hb2.cell 0
           obtain ⟨y0, y1, y2, y3⟩ := head_cells (G0.out.drew.upd h2 (fun hm => by have := HH.out.space.owned (foot_owns hm); omega))
           have HB2 := Lib.hid hb2
           have HA : Hid (IsSpace w2 s L2 S1 ∧ Upd (Foot L S) w w2 ∧ (∀ k ∈ Foot L2 S1, k ∈ Foot L S ∨ w.heap.size ≤ k) ∧ ∀ k, Owns s L2 S1 k → Owns s L S k ∨ w.heap.size ≤ k) :=
             Lib.hid ⟨h1, (HU.out.drew.mono (by simp)).trans h2, fun k hk => (h3 k hk).imp id (fun h => Nat.le_trans HU.out.size h), fun k hk => (h4 k hk).imp id (fun h => Nat.le_trans HU.out.size h)⟩
           clear h1 h2 h3 h4 hb2))
    all_goals
      go_wp2_with fail
      refine (head_put_yes k c n false _ HM.out).mono ?_
      rintro e w3 ⟨rfl, hu⟩
      clear c0 c1 c2 c3 x0 x1 x2 x3
      have d0 : w3.cell? ⟨h, 0, none⟩ = some (.pointer (some ⟨s, 0, none⟩)) := (HB2.out.upd hu (by simp)).cell 0
      have d1 : w3.cell? ⟨s, 0, none⟩ = some (.pointer (some ⟨L2.pa, 0, none⟩)) := (HA.out.1.upd0 hu).box.cell 0
      have HV := Lib.hid hu
      clear hu e0 y0 y1 y2 y3
      go_wp2_with fail
      refine (store_yes L2.pa L2.ga S1.W a _ w3 (HA.out.1.upd0 HV.out).arena (by have := HX.out; omega) (by have := HX.out; omega)).mono ?_
      rintro e w4 ⟨rfl, har, hu⟩
      have HR := Lib.hid har
      have HW := Lib.hid hu
      clear har hu d0 d1
      go_wp2_with fail
      go_ret2
      obtain ⟨k1, k2, k3, k4⟩ := HA.out
      have hsp := k1.upd0 HV.out
      have haf : After s L S ⟨S1.W.set a.toNat (putZ k c n false), S1.pg⟩ w w4 := After.step ⟨hsp, k2.trans (HV.out.mono (by simp)), k3, k4⟩ (hsp.words HR.out (by simp) HW.out)
      obtain ⟨L', hh, hst⟩ := HH.out.after haf HOB.out
      exact ⟨a, 0, _, _, _, _, HMA.out, rfl, ⟨t, s, L', _, hh, rfl, rfl⟩, hst⟩
theorem MadeAs.stays {np pg : List Pst} {l l' : List Int} {F F' : Int → Ob} {o : Ob} {a r : Int} (h : MadeAs np l F o pg l' F' a r) : (∀ b ∈ l, b ∈ l') ∧ ∀ b ∈ l, F' b = F b := by
  rcases h.2 with ⟨-, rfl, rfl, -, -, hn, -⟩ | ⟨-, -, rfl, rfl, -⟩
  · exact ⟨fun b hb => List.mem_append_left _ hb, fun b hb => fset_ne _ fun e => hn (e ▸ hb)⟩
  · exact ⟨fun b hb => hb, fun b _ => rfl⟩
theorem ref_make_any (r q h : Nat) (np : List Pst) (m : Nat) (k c : Int) (n : Nat) (w : World) (H : RefO w r q h np l F rows m O) (hm : mayB k c n false = true) (hk : k ≠ 1) (hn : n ≤ 31) :
    Calls Tryz.prog 51 #[.pointer (some ⟨h, 0, none⟩), .agg #[.int .i64 k, .int .i64 c, .int .i64 n, .bool false]] w fun e w' =>
      ∃ a y pg l' F' O', MadeAs np l F ⟨k, c, false, List.replicate n 0⟩ pg l' F' a y ∧ e = .returned (.tuple #[.int .i64 a, .int .i64 y]) ∧ RefO w' r q h pg l' F' rows m O' ∧ StepO O w O' w' := by
  obtain ⟨Oq, H, rfl⟩ := H
  obtain ⟨v, Oh, ⟨H1, hl, hf⟩, e⟩ := H.que
  refine (heap_make_any h np k c n w H1.heap hm hk hn).mono ?_
  rintro e2 w' ⟨a, y, pg, l', F', O', hma, rfl, hh, hs⟩
  have hst := hma.stays
  have hq : QueO w' q h pg l' F' rows _ := ⟨v, O', ⟨H1.heaped hh hs, hl.congr hst.1 (fun b hb => by rw [hst.2 b hb]; exact ⟨rfl, rfl, rfl⟩), hf⟩, rfl⟩
  have hsq := hs.queued (q := q) (v := v)
  rw [← e] at hsq
  exact ⟨a, y, pg, l', F', _, hma, rfl, H.queued hq hsq⟩
end
end Go.Proofs.YtpkbdmieelgdlaaGreat
namespace Go.Proofs.YtpkbdmieelgdlaaGreat
open Go Go.RowKit

section
variable {w w' : World} {r h : Nat} {V V' : Value} {vs vs' : List Value} {np np' : List Pst} {l l' : List Int} {F F' : Int → Ob} {rows rows' : List (List Int)} {n n' : Int} {O Oh Oh' : Nat → Prop}
theorem DqO.cells (H : DqO w r h np l F rows n O) : w.cell? ⟨r, 0, none⟩ = some (.pointer (some ⟨h, 0, none⟩)) ∧ w.cell? ⟨r, 2, none⟩ = some (.int .i64 n) ∧ w.frozen? ⟨r, 2, none⟩ = false ∧ r < w.heap.size := by
  obtain ⟨V, vs, Oh, H, _⟩ := H
  exact ⟨H.cells.1, H.cells.2.2.1, H.cells.2.2.2.2, H.box.lt⟩
theorem dq_put (r h : Nat) (np : List Pst) (a i : Int) (j : Nat) (x : Int) (w : World) (H : DqO w r h np l F rows n O) (ha : a ∈ l) (hi : i = j) (hj : j < (F a).ws.length) :
    Calls Tryz.prog 69 #[.pointer (some ⟨h, 0, none⟩), .int .i64 a, .int .i64 i, .int .i64 x] w fun e w' => e = .returned (.int .i64 0) ∧ ∃ O', DqO w' r h np l (putF F a j x) rows n O' ∧ StepO O w O' w' := by
  obtain ⟨Oh, hh, hg⟩ := H.heaped
  refine (dput_yes h np a i j x w hh ha hi hj).mono ?_
  rintro e w' ⟨rfl, O', hh2, hs⟩
  exact ⟨rfl, hg w w' np l _ O' (Upd.refl _ _) hh2 hs⟩
theorem dq_make (r h : Nat) (np : List Pst) (k c : Int) (m : Nat) (w : World) (H : DqO w r h np l F rows n O) (hm : mayB k c m false = true) (hk : k ≠ 1) (hn : m ≤ 31) :
    Calls Tryz.prog 8 #[.pointer (some ⟨h, 0, none⟩), .agg #[.int .i64 k, .int .i64 c, .int .i64 m, .bool false]] w fun e w' =>
      ∃ a y pg l' F' O', MadeAs np l F ⟨k, c, false, List.replicate m 0⟩ pg l' F' a y ∧ e = .returned (.agg #[.int .i64 a, .int .i64 y]) ∧ DqO w' r h pg l' F' rows n O' ∧ StepO O w O' w' := by
  obtain ⟨Oh, hh, hg⟩ := H.heaped
  refine (dmake h np k c m w hh hm hk hn).mono ?_
  rintro e w' ⟨a, y, pg, l', F', O', hma, rfl, hh2, hs⟩
  obtain ⟨O2, h1, h2⟩ := hg w w' pg l' F' O' (Upd.refl _ _) hh2 hs
  exact ⟨a, y, pg, l', F', O2, hma, rfl, h1, h2⟩
theorem DqL.serial (H : DqL w r h V vs np l F rows n Oh) (m : Int) : DqL (w.setCell ⟨r, 2, none⟩ (.int .i64 m)) r h V vs np l F rows m Oh := by
  have hb : ∀ k, k ≠ r → (w.setCell ⟨r, 2, none⟩ (.int .i64 m)).heap[k]? = w.heap[k]? := fun k hk => Below.heap_setCell _ _ _ _ hk
  exact ⟨H.box.set_ 2 _, H.heap.moved fun k hk => hb k fun e => H.sr (e ▸ hk), ownsRow_moved H.row fun g hg => hb g fun e => H.rne (e ▸ hg), fun i hi => (H.own i hi).moved fun g hg => hb g fun e => own_ne (H.own i hi) H.box (by decide) (e ▸ hg), H.sr, H.sV, H.sv⟩
theorem DqO.serial (H : DqO w r h np l F rows n O) (m : Int) : DqO (w.setCell ⟨r, 2, none⟩ (.int .i64 m)) r h np l F rows m O ∧ O r := by
  obtain ⟨V, vs, Oh, H, rfl⟩ := H
  exact ⟨⟨V, vs, Oh, H.serial m, rfl⟩, .inr (.inl rfl)⟩

theorem dmay_arg (r : Nat) (s a b : Int) (w : World) (hs : s < 1 ∨ 3 < s) : Calls Tryz.prog 74 #[.pointer (some ⟨r, 0, none⟩), .int .i64 s, .int .i64 a, .int .i64 b] w fun e w' => e = .returned (.int .i64 1) ∧ Upd [] w w' := by
  rcases hs with h1 | h1
  · go_enter Tryz.func74, Tryz.ntmps74
    go_wp2_with fail
    go_ret
    exact ⟨rfl, Upd.refl _ _⟩
  · have h0 : ¬ s < 1 := by omega
    go_enter Tryz.func74, Tryz.ntmps74
    go_wp2_with fail
    go_ret
    exact ⟨rfl, Upd.refl _ _⟩
set_option maxRecDepth 100000 in
theorem dmay_none (r h : Nat) (np : List Pst) (s a b : Int) (w : World) (H : DqO w r h np l F rows n O) (hs : 1 ≤ s ∧ s ≤ 3) (hb : b < -1 ∨ rows.length ≤ b) : Calls Tryz.prog 74 #[.pointer (some ⟨r, 0, none⟩), .int .i64 s, .int .i64 a, .int .i64 b] w fun e w' => e = .returned (.int .i64 2) ∧ Upd [] w w' := by
  have HQ := Lib.hid (dhas r h np b false w H (by rw [eq_comm, decide_eq_false_iff_not]; omega))
  have n1 : ¬ s < 1 := by omega
  have n2 : ¬ 3 < s := by omega
  have n3 : ¬ b = -1 := by omega
  have n4 : (b != -1) = true := bne_iff_ne.2 n3
  clear H hb hs
  go_enter Tryz.func74, Tryz.ntmps74
  go_wp2_with fail
  refine (HQ.out).mono ?_
  rintro e w' ⟨rfl, rfl⟩
  go_wp2_with fail
  go_ret
  exact ⟨rfl, Upd.refl _ _⟩
theorem dmay_phantom (r : Nat) (a : Int) (w : World) : Calls Tryz.prog 74 #[.pointer (some ⟨r, 0, none⟩), .int .i64 3, .int .i64 a, .int .i64 (-1)] w fun e w' => e = .returned (.int .i64 1) ∧ Upd [] w w' := by
  go_enter Tryz.func74, Tryz.ntmps74
  go_wp2_with fail
  go_ret
  exact ⟨rfl, Upd.refl _ _⟩
set_option maxRecDepth 100000 in
theorem dmay_head (r h : Nat) (np : List Pst) (s a b : Int) (w : World) (H : DqO w r h np l F rows n O) (hs : 1 ≤ s ∧ s ≤ 3) (hb : -1 ≤ b ∧ b < rows.length) (hp : s ≠ 3 ∨ 0 ≤ b) (ha : a ∉ l) :
    Calls Tryz.prog 74 #[.pointer (some ⟨r, 0, none⟩), .int .i64 s, .int .i64 a, .int .i64 b] w fun e w' => e = .returned (.int .i64 2) ∧ Upd [] w w' := by
  have HQ := Lib.hid (fun (hb1 : b ≠ -1) => dhas r h np b true w H (by rw [eq_comm, decide_eq_true_eq]; omega))
  obtain ⟨Oh, hh, -⟩ := H.heaped
  have HH := Lib.hid (dhead_no h np a w hh ha)
  obtain ⟨c0, -, -, -⟩ := H.cells
  have n1 : ¬ s < 1 := by omega
  have n2 : ¬ 3 < s := by omega
  clear H hs hh ha
  have hfd : ∀ W : World, (Instr.field 113 (.agg #[.int .i64 0, .int .i64 0, .int .i64 0, .bool false, .bool false]) 1).run Tryz.prog W = .ok (.bool false) W := fun _ => by kernel_rfl
  by_cases hb1 : b = -1
  · subst hb1
    have n5 : ¬ s = 3 := by omega
    have n6 : (s == 3) = false := by simpa using n5
    clear hp hb HQ
    go_enter Tryz.func74, Tryz.ntmps74
    go_wp2_with fail
    refine (HH.out).mono ?_
    rintro e w1 ⟨rfl, hu⟩
    have HU := Lib.hid hu
    clear hu
    go_wp2_with fail
    go_ret
    exact ⟨rfl, HU.out⟩
  · have hq := HQ.out hb1
    have HQ2 := Lib.hid hq
    have n4 : (b != -1) = true := bne_iff_ne.2 hb1
    have n5 : (b == -1) = false := by simpa using hb1
    clear hq HQ hp hb
    by_cases hs3 : s = 3
    · subst hs3
      go_enter Tryz.func74, Tryz.ntmps74
      go_wp2_with fail
      refine (HQ2.out).mono ?_
      rintro e w' ⟨rfl, rfl⟩
      go_wp2_with fail
      refine (HH.out).mono ?_
      rintro e w1 ⟨rfl, hu⟩
      have HU := Lib.hid hu
      clear hu
      go_wp2_with fail
      go_ret
      exact ⟨rfl, HU.out⟩
    · have n6 : (s == 3) = false := by simpa using hs3
      go_enter Tryz.func74, Tryz.ntmps74
      go_wp2_with fail
      refine (HQ2.out).mono ?_
      rintro e w' ⟨rfl, rfl⟩
      go_wp2_with fail
      refine (HH.out).mono ?_
      rintro e w1 ⟨rfl, hu⟩
      have HU := Lib.hid hu
      clear hu
      go_wp2_with fail
      go_ret
      exact ⟨rfl, HU.out⟩
set_option maxRecDepth 100000 in
theorem dmay_yes (r h : Nat) (np : List Pst) (s a b : Int) (w : World) (H : DqO w r h np l F rows n O) (hs : 1 ≤ s ∧ s ≤ 3) (hb : -1 ≤ b ∧ b < rows.length) (hp : s ≠ 3 ∨ 0 ≤ b) (ha : a ∈ l) :
    Calls Tryz.prog 74 #[.pointer (some ⟨r, 0, none⟩), .int .i64 s, .int .i64 a, .int .i64 b] w fun e w' => e = .returned (.int .i64 0) ∧ Upd [] w w' := by
  have HQ := Lib.hid (fun (hb1 : b ≠ -1) => dhas r h np b true w H (by rw [eq_comm, decide_eq_true_eq]; omega))
  obtain ⟨Oh, hh, -⟩ := H.heaped
  have HH := Lib.hid (dhead_yes h np a (F a).k (F a).c (F a).ws.length (F a).f w hh ha rfl)
  obtain ⟨c0, -, -, -⟩ := H.cells
  have n1 : ¬ s < 1 := by omega
  have n2 : ¬ 3 < s := by omega
  generalize (F a).k = k at *
  generalize (F a).c = c at *
  generalize (F a).f = f at *
  generalize (F a).ws.length = m at *
  clear H hs hh ha
  have hfd : ∀ W : World, (Instr.field 113 (.agg #[.int .i64 k, .int .i64 c, .int .i64 m, .bool f, .bool true]) 1).run Tryz.prog W = .ok (.bool true) W := fun _ => by kernel_rfl
  by_cases hb1 : b = -1
  · subst hb1
    have n5 : ¬ s = 3 := by omega
    have n6 : (s == 3) = false := by simpa using n5
    clear hp hb HQ
    go_enter Tryz.func74, Tryz.ntmps74
    go_wp2_with fail
    refine (HH.out).mono ?_
    rintro e w1 ⟨rfl, hu⟩
    have HU := Lib.hid hu
    clear hu
    go_wp2_with fail
    go_ret
    exact ⟨rfl, HU.out⟩
  · have hq := HQ.out hb1
    have HQ2 := Lib.hid hq
    have n4 : (b != -1) = true := bne_iff_ne.2 hb1
    have n5 : (b == -1) = false := by simpa using hb1
    clear hq HQ hp hb
    by_cases hs3 : s = 3
    · subst hs3
      go_enter Tryz.func74, Tryz.ntmps74
      go_wp2_with fail
      refine (HQ2.out).mono ?_
      rintro e w' ⟨rfl, rfl⟩
      go_wp2_with fail
      refine (HH.out).mono ?_
      rintro e w1 ⟨rfl, hu⟩
      have HU := Lib.hid hu
      clear hu
      go_wp2_with fail
      go_ret
      exact ⟨rfl, HU.out⟩
    · have n6 : (s == 3) = false := by simpa using hs3
      go_enter Tryz.func74, Tryz.ntmps74
      go_wp2_with fail
      refine (HQ2.out).mono ?_
      rintro e w' ⟨rfl, rfl⟩
      go_wp2_with fail
      refine (HH.out).mono ?_
      rintro e w1 ⟨rfl, hu⟩
      have HU := Lib.hid hu
      clear hu
      go_wp2_with fail
      go_ret
      exact ⟨rfl, HU.out⟩
end
end Go.Proofs.YtpkbdmieelgdlaaGreat
namespace Go.Proofs.YtpkbdmieelgdlaaGreat
open Go Go.RowKit

/-- The result's cell beside the document's references: what was done since w0. -/
structure ResAt (w0 : World) (O0 : Nat → Prop) (W : World) (r h : Nat) (np : List Pst) (l : List Int) (F : Int → Ob) (rows : List (List Int)) (n : Int) (O : Nat → Prop) : Prop where
  doc : DqO W r h np l F rows n O
  res : Blk W w0.heap.size 34 #[.int .i64 0, .int .i64 0]
  step : StepO O0 w0 O W
  sep : ¬ O w0.heap.size
/-- Another answer's cell, made since. -/
structure GotBy (w0 W : World) (O : Nat → Prop) (g : Nat) (x y : Int) : Prop where
  blk : Blk W g 34 #[.int .i64 x, .int .i64 y]
  sep : ¬ O g
  lt : w0.heap.size < g
section
variable {w0 w W W' w1 : World} {r h g : Nat} {np np' : List Pst} {l l' : List Int} {F F' : Int → Ob} {rows rows' : List (List Int)} {n n' : Int} {O0 O O' : Nat → Prop} {x y : Int}
theorem ResAt.start (H : DqO w r h np l F rows n O) : ResAt w O (w.alloc (.cells #[.int .i64 0, .int .i64 0] 34)) r h np l F rows n O :=
  ⟨H.upd0 ((Upd.refl [] w).alloc _), Blk.new _ _ _, .upd O ((Upd.refl [] w).alloc _), fun hx => by have := H.owned hx; omega⟩
theorem ResAt.next (H : ResAt w0 O0 W r h np l F rows n O) (hd : DqO W' r h np' l' F' rows' n' O') (hs : StepO O W O' W') : ResAt w0 O0 W' r h np' l' F' rows' n' O' :=
  ⟨hd, H.res.moved (hs.block _ H.res.lt H.sep), H.step.trans hs, fun hx => by
    rcases hs.own _ hx with h1 | h1
    · exact H.sep h1
    · have := H.res.lt; omega⟩
theorem ResAt.upd0 (H : ResAt w0 O0 W r h np l F rows n O) (hu : Upd [] W W') : ResAt w0 O0 W' r h np l F rows n O := H.next (H.doc.upd0 hu) (.upd O hu)
theorem ResAt.serial (H : ResAt w0 O0 W r h np l F rows n O) (m : Int) : ResAt w0 O0 (W.setCell ⟨r, 2, none⟩ (.int .i64 m)) r h np l F rows m O ∧ StepO O W O (W.setCell ⟨r, 2, none⟩ (.int .i64 m)) := by
  have hs := (StepO.refl O W).setCell (p := ⟨r, 2, none⟩) (H.doc.serial m).2 (.int .i64 m)
  exact ⟨H.next (H.doc.serial m).1 hs, hs⟩
theorem ResAt.cells (H : ResAt w0 O0 W r h np l F rows n O) : W.cell? ⟨r, 0, none⟩ = some (.pointer (some ⟨h, 0, none⟩)) ∧ W.cell? ⟨r, 2, none⟩ = some (.int .i64 n) ∧ W.frozen? ⟨r, 2, none⟩ = false ∧
    W.cell? ⟨w0.heap.size, 0, none⟩ = some (.int .i64 0) ∧ W.cell? ⟨w0.heap.size, 1, none⟩ = some (.int .i64 0) ∧ W.frozen? ⟨w0.heap.size, 0, none⟩ = false ∧ W.frozen? ⟨w0.heap.size, 1, none⟩ = false :=
  ⟨H.doc.cells.1, H.doc.cells.2.1, H.doc.cells.2.2.1, H.res.cell 0, H.res.cell 1, H.res.frozen 0, H.res.frozen 1⟩
theorem ResAt.fin (H : ResAt w0 O0 W r h np l F rows n O) (u v : Value) : Blk ((W.setCell ⟨w0.heap.size, 0, none⟩ u).setCell ⟨w0.heap.size, 1, none⟩ v) w0.heap.size 34 #[u, v] ∧
    DqO ((W.setCell ⟨w0.heap.size, 0, none⟩ u).setCell ⟨w0.heap.size, 1, none⟩ v) r h np l F rows n O ∧ StepO O0 w0 O ((W.setCell ⟨w0.heap.size, 0, none⟩ u).setCell ⟨w0.heap.size, 1, none⟩ v) :=
  ⟨(H.res.set_ 0 u).set_ 1 v, H.doc.moved fun k hk => (Below.heap_setCell _ _ _ _ (fun e => H.sep (by rw [← show k = w0.heap.size from e]; exact hk))).trans (Below.heap_setCell _ _ _ _ (fun e => H.sep (by rw [← show k = w0.heap.size from e]; exact hk))), (H.step.newCell (Nat.le_refl _) _).newCell (Nat.le_refl _) _⟩
theorem GotBy.next (H : GotBy w0 W O g x y) (hs : StepO O W O' W') : GotBy w0 W' O' g x y :=
  ⟨H.blk.moved (hs.block _ H.blk.lt H.sep), fun hx => by
    rcases hs.own _ hx with h1 | h1
    · exact H.sep h1
    · have := H.blk.lt; omega, H.lt⟩
theorem GotBy.upd0 (H : GotBy w0 W O g x y) (hu : Upd [] W W') : GotBy w0 W' O g x y := H.next (.upd O hu)
theorem GotBy.new (H : ResAt w0 O0 W r h np l F rows n O) (x y : Int) : GotBy w0 (W.alloc (.cells #[.int .i64 x, .int .i64 y] 34)) O W.heap.size x y :=
  ⟨Blk.new _ _ _, fun hx => by have := H.doc.owned hx; omega, H.res.lt⟩
theorem GotBy.cells (H : GotBy w0 W O g x y) : W.cell? ⟨g, 0, none⟩ = some (.int .i64 x) ∧ W.cell? ⟨g, 1, none⟩ = some (.int .i64 y) := ⟨H.blk.cell 0, H.blk.cell 1⟩
end
/-- A reference is made, or there is no room: what is behind it. -/
def ReferAs (np : List Pst) (l : List Int) (F : Int → Ob) (s a b c : Int) (n : Nat) (pg : List Pst) (l' : List Int) (F' : Int → Ob) (n' : Nat) (x y : Int) : Prop :=
  ∃ F1, MadeAs np l F ⟨4, s, false, List.replicate 5 0⟩ pg l' F1 x y ∧ (y = 0 → F' = fset F x ⟨4, s, false, valsR a b c n⟩ ∧ n' = n + 1) ∧ (y ≠ 0 → F' = F ∧ n' = n)
theorem ReferAs.unique {np pg pg2 : List Pst} {l l1 l2 : List Int} {F F1 F2 : Int → Ob} {s a b c x x2 y y2 : Int} {n n1 n2 : Nat} (h : ReferAs np l F s a b c n pg l1 F1 n1 x y) (k : ReferAs np l F s a b c n pg2 l2 F2 n2 x2 y2) : pg2 = pg ∧ l2 = l1 ∧ F2 = F1 ∧ n2 = n1 ∧ x2 = x ∧ y2 = y := by
  obtain ⟨f1, h1, h2, h3⟩ := h
  obtain ⟨f2, k1, k2, k3⟩ := k
  obtain ⟨rfl, rfl, rfl, rfl, rfl⟩ := h1.unique k1
  by_cases e : y2 = 0
  · obtain ⟨rfl, rfl⟩ := h2 e
    obtain ⟨rfl, rfl⟩ := k2 e
    exact ⟨rfl, rfl, rfl, rfl, rfl, rfl⟩
  · obtain ⟨rfl, rfl⟩ := h3 e
    obtain ⟨rfl, rfl⟩ := k3 e
    exact ⟨rfl, rfl, rfl, rfl, rfl, rfl⟩
section
variable {F : Int → Ob} {x s a b c : Int} {n : Nat}
theorem partR_put0 : putF (partR F x s a b c n 0) x 0 a = partR F x s a b c n 1 := by unfold partR; rw [putF_fset]; rfl
theorem partR_put1 : putF (partR F x s a b c n 1) x 1 (b + 1) = partR F x s a b c n 3 := by unfold partR; rw [putF_fset]; rfl
theorem partR_put3 : putF (partR F x s a b c n 3) x 3 c = partR F x s a b c n 4 := by unfold partR; rw [putF_fset]; rfl
theorem partR_put4 : putF (partR F x s a b c n 4) x 4 ((n : Int) + 1) = partR F x s a b c n 5 := by unfold partR; rw [putF_fset]; rfl
end
section
variable {w : World} {r h : Nat} {np : List Pst} {l : List Int} {F : Int → Ob} {rows : List (List Int)} {O : Nat → Prop}
set_option maxRecDepth 100000 in
theorem drefer_no (r : Nat) (s a b c y : Int) (w : World) (hy : y = 1 ∨ y = 2) (hm : ∀ W, Upd [] w W → Calls Tryz.prog 74 #[.pointer (some ⟨r, 0, none⟩), .int .i64 s, .int .i64 a, .int .i64 b] W fun e w' => e = .returned (.int .i64 y) ∧ Upd [] W w') :
    Calls Tryz.prog 39 #[.pointer (some ⟨r, 0, none⟩), .int .i64 s, .int .i64 a, .int .i64 b, .int .i64 c] w fun e w' => e = .returned (.agg #[.int .i64 0, .int .i64 y]) ∧ Upd [] w w' := by
  have HU : Hid (Upd [] w (w.alloc (.cells #[.int .i64 0, .int .i64 0] 34))) := Lib.hid ((Upd.refl [] w).alloc _)
  have HG : Hid (Blk (w.alloc (.cells #[.int .i64 0, .int .i64 0] 34)) w.heap.size 34 #[.int .i64 0, .int .i64 0]) := Lib.hid (Blk.new _ _ _)
  have HM := Lib.hid hm
  have hy0 : (y != 0) = true := bne_iff_ne.2 (by omega)
  clear hm hy
  go_enter Tryz.func39, Tryz.ntmps39
  go_wp2_with fail
  refine (HM.out _ HU.out).mono ?_
  rintro e w1 ⟨rfl, hu⟩
  have HG1 := Lib.hid (HG.out.upd hu (by simp))
  have HU1 := Lib.hid (HU.out.trans hu)
  have z0 := HG1.out.cell 0
  have z1 := HG1.out.cell 1
  have z2 := HG1.out.frozen 0
  have z3 := HG1.out.frozen 1
  simp only [List.getElem?_toArray, List.getElem?_cons_zero, List.getElem?_cons_succ] at z0 z1
  clear hu
  go_wp2_with fail
  exact cell_ret rfl ((HG1.out.set_ 0 _).set_ 1 _) rfl rfl Tryz.underlying34 (by kernel_rfl) ⟨rfl, (HU1.out.setCell (.inr (Nat.le_refl _)) _).setCell (.inr (Nat.le_refl _)) _⟩
set_option maxRecDepth 100000 in
set_option maxHeartbeats 3200000 in
theorem drefer_may (r h : Nat) (np : List Pst) (n : Nat) (s a b c : Int) (w : World) (H : DqO w r h np l F rows n O) (hs : 1 ≤ s ∧ s ≤ 3) (hb : -1 ≤ b ∧ b < rows.length) (hp : s ≠ 3 ∨ 0 ≤ b) (ha : a ∈ l) (hn : n ≤ 1000000) (hb8 : b ≤ 8) :
    Calls Tryz.prog 39 #[.pointer (some ⟨r, 0, none⟩), .int .i64 s, .int .i64 a, .int .i64 b, .int .i64 c] w fun e w' =>
      ∃ x y pg l' F' n' O', ReferAs np l F s a b c n pg l' F' n' x y ∧ e = .returned (.agg #[.int .i64 x, .int .i64 y]) ∧ DqO w' r h pg l' F' rows n' O' ∧ StepO O w O' w' := by
  have HR0 := Lib.hid (ResAt.start H)
  have HM := Lib.hid (dmay_yes r h np s a b _ HR0.out.doc hs hb hp ha)
  have HKM := Lib.hid (kref_may s hs.1 hs.2)
  have hb1 := hb.1
  clear H hs hb hp ha
  go_enter Tryz.func39, Tryz.ntmps39
  go_wp2_with fail
  refine (HM.out).mono ?_
  rintro e w1 ⟨rfl, hu⟩
  have HR1 := Lib.hid (HR0.out.upd0 hu)
  obtain ⟨c0, c1, c2, d0, d1, d2, d3⟩ := HR1.out.cells
  clear hu
  go_wp2_with fail
  refine (dq_make r h np 4 s 5 _ HR1.out.doc HKM.out (by omega) (by omega)).mono ?_
  rintro e w2 ⟨x, y, pg, l', F1, O2, hma, rfl, hr, hs⟩
  have HR2 := Lib.hid (HR1.out.next hr hs)
  have HT := Lib.hid (GotBy.new HR2.out x y)
  have HR := Lib.hid (HR2.out.upd0 ((Upd.refl [] w2).alloc (.cells #[.int .i64 x, .int .i64 y] 34)))
  have HMA := Lib.hid hma
  have hy : y = 0 ∧ l' = l ++ [x] ∧ F1 = fset F x ⟨4, s, false, List.replicate 5 0⟩ ∨ y = 3 ∧ x = 0 ∧ l' = l ∧ F1 = F := by
    rcases hma.2 with ⟨h1, h2, h3, _⟩ | ⟨h1, h2, h3, h4, _⟩
    · exact .inl ⟨h1, h2, h3⟩
    · exact .inr ⟨h1, h2, h3, h4⟩
  clear hr hs hma c0 c1 c2 d0 d1 d2 d3 HR0 HR1 HR2
  obtain ⟨c0, c1, c2, d0, d1, d2, d3⟩ := HR.out.cells
  obtain ⟨x0, x1⟩ := HT.out.cells
  rcases hy with ⟨rfl, rfl, rfl⟩ | ⟨rfl, rfl, rfl, rfl⟩
  · obtain ⟨hr3, hs3⟩ := HR.out.serial ((n : Int) + 1)
    have HR3 : Hid (ResAt w O _ r h pg (l ++ [x]) (partR F x s a b c n 0) rows ((n : Int) + 1) O2) := Lib.hid hr3
    have HT3 := Lib.hid (HT.out.next hs3)
    have HAT : Hid (x ∈ l ++ [x]) := Lib.hid (by simp)
    have hwn : IntKind.i64.wrap ((n : Int) + 1) = (n : Int) + 1 := IntWalk.i64_in _ (by omega)
    have hwb : IntKind.i64.wrap (b + 1) = b + 1 := IntWalk.i64_in _ (by omega)
    clear hr3 hs3
    go_upto_region 8 with fail
    clear HR HT c0 c1 c2 d0 d1 d2 d3 x0 x1
    have HR := HR3
    have HT := HT3
    obtain ⟨w4, hw4⟩ : ∃ w4, (w2.alloc (.cells #[.int .i64 x, .int .i64 0] 34)).setCell ⟨r, 2, none⟩ (.int .i64 ((n : Int) + 1)) = w4 := ⟨_, rfl⟩
    clear HR3 HT3
    rw [hw4] at HR HT ⊢
    clear hw4
    obtain ⟨c0, c1, c2, d0, d1, d2, d3⟩ := HR.out.cells
    obtain ⟨x0, x1⟩ := HT.out.cells
    go_upto_region 8 with fail
    go_still_tail 7, (by kernel_rfl)
    change wpList _ _ _ _ _ (World.drew _)
    go_wp2_with fail
    refine (dq_put r h pg x 0 0 a _ (HR.out.doc.upd0 (Upd.refl [] _).drew) HAT.out rfl (by unfold partR; rw [fset_same]; simp [valsR])).mono ?_
    rintro e w5 ⟨rfl, O5, hd5, hs5⟩
    rw [partR_put0] at hd5
    have HR5 := Lib.hid ((HR.out.upd0 (Upd.refl [] _).drew).next hd5 hs5)
    have HT5 := Lib.hid ((HT.out.upd0 (Upd.refl [] _).drew).next hs5)
    clear hd5 hs5 HR HT c0 c1 c2 d0 d1 d2 d3 x0 x1
    have HR := HR5
    have HT := HT5
    clear HR5 HT5
    obtain ⟨c0, c1, c2, d0, d1, d2, d3⟩ := HR.out.cells
    obtain ⟨x0, x1⟩ := HT.out.cells
    go_upto_region 9 with fail
    go_still_tail 8, (by kernel_rfl)
    change wpList _ _ _ _ _ (World.drew _)
    go_wp2_with fail
    refine (dq_put r h pg x 1 1 (b + 1) _ (HR.out.doc.upd0 (Upd.refl [] _).drew) HAT.out rfl (by unfold partR; rw [fset_same]; simp [valsR])).mono ?_
    rintro e w5 ⟨rfl, O5, hd5, hs5⟩
    rw [partR_put1] at hd5
    have HR5 := Lib.hid ((HR.out.upd0 (Upd.refl [] _).drew).next hd5 hs5)
    have HT5 := Lib.hid ((HT.out.upd0 (Upd.refl [] _).drew).next hs5)
    clear hd5 hs5 HR HT c0 c1 c2 d0 d1 d2 d3 x0 x1
    have HR := HR5
    have HT := HT5
    clear HR5 HT5
    obtain ⟨c0, c1, c2, d0, d1, d2, d3⟩ := HR.out.cells
    obtain ⟨x0, x1⟩ := HT.out.cells
    go_upto_region 10 with fail
    go_still_tail 7, (by kernel_rfl)
    change wpList _ _ _ _ _ (World.drew _)
    go_wp2_with fail
    refine (dq_put r h pg x 3 3 c _ (HR.out.doc.upd0 (Upd.refl [] _).drew) HAT.out rfl (by unfold partR; rw [fset_same]; simp [valsR])).mono ?_
    rintro e w5 ⟨rfl, O5, hd5, hs5⟩
    rw [partR_put3] at hd5
    have HR5 := Lib.hid ((HR.out.upd0 (Upd.refl [] _).drew).next hd5 hs5)
    have HT5 := Lib.hid ((HT.out.upd0 (Upd.refl [] _).drew).next hs5)
    clear hd5 hs5 HR HT c0 c1 c2 d0 d1 d2 d3 x0 x1
    have HR := HR5
    have HT := HT5
    clear HR5 HT5
    obtain ⟨c0, c1, c2, d0, d1, d2, d3⟩ := HR.out.cells
    obtain ⟨x0, x1⟩ := HT.out.cells
    go_upto_region 11 with fail
    go_still_tail 10, (by kernel_rfl)
    change wpList _ _ _ _ _ (World.drew _)
    go_wp2_with fail
    refine (dq_put r h pg x 4 4 ((n : Int) + 1) _ (HR.out.doc.upd0 (Upd.refl [] _).drew) HAT.out rfl (by unfold partR; rw [fset_same]; simp [valsR])).mono ?_
    rintro e w5 ⟨rfl, O5, hd5, hs5⟩
    rw [partR_put4] at hd5
    have HR5 := Lib.hid ((HR.out.upd0 (Upd.refl [] _).drew).next hd5 hs5)
    have HT5 := Lib.hid ((HT.out.upd0 (Upd.refl [] _).drew).next hs5)
    clear hd5 hs5 HR HT c0 c1 c2 d0 d1 d2 d3 x0 x1
    have HR := HR5
    have HT := HT5
    clear HR5 HT5
    obtain ⟨c0, c1, c2, d0, d1, d2, d3⟩ := HR.out.cells
    obtain ⟨x0, x1⟩ := HT.out.cells
    go_wp2_with fail
    obtain ⟨f1, f2, f3⟩ := HR.out.fin (.int .i64 x) (.int .i64 0)
    exact cell_ret rfl f1 rfl rfl Tryz.underlying34 (by kernel_rfl) ⟨x, 0, pg, _, _, n + 1, _, ⟨_, HMA.out, fun _ => ⟨rfl, rfl⟩, fun e => absurd rfl e⟩, rfl, f2, f3⟩
  · go_wp2_with fail
    obtain ⟨f1, f2, f3⟩ := HR.out.fin (.int .i64 0) (.int .i64 3)
    exact cell_ret rfl f1 rfl rfl Tryz.underlying34 (by kernel_rfl) ⟨0, 3, pg, _, _, n, O2, ⟨_, HMA.out, ⟨fun e => absurd e (by decide), fun _ => ⟨rfl, rfl⟩⟩⟩, rfl, f2, f3⟩
end
end Go.Proofs.YtpkbdmieelgdlaaGreat
namespace Go.Proofs.YtpkbdmieelgdlaaGreat
open Go Go.RowKit

section
variable {w : World} {l : List Int} {F : Int → Ob} {rows : List (List Int)} {O : Nat → Prop}
set_option maxRecDepth 100000 in
set_option maxHeartbeats 6400000 in
theorem refer_may (r q h : Nat) (np : List Pst) (n : Nat) (s a b c : Int) (w : World) (H : RefO w r q h np l F rows n O) (hs : 1 ≤ s ∧ s ≤ 3) (hb : -1 ≤ b ∧ b < rows.length) (hp : s ≠ 3 ∨ 0 ≤ b) (ha : a ∈ l) (hn : n ≤ 1000000) :
    Calls Tryz.prog 38 #[.pointer (some ⟨r, 0, none⟩), .int .i64 s, .int .i64 a, .int .i64 b, .int .i64 c] w fun e w' =>
      ∃ x y pg l' F' n' O', ReferAs np l F s a b c n pg l' F' n' x y ∧ e = .returned (.tuple #[.int .i64 x, .int .i64 y]) ∧ RefO w' r q h pg l' F' rows n' O' ∧ StepO O w O' w' := by
  have HM := Lib.hid (rmay_yes r q h np n s a b w H hs hb hp ha)
  have hb8 : b ≤ 8 := by
    obtain ⟨Oq, H5, _⟩ := H
    obtain ⟨v, Oh, H6, _⟩ := H5.que
    have := H6.few
    omega
  have hb1 := hb.1
  have HR := Lib.hid H
  have HKM := Lib.hid (kref_may s hs.1 hs.2)
  clear H hs hb hp ha
  go_enter Tryz.func38, Tryz.ntmps38
  go_wp2_with fail
  refine (HM.out).mono ?_
  rintro e w1 ⟨rfl, hu⟩
  have HR1 := Lib.hid (HR.out.upd0 hu)
  have HU := Lib.hid hu
  clear hu
  obtain ⟨c0, c1, c2, c3⟩ := HR1.out.cells
  go_wp2_with fail
  refine (ref_make_any r q h np n 4 s 5 _ HR1.out HKM.out (by omega) (by omega)).mono ?_
  rintro e w2 ⟨at_, y, pg, l', F1, O2, hma, rfl, hr, hs⟩
  clear c0 c1 c2 c3
  have HS2 := Lib.hid (StepO.behind HU.out hs)
  have HMA := Lib.hid hma
  have hy : y = 0 ∧ l' = l ++ [at_] ∧ F1 = fset F at_ ⟨4, s, false, List.replicate 5 0⟩ ∨ y = 3 ∧ at_ = 0 ∧ l' = l ∧ F1 = F := by
    rcases hma.2 with ⟨h1, h2, h3, _⟩ | ⟨h1, h2, h3, h4, _⟩
    · exact .inl ⟨h1, h2, h3⟩
    · exact .inr ⟨h1, h2, h3, h4⟩
  clear hs hma
  rcases hy with ⟨rfl, rfl, rfl⟩ | ⟨rfl, rfl, rfl, rfl⟩
  case inr =>
    have HR2 := Lib.hid hr
    clear hr
    go_wp2_with fail
    go_ret2
    exact ⟨0, 3, pg, _, _, n, _, ⟨_, HMA.out, ⟨fun e => absurd e (by decide), fun _ => ⟨rfl, rfl⟩⟩⟩, rfl, HR2.out, HS2.out⟩
  obtain ⟨c0, c1, c2, c3⟩ := hr.cells
  have HR2 := Lib.hid hr
  have hser := hr.serial (n + 1)
  have HR3 := Lib.hid hser.1
  have HS3 := Lib.hid (HS2.out.setCell (p := ⟨r, 1, none⟩) hser.2 (.int .i64 ((n + 1 : Nat) : Int)))
  clear hr hser
  go_wp2_with fail
  have HCAST : Hid (((n + 1 : Nat) : Int) = (n : Int) + 1) := Lib.hid (by omega)
  rw [HCAST.out] at HR3 HS3
  go_loopg [59] 5 (fun gk i wr => ∃ (k : Nat) (O' : Nat → Prop), gk = 5 - k ∧ k ≤ 5 ∧ i = .int .i64 k ∧ Hid (RefO wr r q h pg (l ++ [at_]) (partR F at_ s a b c n k) rows (n + 1) O') ∧ Hid (StepO O w O' wr))
  case atStart => exact ⟨0, O2, rfl, by omega, rfl, HR3, HS3⟩
  case round =>
    clear HR HM HR1 HU HR2 HS2 HR3 HS3 c0 c1 c2 c3
    obtain ⟨k, O', rfl, hk, rfl, HR, HS⟩ := hrel
    have HAT : Hid (at_ ∈ l ++ [at_]) := Lib.hid (by simp)
    obtain ⟨c0, c1, c2, c3⟩ := HR.out.cells
    rcases (show k = 0 ∨ k = 1 ∨ k = 2 ∨ k = 3 ∨ k = 4 ∨ k = 5 by omega) with rfl | rfl | rfl | rfl | rfl | rfl
    · have hix : ∀ W, (Instr.index 125 (.agg #[.int .i64 a, .int .i64 (b + 1), .int .i64 0, .int .i64 c, .int .i64 ((n : Int) + 1)]) (.int .i64 0)).run Tryz.prog W = .ok (.int .i64 a) W := fun W => arr_at a (b + 1) 0 c ((n : Int) + 1) 0 (by omega) W
      go_wp2_with fail
      refine (ref_put r q h pg (n + 1) at_ 0 0 a wr HR.out HAT.out rfl (by unfold partR; rw [fset_same]; simp [valsR]) (fun e => by unfold partR; rw [fset_same]; first | omega | rfl)).mono ?_
      rintro e w5 ⟨rfl, O5, hr, hs⟩
      have hr' : RefO w5 r q h pg (l ++ [at_]) (partR F at_ s a b c n (0 + 1)) rows (n + 1) O5 := by
        unfold partR at hr
        rw [putF_fset] at hr
        exact hr
      have HR5 := Lib.hid hr'
      have HS5 := Lib.hid (HS.out.trans hs)
      clear hr hr' hs
      go_wp2_with fail
      go_roundg (5 - (0 + 1))
      case measure => omega
      case rel => exact ⟨0 + 1, O5, rfl, by omega, by go_num, HR5, HS5⟩
    · have hix : ∀ W, (Instr.index 125 (.agg #[.int .i64 a, .int .i64 (b + 1), .int .i64 0, .int .i64 c, .int .i64 ((n : Int) + 1)]) (.int .i64 1)).run Tryz.prog W = .ok (.int .i64 (b + 1)) W := fun W => arr_at a (b + 1) 0 c ((n : Int) + 1) 1 (by omega) W
      go_wp2_with fail
      refine (ref_put r q h pg (n + 1) at_ 1 1 (b + 1) wr HR.out HAT.out rfl (by unfold partR; rw [fset_same]; simp [valsR]) (fun e => by unfold partR; rw [fset_same]; first | omega | rfl)).mono ?_
      rintro e w5 ⟨rfl, O5, hr, hs⟩
      have hr' : RefO w5 r q h pg (l ++ [at_]) (partR F at_ s a b c n (1 + 1)) rows (n + 1) O5 := by
        unfold partR at hr
        rw [putF_fset] at hr
        exact hr
      have HR5 := Lib.hid hr'
      have HS5 := Lib.hid (HS.out.trans hs)
      clear hr hr' hs
      go_wp2_with fail
      go_roundg (5 - (1 + 1))
      case measure => omega
      case rel => exact ⟨1 + 1, O5, rfl, by omega, by go_num, HR5, HS5⟩
    · have hix : ∀ W, (Instr.index 125 (.agg #[.int .i64 a, .int .i64 (b + 1), .int .i64 0, .int .i64 c, .int .i64 ((n : Int) + 1)]) (.int .i64 2)).run Tryz.prog W = .ok (.int .i64 0) W := fun W => arr_at a (b + 1) 0 c ((n : Int) + 1) 2 (by omega) W
      go_wp2_with fail
      refine (ref_put r q h pg (n + 1) at_ 2 2 0 wr HR.out HAT.out rfl (by unfold partR; rw [fset_same]; simp [valsR]) (fun e => by unfold partR; rw [fset_same]; first | omega | rfl)).mono ?_
      rintro e w5 ⟨rfl, O5, hr, hs⟩
      have hr' : RefO w5 r q h pg (l ++ [at_]) (partR F at_ s a b c n (2 + 1)) rows (n + 1) O5 := by
        unfold partR at hr
        rw [putF_fset] at hr
        exact hr
      have HR5 := Lib.hid hr'
      have HS5 := Lib.hid (HS.out.trans hs)
      clear hr hr' hs
      go_wp2_with fail
      go_roundg (5 - (2 + 1))
      case measure => omega
      case rel => exact ⟨2 + 1, O5, rfl, by omega, by go_num, HR5, HS5⟩
    · have hix : ∀ W, (Instr.index 125 (.agg #[.int .i64 a, .int .i64 (b + 1), .int .i64 0, .int .i64 c, .int .i64 ((n : Int) + 1)]) (.int .i64 3)).run Tryz.prog W = .ok (.int .i64 c) W := fun W => arr_at a (b + 1) 0 c ((n : Int) + 1) 3 (by omega) W
      go_wp2_with fail
      refine (ref_put r q h pg (n + 1) at_ 3 3 c wr HR.out HAT.out rfl (by unfold partR; rw [fset_same]; simp [valsR]) (fun e => by unfold partR; rw [fset_same]; first | omega | rfl)).mono ?_
      rintro e w5 ⟨rfl, O5, hr, hs⟩
      have hr' : RefO w5 r q h pg (l ++ [at_]) (partR F at_ s a b c n (3 + 1)) rows (n + 1) O5 := by
        unfold partR at hr
        rw [putF_fset] at hr
        exact hr
      have HR5 := Lib.hid hr'
      have HS5 := Lib.hid (HS.out.trans hs)
      clear hr hr' hs
      go_wp2_with fail
      go_roundg (5 - (3 + 1))
      case measure => omega
      case rel => exact ⟨3 + 1, O5, rfl, by omega, by go_num, HR5, HS5⟩
    · have hix : ∀ W, (Instr.index 125 (.agg #[.int .i64 a, .int .i64 (b + 1), .int .i64 0, .int .i64 c, .int .i64 ((n : Int) + 1)]) (.int .i64 4)).run Tryz.prog W = .ok (.int .i64 ((n : Int) + 1)) W := fun W => arr_at a (b + 1) 0 c ((n : Int) + 1) 4 (by omega) W
      go_wp2_with fail
      refine (ref_put r q h pg (n + 1) at_ 4 4 ((n : Int) + 1) wr HR.out HAT.out rfl (by unfold partR; rw [fset_same]; simp [valsR]) (fun e => by unfold partR; rw [fset_same]; first | omega | rfl)).mono ?_
      rintro e w5 ⟨rfl, O5, hr, hs⟩
      have hr' : RefO w5 r q h pg (l ++ [at_]) (partR F at_ s a b c n (4 + 1)) rows (n + 1) O5 := by
        unfold partR at hr
        rw [putF_fset] at hr
        exact hr
      have HR5 := Lib.hid hr'
      have HS5 := Lib.hid (HS.out.trans hs)
      clear hr hr' hs
      go_wp2_with fail
      go_roundg (5 - (4 + 1))
      case measure => omega
      case rel => exact ⟨4 + 1, O5, rfl, by omega, by go_num, HR5, HS5⟩
    · go_wp2_with fail
      go_ret2
      exact ⟨at_, 0, pg, _, _, n + 1, O', ⟨_, HMA.out, ⟨fun _ => ⟨rfl, rfl⟩, fun e => absurd rfl e⟩⟩, rfl, HR.out, HS.out⟩
end
end Go.Proofs.YtpkbdmieelgdlaaGreat
namespace Go.Proofs.YtpkbdmieelgdlaaGreat
open Go Go.RowKit

theorem HeapO.ref5 {w : World} {h : Nat} {np : List Pst} {l : List Int} {F : Int → Ob} {O : Nat → Prop} (H : HeapO w h np l F O) {a : Int} (ha : a ∈ l) (hk : (F a).k = 4) : (F a).ws.length = 5 ∧ 1 ≤ (F a).c ∧ (F a).c ≤ 3 ∧ (F a).f = false := by
  have := H.may ha
  unfold mayB at this
  rw [hk] at this
  simp only [Int.reduceEq, if_false, or_self, if_true] at this
  split at this
  · cases this
  · simp only [Bool.and_eq_true, decide_eq_true_eq, Bool.not_eq_true'] at this
    obtain ⟨⟨x1, x2, x3⟩, x4⟩ := this
    exact ⟨by omega, x1, x2, x4⟩
/-- What a reference tells, and what asking does. -/
def refX (o : Ob) : Int := if o.c = 3 then 0 else o.ws.getD 0 0
def refF (F : Int → Ob) (a t : Int) : Int → Ob := if (F a).c = 1 ∧ (F a).ws.getD 0 0 ≠ 0 then putF F a 3 t else F
section
variable {l : List Int} {F : Int → Ob} {rows : List (List Int)} {O : Nat → Prop} {w w' : World} {r q h : Nat} {np : List Pst} {n : Nat}
theorem RefO.ref5 (H : RefO w r q h np l F rows n O) {a : Int} (ha : a ∈ l) (hk : (F a).k = 4) : (F a).ws.length = 5 ∧ 1 ≤ (F a).c ∧ (F a).c ≤ 3 ∧ (F a).f = false := by
  obtain ⟨Oh, hh⟩ := H.heap
  exact hh.ref5 ha hk
theorem RefO.nodup (H : RefO w r q h np l F rows n O) : l.Nodup := by
  obtain ⟨Oh, hh⟩ := H.heap
  exact hh.nodup
theorem ref_get (r q h : Nat) (np : List Pst) (n : Nat) (a i : Int) (j : Nat) (x : Int) (w : World) (H : RefO w r q h np l F rows n O) (ha : a ∈ l) (hi : i = j) (hj : j < (F a).ws.length) (hx : (F a).ws.getD j 0 = x) :
    Calls Tryz.prog 64 #[.pointer (some ⟨h, 0, none⟩), .int .i64 a, .int .i64 i] w fun e w' => e = .returned (.tuple #[.int .i64 x, .int .i64 0]) ∧ Upd [] w w' := by
  obtain ⟨Oh, hh⟩ := H.heap
  exact get_yes h np a i j x w hh ha hi hj hx
theorem ref_head (r q h : Nat) (np : List Pst) (n : Nat) (a k c m : Int) (f : Bool) (w : World) (H : RefO w r q h np l F rows n O) (ha : a ∈ l) (ho : (F a).head = .agg #[.int .i64 k, .int .i64 c, .int .i64 m, .bool f]) :
    Calls Tryz.prog 63 #[.pointer (some ⟨h, 0, none⟩), .int .i64 a] w fun e w' => e = .returned (.tuple #[.agg #[.int .i64 k, .int .i64 c, .int .i64 m, .bool f], .int .i64 0]) ∧ Upd [] w w' := by
  obtain ⟨Oh, hh⟩ := H.heap
  exact head_yes h np a k c m f w hh ha ho

theorem referent_nil (a t : Int) (w : World) : Calls Tryz.prog 40 #[.pointer none, .int .i64 a, .int .i64 t] w fun e w' => e = .returned (.tuple #[.int .i64 0, .int .i64 5]) ∧ w = w' := by
  go_enter Tryz.func40, Tryz.ntmps40
  go_wp2_with fail
  refine (strength_nil a _).mono ?_
  rintro e w' ⟨rfl, rfl⟩
  go_wp2_with fail
  go_ret2
  exact ⟨rfl, rfl⟩
theorem referent_no (r q h : Nat) (np : List Pst) (n : Nat) (a t : Int) (w : World) (H : RefO w r q h np l F rows n O) (ha : a ∉ l ∨ a ∈ l ∧ (F a).k ≠ 4) :
    Calls Tryz.prog 40 #[.pointer (some ⟨r, 0, none⟩), .int .i64 a, .int .i64 t] w fun e w' => e = .returned (.tuple #[.int .i64 0, .int .i64 5]) ∧ Upd [] w w' := by
  have HS := Lib.hid (strength_no r q h np n a w H ha)
  clear H ha
  go_enter Tryz.func40, Tryz.ntmps40
  go_wp2_with fail
  refine (HS.out).mono ?_
  rintro e w1 ⟨rfl, hu⟩
  have HU := Lib.hid hu
  clear hu
  go_wp2_with fail
  go_ret2
  exact ⟨rfl, HU.out⟩
set_option maxRecDepth 100000 in
set_option maxHeartbeats 1600000 in
theorem referent_yes (r q h : Nat) (np : List Pst) (n : Nat) (a t : Int) (w : World) (H : RefO w r q h np l F rows n O) (ha : a ∈ l) (hk : (F a).k = 4) :
    Calls Tryz.prog 40 #[.pointer (some ⟨r, 0, none⟩), .int .i64 a, .int .i64 t] w fun e w' =>
      e = .returned (.tuple #[.int .i64 (refX (F a)), .int .i64 0]) ∧ ∃ O', RefO w' r q h np l (refF F a t) rows n O' ∧ StepO O w O' w' := by
  obtain ⟨h5, b1, b3, _⟩ := H.ref5 ha hk
  obtain ⟨x, hx⟩ : ∃ x, (F a).ws.getD 0 0 = x := ⟨_, rfl⟩
  have HG := Lib.hid (fun W (hu : Upd [] w W) => ref_get r q h np n a 0 0 x W (H.upd0 hu) ha rfl (by omega) hx)
  rcases (show (F a).c = 3 ∨ (F a).c = 2 ∨ (F a).c = 1 by omega) with hc | hc | hc
  · have HS := Lib.hid (strength_yes r q h np n a 3 w H ha hk hc)
    rw [show refX (F a) = 0 by unfold refX; first | rw [if_pos hc] | rw [if_neg (by rw [hc]; omega), hx]]
    have HR := Lib.hid H
    have HX := Lib.hid hx
    have HC := Lib.hid hc
    have HA := Lib.hid (And.intro ha (show 3 < (F a).ws.length by omega))
    clear H ha hk h5 hc hx
    go_enter Tryz.func40, Tryz.ntmps40
    go_wp2_with fail
    refine (HS.out).mono ?_
    rintro e w1 ⟨rfl, hu⟩
    obtain ⟨c0, c1, c2, c3⟩ := (HR.out.upd0 hu).cells
    have HU := Lib.hid hu
    clear hu
    go_wp2_with fail
    go_ret2
    refine ⟨rfl, O, ?_, .upd O HU.out⟩
    unfold refF
    rw [if_neg (by rw [HC.out]; simp)]
    exact HR.out.upd0 HU.out
  · have HS := Lib.hid (strength_yes r q h np n a 2 w H ha hk hc)
    rw [show refX (F a) = x by unfold refX; first | rw [if_pos hc] | rw [if_neg (by rw [hc]; omega), hx]]
    have HR := Lib.hid H
    have HX := Lib.hid hx
    have HC := Lib.hid hc
    have HA := Lib.hid (And.intro ha (show 3 < (F a).ws.length by omega))
    clear H ha hk h5 hc hx
    go_enter Tryz.func40, Tryz.ntmps40
    go_wp2_with fail
    refine (HS.out).mono ?_
    rintro e w1 ⟨rfl, hu⟩
    obtain ⟨c0, c1, c2, c3⟩ := (HR.out.upd0 hu).cells
    have HU := Lib.hid hu
    clear hu
    go_wp2_with fail
    refine (HG.out _ HU.out).mono ?_
    rintro e w2 ⟨rfl, hu⟩
    have HU2 := Lib.hid (HU.out.trans hu)
    clear c0 c1 c2 c3
    obtain ⟨c0, c1, c2, c3⟩ := (HR.out.upd0 HU2.out).cells
    clear hu
    go_wp2_with fail
    go_ret2
    refine ⟨rfl, O, ?_, .upd O HU2.out⟩
    unfold refF
    rw [if_neg (by rw [HC.out]; simp)]
    exact HR.out.upd0 HU2.out
  · by_cases h0 : x = 0
    · subst h0
      have HS := Lib.hid (strength_yes r q h np n a 1 w H ha hk hc)
      rw [show refX (F a) = 0 by unfold refX; first | rw [if_pos hc] | rw [if_neg (by rw [hc]; omega), hx]]
      have HR := Lib.hid H
      have HX := Lib.hid hx
      have HC := Lib.hid hc
      have HA := Lib.hid (And.intro ha (show 3 < (F a).ws.length by omega))
      clear H ha hk h5 hc hx
      go_enter Tryz.func40, Tryz.ntmps40
      go_wp2_with fail
      refine (HS.out).mono ?_
      rintro e w1 ⟨rfl, hu⟩
      obtain ⟨c0, c1, c2, c3⟩ := (HR.out.upd0 hu).cells
      have HU := Lib.hid hu
      clear hu
      go_wp2_with fail
      refine (HG.out _ HU.out).mono ?_
      rintro e w2 ⟨rfl, hu⟩
      have HU2 := Lib.hid (HU.out.trans hu)
      clear c0 c1 c2 c3
      obtain ⟨c0, c1, c2, c3⟩ := (HR.out.upd0 HU2.out).cells
      clear hu
      go_wp2_with fail
      go_ret2
      refine ⟨rfl, O, ?_, .upd O HU2.out⟩
      unfold refF
      rw [if_neg (by rw [HX.out]; simp)]
      exact HR.out.upd0 HU2.out
    · have HS := Lib.hid (strength_yes r q h np n a 1 w H ha hk hc)
      rw [show refX (F a) = x by unfold refX; first | rw [if_pos hc] | rw [if_neg (by rw [hc]; omega), hx]]
      have HR := Lib.hid H
      have HX := Lib.hid hx
      have HC := Lib.hid hc
      have HA := Lib.hid (And.intro ha (show 3 < (F a).ws.length by omega))
      clear H ha hk h5 hc hx
      go_enter Tryz.func40, Tryz.ntmps40
      go_wp2_with fail
      refine (HS.out).mono ?_
      rintro e w1 ⟨rfl, hu⟩
      obtain ⟨c0, c1, c2, c3⟩ := (HR.out.upd0 hu).cells
      have HU := Lib.hid hu
      clear hu
      go_wp2_with fail
      refine (HG.out _ HU.out).mono ?_
      rintro e w2 ⟨rfl, hu⟩
      have HU2 := Lib.hid (HU.out.trans hu)
      clear c0 c1 c2 c3
      obtain ⟨c0, c1, c2, c3⟩ := (HR.out.upd0 HU2.out).cells
      clear hu
      go_wp2_with fail
      refine (ref_put r q h np n a 3 3 t _ (HR.out.upd0 HU2.out) HA.out.1 rfl HA.out.2 (by omega)).mono ?_
      rintro e w3 ⟨rfl, O3, hr, hs⟩
      have HR3 := Lib.hid hr
      have HS3 := Lib.hid (StepO.behind HU2.out hs)
      clear hr hs
      go_wp2_with fail
      go_ret2
      refine ⟨rfl, O3, ?_, HS3.out⟩
      unfold refF
      rw [if_pos ⟨HC.out, by rw [HX.out]; exact h0⟩]
      exact HR3.out
end
end Go.Proofs.YtpkbdmieelgdlaaGreat
namespace Go.Proofs.YtpkbdmieelgdlaaGreat
open Go Go.RowKit

section
variable {w : World} {r h : Nat} {np : List Pst} {l : List Int} {F : Int → Ob} {rows : List (List Int)} {n : Int} {O : Nat → Prop}
theorem dq_head (r h : Nat) (np : List Pst) (a k c m : Int) (f : Bool) (w : World) (H : DqO w r h np l F rows n O) (ha : a ∈ l) (ho : (F a).head = .agg #[.int .i64 k, .int .i64 c, .int .i64 m, .bool f]) :
    Calls Tryz.prog 66 #[.pointer (some ⟨h, 0, none⟩), .int .i64 a] w fun e w' => e = .returned (.agg #[.int .i64 k, .int .i64 c, .int .i64 m, .bool f, .bool true]) ∧ Upd [] w w' := by
  obtain ⟨Oh, hh, -⟩ := H.heaped
  exact dhead_yes h np a k c m f w hh ha ho
theorem dq_get (r h : Nat) (np : List Pst) (a i : Int) (j : Nat) (x : Int) (w : World) (H : DqO w r h np l F rows n O) (ha : a ∈ l) (hi : i = j) (hj : j < (F a).ws.length) (hx : (F a).ws.getD j 0 = x) :
    Calls Tryz.prog 76 #[.pointer (some ⟨h, 0, none⟩), .int .i64 a, .int .i64 i] w fun e w' => e = .returned (.agg #[.int .i64 x, .int .i64 0]) ∧ Upd [] w w' := by
  obtain ⟨Oh, hh, -⟩ := H.heaped
  exact dget_yes h np a i j x w hh ha hi hj hx
set_option maxRecDepth 100000 in
theorem dreferent_no (r h : Nat) (np : List Pst) (a t : Int) (w : World) (H : DqO w r h np l F rows n O) (ha : a ∉ l ∨ a ∈ l ∧ (F a).k ≠ 4) :
    Calls Tryz.prog 41 #[.pointer (some ⟨r, 0, none⟩), .int .i64 a, .int .i64 t] w fun e w' => e = .returned (.agg #[.int .i64 0, .int .i64 5]) ∧ Upd [] w w' := by
  have HU : Hid (Upd [] w (w.alloc (.cells #[.int .i64 0, .int .i64 0] 34))) := Lib.hid ((Upd.refl [] w).alloc _)
  have HG : Hid (Blk (w.alloc (.cells #[.int .i64 0, .int .i64 0] 34)) w.heap.size 34 #[.int .i64 0, .int .i64 0]) := Lib.hid (Blk.new _ _ _)
  have HQ := Lib.hid (dis_no r h np a _ (H.upd0 HU.out) ha)
  clear H ha
  go_enter Tryz.func41, Tryz.ntmps41
  go_wp2_with fail
  refine (HQ.out).mono ?_
  rintro e w1 ⟨rfl, hu⟩
  have HG1 := Lib.hid (HG.out.upd hu (by simp))
  have HU1 := Lib.hid (HU.out.trans hu)
  have z0 := HG1.out.cell 0
  have z1 := HG1.out.cell 1
  have z2 := HG1.out.frozen 0
  have z3 := HG1.out.frozen 1
  simp only [List.getElem?_toArray, List.getElem?_cons_zero, List.getElem?_cons_succ] at z0 z1
  clear hu
  go_wp2_with fail
  exact cell_ret rfl ((HG1.out.set_ 0 _).set_ 1 _) rfl rfl Tryz.underlying34 (by kernel_rfl) ⟨rfl, (HU1.out.setCell (.inr (Nat.le_refl _)) _).setCell (.inr (Nat.le_refl _)) _⟩
set_option maxRecDepth 100000 in
set_option maxHeartbeats 3200000 in
theorem dreferent_yes (r h : Nat) (np : List Pst) (a t : Int) (w : World) (H : DqO w r h np l F rows n O) (ha : a ∈ l) (hk : (F a).k = 4) (h5 : (F a).ws.length = 5) (hc13 : 1 ≤ (F a).c ∧ (F a).c ≤ 3) :
    Calls Tryz.prog 41 #[.pointer (some ⟨r, 0, none⟩), .int .i64 a, .int .i64 t] w fun e w' => e = .returned (.agg #[.int .i64 (refX (F a)), .int .i64 0]) ∧ ∃ O', DqO w' r h np l (refF F a t) rows n O' ∧ StepO O w O' w' := by
  have HR0 := Lib.hid (ResAt.start H)
  have HQ := Lib.hid (dis_yes r h np a _ HR0.out.doc ha hk)
  have HA := Lib.hid ha
  have HL := Lib.hid h5
  obtain ⟨f, hf⟩ : ∃ f, (F a).f = f := ⟨_, rfl⟩
  obtain ⟨x, hx⟩ : ∃ x, (F a).ws.getD 0 0 = x := ⟨_, rfl⟩
  have HX := Lib.hid hx
  have hcs : (F a).c = 3 ∨ (F a).c = 2 ∨ (F a).c = 1 := by omega
  clear H ha
  rcases hcs with hc | hc | hc
  · have HD : Hid ((F a).head = .agg #[.int .i64 4, .int .i64 3, .int .i64 5, .bool f]) := Lib.hid (by unfold Ob.head; rw [hk, hc, h5, hf]; rfl)
    have HRX : Hid (refX (F a) = 0) := Lib.hid (by unfold refX; rw [if_pos hc])
    have HRF : Hid (refF F a t = F) := Lib.hid (by unfold refF; rw [if_neg (by rw [hc]; intro h; exact absurd h.1 (by decide))])
    clear hk h5 hf hx hc hc13
    go_enter Tryz.func41, Tryz.ntmps41
    go_wp2_with fail
    refine (HQ.out).mono ?_
    rintro e w1 ⟨rfl, hu⟩
    have HR1 := Lib.hid (HR0.out.upd0 hu)
    obtain ⟨c0, c1, c2, d0, d1, d2, d3⟩ := HR1.out.cells
    have hfd : ∀ W : World, (Instr.field 113 (.agg #[.int .i64 4, .int .i64 3, .int .i64 5, .bool f, .bool true]) 0).run Tryz.prog W = .ok (.agg #[.int .i64 4, .int .i64 3, .int .i64 5, .bool f]) W := fun _ => by kernel_rfl
    have hfe : ∀ W : World, (Instr.field 37 (.agg #[.int .i64 4, .int .i64 3, .int .i64 5, .bool f]) 1).run Tryz.prog W = .ok (.int .i64 3) W := fun _ => by kernel_rfl
    clear hu
    go_wp2_with fail
    refine (dq_head r h np a 4 3 5 f _ HR1.out.doc HA.out (by rw [HD.out])).mono ?_
    rintro e w2 ⟨rfl, hu⟩
    have HR := Lib.hid (HR1.out.upd0 hu)
    clear hu c0 c1 c2 d0 d1 d2 d3 HR1
    obtain ⟨c0, c1, c2, d0, d1, d2, d3⟩ := HR.out.cells
    go_wp2_with fail
    obtain ⟨f1, f2, f3⟩ := HR.out.fin (.int .i64 0) (.int .i64 0)
    exact cell_ret rfl f1 rfl rfl Tryz.underlying34 (by kernel_rfl) ⟨by rw [HRX.out], _, by rw [HRF.out]; exact f2, f3⟩
  · have HD : Hid ((F a).head = .agg #[.int .i64 4, .int .i64 2, .int .i64 5, .bool f]) := Lib.hid (by unfold Ob.head; rw [hk, hc, h5, hf]; rfl)
    have HRX : Hid (refX (F a) = x) := Lib.hid (by unfold refX; rw [if_neg (by rw [hc]; decide), hx])
    have HRF : Hid (refF F a t = F) := Lib.hid (by unfold refF; rw [if_neg (by rw [hc]; intro h; exact absurd h.1 (by decide))])
    clear hk h5 hf hx hc hc13
    go_enter Tryz.func41, Tryz.ntmps41
    go_wp2_with fail
    refine (HQ.out).mono ?_
    rintro e w1 ⟨rfl, hu⟩
    have HR1 := Lib.hid (HR0.out.upd0 hu)
    obtain ⟨c0, c1, c2, d0, d1, d2, d3⟩ := HR1.out.cells
    have hfd : ∀ W : World, (Instr.field 113 (.agg #[.int .i64 4, .int .i64 2, .int .i64 5, .bool f, .bool true]) 0).run Tryz.prog W = .ok (.agg #[.int .i64 4, .int .i64 2, .int .i64 5, .bool f]) W := fun _ => by kernel_rfl
    have hfe : ∀ W : World, (Instr.field 37 (.agg #[.int .i64 4, .int .i64 2, .int .i64 5, .bool f]) 1).run Tryz.prog W = .ok (.int .i64 2) W := fun _ => by kernel_rfl
    clear hu
    go_wp2_with fail
    refine (dq_head r h np a 4 2 5 f _ HR1.out.doc HA.out (by rw [HD.out])).mono ?_
    rintro e w2 ⟨rfl, hu⟩
    have HR := Lib.hid (HR1.out.upd0 hu)
    clear hu c0 c1 c2 d0 d1 d2 d3 HR1
    obtain ⟨c0, c1, c2, d0, d1, d2, d3⟩ := HR.out.cells
    go_wp2_with fail
    refine (dq_get r h np a 0 0 x _ HR.out.doc HA.out rfl (by rw [HL.out]; omega) HX.out).mono ?_
    rintro e w3 ⟨rfl, hu⟩
    have HR3 := Lib.hid (HR.out.upd0 hu)
    have HT := Lib.hid (GotBy.new HR3.out x 0)
    clear HR hu c0 c1 c2 d0 d1 d2 d3
    have HR := Lib.hid (HR3.out.upd0 ((Upd.refl [] w3).alloc (.cells #[.int .i64 x, .int .i64 0] 34)))
    clear HR3
    obtain ⟨c0, c1, c2, d0, d1, d2, d3⟩ := HR.out.cells
    obtain ⟨x0, x1⟩ := HT.out.cells
    go_wp2_with fail
    obtain ⟨f1, f2, f3⟩ := HR.out.fin (.int .i64 x) (.int .i64 0)
    exact cell_ret rfl f1 rfl rfl Tryz.underlying34 (by kernel_rfl) ⟨by rw [HRX.out], _, by rw [HRF.out]; exact f2, f3⟩
  · have HD : Hid ((F a).head = .agg #[.int .i64 4, .int .i64 1, .int .i64 5, .bool f]) := Lib.hid (by unfold Ob.head; rw [hk, hc, h5, hf]; rfl)
    have HRX : Hid (refX (F a) = x) := Lib.hid (by unfold refX; rw [if_neg (by rw [hc]; decide), hx])
    by_cases hx0 : x = 0
    · have HRF : Hid (refF F a t = F) := Lib.hid (by unfold refF; rw [if_neg (by rw [hx]; intro h; exact h.2 hx0)])
      subst hx0
      clear hk h5 hf hx hc hc13
      go_enter Tryz.func41, Tryz.ntmps41
      go_wp2_with fail
      refine (HQ.out).mono ?_
      rintro e w1 ⟨rfl, hu⟩
      have HR1 := Lib.hid (HR0.out.upd0 hu)
      obtain ⟨c0, c1, c2, d0, d1, d2, d3⟩ := HR1.out.cells
      have hfd : ∀ W : World, (Instr.field 113 (.agg #[.int .i64 4, .int .i64 1, .int .i64 5, .bool f, .bool true]) 0).run Tryz.prog W = .ok (.agg #[.int .i64 4, .int .i64 1, .int .i64 5, .bool f]) W := fun _ => by kernel_rfl
      have hfe : ∀ W : World, (Instr.field 37 (.agg #[.int .i64 4, .int .i64 1, .int .i64 5, .bool f]) 1).run Tryz.prog W = .ok (.int .i64 1) W := fun _ => by kernel_rfl
      clear hu
      go_wp2_with fail
      refine (dq_head r h np a 4 1 5 f _ HR1.out.doc HA.out (by rw [HD.out])).mono ?_
      rintro e w2 ⟨rfl, hu⟩
      have HR := Lib.hid (HR1.out.upd0 hu)
      clear hu c0 c1 c2 d0 d1 d2 d3 HR1
      obtain ⟨c0, c1, c2, d0, d1, d2, d3⟩ := HR.out.cells
      go_wp2_with fail
      refine (dq_get r h np a 0 0 0 _ HR.out.doc HA.out rfl (by rw [HL.out]; omega) HX.out).mono ?_
      rintro e w3 ⟨rfl, hu⟩
      have HR3 := Lib.hid (HR.out.upd0 hu)
      have HT := Lib.hid (GotBy.new HR3.out 0 0)
      clear HR hu c0 c1 c2 d0 d1 d2 d3
      have HR := Lib.hid (HR3.out.upd0 ((Upd.refl [] w3).alloc (.cells #[.int .i64 0, .int .i64 0] 34)))
      clear HR3
      obtain ⟨c0, c1, c2, d0, d1, d2, d3⟩ := HR.out.cells
      obtain ⟨x0, x1⟩ := HT.out.cells
      go_wp2_with fail
      obtain ⟨f1, f2, f3⟩ := HR.out.fin (.int .i64 0) (.int .i64 0)
      exact cell_ret rfl f1 rfl rfl Tryz.underlying34 (by kernel_rfl) ⟨by rw [HRX.out], _, by rw [HRF.out]; exact f2, f3⟩
    · have HRF : Hid (refF F a t = putF F a 3 t) := Lib.hid (by unfold refF; rw [if_pos ⟨hc, by rw [hx]; exact hx0⟩])
      have hxb : (x != 0) = true := bne_iff_ne.2 hx0
      clear hk h5 hf hx hc hc13
      go_enter Tryz.func41, Tryz.ntmps41
      go_wp2_with fail
      refine (HQ.out).mono ?_
      rintro e w1 ⟨rfl, hu⟩
      have HR1 := Lib.hid (HR0.out.upd0 hu)
      obtain ⟨c0, c1, c2, d0, d1, d2, d3⟩ := HR1.out.cells
      have hfd : ∀ W : World, (Instr.field 113 (.agg #[.int .i64 4, .int .i64 1, .int .i64 5, .bool f, .bool true]) 0).run Tryz.prog W = .ok (.agg #[.int .i64 4, .int .i64 1, .int .i64 5, .bool f]) W := fun _ => by kernel_rfl
      have hfe : ∀ W : World, (Instr.field 37 (.agg #[.int .i64 4, .int .i64 1, .int .i64 5, .bool f]) 1).run Tryz.prog W = .ok (.int .i64 1) W := fun _ => by kernel_rfl
      clear hu
      go_wp2_with fail
      refine (dq_head r h np a 4 1 5 f _ HR1.out.doc HA.out (by rw [HD.out])).mono ?_
      rintro e w2 ⟨rfl, hu⟩
      have HR := Lib.hid (HR1.out.upd0 hu)
      clear hu c0 c1 c2 d0 d1 d2 d3 HR1
      obtain ⟨c0, c1, c2, d0, d1, d2, d3⟩ := HR.out.cells
      go_wp2_with fail
      refine (dq_get r h np a 0 0 x _ HR.out.doc HA.out rfl (by rw [HL.out]; omega) HX.out).mono ?_
      rintro e w3 ⟨rfl, hu⟩
      have HR3 := Lib.hid (HR.out.upd0 hu)
      have HT := Lib.hid (GotBy.new HR3.out x 0)
      clear HR hu c0 c1 c2 d0 d1 d2 d3
      have HR := Lib.hid (HR3.out.upd0 ((Upd.refl [] w3).alloc (.cells #[.int .i64 x, .int .i64 0] 34)))
      clear HR3
      obtain ⟨c0, c1, c2, d0, d1, d2, d3⟩ := HR.out.cells
      obtain ⟨x0, x1⟩ := HT.out.cells
      go_wp2_with fail
      refine (dq_put r h np a 3 3 t _ HR.out.doc HA.out rfl (by rw [HL.out]; omega)).mono ?_
      rintro e w5 ⟨rfl, O5, hd5, hs5⟩
      have HR5 := Lib.hid (HR.out.next hd5 hs5)
      have HT5 := Lib.hid (HT.out.next hs5)
      clear hd5 hs5 HR HT c0 c1 c2 d0 d1 d2 d3 x0 x1
      have HR := HR5
      have HT := HT5
      clear HR5 HT5
      obtain ⟨c0, c1, c2, d0, d1, d2, d3⟩ := HR.out.cells
      obtain ⟨x0, x1⟩ := HT.out.cells
      go_wp2_with fail
      obtain ⟨f1, f2, f3⟩ := HR.out.fin (.int .i64 x) (.int .i64 0)
      exact cell_ret rfl f1 rfl rfl Tryz.underlying34 (by kernel_rfl) ⟨by rw [HRX.out], _, by rw [HRF.out]; exact f2, f3⟩
end
end Go.Proofs.YtpkbdmieelgdlaaGreat
namespace Go.Proofs.YtpkbdmieelgdlaaGreat
open Go Go.RowKit

/-- All of some references refer to nothing. -/
def clearF (F : Int → Ob) (xs : List Int) : Int → Ob := xs.foldl (fun F a => putF F a 0 0) F
theorem clearF_snoc (F : Int → Ob) (xs : List Int) (a : Int) : clearF F (xs ++ [a]) = putF (clearF F xs) a 0 0 := by unfold clearF; rw [List.foldl_append]; rfl
theorem clearF_k (xs : List Int) (F : Int → Ob) (b : Int) : (clearF F xs b).k = (F b).k := by
  induction xs generalizing F with
  | nil => rfl
  | cons a t ih => exact (ih _).trans (putF_k ..)
theorem clearF_c (xs : List Int) (F : Int → Ob) (b : Int) : (clearF F xs b).c = (F b).c := by
  induction xs generalizing F with
  | nil => rfl
  | cons a t ih => exact (ih _).trans (putF_c ..)
theorem clearF_len (xs : List Int) (F : Int → Ob) (b : Int) : (clearF F xs b).ws.length = (F b).ws.length := by
  induction xs generalizing F with
  | nil => rfl
  | cons a t ih => exact (ih _).trans (putF_len ..)
theorem clearF_get (xs : List Int) (F : Int → Ob) (b : Int) (i : Nat) : (clearF F xs b).ws.getD i 0 = if i = 0 ∧ b ∈ xs then 0 else (F b).ws.getD i 0 := by
  induction xs generalizing F with
  | nil => simp [clearF]
  | cons a t ih =>
    show (clearF (putF F a 0 0) t b).ws.getD i 0 = _
    rw [ih, putF_get]
    by_cases h0 : i = 0
    · subst h0
      by_cases hb : b ∈ t
      · simp [hb]
      · by_cases e : b = a
        · subst e
          simp only [hb, and_false, if_false, true_and, List.mem_cons, true_or, and_true, if_true]
          split
          · rfl
          · rename_i h
            rw [List.getD_eq_getElem?_getD, List.getElem?_eq_none (by omega)]; rfl
        · simp [hb, e]
    · rw [if_neg (by omega), if_neg (by omega), if_neg (by omega)]
section
variable {l : List Int} {F : Int → Ob} {rows : List (List Int)} {O : Nat → Prop}
theorem clear_nil13 (A : Option Addr) (m cap : Nat) (w : World) : Calls Tryz.prog 42 #[.pointer none, .slice A m cap] w fun e w' => e = .returned (.int .i64 5) ∧ w = w' := by
  go_enter Tryz.func42, Tryz.ntmps42
  go_wp2_with fail
  go_ret
  exact ⟨rfl, rfl⟩
theorem ref_strength (r q h : Nat) (np : List Pst) (n : Nat) (a : Int) (w : World) (H : RefO w r q h np l F rows n O) (ha : a ∈ l ∧ (F a).k = 4) : Calls Tryz.prog 75 #[.pointer (some ⟨r, 0, none⟩), .int .i64 a] w fun e w' => ∃ c : Int, e = .returned (.tuple #[.int .i64 c, .int .i64 0]) ∧ Upd [] w w' :=
  (strength_yes r q h np n a _ w H ha.1 ha.2 rfl).mono fun _ _ h => ⟨_, h⟩
set_option maxRecDepth 100000 in
set_option maxHeartbeats 1600000 in
/-- The first that is no reference is told; nothing has turned. -/
theorem clear_no (r q h : Nat) (np : List Pst) (n : Nat) (A : Option Addr) (xs ys : List Int) (z : Int) (cap : Nat) (w : World) (H : RefO w r q h np l F rows n O) (hA : ReadsO w A (xs ++ z :: ys) O) (hx : ∀ a ∈ xs, a ∈ l ∧ (F a).k = 4) (hz : z ∉ l ∨ z ∈ l ∧ (F z).k ≠ 4) (hl : (xs ++ z :: ys).length ≤ 4294967296) :
    Calls Tryz.prog 42 #[.pointer (some ⟨r, 0, none⟩), .slice A (xs ++ z :: ys).length cap] w fun e w' => e = .returned (.int .i64 5) ∧ Upd [] w w' := by
  obtain ⟨L, hL⟩ : ∃ L, xs ++ z :: ys = L := ⟨_, rfl⟩
  obtain ⟨M, hM⟩ : ∃ M, L.length = M := ⟨_, rfl⟩
  obtain ⟨K, hK⟩ : ∃ K, xs.length = K := ⟨_, rfl⟩
  have hKM : K < M := by rw [← hM, ← hL, ← hK]; simp
  have HLO : Hid (∀ i, i < K → L.getD i 0 ∈ l ∧ (F (L.getD i 0)).k = 4) := Lib.hid fun i hi => by
    have : L.getD i 0 = xs.getD i 0 := by rw [← hL, List.getD_eq_getElem?_getD, List.getD_eq_getElem?_getD, List.getElem?_append_left (by omega)]
    rw [this]; exact hx _ (getD_mem (by omega))
  have HZ : Hid (L.getD K 0 = z) := Lib.hid (by rw [← hL, List.getD_eq_getElem?_getD, List.getElem?_append_right (by omega), hK]; simp)
  rw [hL] at hA hl ⊢
  rw [hM] at hl ⊢
  have HR := Lib.hid H
  have HA := Lib.hid hA
  have HM := Lib.hid hM
  have HZZ := Lib.hid hz
  clear H hA hx hz hL hM hK
  go_enter Tryz.func42, Tryz.ntmps42
  go_wp2_with fail
  go_loopg [15] M (fun gk i wr => ∃ k : Nat, gk = M - k ∧ k ≤ K ∧ i = .int .i64 k ∧ Hid (Upd [] w wr))
  case atStart => exact ⟨0, rfl, by omega, rfl, Lib.hid (Upd.refl _ _)⟩
  case round =>
    obtain ⟨k, rfl, hk, rfl, HU⟩ := hrel
    have hkM : k < M := by omega
    obtain ⟨b, off, rfl, hb, hc⟩ := (HA.out.upd0 HU.out).at HM.out hkM
    by_cases hlt : k < K
    · have HLK := Lib.hid (HLO.out k hlt)
      generalize L.getD k 0 = x at *
      go_wp2_with fail
      refine (ref_strength r q h np n x _ (HR.out.upd0 HU.out) HLK.out).mono ?_
      rintro e w2 ⟨c, rfl, hu⟩
      have HU2 := Lib.hid (HU.out.trans hu)
      clear hu
      go_wp2_with fail
      go_roundg (M - (k + 1))
      case measure => omega
      case rel => exact ⟨k + 1, rfl, by omega, by go_num, HU2⟩
    · obtain rfl : k = K := by omega
      rw [HZ.out] at hc
      go_wp2_with fail
      refine (strength_no r q h np n z _ (HR.out.upd0 HU.out) HZZ.out).mono ?_
      rintro e w2 ⟨rfl, hu⟩
      have HU2 := Lib.hid (HU.out.trans hu)
      clear hu
      go_wp2_with fail
      go_ret
      exact ⟨rfl, HU2.out⟩

set_option maxRecDepth 100000 in
set_option maxHeartbeats 1600000 in
theorem clear_yes (r q h : Nat) (np : List Pst) (n : Nat) (A : Option Addr) (L : List Int) (M cap : Nat) (w : World) (H : RefO w r q h np l F rows n O) (hA : ReadsO w A L O) (hx : ∀ a ∈ L, a ∈ l ∧ (F a).k = 4) (hM : L.length = M) (hl : M ≤ 4294967296) :
    Calls Tryz.prog 42 #[.pointer (some ⟨r, 0, none⟩), .slice A M cap] w fun e w' => e = .returned (.int .i64 0) ∧ ∃ O', RefO w' r q h np l (clearF F L) rows n O' ∧ StepO O w O' w' := by
  have HLO : Hid (∀ i, i < M → L.getD i 0 ∈ l ∧ (F (L.getD i 0)).k = 4 ∧ 0 < (F (L.getD i 0)).ws.length) := Lib.hid fun i hi => by
    have h1 := hx _ (getD_mem (by omega : i < L.length))
    have := (H.ref5 h1.1 h1.2).1
    exact ⟨h1.1, h1.2, by omega⟩
  have HTK : Hid (∀ k, k < M → clearF F (L.take (k + 1)) = putF (clearF F (L.take k)) (L.getD k 0) 0 0) := Lib.hid fun k hk => by
    rw [← clearF_snoc, List.take_succ_eq_append_getElem (by omega : k < L.length), List.getD_eq_getElem?_getD, List.getElem?_eq_getElem (by omega : k < L.length)]; rfl
  have HR := Lib.hid H
  have HA := Lib.hid hA
  have HM := Lib.hid hM
  clear H hA hx hM
  go_enter Tryz.func42, Tryz.ntmps42
  go_wp2_with fail
  go_loopg [15] M (fun gk i wr => ∃ k : Nat, gk = M - k ∧ k ≤ M ∧ i = .int .i64 k ∧ Hid (Upd [] w wr))
  case atStart => exact ⟨0, rfl, by omega, rfl, Lib.hid (Upd.refl _ _)⟩
  case round =>
    obtain ⟨k, rfl, hk, rfl, HU⟩ := hrel
    by_cases hlt : k < M
    · obtain ⟨b, off, rfl, hb, hc⟩ := (HA.out.upd0 HU.out).at HM.out hlt
      have HLK := Lib.hid (HLO.out k hlt)
      generalize L.getD k 0 = x at *
      go_wp2_with fail
      refine (ref_strength r q h np n x _ (HR.out.upd0 HU.out) ⟨HLK.out.1, HLK.out.2.1⟩).mono ?_
      rintro e w2 ⟨c, rfl, hu⟩
      have HU2 := Lib.hid (HU.out.trans hu)
      clear hu
      go_wp2_with fail
      go_roundg (M - (k + 1))
      case measure => omega
      case rel => exact ⟨k + 1, rfl, by omega, by go_num, HU2⟩
    · obtain rfl : k = M := by omega
      obtain ⟨wo, rfl⟩ : ∃ wo : World, wo = wr := ⟨_, rfl⟩
      go_wp2_with fail
      go_loopg [31] k (fun gk i wr => ∃ (j : Nat) (O' : Nat → Prop), gk = k - j ∧ j ≤ k ∧ i = .int .i64 j ∧ Hid (RefO wr r q h np l (clearF F (L.take j)) rows n O') ∧ Hid (StepO O w O' wr))
      case atStart => exact ⟨0, O, rfl, by omega, rfl, Lib.hid (HR.out.upd0 HU.out), Lib.hid (.upd O HU.out)⟩
      case round =>
        obtain ⟨j, O', rfl, hj, rfl, HR2, HS⟩ := hrel
        by_cases hlt : j < k
        · obtain ⟨b, off, rfl, hb, hc⟩ := (HA.out.step HS.out).at HM.out hlt
          have HLK := Lib.hid (HLO.out j hlt)
          have HT := Lib.hid (HTK.out j hlt)
          obtain ⟨c0, c1, c2, c3⟩ := HR2.out.cells
          generalize L.getD j 0 = x at *
          go_wp2_with fail
          refine (ref_put r q h np n x 0 0 0 _ HR2.out HLK.out.1 rfl (by rw [clearF_len]; exact HLK.out.2.2) (by omega)).mono ?_
          rintro e w2 ⟨rfl, O2, hr, hs⟩
          rw [← HT.out] at hr
          have HR3 := Lib.hid hr
          have HS3 := Lib.hid (HS.out.trans hs)
          clear hr hs
          go_wp2_with fail
          go_roundg (k - (j + 1))
          case measure => omega
          case rel => exact ⟨j + 1, O2, rfl, by omega, by go_num, HR3, HS3⟩
        · obtain rfl : j = k := by omega
          go_wp2_with fail
          go_ret
          have := HR2.out
          rw [List.take_of_length_le (by rw [HM.out]; exact Nat.le_refl _)] at this
          exact ⟨rfl, O', this, HS.out⟩

end
end Go.Proofs.YtpkbdmieelgdlaaGreat
namespace Go.Proofs.YtpkbdmieelgdlaaGreat
open Go Go.RowKit

theorem ReadsO.cellRd {w : World} {A : Option Addr} {xs : List Int} {O : Nat → Prop} (h : ReadsO w A xs O) {n i : Nat} (hn : xs.length = n) (hi : i < n) : ∃ b off, A = some ⟨b, off, none⟩ ∧ ∀ W O', StepO O w O' W → W.cell? ⟨b, off + i, none⟩ = some (.int .i64 (xs.getD i 0)) := by
  rcases h with rfl | ⟨b, off, h1, h2, h3, h4⟩
  · simp at hn; omega
  · exact ⟨b, off, h1, fun W O' k => by rw [World.cell?_of_block (w := w) (k.block b h2 h3)]; exact h4 i (by omega)⟩
section
variable {w : World} {r h : Nat} {np : List Pst} {l : List Int} {F : Int → Ob} {rows : List (List Int)} {n : Int} {O : Nat → Prop}
set_option maxRecDepth 100000 in
theorem dclear_no (r h : Nat) (np : List Pst) (A : Option Addr) (L : List Int) (M K cap : Nat) (w : World) (H : DqO w r h np l F rows n O) (hA : ReadsO w A L O) (hM : L.length = M) (hK : K < M) (hlo : ∀ i, i < K → L.getD i 0 ∈ l ∧ (F (L.getD i 0)).k = 4) (hz : L.getD K 0 ∉ l ∨ L.getD K 0 ∈ l ∧ (F (L.getD K 0)).k ≠ 4) (hl : M ≤ 4294967296) :
    Calls Tryz.prog 43 #[.pointer (some ⟨r, 0, none⟩), .slice A M cap] w fun e w' => e = .returned (.int .i64 5) ∧ Upd [] w w' := by
  have HR := Lib.hid H
  have HA := Lib.hid hA
  have HM := Lib.hid hM
  have HLO := Lib.hid hlo
  have HZ := Lib.hid hz
  clear H hA hM hlo hz
  go_enter Tryz.func43, Tryz.ntmps43
  go_wp2_with fail
  go_loopg [5] M (fun gk i wr => ∃ k : Nat, gk = M - k ∧ k ≤ K ∧ i = .int .i64 k ∧ Hid (Upd [] w wr))
  case atStart => exact ⟨0, rfl, by omega, rfl, Lib.hid (Upd.refl _ _)⟩
  case round =>
    obtain ⟨k, rfl, hk, rfl, HU⟩ := hrel
    have hkm : k < M := by omega
    obtain ⟨b, off, rfl, hc⟩ := HA.out.cellRd HM.out hkm
    have c1 := hc wr _ (.upd O HU.out)
    have HD := Lib.hid (HR.out.upd0 HU.out)
    obtain ⟨c0, -, -, -⟩ := HD.out.cells
    clear hc
    by_cases hkK : k = K
    · subst hkK
      have HQ := Lib.hid (dis_no r h np (L.getD k 0) _ HD.out HZ.out)
      generalize L.getD k 0 = z at *
      go_wp2_with fail
      refine (HQ.out).mono ?_
      rintro e w1 ⟨rfl, hu⟩
      have HV := Lib.hid hu
      clear hu
      go_wp2_with fail
      go_ret
      exact ⟨rfl, HU.out.trans HV.out⟩
    · have h1 := HLO.out k (by omega)
      have HQ := Lib.hid (dis_yes r h np (L.getD k 0) _ HD.out h1.1 h1.2)
      clear h1
      generalize L.getD k 0 = z at *
      go_wp2_with fail
      refine (HQ.out).mono ?_
      rintro e w1 ⟨rfl, hu⟩
      have HV := Lib.hid (HU.out.trans hu)
      clear hu
      go_wp2_with fail
      go_roundg (M - (k + 1))
      case measure => omega
      case rel => exact ⟨k + 1, rfl, by omega, by go_num, HV⟩
set_option maxRecDepth 100000 in
set_option maxHeartbeats 1600000 in
theorem dclear_yes (r h : Nat) (np : List Pst) (A : Option Addr) (L : List Int) (M cap : Nat) (w : World) (H : DqO w r h np l F rows n O) (hA : ReadsO w A L O) (hx : ∀ a ∈ L, a ∈ l ∧ (F a).k = 4 ∧ 0 < (F a).ws.length) (hM : L.length = M) (hl : M ≤ 4294967296) :
    Calls Tryz.prog 43 #[.pointer (some ⟨r, 0, none⟩), .slice A M cap] w fun e w' => e = .returned (.int .i64 0) ∧ ∃ O', DqO w' r h np l (clearF F L) rows n O' ∧ StepO O w O' w' := by
  have HLO : Hid (∀ i, i < M → L.getD i 0 ∈ l ∧ (F (L.getD i 0)).k = 4 ∧ 0 < (F (L.getD i 0)).ws.length) := Lib.hid fun i hi => hx _ (getD_mem (by omega : i < L.length))
  have HTK : Hid (∀ k, k < M → clearF F (L.take (k + 1)) = putF (clearF F (L.take k)) (L.getD k 0) 0 0) := Lib.hid fun k hk => by
    rw [← clearF_snoc, List.take_succ_eq_append_getElem (by omega : k < L.length), List.getD_eq_getElem?_getD, List.getElem?_eq_getElem (by omega : k < L.length)]; rfl
  have HR := Lib.hid H
  have HA := Lib.hid hA
  have HM := Lib.hid hM
  clear H hA hM hx
  go_enter Tryz.func43, Tryz.ntmps43
  go_upto_block 0 with fail
  go_cut [5] (fun _ wx => Hid (Upd [] w wx))
  case first =>
    go_wp2_with fail
    go_loopg [5] M (fun gk i wr => ∃ k : Nat, gk = M - k ∧ k ≤ M ∧ i = .int .i64 k ∧ Hid (Upd [] w wr))
    case atStart => exact ⟨0, rfl, by omega, rfl, Lib.hid (Upd.refl _ _)⟩
    case round =>
      obtain ⟨k, rfl, hk, rfl, HU⟩ := hrel
      by_cases hkm : k < M
      · obtain ⟨b, off, rfl, hc⟩ := HA.out.cellRd HM.out hkm
        have c1 := hc wr _ (.upd O HU.out)
        have HD := Lib.hid (HR.out.upd0 HU.out)
        have h1 := HLO.out k hkm
        have HQ := Lib.hid (dis_yes r h np (L.getD k 0) _ HD.out h1.1 h1.2.1)
        clear hc h1
        generalize L.getD k 0 = z at *
        go_wp2_with fail
        refine (HQ.out).mono ?_
        rintro e w1 ⟨rfl, hu⟩
        have HV := Lib.hid (HU.out.trans hu)
        clear hu
        go_wp2_with fail
        go_roundg (M - (k + 1))
        case measure => omega
        case rel => exact ⟨k + 1, rfl, by omega, by go_num, HV⟩
      · obtain rfl : k = M := by omega
        go_wp2_with fail
        go_meet
        exact HU
  case rest =>
    have HU := hcut
    go_wp2_with fail
    go_loopg [6] M (fun gk i wr => ∃ (k : Nat) (O' : Nat → Prop), gk = M - k ∧ k ≤ M ∧ i = .int .i64 k ∧ Hid (DqO wr r h np l (clearF F (L.take k)) rows n O') ∧ Hid (StepO O w O' wr))
    case atStart => exact ⟨0, O, rfl, by omega, rfl, Lib.hid (HR.out.upd0 HU.out), Lib.hid (.upd O HU.out)⟩
    case round =>
      obtain ⟨k, O', rfl, hk, rfl, HD, HS⟩ := hrel
      by_cases hkm : k < M
      · obtain ⟨b, off, rfl, hc⟩ := HA.out.cellRd HM.out hkm
        have c1 := hc wr _ HS.out
        obtain ⟨c0, -, -, -⟩ := HD.out.cells
        have h1 := HLO.out k hkm
        have HQ := Lib.hid (dq_put r h np (L.getD k 0) 0 0 0 wr.drew (HD.out.upd0 (Upd.refl [] wr).drew) h1.1 rfl (by rw [clearF_len]; exact h1.2.2))
        rw [← HTK.out k hkm] at HQ
        clear hc h1
        generalize L.getD k 0 = z at *
        go_upto_region 9 with fail
        go_still_tail 8, (by kernel_rfl)
        change wpList _ _ _ _ _ wr.drew
        go_wp2_with fail
        refine (HQ.out).mono ?_
        rintro e w1 ⟨rfl, O2, hd, hs⟩
        have HD2 := Lib.hid hd
        have HS2 := Lib.hid (HS.out.trans (StepO.behind (Upd.refl [] wr).drew hs))
        clear hd hs
        go_wp2_with fail
        go_roundg (M - (k + 1))
        case measure => omega
        case rel => exact ⟨k + 1, O2, rfl, by omega, by go_num, HD2, HS2⟩
      · obtain rfl : k = M := by omega
        have hR := HD.out
        rw [List.take_of_length_le (by rw [HM.out]; exact Nat.le_refl _)] at hR
        have HR3 := Lib.hid hR
        clear hR
        go_wp2_with fail
        go_ret
        exact ⟨rfl, O', HR3.out, HS.out⟩
end
end Go.Proofs.YtpkbdmieelgdlaaGreat
namespace Go.Proofs.YtpkbdmieelgdlaaGreat
open Go Go.RowKit

def enqF (F : Int → Ob) (r : List Int) (a : Int) : Int → Ob := putF (pushF (clearF F [a]) r a) a 1 (-1)
section
variable {l : List Int} {F : Int → Ob} {rows : List (List Int)} {O : Nat → Prop} {w w' : World} {r q h : Nat} {np : List Pst} {n : Nat}
theorem ref_push (r q h : Nat) (np : List Pst) (n : Nat) (i a : Int) (j : Nat) (w : World) (H : RefO w r q h np l F rows n O) (hi : i = j) (hj : j < rows.length) (ha : a ∈ l) (hk : (F a).k = 4) (hn : ∀ i, a ∉ rows.getD i []) :
    Calls Tryz.prog 30 #[.pointer (some ⟨q, 0, none⟩), .int .i64 i, .int .i64 a] w fun e w' =>
      e = .returned (.int .i64 0) ∧ ∃ O', RefO w' r q h np l (pushF F (rows.getD j []) a) (rows.set j (rows.getD j [] ++ [a])) n O' ∧ StepO O w O' w' := by
  obtain ⟨Oq, H, rfl⟩ := H
  refine (push_yes q h np i a j w H.que hi hj ha hk hn).mono ?_
  rintro e w' ⟨rfl, O', hq, hs⟩
  exact ⟨rfl, _, H.queued hq hs⟩
theorem ref_poll (r q h : Nat) (np : List Pst) (n : Nat) (i a : Int) (t : List Int) (j : Nat) (w : World) (H : RefO w r q h np l F rows n O) (hi : i = j) (hj : j < rows.length) (hr : rows.getD j [] = a :: t) :
    Calls Tryz.prog 31 #[.pointer (some ⟨q, 0, none⟩), .int .i64 i] w fun e w' =>
      e = .returned (.tuple #[.int .i64 a, .int .i64 0]) ∧ ∃ O', RefO w' r q h np l (nextF F a 0) (rows.set j t) n O' ∧ StepO O w O' w' := by
  obtain ⟨Oq, H, rfl⟩ := H
  refine (poll_yes q h np i a t j w H.que hi hj hr).mono ?_
  rintro e w' ⟨rfl, O', hq, hs⟩
  exact ⟨rfl, _, H.queued hq hs⟩
theorem ref_open (r q h : Nat) (np : List Pst) (n : Nat) (w : World) (H : RefO w r q h np l F rows n O) (hn : rows.length < 8) : Calls Tryz.prog 26 #[.pointer (some ⟨q, 0, none⟩)] w fun e w' =>
    e = .returned (.tuple #[.int .i64 rows.length, .int .i64 0]) ∧ ∃ O', RefO w' r q h np l F (rows ++ [[]]) n O' ∧ StepO O w O' w' := by
  obtain ⟨Oq, H, rfl⟩ := H
  refine (qopen_yes q h np w H.que hn).mono ?_
  rintro e w' ⟨rfl, O', hq, hs⟩
  exact ⟨rfl, _, H.queued hq hs⟩
theorem ref_list (r q h : Nat) (np : List Pst) (n : Nat) (i : Int) (j : Nat) (w : World) (H : RefO w r q h np l F rows n O) (hi : i = j) (hj : j < rows.length) :
    Calls Tryz.prog 34 #[.pointer (some ⟨q, 0, none⟩), .int .i64 i] w fun e w' => ∃ v, e = .returned (.tuple #[v, .int .i64 0]) ∧ Own w' w.heap.size v (rows.getD j []) ∧ Upd [] w w' := by
  obtain ⟨Oq, H, rfl⟩ := H
  exact list_yes q h np i j w H.que hi hj

theorem enqueue_no (r q h : Nat) (np : List Pst) (n : Nat) (a : Int) (w : World) (H : RefO w r q h np l F rows n O) (ha : a ∉ l ∨ a ∈ l ∧ (F a).k ≠ 4) :
    Calls Tryz.prog 44 #[.pointer (some ⟨r, 0, none⟩), .int .i64 a] w fun e w' => e = .returned (.tuple #[.bool false, .int .i64 5]) ∧ Upd [] w w' := by
  have hsz : ∀ k, O k → k < w.heap.size := fun k hk => H.owned hk
  have HU0 : Hid (Upd [] w (w.alloc (.cells #[.int .i64 a] 3))) := Lib.hid ((Upd.refl [] w).alloc _)
  have HR := Lib.hid (H.upd0 HU0.out)
  have HA := Lib.hid ha
  have HRD : Hid (ReadsO (w.alloc (.cells #[.int .i64 a] 3)) (some ⟨w.heap.size, 0, none⟩) [a] O) := Lib.hid (reads_one (Blk.new _ _ _) fun hx => by have := hsz _ hx; omega)
  clear H ha hsz
  go_enter Tryz.func44, Tryz.ntmps44
  go_wp2_with fail
  refine (clear_no r q h np n (some ⟨w.heap.size, 0, none⟩) [] [] a 1 _ HR.out HRD.out (by simp) HA.out (by simp)).mono ?_
  rintro e w1 ⟨rfl, hu⟩
  have HU1 := Lib.hid (HU0.out.trans hu)
  clear hu
  go_wp2_with fail
  go_ret2
  exact ⟨rfl, HU1.out⟩
set_option maxRecDepth 100000 in
set_option maxHeartbeats 1600000 in
theorem enqueue_none (r q h : Nat) (np : List Pst) (n : Nat) (a y : Int) (w : World) (H : RefO w r q h np l F rows n O) (ha : a ∈ l) (hk : (F a).k = 4) (hq : (F a).ws.getD 1 0 = y) (hy : y < 1) :
    Calls Tryz.prog 44 #[.pointer (some ⟨r, 0, none⟩), .int .i64 a] w fun e w' => e = .returned (.tuple #[.bool false, .int .i64 0]) ∧ ∃ O', RefO w' r q h np l (clearF F [a]) rows n O' ∧ StepO O w O' w' := by
  have hsz : ∀ k, O k → k < w.heap.size := fun k hk => H.owned hk
  have h5 := (H.ref5 ha hk).1
  have HU0 : Hid (Upd [] w (w.alloc (.cells #[.int .i64 a] 3))) := Lib.hid ((Upd.refl [] w).alloc _)
  have HR := Lib.hid (H.upd0 HU0.out)
  have HRD : Hid (ReadsO (w.alloc (.cells #[.int .i64 a] 3)) (some ⟨w.heap.size, 0, none⟩) [a] O) := Lib.hid (reads_one (Blk.new _ _ _) fun hx => by have := hsz _ hx; omega)
  have HA := Lib.hid (And.intro ha hk)
  have HL5 : Hid (1 < (clearF F [a] a).ws.length) := Lib.hid (by rw [clearF_len]; omega)
  have HQ : Hid ((clearF F [a] a).ws.getD 1 0 = y) := Lib.hid (by rw [clearF_get, if_neg (by omega)]; exact hq)
  have HK : Hid ((clearF F [a] a).k = 4) := Lib.hid (by rw [clearF_k]; exact hk)
  clear H ha hk hsz h5 hq
  go_enter Tryz.func44, Tryz.ntmps44
  go_wp2_with fail
  refine (clear_yes r q h np n (some ⟨w.heap.size, 0, none⟩) [a] 1 1 _ HR.out HRD.out (fun x hx => by rw [List.mem_singleton.1 hx]; exact HA.out) rfl (by omega)).mono ?_
  rintro e w1 ⟨rfl, O1, hr, hs⟩
  obtain ⟨c0, c1, c2, c3⟩ := hr.cells
  have HR1 := Lib.hid hr
  have HS1 := Lib.hid (StepO.behind HU0.out hs)
  clear hr hs
  go_wp2_with fail
  refine (ref_get r q h np n a 1 1 y _ HR1.out HA.out.1 rfl HL5.out HQ.out).mono ?_
  rintro e w2 ⟨rfl, hu⟩
  have HR2 := Lib.hid (HR1.out.upd0 hu)
  have HS2 := Lib.hid (HS1.out.then hu)
  clear hu c0 c1 c2 c3
  obtain ⟨c0, c1, c2, c3⟩ := HR2.out.cells
  go_wp2_with fail
  go_ret2
  exact ⟨rfl, O1, HR2.out, HS2.out⟩
set_option maxRecDepth 100000 in
set_option maxHeartbeats 1600000 in
theorem enqueue_yes (r q h : Nat) (np : List Pst) (n : Nat) (a : Int) (j : Nat) (w : World) (H : RefO w r q h np l F rows n O) (ha : a ∈ l) (hk : (F a).k = 4) (hq : (F a).ws.getD 1 0 = (j : Int) + 1) (hj : j < rows.length) (hn : ∀ i, a ∉ rows.getD i []) :
    Calls Tryz.prog 44 #[.pointer (some ⟨r, 0, none⟩), .int .i64 a] w fun e w' => e = .returned (.tuple #[.bool true, .int .i64 0]) ∧ ∃ O', RefO w' r q h np l (enqF F (rows.getD j []) a) (rows.set j (rows.getD j [] ++ [a])) n O' ∧ StepO O w O' w' := by
  obtain ⟨y, hy⟩ : ∃ y : Int, (j : Int) + 1 = y := ⟨_, rfl⟩
  have hj8 : rows.length ≤ 8 := by
    obtain ⟨Oq, H5, _⟩ := H
    obtain ⟨v, Oh, H6, _⟩ := H5.que
    exact H6.few
  rw [hy] at hq
  have HJ := Lib.hid hj
  have HN := Lib.hid hn
  have y1 : 1 ≤ y := by omega
  have y2 : y ≤ 8 := by omega
  have hyj : y - 1 = j := by omega
  have HYJ := Lib.hid hyj
  clear hj hn hy hyj hj8
  have hsz : ∀ k, O k → k < w.heap.size := fun k hk => H.owned hk
  have h5 := (H.ref5 ha hk).1
  have HU0 : Hid (Upd [] w (w.alloc (.cells #[.int .i64 a] 3))) := Lib.hid ((Upd.refl [] w).alloc _)
  have HR := Lib.hid (H.upd0 HU0.out)
  have HRD : Hid (ReadsO (w.alloc (.cells #[.int .i64 a] 3)) (some ⟨w.heap.size, 0, none⟩) [a] O) := Lib.hid (reads_one (Blk.new _ _ _) fun hx => by have := hsz _ hx; omega)
  have HA := Lib.hid (And.intro ha hk)
  have HL5 : Hid (1 < (clearF F [a] a).ws.length) := Lib.hid (by rw [clearF_len]; omega)
  have HQ : Hid ((clearF F [a] a).ws.getD 1 0 = y) := Lib.hid (by rw [clearF_get, if_neg (by omega)]; exact hq)
  have HK : Hid ((clearF F [a] a).k = 4) := Lib.hid (by rw [clearF_k]; exact hk)
  clear H ha hk hsz h5 hq
  go_enter Tryz.func44, Tryz.ntmps44
  go_wp2_with fail
  refine (clear_yes r q h np n (some ⟨w.heap.size, 0, none⟩) [a] 1 1 _ HR.out HRD.out (fun x hx => by rw [List.mem_singleton.1 hx]; exact HA.out) rfl (by omega)).mono ?_
  rintro e w1 ⟨rfl, O1, hr, hs⟩
  obtain ⟨c0, c1, c2, c3⟩ := hr.cells
  have HR1 := Lib.hid hr
  have HS1 := Lib.hid (StepO.behind HU0.out hs)
  clear hr hs
  go_wp2_with fail
  refine (ref_get r q h np n a 1 1 y _ HR1.out HA.out.1 rfl HL5.out HQ.out).mono ?_
  rintro e w2 ⟨rfl, hu⟩
  have HR2 := Lib.hid (HR1.out.upd0 hu)
  have HS2 := Lib.hid (HS1.out.then hu)
  clear hu c0 c1 c2 c3
  obtain ⟨c0, c1, c2, c3⟩ := HR2.out.cells
  go_wp2_with fail
  refine (ref_push r q h np n (y - 1) a j _ HR2.out HYJ.out HJ.out HA.out.1 HK.out HN.out).mono ?_
  rintro e w3 ⟨rfl, O3, hr, hs⟩
  have HR3 := Lib.hid hr
  have HS3 := Lib.hid (HS2.out.trans hs)
  clear hr hs c0 c1 c2 c3
  obtain ⟨c0, c1, c2, c3⟩ := HR3.out.cells
  have HL3 : Hid (1 < (pushF (clearF F [a]) (rows.getD j []) a a).ws.length) := Lib.hid (by
    have : (pushF (clearF F [a]) (rows.getD j []) a a).ws.length = (clearF F [a] a).ws.length := by unfold pushF; split <;> simp only [nextF_len]
    rw [this]; exact HL5.out)
  go_wp2_with fail
  refine (ref_put r q h np n a 1 1 (-1) _ HR3.out HA.out.1 rfl HL3.out (by omega)).mono ?_
  rintro e w4 ⟨rfl, O4, hr, hs⟩
  have HR4 := Lib.hid hr
  have HS4 := Lib.hid (HS3.out.trans hs)
  clear hr hs
  go_wp2_with fail
  go_ret2
  exact ⟨rfl, O4, HR4.out, HS4.out⟩
end
end Go.Proofs.YtpkbdmieelgdlaaGreat
namespace Go.Proofs.YtpkbdmieelgdlaaGreat
open Go Go.RowKit

section
variable {w : World} {r h : Nat} {np : List Pst} {l : List Int} {F : Int → Ob} {rows : List (List Int)} {n : Int} {O : Nat → Prop}
set_option maxRecDepth 100000 in
theorem denq_no (r h : Nat) (np : List Pst) (a : Int) (w : World) (H : DqO w r h np l F rows n O) (ha : a ∉ l ∨ a ∈ l ∧ (F a).k ≠ 4) :
    Calls Tryz.prog 45 #[.pointer (some ⟨r, 0, none⟩), .int .i64 a] w fun e w' => e = .returned (.agg #[.int .i64 0, .int .i64 5]) ∧ Upd [] w w' := by
  have HU : Hid (Upd [] w (w.alloc (.cells #[.int .i64 0, .int .i64 0] 34))) := Lib.hid ((Upd.refl [] w).alloc _)
  have HG : Hid (Blk (w.alloc (.cells #[.int .i64 0, .int .i64 0] 34)) w.heap.size 34 #[.int .i64 0, .int .i64 0]) := Lib.hid (Blk.new _ _ _)
  have HQ := Lib.hid (dis_no r h np a _ (H.upd0 HU.out) ha)
  clear H ha
  go_enter Tryz.func45, Tryz.ntmps45
  go_wp2_with fail
  refine (HQ.out).mono ?_
  rintro e w1 ⟨rfl, hu⟩
  have HG1 := Lib.hid (HG.out.upd hu (by simp))
  have HU1 := Lib.hid (HU.out.trans hu)
  have z0 := HG1.out.cell 0
  have z1 := HG1.out.cell 1
  have z2 := HG1.out.frozen 0
  have z3 := HG1.out.frozen 1
  simp only [List.getElem?_toArray, List.getElem?_cons_zero, List.getElem?_cons_succ] at z0 z1
  clear hu
  go_wp2_with fail
  exact cell_ret rfl ((HG1.out.set_ 0 _).set_ 1 _) rfl rfl Tryz.underlying34 (by kernel_rfl) ⟨rfl, (HU1.out.setCell (.inr (Nat.le_refl _)) _).setCell (.inr (Nat.le_refl _)) _⟩
set_option maxRecDepth 100000 in
theorem denq_none (r h : Nat) (np : List Pst) (a y : Int) (w : World) (H : DqO w r h np l F rows n O) (ha : a ∈ l) (hk : (F a).k = 4) (h5 : (F a).ws.length = 5) (hq : (F a).ws.getD 1 0 = y) (hy : y < 1) :
    Calls Tryz.prog 45 #[.pointer (some ⟨r, 0, none⟩), .int .i64 a] w fun e w' => e = .returned (.agg #[.int .i64 0, .int .i64 0]) ∧ ∃ O', DqO w' r h np l (clearF F [a]) rows n O' ∧ StepO O w O' w' := by
  have HR0 := Lib.hid (ResAt.start H)
  have HQ := Lib.hid (dis_yes r h np a _ HR0.out.doc ha hk)
  have HA := Lib.hid ha
  have HL := Lib.hid h5
  have HG1 : Hid ((clearF F [a] a).ws.getD 1 0 = y) := Lib.hid (by rw [clearF_get, if_neg (by omega)]; exact hq)
  have HL1 : Hid ((clearF F [a] a).ws.length = 5) := Lib.hid (by rw [clearF_len]; exact h5)
  have hfd : ∀ W : World, (Instr.field 34 (.agg #[.int .i64 y, .int .i64 0]) 0).run Tryz.prog W = .ok (.int .i64 y) W := fun _ => by kernel_rfl
  clear H ha h5 hq
  go_enter Tryz.func45, Tryz.ntmps45
  go_wp2_with fail
  refine (HQ.out).mono ?_
  rintro e w1 ⟨rfl, hu⟩
  have HR1 := Lib.hid (HR0.out.upd0 hu)
  obtain ⟨c0, c1, c2, d0, d1, d2, d3⟩ := HR1.out.cells
  clear hu
  go_wp2_with fail
  refine (dq_put r h np a 0 0 0 _ HR1.out.doc HA.out rfl (by rw [HL.out]; omega)).mono ?_
  rintro e w2 ⟨rfl, O2, hd, hs⟩
  have HR2 : Hid (ResAt w O w2 r h np l (clearF F [a]) rows n O2) := Lib.hid (HR1.out.next hd hs)
  clear hd hs c0 c1 c2 d0 d1 d2 d3 HR1
  obtain ⟨c0, c1, c2, d0, d1, d2, d3⟩ := HR2.out.cells
  go_wp2_with fail
  refine (dq_get r h np a 1 1 y _ HR2.out.doc HA.out rfl (by rw [HL1.out]; omega) HG1.out).mono ?_
  rintro e w3 ⟨rfl, hu⟩
  have HR := Lib.hid (HR2.out.upd0 hu)
  clear hu c0 c1 c2 d0 d1 d2 d3 HR2
  obtain ⟨c0, c1, c2, d0, d1, d2, d3⟩ := HR.out.cells
  go_wp2_with fail
  obtain ⟨f1, f2, f3⟩ := HR.out.fin (.int .i64 0) (.int .i64 0)
  exact cell_ret rfl f1 rfl rfl Tryz.underlying34 (by kernel_rfl) ⟨rfl, _, f2, f3⟩
set_option maxRecDepth 100000 in
set_option maxHeartbeats 1600000 in
theorem denq_yes (r h : Nat) (np : List Pst) (a : Int) (j : Nat) (w : World) (H : DqO w r h np l F rows n O) (ha : a ∈ l) (hk : (F a).k = 4) (h5 : (F a).ws.length = 5) (hq : (F a).ws.getD 1 0 = (j : Int) + 1) (hj : j < rows.length) (hj8 : rows.length ≤ 8)
    (hrow : ∀ x ∈ rows.getD j [], x ∈ l ∧ 2 < (F x).ws.length) (hsm : (rows.getD j []).length ≤ 16384) :
    Calls Tryz.prog 45 #[.pointer (some ⟨r, 0, none⟩), .int .i64 a] w fun e w' => e = .returned (.agg #[.int .i64 1, .int .i64 0]) ∧ ∃ O', DqO w' r h np l (enqF F (rows.getD j []) a) (rows.set j (rows.getD j [] ++ [a])) n O' ∧ StepO O w O' w' := by
  obtain ⟨y, hy⟩ : ∃ y : Int, (j : Int) + 1 = y := ⟨_, rfl⟩
  rw [hy] at hq
  have hw1 : IntKind.i64.wrap (y - 1) = (j : Int) := by rw [IntWalk.i64_in _ (by omega)]; omega
  have HK1 : Hid ((clearF F [a] a).k = 4) := Lib.hid (by rw [clearF_k]; exact hk)
  have HROW : Hid (∀ x ∈ rows.getD j [], x ∈ l ∧ 2 < (clearF F [a] x).ws.length) := Lib.hid fun x hx => ⟨(hrow x hx).1, by rw [clearF_len]; exact (hrow x hx).2⟩
  have HJ := Lib.hid hj
  have HSM := Lib.hid hsm
  have hy1 : ¬ y < 1 := by omega
  have HPL : Hid ((pushF (clearF F [a]) (rows.getD j []) a a).ws.length = 5) := Lib.hid (by
    unfold pushF
    split <;> simp only [nextF_len, clearF_len] <;> exact h5)
  clear hrow hj hsm hy
  have HR0 := Lib.hid (ResAt.start H)
  have HQ := Lib.hid (dis_yes r h np a _ HR0.out.doc ha hk)
  have HA := Lib.hid ha
  have HL := Lib.hid h5
  have HG1 : Hid ((clearF F [a] a).ws.getD 1 0 = y) := Lib.hid (by rw [clearF_get, if_neg (by omega)]; exact hq)
  have HL1 : Hid ((clearF F [a] a).ws.length = 5) := Lib.hid (by rw [clearF_len]; exact h5)
  have hfd : ∀ W : World, (Instr.field 34 (.agg #[.int .i64 y, .int .i64 0]) 0).run Tryz.prog W = .ok (.int .i64 y) W := fun _ => by kernel_rfl
  clear H ha h5 hq
  go_enter Tryz.func45, Tryz.ntmps45
  go_wp2_with fail
  refine (HQ.out).mono ?_
  rintro e w1 ⟨rfl, hu⟩
  have HR1 := Lib.hid (HR0.out.upd0 hu)
  obtain ⟨c0, c1, c2, d0, d1, d2, d3⟩ := HR1.out.cells
  clear hu
  go_wp2_with fail
  refine (dq_put r h np a 0 0 0 _ HR1.out.doc HA.out rfl (by rw [HL.out]; omega)).mono ?_
  rintro e w2 ⟨rfl, O2, hd, hs⟩
  have HR2 : Hid (ResAt w O w2 r h np l (clearF F [a]) rows n O2) := Lib.hid (HR1.out.next hd hs)
  clear hd hs c0 c1 c2 d0 d1 d2 d3 HR1
  obtain ⟨c0, c1, c2, d0, d1, d2, d3⟩ := HR2.out.cells
  go_wp2_with fail
  refine (dq_get r h np a 1 1 y _ HR2.out.doc HA.out rfl (by rw [HL1.out]; omega) HG1.out).mono ?_
  rintro e w3 ⟨rfl, hu⟩
  have HR := Lib.hid (HR2.out.upd0 hu)
  clear hu c0 c1 c2 d0 d1 d2 d3 HR2
  obtain ⟨c0, c1, c2, d0, d1, d2, d3⟩ := HR.out.cells
  go_wp2_with fail
  refine (dpush_yes r h np j a j _ HR.out.doc rfl HJ.out HA.out HK1.out (by rw [HL1.out]; omega) HROW.out HSM.out).mono ?_
  rintro e w4 ⟨rfl, O4, hd, hs⟩
  have HR4 := Lib.hid (HR.out.next hd hs)
  clear hd hs c0 c1 c2 d0 d1 d2 d3 HR
  obtain ⟨c0, c1, c2, d0, d1, d2, d3⟩ := HR4.out.cells
  go_wp2_with fail
  refine (dq_put r h np a 1 1 (-1) _ HR4.out.doc HA.out rfl (by rw [HPL.out]; omega)).mono ?_
  rintro e w5 ⟨rfl, O5, hd, hs⟩
  have HR5 := Lib.hid (HR4.out.next hd hs)
  clear hd hs c0 c1 c2 d0 d1 d2 d3 HR4
  obtain ⟨c0, c1, c2, d0, d1, d2, d3⟩ := HR5.out.cells
  go_wp2_with fail
  obtain ⟨f1, f2, f3⟩ := HR5.out.fin (.int .i64 1) (.int .i64 0)
  exact cell_ret rfl f1 rfl rfl Tryz.underlying34 (by kernel_rfl) ⟨rfl, _, f2, f3⟩
end
end Go.Proofs.YtpkbdmieelgdlaaGreat
namespace Go.Proofs.YtpkbdmieelgdlaaGreat
open Go Go.RowKit

/-- n objects of two numbers, of 40 pages: the pages, the places, the objects. -/
def mkD : Nat → List Pst × List Int × (Int → Ob)
  | 0 => ((newSp 40).pg, [], F00)
  | k + 1 => ((allocP (mkD k).1 3).1, (mkD k).2.1 ++ [(allocP (mkD k).1 3).2], fset (mkD k).2.2 (allocP (mkD k).1 3).2 ⟨3, 0, false, List.replicate 2 0⟩)
theorem mkD_len : ∀ k, (mkD k).2.1.length = k
  | 0 => rfl
  | k + 1 => by simp only [mkD, List.length_append, List.length_cons, List.length_nil, mkD_len k]
theorem mkD_kind : ∀ k, ∀ a ∈ (mkD k).2.1, ((mkD k).2.2 a).k = 3
  | 0, a, h => by cases h
  | k + 1, a, h => by
    simp only [mkD] at h ⊢
    by_cases e : a = (allocP (mkD k).1 3).2
    · rw [e, fset_same]
    · rw [fset_ne _ e]
      rcases List.mem_append.1 h with h | h
      · exact mkD_kind k a h
      · exact absurd (List.mem_singleton.1 h) e
theorem dq_make_room {l : List Int} {F : Int → Ob} {rows : List (List Int)} {n : Int} {O : Nat → Prop} (r h : Nat) (np : List Pst) (k c : Int) (m : Nat) (w : World) (H : DqO w r h np l F rows n O) (hm : mayB k c m false = true) (hk : k ≠ 1) (hn : m ≤ 31) (hroom : l.length + 1 < np.length) :
    Calls Tryz.prog 8 #[.pointer (some ⟨h, 0, none⟩), .agg #[.int .i64 k, .int .i64 c, .int .i64 m, .bool false]] w fun e w' =>
      ∃ a pg O', allocP np ((m : Int) + 1) = (pg, a) ∧ e = .returned (.agg #[.int .i64 a, .int .i64 0]) ∧ pg.length = np.length ∧ DqO w' r h pg (l ++ [a]) (fset F a ⟨k, c, false, List.replicate m 0⟩) rows n O' ∧ StepO O w O' w' := by
  obtain ⟨Oh, hh, hg⟩ := H.heaped
  refine (dmake_room h k c m hh hm hk hn hroom).mono ?_
  rintro e w' ⟨a, pg, O', h1, rfl, _, h3, hh2, hs⟩
  obtain ⟨O2, h4, h5⟩ := hg w w' pg _ _ O' (Upd.refl _ _) hh2 hs
  exact ⟨a, pg, O2, h1, rfl, h3, h4, h5⟩
set_option maxRecDepth 100000 in
set_option maxHeartbeats 3200000 in
theorem made13 (n m : Nat) (w : World) (hn : n ≤ 4) (hm : m ≤ 3) : Calls Tryz.prog 36 #[.int .i64 n, .int .i64 m] w fun e w' =>
    ∃ h r q v O, e = .returned (.tuple #[.pointer (some ⟨h, 0, none⟩), .pointer (some ⟨r, 0, none⟩), v]) ∧ RefO w' r q h (mkD n).1 (mkD n).2.1 (mkD n).2.2 (List.replicate m []) 0 O ∧ OwnA w' w.heap.size v (mkD n).2.1 O ∧ Env w w' O ∧ (mkD n).1.length = 40 := by
  go_enter Tryz.func36, Tryz.ntmps36
  go_wp2_with fail
  refine (heap_new 40 _ (by omega) (by omega)).mono ?_
  rintro e w1 ⟨h, O, rfl, hh, ho, hu⟩
  have HH := Lib.hid hh
  have HE : Hid (Env w w1 O) := Lib.hid ⟨ho, hu⟩
  clear hh ho hu
  go_wp2_with fail
  refine (whole_yes h (newSp 40).pg _ HH.out).mono ?_
  rintro e w2 ⟨rfl, hu⟩
  have HH2 := Lib.hid (HH.out.upd0 hu)
  have HE2 := Lib.hid (HE.out.upd0 hu)
  clear hu
  go_wp2_with fail
  refine (err_calls 0 _ (by omega)).mono ?_
  rintro e w' ⟨rfl, rfl⟩
  go_wp2_with fail
  refine (ref_new h (newSp 40).pg _ HH2.out).mono ?_
  rintro e w3 ⟨r, q, O3, rfl, hr, hs⟩
  have HR3 : Hid (RefO w3 r q h (mkD 0).1 (mkD 0).2.1 (mkD 0).2.2 [] 0 O3) := Lib.hid hr
  have HE3 := Lib.hid (HE2.out.step hs)
  have HL0 : Hid ((mkD 0).1.length = 40) := Lib.hid (by simp [mkD, newSp])
  obtain ⟨c0, c1, c2, c3⟩ := hr.cells
  clear hr hs
  go_wp2_with fail
  clear c0 c1 c2 c3
  go_loopg [10, 11] n (fun gk v i wr => ∃ (k : Nat) (O : Nat → Prop), gk = n - k ∧ k ≤ n ∧ i = .int .i64 k ∧ Hid (RefO wr r q h (mkD k).1 (mkD k).2.1 (mkD k).2.2 [] 0 O) ∧ Hid (OwnA wr w.heap.size v (mkD k).2.1 O) ∧ Hid (Env w wr O) ∧ Hid ((mkD k).1.length = 40))
  case atStart => exact ⟨0, O3, rfl, by omega, rfl, HR3, Lib.hid (OwnA.nil _ _ _), HE3, HL0⟩
  case round =>
    clear HH HE HH2 HE2 HR3 HE3 HL0
    obtain ⟨k, O, rfl, hk, rfl, HR, HO, HE, HL⟩ := hrel
    by_cases hlt : k < n
    · go_wp2_with fail
      refine (ref_make r q h (mkD k).1 0 3 0 2 _ HR.out (by decide) (by omega) (by omega) (by rw [HL.out, mkD_len]; omega)).mono ?_
      rintro e w4 ⟨a, pg, O4, hal, rfl, ha1, ha2, ha3, hln, hh, hs⟩
      have hal : allocP (mkD k).1 3 = (pg, a) := hal
      have e1 : (mkD (k + 1)).1 = pg ∧ (mkD (k + 1)).2.1 = (mkD k).2.1 ++ [a] ∧ (mkD (k + 1)).2.2 = fset (mkD k).2.2 a ⟨3, 0, false, List.replicate 2 0⟩ := by
        simp only [mkD, hal]
        exact ⟨trivial, trivial, trivial⟩
      have HR4 : Hid (RefO w4 r q h (mkD (k + 1)).1 (mkD (k + 1)).2.1 (mkD (k + 1)).2.2 [] 0 O4) := Lib.hid (by rw [e1.1, e1.2.1, e1.2.2]; exact hh)
      have HO4 := Lib.hid (HO.out.step hs)
      have HE4 := Lib.hid (HE.out.step hs)
      have HL4 : Hid ((mkD (k + 1)).1.length = 40) := Lib.hid (by rw [e1.1, hln, HL.out])
      have HEQ := Lib.hid e1.2.1
      clear hh hs ha3 hal e1 hln
      go_wp2_with fail
      refine (err_calls 0 _ (by omega)).mono ?_
      rintro e w' ⟨rfl, rfl⟩
      go_wp2_with (at_builtin; refine wpList_pushO rfl _ _ rfl w.heap.size _ (mkD k).2.1 O4 rfl (HO4.out.upd0 ((Upd.refl [] w4).alloc _)) w4.heap.size a rfl (Blk.new _ _ _) (by rw [mkD_len]; omega) (by have := HE4.out.upd.size; simp; omega) (fun k hk => by have := HR4.out.owned hk; simp; omega) ?_)
      intro v' w5 E h1 h2 h3 h4
      rw [← HEQ.out] at h1
      have hE : ∀ i ∈ E, w.heap.size ≤ i ∧ ¬ O4 i := fun i hi => ⟨(World.ownsRow.lt HO4.out.own i (h2 i hi)).1, HO4.out.far i (h2 i hi)⟩
      have HR5 : Hid (RefO w5 r q h (mkD (k + 1)).1 (mkD (k + 1)).2.1 (mkD (k + 1)).2.2 [] 0 O4) := Lib.hid ((HR4.out.upd0 ((Upd.refl [] w4).alloc _)).upd h3 fun i hi => (hE i hi).2)
      have HE5 : Hid (Env w w5 O4) := Lib.hid ((HE4.out.upd0 ((Upd.refl [] w4).alloc _)).upd' h3 fun i hi => (hE i hi).1)
      have HO5 := Lib.hid h1
      clear h1 h2 h3 h4 hE
      go_wp2_with fail
      go_roundg (n - (k + 1))
      case measure => omega
      case rel => exact ⟨k + 1, O4, rfl, by omega, by go_num, HR5, HO5, HE5, HL4⟩
    · obtain rfl : k = n := by omega
      go_wp2_with fail
      go_loopg [14] m (fun gk i wr => ∃ (j : Nat) (O : Nat → Prop), gk = m - j ∧ j ≤ m ∧ i = .int .i64 j ∧ Hid (RefO wr r q h (mkD k).1 (mkD k).2.1 (mkD k).2.2 (List.replicate j []) 0 O) ∧ Hid (OwnA wr w.heap.size u10 (mkD k).2.1 O) ∧ Hid (Env w wr O))
      case atStart => exact ⟨0, O, rfl, by omega, rfl, HR, HO, HE⟩
      case round =>
        clear HR HO HE
        obtain ⟨j, O, rfl, hj, rfl, HR, HO, HE⟩ := hrel
        by_cases hlt : j < m
        · obtain ⟨c0, c1, c2, c3⟩ := HR.out.cells
          go_wp2_with fail
          refine (ref_open r q h (mkD k).1 0 _ HR.out (by rw [List.length_replicate]; omega)).mono ?_
          rintro e w3 ⟨rfl, O4, hq, hs⟩
          rw [← List.replicate_succ'] at hq
          have HR4 := Lib.hid hq
          have HE4 := Lib.hid (HE.out.step hs)
          have HO4 := Lib.hid (HO.out.step hs)
          clear hq hs
          go_wp2_with fail
          go_roundg (m - (j + 1))
          case measure => omega
          case rel => exact ⟨j + 1, O4, rfl, by omega, by go_num, HR4, HO4, HE4⟩
        · obtain rfl : j = m := by omega
          go_wp2_with fail
          go_ret3
          exact ⟨h, r, q, _, O, rfl, HR.out, HO.out, HE.out, HL.out⟩
set_option maxRecDepth 100000 in
set_option maxHeartbeats 3200000 in
theorem model13 (n m : Nat) (w : World) (hn : n ≤ 4) (hm : m ≤ 3) : Calls Tryz.prog 37 #[.int .i64 n, .int .i64 m] w fun e w' =>
    ∃ r h O, e = .returned (.pointer (some ⟨r, 0, none⟩)) ∧ DqO w' r h (mkD n).1 (mkD n).2.1 (mkD n).2.2 (List.replicate m []) 0 O ∧ Env w w' O := by
  go_enter Tryz.func37, Tryz.ntmps37
  go_wp2_with fail
  refine (dheap_new 40 _ (by omega) (by omega)).mono ?_
  rintro e w1 ⟨h, Om, rfl, hh, ho, hu⟩
  obtain ⟨Od, hd, hod⟩ := dq_new hh
  have hen : Env w (w1.alloc (.cells #[.pointer (some ⟨h, 0, none⟩), .slice none 0 0, .int .i64 0] 61)) Od := ⟨fun k hk => by
    rcases hod k hk with h1 | rfl
    · exact ho k h1
    · exact hu.size, hu.alloc _⟩
  have HD : Hid (DqO _ _ h (mkD 0).1 (mkD 0).2.1 (mkD 0).2.2 [] 0 Od) := Lib.hid hd
  have HE := Lib.hid hen
  obtain ⟨r, hr⟩ : ∃ r, w1.heap.size = r := ⟨_, rfl⟩
  have HL0 : Hid ((mkD 0).1.length = 40) := Lib.hid (by simp [mkD, newSp])
  clear hh ho hu hd hod hen
  go_upto_block 0 with fail
  obtain ⟨w2, hw2⟩ : ∃ w2, w1.alloc (.cells #[.pointer (some ⟨h, 0, none⟩), .slice none 0 0, .int .i64 0] 61) = w2 := ⟨_, rfl⟩
  rw [hw2, hr] at HD
  rw [hw2] at HE ⊢
  clear hw2 hr
  go_wp2_with fail
  go_loopg [6] n (fun gk i wr => ∃ (k : Nat) (O : Nat → Prop), gk = n - k ∧ k ≤ n ∧ i = .int .i64 k ∧ Hid (DqO wr r h (mkD k).1 (mkD k).2.1 (mkD k).2.2 [] 0 O) ∧ Hid (Env w wr O) ∧ Hid ((mkD k).1.length = 40))
  case atStart => exact ⟨0, Od, rfl, by omega, rfl, HD, HE, HL0⟩
  case round =>
    clear HD HE HL0
    obtain ⟨k, O, rfl, hk, rfl, HD, HE, HL⟩ := hrel
    by_cases hlt : k < n
    · obtain ⟨c0, -, -, -⟩ := HD.out.cells
      go_wp2_with fail
      refine (dq_make_room r h (mkD k).1 3 0 2 _ HD.out (by decide) (by omega) (by omega) (by rw [HL.out, mkD_len]; omega)).mono ?_
      rintro e w4 ⟨a, pg, O4, hal, rfl, hln, hh, hs⟩
      have hal : allocP (mkD k).1 3 = (pg, a) := hal
      have e1 : (mkD (k + 1)).1 = pg ∧ (mkD (k + 1)).2.1 = (mkD k).2.1 ++ [a] ∧ (mkD (k + 1)).2.2 = fset (mkD k).2.2 a ⟨3, 0, false, List.replicate 2 0⟩ := by
        simp only [mkD, hal]
        exact ⟨trivial, trivial, trivial⟩
      have HD4 : Hid (DqO w4 r h (mkD (k + 1)).1 (mkD (k + 1)).2.1 (mkD (k + 1)).2.2 [] 0 O4) := Lib.hid (by rw [e1.1, e1.2.1, e1.2.2]; exact hh)
      have HE4 := Lib.hid (HE.out.step hs)
      have HL4 : Hid ((mkD (k + 1)).1.length = 40) := Lib.hid (by rw [e1.1, hln, HL.out])
      clear hh hs hal e1 hln c0
      go_wp2_with fail
      go_roundg (n - (k + 1))
      case measure => omega
      case rel => exact ⟨k + 1, O4, rfl, by omega, by go_num, HD4, HE4, HL4⟩
    · obtain rfl : k = n := by omega
      go_wp2_with fail
      go_loopg [7] m (fun gk i wr => ∃ (j : Nat) (O : Nat → Prop), gk = m - j ∧ j ≤ m ∧ i = .int .i64 j ∧ Hid (DqO wr r h (mkD k).1 (mkD k).2.1 (mkD k).2.2 (List.replicate j []) 0 O) ∧ Hid (Env w wr O))
      case atStart => exact ⟨0, O, rfl, by omega, rfl, HD, HE⟩
      case round =>
        clear HD HE
        obtain ⟨j, O, rfl, hj, rfl, HD, HE⟩ := hrel
        by_cases hlt : j < m
        · go_wp2_with fail
          refine (dopen_yes r h (mkD k).1 _ HD.out (by rw [List.length_replicate]; omega)).mono ?_
          rintro e w3 ⟨rfl, O4, hq, hs⟩
          rw [← List.replicate_succ'] at hq
          have HD4 := Lib.hid hq
          have HE4 := Lib.hid (HE.out.step hs)
          clear hq hs
          go_wp2_with fail
          go_roundg (m - (j + 1))
          case measure => omega
          case rel => exact ⟨j + 1, O4, rfl, by omega, by go_num, HD4, HE4⟩
        · obtain rfl : j = m := by omega
          go_wp2_with fail
          go_ret
          exact ⟨r, h, O, rfl, HD.out, HE.out⟩
set_option maxRecDepth 100000 in
set_option maxHeartbeats 1600000 in
theorem awake13 (w : World) : Calls Tryz.prog 47 #[] w fun e w' => e = .returned (.bool true) ∧ Upd [] w w' := by
  go_enter Tryz.func47, Tryz.ntmps47
  go_wp2_with fail
  refine (made13 1 1 _ (by omega) (by omega)).mono ?_
  rintro e w1 ⟨h, r, q, v, O, rfl, hr, ho, he, hln⟩
  obtain ⟨pg, hpg⟩ : ∃ pg, (mkD 1).1 = pg := ⟨_, rfl⟩
  obtain ⟨F, hF⟩ : ∃ F, (mkD 1).2.2 = F := ⟨_, rfl⟩
  obtain ⟨a, ha⟩ : ∃ a, (mkD 1).2.1 = [a] := ⟨_, rfl⟩
  rw [hpg] at hln
  rw [hpg, hF, ha] at hr
  rw [ha] at ho
  have HR : Hid (RefO w1 r q h pg [a] F [[]] 0 O) := Lib.hid hr
  have HO := Lib.hid ho
  have HE := Lib.hid he
  have HLN := Lib.hid hln
  clear hr ho he hpg hF ha hln
  obtain ⟨A, cap, hv, hI, _⟩ := HO.out.own.form
  have hv' : v = .slice A 1 cap := hv
  subst hv'
  obtain ⟨b, off, rfl, hb, hc⟩ := Reads.at (k := .i64) hI (rfl : [a].length = 1) (by omega : 0 < 1)
  have hc' : w1.cell? ⟨b, off, none⟩ = some (.int .i64 a) := hc
  clear hI hv hc
  go_wp2_with fail
  refine (refer_yes r q h pg 0 3 a 0 5 _ HR.out (by omega) (by simp) (by omega) (by simp) (by rw [HLN.out]; simp) (by omega)).mono ?_
  rintro e w2 ⟨x, pg2, O2, hal, rfl, hx, hln, hr, hs⟩
  have HR2 := Lib.hid hr
  have HE2 := Lib.hid (HE.out.step hs)
  clear hr hs hc' hal hln
  go_wp2_with fail
  refine (referent_yes r q h pg2 1 x 9 _ HR2.out (by simp) (by rw [fset_same])).mono ?_
  rintro e w3 ⟨rfl, O3, hr, hs⟩
  have hX : refX (fset F x ⟨4, 3, false, valsR a 0 5 0⟩ x) = 0 := by rw [fset_same]; rfl
  rw [hX]
  have HR3 := Lib.hid hr
  have HE3 := Lib.hid (HE2.out.step hs)
  clear hr hs hX
  go_wp2_with fail
  refine (err_calls 0 _ (by omega)).mono ?_
  rintro e w' ⟨rfl, rfl⟩
  go_wp2_with fail
  refine (err_calls 0 _ (by omega)).mono ?_
  rintro e w' ⟨rfl, rfl⟩
  go_wp2_with fail
  refine (serial_yes r q h pg2 1 _ HR3.out).mono ?_
  rintro e w' ⟨rfl, rfl⟩
  go_wp2_with fail
  go_ret
  exact ⟨by first | rfl | (simp; done), HE3.out.upd⟩
end Go.Proofs.YtpkbdmieelgdlaaGreat
namespace Go.Proofs.YtpkbdmieelgdlaaGreat
open Go Go.RowKit

/-- The pages, the places, the objects, the rows, how many references were made. -/
structure St where
  pg : List Pst
  l : List Int
  F : Int → Ob
  rows : List (List Int)
  n : Nat
/-- The program's references at r, the document's at d; the law's own lists: all data (lv), and all references that were made (iv). -/
structure RB (w0 w : World) (r q h d m : Nat) (s s2 : St) (Of Od : Nat → Prop) (lv iv : Value) (l0 all : List Int) : Prop where
  ref : RefO w r q h s.pg s.l s.F s.rows s.n Of
  doc : DqO w d m s2.pg s2.l s2.F s2.rows s2.n Od
  apart : ∀ k, Od k → ¬ Of k
  env : Env w0 w (fun k => Of k ∨ Od k)
  lst : OwnA w w0.heap.size lv l0 (fun k => Of k ∨ Od k)
  inl : OwnA w w0.heap.size iv all (fun k => Of k ∨ Od k)
  two : ∀ g, iv.ownBlock = some g → lv.ownBlock ≠ some g
section
variable {w0 w w' : World} {r q h d m : Nat} {s s2 s' : St} {Of Od O' : Nat → Prop} {lv iv iv' : Value} {l0 all all' : List Int}
theorem RB.stepR (H : RB w0 w r q h d m s s2 Of Od lv iv l0 all) (hq : RefO w' r q h s'.pg s'.l s'.F s'.rows s'.n O') (k : StepO Of w O' w') : RB w0 w' r q h d m s' s2 O' Od lv iv l0 all := by
  have hw := k.wide (P := Od)
  exact ⟨hq, H.doc.moved (apart_moved H.apart (fun _ hb => H.doc.owned hb) k), apart_step H.apart (fun _ hb => H.doc.owned hb) k, H.env.step hw, H.lst.step hw, H.inl.step hw, H.two⟩
theorem RB.stepD (H : RB w0 w r q h d m s s2 Of Od lv iv l0 all) (hd : DqO w' d m s'.pg s'.l s'.F s'.rows s'.n O') (k : StepO Od w O' w') : RB w0 w' r q h d m s s' Of O' lv iv l0 all := by
  have hw := k.wideR (P := Of)
  have ha : ∀ k, Of k → ¬ Od k := fun b hb hx => H.apart b hx hb
  exact ⟨H.ref.moved (apart_moved ha (fun _ hb => H.ref.owned hb) k), hd, fun b hb hx => apart_step ha (fun _ hb => H.ref.owned hb) k b hx hb, H.env.step hw, H.lst.step hw, H.inl.step hw, H.two⟩
theorem RB.upd0 (H : RB w0 w r q h d m s s2 Of Od lv iv l0 all) (hu : Upd [] w w') : RB w0 w' r q h d m s s2 Of Od lv iv l0 all :=
  ⟨H.ref.upd0 hu, H.doc.upd0 hu, H.apart, H.env.upd0 hu, H.lst.upd0 hu, H.inl.upd0 hu, H.two⟩
/-- The list of the references grows. -/
theorem RB.grow (H : RB w0 w r q h d m s s2 Of Od lv iv l0 all) {E : List Nat} (h1 : OwnA w' w0.heap.size iv' all' (fun k => Of k ∨ Od k)) (hE : ∀ i ∈ E, iv.ownBlock = some i) (hu : Upd E w w') (h4 : iv'.ownBlock = iv.ownBlock ∨ iv'.ownBlock = some w.heap.size) : RB w0 w' r q h d m s s2 Of Od lv iv' l0 all' := by
  have hfar : ∀ i ∈ E, ¬ (Of i ∨ Od i) := fun i hi => H.inl.far i (hE i hi)
  have hlow : ∀ i ∈ E, w0.heap.size ≤ i := fun i hi => (own_low H.inl.own (hE i hi)).1
  refine ⟨H.ref.upd hu fun k hk hx => hfar k hk (.inl hx), H.doc.moved fun k hk => hu.block k (H.doc.owned hk) fun hm => hfar k hm (.inr hk), H.apart, H.env.upd' hu hlow, ⟨H.lst.own.moved fun g hg => hu.block g (own_low H.lst.own hg).2 fun hm => H.two g (hE g hm) hg, H.lst.far⟩, h1, fun g hg hl => ?_⟩
  rcases h4 with h4 | h4
  · exact H.two g (h4 ▸ hg) hl
  · rw [h4] at hg; simp only [Option.some.injEq] at hg
    have := (own_low H.lst.own hl).2; omega
end
/-- What is so of the references and their rows. -/
structure RI (s : St) (i : Nat) : Prop where
  two : s.rows.length = 2
  que : ∀ a ∈ s.l, (s.F a).k = 4 → 1 ≤ (s.F a).ws.getD 1 0 → (s.F a).ws.getD 1 0 ≤ 2 ∧ ∀ j, a ∉ s.rows.getD j []
  made : s.n ≤ i
  few : s.l.length ≤ 4 + i
theorem RI.mono {s : St} {i i' : Nat} (H : RI s i) (h : i ≤ i') : RI s i' := ⟨H.two, H.que, Nat.le_trans H.made h, by have := H.few; omega⟩
section
variable {s : St} {i : Nat} {w : World} {r q h : Nat} {O : Nat → Prop}
theorem RI.row (H : RI s i) (hr : RefO w r q h s.pg s.l s.F s.rows s.n O) (j : Nat) : (∀ x ∈ s.rows.getD j [], x ∈ s.l ∧ 2 < (s.F x).ws.length) ∧ (s.rows.getD j []).length ≤ 4 + i := by
  have hl := hr.links
  refine ⟨fun x hx => ?_, ?_⟩
  · obtain ⟨h1, _, _, h4⟩ := hl.ref j x hx
    exact ⟨h1, by omega⟩
  · have := nodup_sub _ s.l (hl.nodup j) fun x hx => (hl.ref j x hx).1
    have := H.few
    omega
/-- Objects that turn in other fields than the queue's. -/
theorem RI.fields (H : RI s i) {F' : Int → Ob} (hk : ∀ a, (F' a).k = (s.F a).k) (h1 : ∀ a, (F' a).ws.getD 1 0 = (s.F a).ws.getD 1 0) : RI ⟨s.pg, s.l, F', s.rows, s.n⟩ i :=
  ⟨H.two, fun a ha h4 hq => by
    change (F' a).k = 4 at h4
    change 1 ≤ (F' a).ws.getD 1 0 at hq
    rw [hk] at h4; rw [h1] at hq
    have := H.que a ha h4 hq
    refine ⟨?_, this.2⟩
    show (F' a).ws.getD 1 0 ≤ 2
    rw [h1]; exact this.1, H.made, H.few⟩
theorem refF_k (F : Int → Ob) (a t b : Int) : (refF F a t b).k = (F b).k := by
  unfold refF; split
  · exact putF_k ..
  · rfl
theorem refF_get1 (F : Int → Ob) (a t b : Int) : (refF F a t b).ws.getD 1 0 = (F b).ws.getD 1 0 := by
  unfold refF; split
  · rw [putF_get, if_neg (by omega)]
  · rfl
theorem pushF_k (F : Int → Ob) (t : List Int) (a b : Int) : (pushF F t a b).k = (F b).k := by
  unfold pushF; split <;> simp only [nextF_k]
theorem pushF_get1 (F : Int → Ob) (t : List Int) (a b : Int) : (pushF F t a b).ws.getD 1 0 = (F b).ws.getD 1 0 := by
  unfold pushF; split
  · rw [nextF_get, if_neg (by omega)]
  · rw [nextF_get, if_neg (by omega), nextF_get, if_neg (by omega)]
theorem RI.polled (H : RI s i) {j : Nat} {a : Int} {t : List Int} (hj : j < s.rows.length) (hr : s.rows.getD j [] = a :: t) : RI ⟨s.pg, s.l, nextF s.F a 0, s.rows.set j t, s.n⟩ i := by
  refine ⟨by simpa using H.two, fun b hb h4 hq => ?_, H.made, H.few⟩
  change (nextF s.F a 0 b).k = 4 at h4
  change 1 ≤ (nextF s.F a 0 b).ws.getD 1 0 at hq
  show (nextF s.F a 0 b).ws.getD 1 0 ≤ 2 ∧ _
  rw [nextF_k] at h4
  have e1 : (nextF s.F a 0 b).ws.getD 1 0 = (s.F b).ws.getD 1 0 := by rw [nextF_get, if_neg (by omega)]
  rw [e1] at hq ⊢
  have h := H.que b hb h4 hq
  refine ⟨h.1, fun k hk => ?_⟩
  change b ∈ (s.rows.set j t).getD k [] at hk
  rw [rows_set _ _ _ _ hj] at hk
  split at hk
  · exact h.2 j (by rw [hr]; exact List.mem_cons_of_mem _ hk)
  · exact h.2 k hk
theorem RI.enqueued (H : RI s i) {j : Nat} {a : Int} (hj : j < s.rows.length) (h5 : (s.F a).ws.length = 5) : RI ⟨s.pg, s.l, enqF s.F (s.rows.getD j []) a, s.rows.set j (s.rows.getD j [] ++ [a]), s.n⟩ i := by
  refine ⟨by simpa using H.two, fun b hb h4 hq => ?_, H.made, H.few⟩
  change (enqF s.F (s.rows.getD j []) a b).k = 4 at h4
  change 1 ≤ (enqF s.F (s.rows.getD j []) a b).ws.getD 1 0 at hq
  show (enqF s.F (s.rows.getD j []) a b).ws.getD 1 0 ≤ 2 ∧ _
  have hlen : (pushF (clearF s.F [a]) (s.rows.getD j []) a a).ws.length = 5 := by
    unfold pushF
    split <;> simp only [nextF_len, clearF_len] <;> exact h5
  unfold enqF at h4 hq ⊢
  rw [putF_k, pushF_k, clearF_k] at h4
  rw [putF_get] at hq ⊢
  by_cases e : b = a
  · rw [if_pos ⟨e, rfl, by rw [hlen]; omega⟩] at hq
    omega
  · rw [if_neg (fun h => e h.1)] at hq ⊢
    rw [pushF_get1, clearF_get, if_neg (by omega)] at hq ⊢
    have h := H.que b hb h4 hq
    refine ⟨h.1, fun k hk => ?_⟩
    change b ∈ (s.rows.set j (s.rows.getD j [] ++ [a])).getD k [] at hk
    rw [rows_set _ _ _ _ hj] at hk
    split at hk
    · rcases List.mem_append.1 hk with hk | hk
      · exact h.2 j hk
      · exact e (List.mem_singleton.1 hk)
    · exact h.2 k hk
theorem RI.referred (H : RI s i) (hr : RefO w r q h s.pg s.l s.F s.rows s.n O) {st a b c x y : Int} {pg : List Pst} {l' : List Int} {F' : Int → Ob} {n' : Nat} (hb : b ≤ 1) (hR : ReferAs s.pg s.l s.F st a b c s.n pg l' F' n' x y) : RI ⟨pg, l', F', s.rows, n'⟩ (i + 1) := by
  obtain ⟨F1, hma, h0, h1⟩ := hR
  rcases hma.2 with ⟨rfl, rfl, -, -, -, hx, -⟩ | ⟨rfl, -, rfl, -, -⟩
  · obtain ⟨rfl, rfl⟩ := h0 rfl
    refine ⟨H.two, fun b2 hb2 h4 hq => ?_, by have := H.made; show s.n + 1 ≤ i + 1; omega, by have := H.few; show (s.l ++ [x]).length ≤ 4 + (i + 1); simp; omega⟩
    change (fset s.F x ⟨4, st, false, valsR a b c s.n⟩ b2).k = 4 at h4
    change 1 ≤ (fset s.F x ⟨4, st, false, valsR a b c s.n⟩ b2).ws.getD 1 0 at hq
    show (fset s.F x ⟨4, st, false, valsR a b c s.n⟩ b2).ws.getD 1 0 ≤ 2 ∧ ∀ j, b2 ∉ s.rows.getD j []
    by_cases e : b2 = x
    · subst e
      rw [fset_same]
      refine ⟨?_, fun j hj => hx (hr.links.ref j _ hj).1⟩
      show b + 1 ≤ 2
      omega
    · rw [fset_ne _ e] at h4 hq ⊢
      rcases List.mem_append.1 hb2 with h2 | h2
      · exact H.que b2 h2 h4 hq
      · exact absurd (List.mem_singleton.1 h2) e
  · obtain ⟨rfl, rfl⟩ := h1 (by decide)
    exact ⟨H.two, H.que, by have := H.made; show s.n ≤ i + 1; omega, by have := H.few; show s.l.length ≤ 4 + (i + 1); omega⟩
end
theorem HeapO.madeAs {w : World} {h : Nat} {np : List Pst} {l : List Int} {F : Int → Ob} {O : Nat → Prop} (H : HeapO w h np l F O) {k c : Int} {n : Nat} (hm : mayB k c n false = true) (hn : n ≤ 31) : ∃ pg l' F' a y, MadeAs np l F ⟨k, c, false, List.replicate n 0⟩ pg l' F' a y := by
  obtain ⟨t, s, L, S, H, rfl, rfl⟩ := H
  rcases H.objs.make_any H.space.wf (o := ⟨k, c, false, List.replicate n 0⟩) (n := n) (by simpa [Ob.may] using hm) rfl hn with ⟨_, h⟩ | ⟨S1, a, _, _, _, _, h⟩
  · exact ⟨_, _, _, _, _, h⟩
  · exact ⟨_, _, _, _, _, h⟩
theorem first_bad (p : Int → Prop) : ∀ L : List Int, (∀ a ∈ L, p a) ∨ ∃ xs z ys, L = xs ++ z :: ys ∧ (∀ a ∈ xs, p a) ∧ ¬ p z
  | [] => .inl fun a h => by cases h
  | x :: t => by
    by_cases hx : p x
    · rcases first_bad p t with h | ⟨xs, z, ys, rfl, h1, h2⟩
      · exact .inl fun a ha => by
          rcases List.mem_cons.1 ha with rfl | ha
          · exact hx
          · exact h a ha
      · exact .inr ⟨x :: xs, z, ys, rfl, fun a ha => by
          rcases List.mem_cons.1 ha with rfl | ha
          · exact hx
          · exact h1 a ha, h2⟩
    · exact .inr ⟨[], x, t, rfl, fun a h => by (cases h), hx⟩
end Go.Proofs.YtpkbdmieelgdlaaGreat
namespace Go.Proofs.YtpkbdmieelgdlaaGreat
open Go Go.RowKit

section
variable {w0 w : World} {r q h d m : Nat} {s : St} {Of Od : Nat → Prop} {lv iv : Value} {l0 all : List Int} {i : Nat}
/-- Refer, of both: the program's first. -/
theorem both_refer (H : RB w0 w r q h d m s s Of Od lv iv l0 all) (hI : RI s i) (hi : i ≤ 1000) (st a b c : Int) : ∃ (x y : Int) (s' : St), 0 ≤ y ∧ y ≤ 5 ∧ RI s' (i + 1) ∧
    (∀ W, Upd [] w W → Calls Tryz.prog 38 #[.pointer (some ⟨r, 0, none⟩), .int .i64 st, .int .i64 a, .int .i64 b, .int .i64 c] W fun u w1 => u = .returned (.tuple #[.int .i64 x, .int .i64 y]) ∧ ∃ Of', Hid (RB w0 w1 r q h d m s' s Of' Od lv iv l0 all)) ∧
    ∀ W Of', RB w0 W r q h d m s' s Of' Od lv iv l0 all → Calls Tryz.prog 39 #[.pointer (some ⟨d, 0, none⟩), .int .i64 st, .int .i64 a, .int .i64 b, .int .i64 c] W fun u w1 => u = .returned (.agg #[.int .i64 x, .int .i64 y]) ∧ ∃ Od', Hid (RB w0 w1 r q h d m s' s' Of' Od' lv iv l0 all) := by
  have hlen := hI.two
  have hno : ∀ y : Int, (y = 1 ∨ y = 2) → (∀ W, Upd [] w W → Calls Tryz.prog 73 #[.pointer (some ⟨r, 0, none⟩), .int .i64 st, .int .i64 a, .int .i64 b] W fun e w' => e = .returned (.int .i64 y) ∧ Upd [] W w') →
      (∀ W Of', RB w0 W r q h d m s s Of' Od lv iv l0 all → ∀ W', Upd [] W W' → Calls Tryz.prog 74 #[.pointer (some ⟨d, 0, none⟩), .int .i64 st, .int .i64 a, .int .i64 b] W' fun e w' => e = .returned (.int .i64 y) ∧ Upd [] W' w') →
      ∃ (x y : Int) (s' : St), 0 ≤ y ∧ y ≤ 5 ∧ RI s' (i + 1) ∧
    (∀ W, Upd [] w W → Calls Tryz.prog 38 #[.pointer (some ⟨r, 0, none⟩), .int .i64 st, .int .i64 a, .int .i64 b, .int .i64 c] W fun u w1 => u = .returned (.tuple #[.int .i64 x, .int .i64 y]) ∧ ∃ Of', Hid (RB w0 w1 r q h d m s' s Of' Od lv iv l0 all)) ∧
    ∀ W Of', RB w0 W r q h d m s' s Of' Od lv iv l0 all → Calls Tryz.prog 39 #[.pointer (some ⟨d, 0, none⟩), .int .i64 st, .int .i64 a, .int .i64 b, .int .i64 c] W fun u w1 => u = .returned (.agg #[.int .i64 x, .int .i64 y]) ∧ ∃ Od', Hid (RB w0 w1 r q h d m s' s' Of' Od' lv iv l0 all) := fun y hy h1 h2 => by
    refine ⟨0, y, s, by omega, by omega, hI.mono (by omega), fun W hu => ?_, fun W Of' HB => ?_⟩
    · refine (refer_no r st a b c y W hy (h1 W hu)).mono fun e w1 he => ?_
      obtain ⟨rfl, hu2⟩ := he
      exact ⟨rfl, Of, Lib.hid ((H.upd0 hu).upd0 hu2)⟩
    · refine (drefer_no d st a b c y W hy (h2 W Of' HB)).mono fun e w1 he => ?_
      obtain ⟨rfl, hu2⟩ := he
      exact ⟨rfl, Od, Lib.hid (HB.upd0 hu2)⟩
  by_cases hs : st < 1 ∨ 3 < st
  · exact hno 1 (.inl rfl) (fun W hu => (rmay_arg r st a b W hs).mono fun e w1 he => ⟨he.1, he.2 ▸ Upd.refl _ _⟩) fun W Of' HB W' hu => dmay_arg d st a b W' hs
  have hs1 : 1 ≤ st ∧ st ≤ 3 := by omega
  by_cases hb : b < -1 ∨ (s.rows.length : Int) ≤ b
  · exact hno 2 (.inr rfl) (fun W hu => (rmay_none r q h s.pg s.n st a b W (H.upd0 hu).ref hs1 hb).mono fun e w1 he => ⟨he.1, he.2 ▸ Upd.refl _ _⟩) fun W Of' HB W' hu => dmay_none d m s.pg st a b W' (HB.upd0 hu).doc hs1 hb
  have hb1 : -1 ≤ b ∧ b < s.rows.length := by omega
  by_cases hp : st = 3 ∧ b = -1
  · obtain ⟨rfl, rfl⟩ := hp
    exact hno 1 (.inl rfl) (fun W hu => (rmay_phantom r q h s.pg s.n a W (H.upd0 hu).ref).mono fun e w1 he => ⟨he.1, he.2 ▸ Upd.refl _ _⟩) fun W Of' HB W' hu => dmay_phantom d a W'
  have hp1 : st ≠ 3 ∨ 0 ≤ b := by omega
  by_cases ha : a ∈ s.l
  · obtain ⟨Oh, hh⟩ := H.ref.heap
    obtain ⟨pg, l', F1, x, y, hma⟩ := hh.madeAs (kref_may st hs1.1 hs1.2) (show 5 ≤ 31 by omega)
    have hn := hI.made
    obtain ⟨F', n', hR⟩ : ∃ F' n', ReferAs s.pg s.l s.F st a b c s.n pg l' F' n' x y := by
      by_cases e : y = 0
      · exact ⟨_, _, F1, hma, ⟨fun _ => ⟨rfl, rfl⟩, fun h => absurd e h⟩⟩
      · exact ⟨_, _, F1, hma, ⟨fun h => absurd h e, fun _ => ⟨rfl, rfl⟩⟩⟩
    have hy : 0 ≤ y ∧ y ≤ 5 := by
      rcases hma.2 with ⟨h1, _⟩ | ⟨h1, _⟩ <;> omega
    refine ⟨x, y, ⟨pg, l', F', s.rows, n'⟩, hy.1, hy.2, hI.referred H.ref (by omega) hR, fun W hu => ?_, fun W Of' HB => ?_⟩
    · refine (refer_may r q h s.pg s.n st a b c W (H.upd0 hu).ref hs1 hb1 hp1 ha (by omega)).mono fun e w1 he => ?_
      obtain ⟨x2, y2, pg2, l2, F2, n2, O', hR2, rfl, hq, hst⟩ := he
      obtain ⟨rfl, rfl, rfl, rfl, rfl, rfl⟩ := hR.unique hR2
      exact ⟨rfl, O', Lib.hid ((H.upd0 hu).stepR (s' := ⟨_, _, _, _, _⟩) hq hst)⟩
    · refine (drefer_may d m s.pg s.n st a b c W HB.doc hs1 hb1 hp1 ha (by omega) (by omega)).mono fun e w1 he => ?_
      obtain ⟨x2, y2, pg2, l2, F2, n2, O', hR2, rfl, hq, hst⟩ := he
      obtain ⟨rfl, rfl, rfl, rfl, rfl, rfl⟩ := hR.unique hR2
      exact ⟨rfl, O', Lib.hid (HB.stepD (s' := ⟨_, _, _, _, _⟩) hq hst)⟩
  · exact hno 2 (.inr rfl) (fun W hu => rmay_head r q h s.pg s.n st a b W (H.upd0 hu).ref hs1 hb1 hp1 ha) fun W Of' HB W' hu => dmay_head d m s.pg st a b W' (HB.upd0 hu).doc hs1 hb1 hp1 ha
theorem is_or (s : St) (a : Int) : (a ∈ s.l ∧ (s.F a).k = 4) ∨ (a ∉ s.l ∨ a ∈ s.l ∧ (s.F a).k ≠ 4) := by
  by_cases h1 : a ∈ s.l
  · by_cases h2 : (s.F a).k = 4
    · exact .inl ⟨h1, h2⟩
    · exact .inr (.inr ⟨h1, h2⟩)
  · exact .inr (.inl h1)
/-- Referent, of both: the program's first. -/
theorem both_referent (H : RB w0 w r q h d m s s Of Od lv iv l0 all) (hI : RI s i) (a t : Int) : ∃ (x y : Int) (s' : St), 0 ≤ y ∧ y ≤ 5 ∧ RI s' (i + 1) ∧
    (∀ W, Upd [] w W → Calls Tryz.prog 40 #[.pointer (some ⟨r, 0, none⟩), .int .i64 a, .int .i64 t] W fun u w1 => u = .returned (.tuple #[.int .i64 x, .int .i64 y]) ∧ ∃ Of', Hid (RB w0 w1 r q h d m s' s Of' Od lv iv l0 all)) ∧
    ∀ W Of', RB w0 W r q h d m s' s Of' Od lv iv l0 all → Calls Tryz.prog 41 #[.pointer (some ⟨d, 0, none⟩), .int .i64 a, .int .i64 t] W fun u w1 => u = .returned (.agg #[.int .i64 x, .int .i64 y]) ∧ ∃ Od', Hid (RB w0 w1 r q h d m s' s' Of' Od' lv iv l0 all) := by
  rcases is_or s a with ⟨ha, hk⟩ | ha
  · obtain ⟨h5, hc1, hc2, _⟩ := H.ref.ref5 ha hk
    refine ⟨refX (s.F a), 0, ⟨s.pg, s.l, refF s.F a t, s.rows, s.n⟩, by omega, by omega, (hI.fields (fun b => refF_k ..) (fun b => refF_get1 ..)).mono (by omega), fun W hu => ?_, fun W Of' HB => ?_⟩
    · refine (referent_yes r q h s.pg s.n a t W (H.upd0 hu).ref ha hk).mono fun e w1 he => ?_
      obtain ⟨rfl, O', hq, hst⟩ := he
      exact ⟨rfl, O', Lib.hid ((H.upd0 hu).stepR (s' := ⟨_, _, _, _, _⟩) hq hst)⟩
    · refine (dreferent_yes d m s.pg a t W HB.doc ha hk h5 ⟨hc1, hc2⟩).mono fun e w1 he => ?_
      obtain ⟨rfl, O', hq, hst⟩ := he
      exact ⟨rfl, O', Lib.hid (HB.stepD (s' := ⟨_, _, _, _, _⟩) hq hst)⟩
  · refine ⟨0, 5, s, by omega, by omega, hI.mono (by omega), fun W hu => ?_, fun W Of' HB => ?_⟩
    · refine (referent_no r q h s.pg s.n a t W (H.upd0 hu).ref ha).mono fun e w1 he => ?_
      obtain ⟨rfl, hu2⟩ := he
      exact ⟨rfl, Of, Lib.hid ((H.upd0 hu).upd0 hu2)⟩
    · refine (dreferent_no d m s.pg a t W HB.doc ha).mono fun e w1 he => ?_
      obtain ⟨rfl, hu2⟩ := he
      exact ⟨rfl, Od, Lib.hid (HB.upd0 hu2)⟩
theorem ReadsO.part {w : World} {A : Option Addr} {xs : List Int} {O O' : Nat → Prop} (h : ReadsO w A xs O) (hO : ∀ k, O' k → O k) : ReadsO w A xs O' := by
  rcases h with h | ⟨b, off, h1, h2, h3, h4⟩
  · exact .inl h
  · exact .inr ⟨b, off, h1, h2, fun hx => h3 (hO b hx), h4⟩
/-- Clear, of both: the program's first. -/
theorem both_clear (H : RB w0 w r q h d m s s Of Od lv iv l0 all) (hI : RI s i) (A : Option Addr) (L : List Int) (M c : Nat) (hM : L.length = M) (hl : M ≤ 1000) (hA : ReadsO w A L (fun k => Of k ∨ Od k)) : ∃ (y : Int) (s' : St), 0 ≤ y ∧ y ≤ 5 ∧ RI s' (i + 1) ∧
    (∀ W, Upd [] w W → Calls Tryz.prog 42 #[.pointer (some ⟨r, 0, none⟩), .slice A M c] W fun u w1 => u = .returned (.int .i64 y) ∧ ∃ Of', Hid (RB w0 w1 r q h d m s' s Of' Od lv iv l0 all) ∧ Hid (ReadsO w1 A L (fun k => Of' k ∨ Od k))) ∧
    ∀ W Of', RB w0 W r q h d m s' s Of' Od lv iv l0 all → ReadsO W A L (fun k => Of' k ∨ Od k) → Calls Tryz.prog 43 #[.pointer (some ⟨d, 0, none⟩), .slice A M c] W fun u w1 => u = .returned (.int .i64 y) ∧ ∃ Od', Hid (RB w0 w1 r q h d m s' s' Of' Od' lv iv l0 all) := by
  rcases first_bad (fun a => a ∈ s.l ∧ (s.F a).k = 4) L with hg | ⟨xs, z, ys, rfl, hx, hz⟩
  · refine ⟨0, ⟨s.pg, s.l, clearF s.F L, s.rows, s.n⟩, by omega, by omega, (hI.fields (fun b => clearF_k ..) (fun b => by rw [clearF_get, if_neg (by omega)])).mono (by omega), fun W hu => ?_, fun W Of' HB hR => ?_⟩
    · have hR := hA.upd0 hu
      refine (clear_yes r q h s.pg s.n A L M c W (H.upd0 hu).ref (hR.part fun k hk => .inl hk) hg hM (by omega)).mono fun e w1 he => ?_
      obtain ⟨rfl, O', hq, hst⟩ := he
      exact ⟨rfl, O', Lib.hid ((H.upd0 hu).stepR (s' := ⟨_, _, _, _, _⟩) hq hst), Lib.hid (hR.step hst.wide)⟩
    · refine (dclear_yes d m s.pg A L M c W HB.doc (hR.part fun k hk => .inr hk) (fun a ha => ⟨(hg a ha).1, (hg a ha).2, by have := (H.ref.ref5 (hg a ha).1 (hg a ha).2).1; omega⟩) hM (by omega)).mono fun e w1 he => ?_
      obtain ⟨rfl, O', hq, hst⟩ := he
      exact ⟨rfl, O', Lib.hid (HB.stepD (s' := ⟨_, _, _, _, _⟩) hq hst)⟩
  · have hz2 : z ∉ s.l ∨ z ∈ s.l ∧ (s.F z).k ≠ 4 := by
      rcases is_or s z with h1 | h1
      · exact absurd h1 hz
      · exact h1
    have e1 : ∀ j, j < xs.length → (xs ++ z :: ys).getD j 0 = xs.getD j 0 := fun j hj => by rw [List.getD_eq_getElem?_getD, List.getD_eq_getElem?_getD, List.getElem?_append_left hj]
    have e2 : (xs ++ z :: ys).getD xs.length 0 = z := by rw [List.getD_eq_getElem?_getD, List.getElem?_append_right (Nat.le_refl _)]; simp
    refine ⟨5, s, by omega, by omega, hI.mono (by omega), fun W hu => ?_, fun W Of' HB hR => ?_⟩
    · have hR := hA.upd0 hu
      have hq := clear_no r q h s.pg s.n A xs ys z c W (H.upd0 hu).ref (hR.part fun k hk => .inl hk) hx hz2 (by omega)
      rw [hM] at hq
      refine hq.mono fun e w1 he => ?_
      obtain ⟨rfl, hu2⟩ := he
      exact ⟨rfl, Of, Lib.hid ((H.upd0 hu).upd0 hu2), Lib.hid (hR.upd0 hu2)⟩
    · refine (dclear_no d m s.pg A (xs ++ z :: ys) M xs.length c W HB.doc (hR.part fun k hk => .inr hk) hM (by rw [← hM]; simp) (fun j hj => by rw [e1 j hj]; exact hx _ (getD_mem hj)) (by rw [e2]; exact hz2) (by omega)).mono fun e w1 he => ?_
      obtain ⟨rfl, hu2⟩ := he
      exact ⟨rfl, Od, Lib.hid (HB.upd0 hu2)⟩
/-- Enqueue, of both: the program's first. -/
theorem both_enqueue (H : RB w0 w r q h d m s s Of Od lv iv l0 all) (hI : RI s i) (hi : i ≤ 1000) (a : Int) : ∃ (b : Bool) (x y : Int) (s' : St), (b = true ∧ x = 1 ∨ b = false ∧ x = 0) ∧ 0 ≤ y ∧ y ≤ 5 ∧ RI s' (i + 1) ∧
    (∀ W, Upd [] w W → Calls Tryz.prog 44 #[.pointer (some ⟨r, 0, none⟩), .int .i64 a] W fun u w1 => u = .returned (.tuple #[.bool b, .int .i64 y]) ∧ ∃ Of', Hid (RB w0 w1 r q h d m s' s Of' Od lv iv l0 all)) ∧
    ∀ W Of', RB w0 W r q h d m s' s Of' Od lv iv l0 all → Calls Tryz.prog 45 #[.pointer (some ⟨d, 0, none⟩), .int .i64 a] W fun u w1 => u = .returned (.agg #[.int .i64 x, .int .i64 y]) ∧ ∃ Od', Hid (RB w0 w1 r q h d m s' s' Of' Od' lv iv l0 all) := by
  have h2 := hI.two
  rcases is_or s a with ⟨ha, hk⟩ | ha
  · obtain ⟨h5, _, _, _⟩ := H.ref.ref5 ha hk
    by_cases hq : (s.F a).ws.getD 1 0 < 1
    · refine ⟨false, 0, 0, ⟨s.pg, s.l, clearF s.F [a], s.rows, s.n⟩, .inr ⟨rfl, rfl⟩, by omega, by omega, (hI.fields (fun b => clearF_k ..) (fun b => by rw [clearF_get, if_neg (by omega)])).mono (by omega), fun W hu => ?_, fun W Of' HB => ?_⟩
      · refine (enqueue_none r q h s.pg s.n a _ W (H.upd0 hu).ref ha hk rfl hq).mono fun e w1 he => ?_
        obtain ⟨rfl, O', hq, hst⟩ := he
        exact ⟨rfl, O', Lib.hid ((H.upd0 hu).stepR (s' := ⟨_, _, _, _, _⟩) hq hst)⟩
      · refine (denq_none d m s.pg a _ W HB.doc ha hk h5 rfl hq).mono fun e w1 he => ?_
        obtain ⟨rfl, O', hq, hst⟩ := he
        exact ⟨rfl, O', Lib.hid (HB.stepD (s' := ⟨_, _, _, _, _⟩) hq hst)⟩
    · obtain ⟨hq2, hnr⟩ := hI.que a ha hk (by omega)
      obtain ⟨j, hj⟩ : ∃ j : Nat, (s.F a).ws.getD 1 0 = (j : Int) + 1 := ⟨((s.F a).ws.getD 1 0 - 1).toNat, by omega⟩
      have hjl : j < s.rows.length := by omega
      obtain ⟨hrow, hrl⟩ := hI.row H.ref j
      refine ⟨true, 1, 0, _, .inl ⟨rfl, rfl⟩, by omega, by omega, (hI.enqueued hjl h5).mono (by omega), fun W hu => ?_, fun W Of' HB => ?_⟩
      · refine (enqueue_yes r q h s.pg s.n a j W (H.upd0 hu).ref ha hk hj hjl hnr).mono fun e w1 he => ?_
        obtain ⟨rfl, O', hq, hst⟩ := he
        exact ⟨rfl, O', Lib.hid ((H.upd0 hu).stepR (s' := ⟨_, _, _, _, _⟩) hq hst)⟩
      · refine (denq_yes d m s.pg a j W HB.doc ha hk h5 hj hjl (by omega) hrow (by omega)).mono fun e w1 he => ?_
        obtain ⟨rfl, O', hq, hst⟩ := he
        exact ⟨rfl, O', Lib.hid (HB.stepD (s' := ⟨_, _, _, _, _⟩) hq hst)⟩
  · refine ⟨false, 0, 5, s, .inr ⟨rfl, rfl⟩, by omega, by omega, hI.mono (by omega), fun W hu => ?_, fun W Of' HB => ?_⟩
    · refine (enqueue_no r q h s.pg s.n a W (H.upd0 hu).ref ha).mono fun e w1 he => ?_
      obtain ⟨rfl, hu2⟩ := he
      exact ⟨rfl, Of, Lib.hid ((H.upd0 hu).upd0 hu2)⟩
    · refine (denq_no d m s.pg a W HB.doc ha).mono fun e w1 he => ?_
      obtain ⟨rfl, hu2⟩ := he
      exact ⟨rfl, Od, Lib.hid (HB.upd0 hu2)⟩
/-- Poll, of both: the program's first. -/
theorem both_poll13 (H : RB w0 w r q h d m s s Of Od lv iv l0 all) (hI : RI s i) (hi : i ≤ 1000) (k : Nat) : ∃ (x y : Int) (s' : St), 0 ≤ y ∧ y ≤ 5 ∧ RI s' (i + 1) ∧
    (∀ W, Upd [] w W → Calls Tryz.prog 31 #[.pointer (some ⟨q, 0, none⟩), .int .i64 (k : Int)] W fun u w1 => u = .returned (.tuple #[.int .i64 x, .int .i64 y]) ∧ ∃ Of', Hid (RB w0 w1 r q h d m s' s Of' Od lv iv l0 all)) ∧
    ∀ W Of', RB w0 W r q h d m s' s Of' Od lv iv l0 all → Calls Tryz.prog 32 #[.pointer (some ⟨d, 0, none⟩), .int .i64 (k : Int)] W fun u w1 => u = .returned (.agg #[.int .i64 x, .int .i64 y]) ∧ ∃ Od', Hid (RB w0 w1 r q h d m s' s' Of' Od' lv iv l0 all) := by
  by_cases hk : k < s.rows.length
  · cases hr : s.rows.getD k [] with
    | nil =>
      refine ⟨0, 0, s, by omega, by omega, hI.mono (by omega), fun W hu => ?_, fun W Of' HB => ?_⟩
      · obtain ⟨Oq, hL, -⟩ := (H.upd0 hu).ref
        refine (poll_empty q h s.pg k k W hL.que rfl hk hr).mono fun e w1 he => ?_
        obtain ⟨rfl, rfl⟩ := he
        exact ⟨rfl, Of, Lib.hid (H.upd0 hu)⟩
      · refine (dpoll_empty d m s.pg k k W HB.doc rfl hk hr).mono fun e w1 he => ?_
        obtain ⟨rfl, hu⟩ := he
        exact ⟨rfl, Od, Lib.hid (HB.upd0 hu)⟩
    | cons a t =>
      obtain ⟨hrow, hrl⟩ := hI.row H.ref k
      rw [hr] at hrow hrl
      obtain ⟨ha1, ha3⟩ := hrow a (List.mem_cons_self ..)
      refine ⟨a, 0, _, by omega, by omega, (hI.polled hk hr).mono (by omega), fun W hu => ?_, fun W Of' HB => ?_⟩
      · refine (ref_poll r q h s.pg s.n k a t k W (H.upd0 hu).ref rfl hk hr).mono fun e w1 he => ?_
        obtain ⟨rfl, O', hq, hst⟩ := he
        exact ⟨rfl, O', Lib.hid ((H.upd0 hu).stepR (s' := ⟨_, _, _, _, _⟩) hq hst)⟩
      · refine (dpoll_yes d m s.pg k a t k W HB.doc rfl hk hr ha1 ha3 (by simp at hrl; omega)).mono fun e w1 he => ?_
        obtain ⟨rfl, O', hq, hst⟩ := he
        exact ⟨rfl, O', Lib.hid (HB.stepD (s' := ⟨_, _, _, _, _⟩) hq hst)⟩
  · refine ⟨0, 2, s, by omega, by omega, hI.mono (by omega), fun W hu => ?_, fun W Of' HB => ?_⟩
    · obtain ⟨Oq, hL, -⟩ := (H.upd0 hu).ref
      refine (poll_none q h s.pg k W hL.que (.inr (by omega))).mono fun e w1 he => ?_
      obtain ⟨rfl, rfl⟩ := he
      exact ⟨rfl, Of, Lib.hid (H.upd0 hu)⟩
    · refine (dpoll_none d m s.pg k W HB.doc (.inr (by omega))).mono fun e w1 he => ?_
      obtain ⟨rfl, hu⟩ := he
      exact ⟨rfl, Od, Lib.hid (HB.upd0 hu)⟩
end
end Go.Proofs.YtpkbdmieelgdlaaGreat
namespace Go.Proofs.YtpkbdmieelgdlaaGreat
open Go Go.RowKit

/-- Both at the beginning. -/
theorem rb_start {w0 w1 w2 : World} {r q h d m : Nat} {s : St} {O1 Od : Nat → Prop} {lv : Value} {l0 : List Int} (he : Env w0 w1 O1) (hl : OwnA w1 w0.heap.size lv l0 O1) (hr : RefO w1 r q h s.pg s.l s.F s.rows s.n O1) (hd : DqO w2 d m s.pg s.l s.F s.rows s.n Od) (hed : Env w1 w2 Od) :
    RB w0 w2 r q h d m s s O1 Od lv (.slice none 0 0) l0 [] := by
  have hu : Upd [] w1 w2 := hed.upd
  have hl2 := hl.upd0 hu
  refine ⟨hr.upd0 hu, hd, fun k hk hx => ?_, ⟨fun k hk => ?_, (he.upd0 hu).upd⟩, ⟨hl2.own, fun g hg hx => ?_⟩, OwnA.nil _ _ _, fun g hg => by cases hg⟩
  · have h1 := hed.low k hk
    have h2 := hr.owned hx
    omega
  · rcases hk with hk | hk
    · exact he.low k hk
    · exact Nat.le_trans he.upd.size (hed.low k hk)
  · rcases hx with hx | hx
    · exact hl2.far g hg hx
    · have h1 := hed.low g hx
      have h2 := (own_low hl.own hg).2
      omega
theorem ri_start : RI ⟨(mkD 4).1, (mkD 4).2.1, (mkD 4).2.2, List.replicate 2 [], 0⟩ 0 :=
  ⟨rfl, fun a ha h4 _ => by
    have := mkD_kind 4 a ha
    change ((mkD 4).2.2 a).k = 4 at h4
    omega, Nat.le_refl _, by show (mkD 4).2.1.length ≤ 4 + 0; rw [mkD_len]; omega⟩
section
variable {w0 w : World} {r q h d m : Nat} {s : St} {Of Od : Nat → Prop} {lv iv : Value} {l0 all : List Int} {i : Nat}
/-- The cells of the law's own lists. -/
theorem RB.cell {AL : Option Addr} {N cL : Nat} {s2 : St} (H : RB w0 w r q h d m s s2 Of Od (.slice AL N cL) iv l0 all) (hl : l0.length = N) {t : Nat} (ht : t < N) : ∃ b o, AL = some ⟨b, o, none⟩ ∧ ∀ W, Upd [] w W → W.cell? ⟨b, o + t, none⟩ = some (.int .i64 (l0.getD t 0)) := by
  obtain ⟨al, cl', eL, hIL, -⟩ := H.lst.own.form
  simp only [Value.slice.injEq] at eL
  obtain ⟨rfl, -, -⟩ := eL
  obtain ⟨b, o, e, hb, c⟩ := Reads.at hIL hl ht
  exact ⟨b, o, e, fun W hu => (hu.cell (p := ⟨b, o + t, none⟩) hb (by simp)).trans c⟩
theorem RB.cellA {AL : Option Addr} {N cL : Nat} {s2 : St} (H : RB w0 w r q h d m s s2 Of Od lv (.slice AL N cL) l0 all) (hl : all.length = N) {t : Nat} (ht : t < N) : ∃ b o, AL = some ⟨b, o, none⟩ ∧ ∀ W, Upd [] w W → W.cell? ⟨b, o + t, none⟩ = some (.int .i64 (all.getD t 0)) := by
  obtain ⟨al, cl', eL, hIL, -⟩ := H.inl.own.form
  simp only [Value.slice.injEq] at eL
  obtain ⟨rfl, -, -⟩ := eL
  obtain ⟨b, o, e, hb, c⟩ := Reads.at hIL hl ht
  exact ⟨b, o, e, fun W hu => (hu.cell (p := ⟨b, o + t, none⟩) hb (by simp)).trans c⟩
/-- The list that the law hands to both. -/
theorem reads_two {s2 : St} {x y : Int} {k : Nat} (H : RB w0 w r q h d m s s2 Of Od lv iv l0 all) (hk : k ≤ 2) : ReadsO (w.alloc (.cells #[.int .i64 x, .int .i64 y] 3)).drew (some ⟨w.heap.size, 0, none⟩) ([x, y].take k) (fun k => Of k ∨ Od k) := by
  have hb : Blk (w.alloc (.cells #[.int .i64 x, .int .i64 y] 3)).drew w.heap.size 3 #[.int .i64 x, .int .i64 y] := (Blk.new _ _ _).drew
  refine .inr ⟨w.heap.size, 0, rfl, hb.lt, fun hx => ?_, fun i hi => ?_⟩
  · rcases hx with hx | hx
    · have := H.ref.owned hx; omega
    · have := H.doc.owned hx; omega
  · have hi : i < k ∧ i < 2 := by rw [List.length_take] at hi; simp at hi; omega
    rw [List.getD_eq_getElem?_getD, List.getElem?_take_of_lt hi.1, Nat.zero_add, hb.cell i]
    have h3 : i = 0 ∨ i = 1 := by omega
    rcases h3 with rfl | rfl <;> rfl
/-- How many were made, of both. -/
theorem rb_serial (H : RB w0 w r q h d m s s Of Od lv iv l0 all) : (∀ W, Upd [] w W → Calls Tryz.prog 46 #[.pointer (some ⟨r, 0, none⟩)] W fun e w' => e = .returned (.int .i64 s.n) ∧ w' = W) ∧
    ∀ W, Upd [] w W → W.cell? ⟨d, 2, none⟩ = some (.int .i64 s.n) :=
  ⟨fun W hu => (serial_yes r q h s.pg s.n W (H.upd0 hu).ref).mono fun _ _ he => ⟨he.1, he.2.symm⟩, fun _ hu => (H.upd0 hu).doc.cells.2.1⟩
theorem rb_row (H : RB w0 w r q h d m s s Of Od lv iv l0 all) (hI : RI s i) (hi : i ≤ 1000) (j : Nat) (hj : j < 2) (n c2 : Nat) (B : Option Addr) (hn : (s.rows.getD j []).length = n) (hB : ∀ W, Upd [] w W → IsInts W B (s.rows.getD j [])) :
    (∀ W, Upd [] w W → Calls Tryz.prog 34 #[.pointer (some ⟨q, 0, none⟩), .int .i64 (j : Int)] W fun e w' => ∃ A c, e = .returned (.tuple #[.slice A n c, .int .i64 0]) ∧ (∀ W', Upd [] w' W' → IsInts W' A (s.rows.getD j [])) ∧ Upd [] W w') ∧
    ∀ W A c, Upd [] w W → IsInts W A (s.rows.getD j []) → Calls Tryz.prog 16 #[.slice A n c, .slice B n c2] W fun e w' => e = .returned (.bool true) ∧ Upd [] W w' := by
  have hl := (hI.row H.ref j).2
  have h2 := hI.two
  refine ⟨fun W hu => ?_, fun W A c hu hA => ?_⟩
  · refine (ref_list r q h s.pg s.n j j W (H.upd0 hu).ref rfl (by omega)).mono fun e w' he => ?_
    obtain ⟨v, rfl, ho, hu2⟩ := he
    obtain ⟨A, c, rfl, hA, -⟩ := ho.form
    refine ⟨A, c, by rw [hn], fun W' hu' => ?_, hu2⟩
    obtain ⟨A', c', e', hA', -⟩ := (ho.upd hu' (by simp)).form
    simp only [Value.slice.injEq] at e'
    rw [e'.1]; exact hA'
  · have := same_calls A B n n c c2 _ _ W hn hn hA (hB W hu) (by omega) (by omega)
    rw [decide_eq_true (rfl : s.rows.getD j [] = s.rows.getD j [])] at this
    refine this.mono fun e w' he => ?_
    obtain ⟨rfl, q, rfl⟩ := he
    exact ⟨rfl, (Upd.refl [] W).drewN q⟩
/-- What the law asks at its end, at any later world. -/
theorem rb_end (H : RB w0 w r q h d m s s Of Od lv iv l0 all) (hI : RI s i) (hi : i ≤ 1000) : ∃ (gr rc n0 c0 n1 c1 : Nat) (B0 B1 : Option Addr) (r0 r1 : List Int),
    (∀ W, Upd [] w W → W.cell? ⟨r, 0, none⟩ = some (.pointer (some ⟨q, 0, none⟩)) ∧ W.cell? ⟨d, 0, none⟩ = some (.pointer (some ⟨m, 0, none⟩)) ∧ W.cell? ⟨d, 1, none⟩ = some (.slice (some ⟨gr, 0, none⟩) 2 rc) ∧ W.cell? ⟨gr, 0, none⟩ = some (.slice B0 n0 c0) ∧ W.cell? ⟨gr, 1, none⟩ = some (.slice B1 n1 c1)) ∧
    ((∀ W, Upd [] w W → Calls Tryz.prog 34 #[.pointer (some ⟨q, 0, none⟩), .int .i64 0] W fun e w' => ∃ A c, e = .returned (.tuple #[.slice A n0 c, .int .i64 0]) ∧ (∀ W', Upd [] w' W' → IsInts W' A r0) ∧ Upd [] W w') ∧
    ∀ W A c, Upd [] w W → IsInts W A r0 → Calls Tryz.prog 16 #[.slice A n0 c, .slice B0 n0 c0] W fun e w' => e = .returned (.bool true) ∧ Upd [] W w') ∧
    ((∀ W, Upd [] w W → Calls Tryz.prog 34 #[.pointer (some ⟨q, 0, none⟩), .int .i64 1] W fun e w' => ∃ A c, e = .returned (.tuple #[.slice A n1 c, .int .i64 0]) ∧ (∀ W', Upd [] w' W' → IsInts W' A r1) ∧ Upd [] W w') ∧
    ∀ W A c, Upd [] w W → IsInts W A r1 → Calls Tryz.prog 16 #[.slice A n1 c, .slice B1 n1 c1] W fun e w' => e = .returned (.bool true) ∧ Upd [] W w') ∧
    (∀ W, Upd [] w W → Calls Tryz.prog 20 #[.pointer (some ⟨h, 0, none⟩)] W fun e w' => ∃ v, e = .returned v ∧ ObV w' s.pg s.F v ∧ Upd [] W w') ∧
    (∀ W, Upd [] w W → Calls Tryz.prog 21 #[.pointer (some ⟨m, 0, none⟩)] W fun e w' => ∃ v, e = .returned v ∧ ObV w' s.pg s.F v ∧ Upd [] W w') ∧
    (∀ W v v2, ObV W s.pg s.F v → ObV W s.pg s.F v2 → Calls Tryz.prog 19 #[v, v2] W fun e w' => e = .returned (.bool true) ∧ Upd [] W w') := by
  have h2 := hI.two
  obtain ⟨A, rc, hc1, hcr⟩ := H.doc.rowCells
  obtain ⟨gr, B0, c0, rfl, hb0⟩ := hcr 0 (by omega)
  obtain ⟨gr2, B1, c1, e, hb1⟩ := hcr 1 (by omega)
  simp only [Option.some.injEq, Addr.mk.injEq, and_true] at e
  subst e
  rw [h2] at hc1
  refine ⟨gr, rc, _, c0, _, c1, B0, B1, _, _, fun W hu => ⟨(H.upd0 hu).ref.cells.1, (H.upd0 hu).doc.cells.1, hc1 W hu, (hb0 W hu).1, (hb1 W hu).1⟩, rb_row H hI hi 0 (by omega) _ c0 B0 rfl (fun W hu => (hb0 W hu).2), rb_row H hI hi 1 (by omega) _ c1 B1 rfl (fun W hu => (hb1 W hu).2), fun W hu => ?_, fun W hu => ?_, fun W v v2 h1 h2 => ?_⟩
  · obtain ⟨Oh, hh⟩ := (H.ref.upd0 hu).heap
    refine (heap_objects h s.pg W hh).mono fun e w' he => ?_
    obtain ⟨v, ss, rfl, ho, hu⟩ := he
    exact ⟨v, rfl, ⟨_, ss, ho⟩, hu⟩
  · obtain ⟨-, Oh, hh⟩ := (H.doc.upd0 hu).parts
    refine (dheap_objects m s.pg W hh).mono fun e w' he => ?_
    obtain ⟨v, ss, rfl, ho, hu⟩ := he
    exact ⟨v, rfl, ⟨_, ss, ho⟩, hu⟩
  · obtain ⟨Oh, hh⟩ := H.ref.heap
    obtain ⟨hm1, hm2⟩ := hh.mem
    obtain ⟨B1, s1, h1⟩ := h1
    obtain ⟨B2, s2, h2⟩ := h2
    refine (same_objs W h1 h2 (by rw [objsOf_len]; exact hm1) fun i => ?_).mono fun e w' he => ?_
    · by_cases hi : i < (objsOf s.pg s.F).length
      · have hmem : (objsOf s.pg s.F).getD i ob0 ∈ objsOf s.pg s.F := by rw [List.getD_eq_getElem?_getD, List.getElem?_eq_getElem hi]; exact List.getElem_mem hi
        obtain ⟨a, ha, e⟩ := List.mem_map.1 hmem
        rw [← e]
        exact (hh.pos (hm2 a ha)).2.2
      · rw [List.getD_eq_getElem?_getD, List.getElem?_eq_none (by omega)]
        exact Nat.zero_le _
    · obtain ⟨rfl, q, rfl⟩ := he
      exact ⟨rfl, (Upd.refl [] W).drewN q⟩
end
end Go.Proofs.YtpkbdmieelgdlaaGreat
