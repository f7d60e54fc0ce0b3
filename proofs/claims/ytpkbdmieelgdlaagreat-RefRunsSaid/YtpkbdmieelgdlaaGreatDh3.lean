/- The document's heap of objects: Field and Put. -/
import Derived.Test.YtpkbdmieelgdlaaGreatDh2
namespace Go.Proofs.YtpkbdmieelgdlaaGreat
open Go Go.RowKit

section
variable {w w' : World} {h m : Nat} {np : List Pst} {l : List Int} {F : Int → Ob} {O Os : Nat → Prop}
theorem HeapDL.at {S : Sp} (H : HeapDL w h m S Os l F) {a : Int} (ha : a ∈ l) : ∃ p : Nat, a = p ∧ 64 ≤ p ∧ p + 1 + (F a).ws.length ≤ S.W.length ∧ S.W.length ≤ 16384 ∧ S.W.getD p 0 = (F a).word ∧ (F a).may ∧ ∀ j, j < (F a).ws.length → S.W.getD (p + 1 + j) 0 = (F a).ws.getD j 0 := by
  obtain ⟨k, hk, hst⟩ := H.objs.ob a ha
  have fb := find_block H.space.wf hk
  have hr := hst.room
  have hlen := H.space.wf.len
  have hn2 := H.space.wf.n2
  obtain ⟨p, rfl⟩ : ∃ p : Nat, a = p := ⟨a.toNat, by omega⟩
  exact ⟨p, rfl, by omega, by omega, by omega, hst.word, hst.may, fun j hj => hst.field j hj⟩
/-- The word's cell, in any world that comes of reading alone. -/
theorem HeapDL.word {S : Sp} (H : HeapDL w h m S Os l F) : ∃ gw, Os gw ∧ ∀ W, Upd [] w W → W.cell? ⟨h, 0, none⟩ = some (.pointer (some ⟨m, 0, none⟩)) ∧ W.cell? ⟨m, 0, none⟩ = some (.slice (some ⟨gw, 0, none⟩) S.W.length S.W.length) ∧
    ∀ i, i < S.W.length → W.cell? ⟨gw, i, none⟩ = some (.int .i64 (S.W.getD i 0)) ∧ W.frozen? ⟨gw, i, none⟩ = false := by
  obtain ⟨gw, h1, h2⟩ := H.space.wcells
  exact ⟨gw, h1, fun W hu => ⟨(H.upd0 hu).cells.1, h2 W hu⟩⟩
/-- A word is written in the document's space. -/
theorem DocO.wordAt {S : Sp} {O : Nat → Prop} (H : DocO w m S O) {i : Nat} (hi : i < S.W.length) (x : Int) : ∃ gw, (m ≠ gw ∧ O gw) ∧ (∀ W, Upd [] w W → W.cell? ⟨m, 0, none⟩ = some (.slice (some ⟨gw, 0, none⟩) S.W.length S.W.length) ∧ W.cell? ⟨gw, i, none⟩ = some (.int .i64 (S.W.getD i 0)) ∧ W.frozen? ⟨gw, i, none⟩ = false) ∧
    ∀ W, Upd [] w W → DocO (W.setCell ⟨gw, i, none⟩ (.int .i64 x)) m ⟨S.W.set i x, S.pg⟩ O ∧ StepO O w O (W.setCell ⟨gw, i, none⟩ (.int .i64 x)) := by
  obtain ⟨D, H, rfl⟩ := H
  refine ⟨D.gw, ⟨H.raw.ne.1, .inr (.inl rfl)⟩, fun W hu => ?_, fun W hu => ?_⟩
  · have hc := (H.upd0 hu).cells.1
    rw [← H.wf.len] at hc
    exact ⟨hc, ((H.upd0 hu).wordAt hi).1, ((H.upd0 hu).wordAt hi).2⟩
  · have H2 := H.upd0 hu
    refine ⟨⟨D, DSpace.of (S := ⟨S.W.set i x, S.pg⟩) (H2.raw.setW i x) (H2.dbits.far H2.words (by decide) i (.int .i64 x)) rfl rfl rfl rfl rfl ?_, rfl⟩, (StepO.upd _ hu).setD (p := ⟨D.gw, i, none⟩) (show OwnsD m D S D.gw from .inr (.inl rfl)) _⟩
    have h := H.wf
    exact ⟨h.n1, h.n2, by simpa using h.len, h.zero, h.small, h.first, h.rest⟩
theorem HeapDL.write {S : Sp} (H : HeapDL w h m S Os l F) {i : Nat} (hi : i < S.W.length) (x : Int) {l' : List Int} {F' : Int → Ob} (ho : Objs ⟨S.W.set i x, S.pg⟩ l' F') : ∃ gw, (∀ W, Upd [] w W → W.cell? ⟨h, 0, none⟩ = some (.pointer (some ⟨m, 0, none⟩)) ∧
      W.cell? ⟨m, 0, none⟩ = some (.slice (some ⟨gw, 0, none⟩) S.W.length S.W.length) ∧ W.cell? ⟨gw, i, none⟩ = some (.int .i64 (S.W.getD i 0)) ∧ W.frozen? ⟨gw, i, none⟩ = false) ∧
    ∀ W, Upd [] w W → HeapDL (W.setCell ⟨gw, i, none⟩ (.int .i64 x)) h m ⟨S.W.set i x, S.pg⟩ Os l' F' ∧ StepO (OwnsHD h Os) w (OwnsHD h Os) (W.setCell ⟨gw, i, none⟩ (.int .i64 x)) := by
  obtain ⟨gw, _, h1, h2⟩ := H.space.wordAt hi x
  exact ⟨gw, fun W hu => ⟨(H.upd0 hu).cells.1, h1 W hu⟩, fun W hu => H.after (h2 W hu).1 (h2 W hu).2 ho⟩
set_option maxRecDepth 100000 in
theorem dget_yes (h : Nat) (np : List Pst) (a i : Int) (j : Nat) (x : Int) (w : World) (H : HeapD w h np l F O) (ha : a ∈ l) (hi : i = j) (hj : j < (F a).ws.length) (hx : (F a).ws.getD j 0 = x) : Calls Tryz.prog 76 #[.pointer (some ⟨h, 0, none⟩), .int .i64 a, .int .i64 i] w fun e w' =>
    e = .returned (.agg #[.int .i64 x, .int .i64 0]) ∧ Upd [] w w' := by
  subst hi
  have hq := fun W (hu : Upd [] w W) => dhead_yes h np a (F a).k (F a).c (F a).ws.length (F a).f W (H.upd0 hu) ha rfl
  obtain ⟨m, S, Os, H, hnp, rfl⟩ := H
  obtain ⟨p, rfl, h1, h2, h3, _, _, h4⟩ := H.at ha
  have h5 := h4 j hj
  rw [hx] at h5
  obtain ⟨gw, _, hw⟩ := H.word
  have hW : ∀ W, Upd [] w W → W.cell? ⟨h, 0, none⟩ = some (.pointer (some ⟨m, 0, none⟩)) ∧ W.cell? ⟨m, 0, none⟩ = some (.slice (some ⟨gw, 0, none⟩) S.W.length S.W.length) ∧ W.cell? ⟨gw, p + 1 + j, none⟩ = some (.int .i64 x) := fun W hu => by
    obtain ⟨e1, e2, e3⟩ := hw W hu
    refine ⟨e1, e2, ?_⟩
    rw [← h5]; exact (e3 (p + 1 + j) (by omega)).1
  generalize (F (p : Int)).k = k at *
  generalize (F (p : Int)).c = c at *
  generalize (F (p : Int)).f = f at *
  generalize (F (p : Int)).ws.length = n at *
  generalize S.W.length = N at *
  have HQ := Lib.hid hq
  have HW := Lib.hid hW
  have HG : Hid (Blk (w.alloc (.cells #[.int .i64 0, .int .i64 0] 34)) w.heap.size 34 #[.int .i64 0, .int .i64 0]) := Lib.hid (Blk.new _ _ _)
  have HUA : Hid (Upd [] w (w.alloc (.cells #[.int .i64 0, .int .i64 0] 34))) := Lib.hid ((Upd.refl [] w).alloc _)
  clear hq hW hw h4 h5 hx H ha hnp
  go_enter Tryz.func76, Tryz.ntmps76
  go_wp2_with fail
  refine (HQ.out _ HUA.out).mono ?_
  rintro e w1 ⟨rfl, hu⟩
  have HU := Lib.hid (HUA.out.trans hu)
  have HU2 := Lib.hid (HU.out.alloc (.cells #[.int .i64 k, .int .i64 c, .int .i64 n, .bool f, .bool true] 113))
  have HB := Lib.hid ((HG.out.upd hu (by simp)).alloc (.cells #[.int .i64 k, .int .i64 c, .int .i64 n, .bool f, .bool true] 113))
  obtain ⟨d0, d1, d2⟩ := HW.out _ HU2.out
  have z0 := HB.out.cell 0
  have z1 := HB.out.cell 1
  have z2 := HB.out.frozen 0
  have z3 := HB.out.frozen 1
  simp only [List.getElem?_toArray, List.getElem?_cons_zero, List.getElem?_cons_succ] at z0 z1
  clear hu
  go_wp2_with fail
  exact cell_ret rfl ((HB.out.set_ 0 _).set_ 1 _) rfl rfl Tryz.underlying34 (by kernel_rfl) ⟨rfl, (HU2.out.setCell (.inr (Nat.le_refl _)) _).setCell (.inr (Nat.le_refl _)) _⟩
set_option maxRecDepth 100000 in
theorem dput_yes (h : Nat) (np : List Pst) (a i : Int) (j : Nat) (x : Int) (w : World) (H : HeapD w h np l F O) (ha : a ∈ l) (hi : i = j) (hj : j < (F a).ws.length) : Calls Tryz.prog 69 #[.pointer (some ⟨h, 0, none⟩), .int .i64 a, .int .i64 i, .int .i64 x] w fun e w' =>
    e = .returned (.int .i64 0) ∧ ∃ O', HeapD w' h np l (putF F a j x) O' ∧ StepO O w O' w' := by
  have hq := dget_yes h np a i j _ w H ha hi hj rfl
  subst hi
  obtain ⟨m, S, Os, H, hnp, rfl⟩ := H
  obtain ⟨p, rfl, h1, h2, h3, _, _, _⟩ := H.at ha
  obtain ⟨gw, hw1, hw2⟩ := H.write (i := p + 1 + j) (by omega) x (H.objs.field H.space.wf ha hj x)
  have hW : ∀ W, Upd [] w W → ∃ O', HeapD (W.setCell ⟨gw, p + 1 + j, none⟩ (.int .i64 x)) h np l (putF F p j x) O' ∧ StepO (OwnsHD h Os) w O' (W.setCell ⟨gw, p + 1 + j, none⟩ (.int .i64 x)) := fun W hu => ⟨_, ⟨m, _, Os, (hw2 W hu).1, hnp, rfl⟩, (hw2 W hu).2⟩
  generalize (F (p : Int)).ws.getD j 0 = y at *
  generalize (F (p : Int)).ws.length = n at *
  generalize S.W.getD (p + 1 + j) 0 = y2 at *
  generalize S.W.length = N at *
  have HQ := Lib.hid hq
  have HW1 := Lib.hid hw1
  have HW := Lib.hid hW
  clear hq hW hw1 hw2 H ha hnp
  go_enter Tryz.func69, Tryz.ntmps69
  go_wp2_with fail
  refine (HQ.out).mono ?_
  rintro e w1 ⟨rfl, hu⟩
  have HU := Lib.hid hu
  have HU2 := Lib.hid (HU.out.alloc (.cells #[.int .i64 y, .int .i64 0] 34))
  obtain ⟨d0, d1, d2, d3⟩ := HW1.out _ HU2.out
  have HN := Lib.hid (show gw ≠ w1.heap.size from fun e => by
    have := World.block_lt_of_cell? _ _ (HW1.out _ HU.out).2.2.1
    exact absurd e (Nat.ne_of_lt this))
  clear hu
  go_wp2_with fail
  go_ret
  exact ⟨rfl, HW.out _ HU2.out⟩
end
end Go.Proofs.YtpkbdmieelgdlaaGreat
