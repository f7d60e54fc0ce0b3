/- The document's heap of objects: what it is in memory; Head. -/
import Derived.Test.YtpkbdmieelgdlaaGreatDh
import Derived.Test.YtpkbdmieelgdlaaGreatDoc8
import Derived.Test.YtpkbdmieelgdlaaGreatObj4P
namespace Go.Proofs.YtpkbdmieelgdlaaGreat
open Go Go.RowKit

def OwnsHD (h : Nat) (Os : Nat → Prop) (k : Nat) : Prop := Os k ∨ k = h
structure HeapDL (w : World) (h m : Nat) (S : Sp) (Os : Nat → Prop) (l : List Int) (F : Int → Ob) : Prop where
  box : Blk w h 93 #[.pointer (some ⟨m, 0, none⟩), .slice none 0 0]
  space : DocO w m S Os
  objs : Objs S l F
  sep : ¬ Os h
/-- The document's heap of the pages np: at the places of l are the objects that F tells; its blocks are O. -/
def HeapD (w : World) (h : Nat) (np : List Pst) (l : List Int) (F : Int → Ob) (O : Nat → Prop) : Prop := ∃ m S Os, HeapDL w h m S Os l F ∧ S.pg = np ∧ O = OwnsHD h Os
section
variable {w w' : World} {h m : Nat} {np : List Pst} {S S' : Sp} {l l' : List Int} {F F' : Int → Ob} {O Os Os' : Nat → Prop}
theorem DocO.wf (H : DocO w m S O) : S.WF := by obtain ⟨D, H, _⟩ := H; exact H.wf
theorem DocO.wcells (H : DocO w m S O) : ∃ gw, O gw ∧ ∀ W, Upd [] w W → W.cell? ⟨m, 0, none⟩ = some (.slice (some ⟨gw, 0, none⟩) S.W.length S.W.length) ∧ ∀ i, i < S.W.length → W.cell? ⟨gw, i, none⟩ = some (.int .i64 (S.W.getD i 0)) ∧ W.frozen? ⟨gw, i, none⟩ = false := by
  obtain ⟨D, H, rfl⟩ := H
  refine ⟨D.gw, .inr (.inl rfl), fun W hu => ⟨?_, fun i hi => (H.upd0 hu).wordAt hi⟩⟩
  have hc := (H.upd0 hu).cells.1
  rwa [← H.wf.len] at hc
theorem HeapDL.owned (H : HeapDL w h m S Os l F) {k : Nat} (hk : OwnsHD h Os k) : k < w.heap.size := by
  rcases hk with hk | rfl
  · exact H.space.owned hk
  · exact H.box.lt
theorem HeapD.owned (H : HeapD w h np l F O) {k : Nat} (hk : O k) : k < w.heap.size := by obtain ⟨m, S, Os, H, _, rfl⟩ := H; exact H.owned hk
theorem HeapDL.moved (H : HeapDL w h m S Os l F) (hb : ∀ k, OwnsHD h Os k → w'.heap[k]? = w.heap[k]?) : HeapDL w' h m S Os l F :=
  ⟨H.box.moved (hb _ (.inr rfl)), H.space.moved fun k hk => hb k (.inl hk), H.objs, H.sep⟩
theorem HeapD.moved (H : HeapD w h np l F O) (hb : ∀ k, O k → w'.heap[k]? = w.heap[k]?) : HeapD w' h np l F O := by
  obtain ⟨m, S, Os, H, hn, rfl⟩ := H
  exact ⟨m, S, Os, H.moved hb, hn, rfl⟩
theorem HeapD.upd0 (H : HeapD w h np l F O) (hu : Upd [] w w') : HeapD w' h np l F O := H.moved fun k hk => hu.block k (H.owned hk) (by simp)
theorem HeapDL.upd0 (H : HeapDL w h m S Os l F) (hu : Upd [] w w') : HeapDL w' h m S Os l F := H.moved fun k hk => hu.block k (H.owned hk) (by simp)
theorem HeapDL.cells (H : HeapDL w h m S Os l F) : w.cell? ⟨h, 0, none⟩ = some (.pointer (some ⟨m, 0, none⟩)) ∧ w.cell? ⟨h, 1, none⟩ = some (.slice none 0 0) := ⟨H.box.cell 0, H.box.cell 1⟩
/-- What the space has done the heap has done. -/
theorem HeapDL.after (H : HeapDL w h m S Os l F) (hd : DocO w' m S' Os') (k : StepO Os w Os' w') (ho : Objs S' l' F') : HeapDL w' h m S' Os' l' F' ∧ StepO (OwnsHD h Os) w (OwnsHD h Os') w' := by
  have hh := H.box.lt
  refine ⟨⟨H.box.moved (k.block h hh H.sep), hd, ho, fun hx => ?_⟩, k.wide (P := fun x => x = h)⟩
  rcases k.own h hx with e | e
  · exact H.sep e
  · omega
end
/-- The result of Head lies in a block of its own. -/
structure HdAt (w0 w : World) (r : Nat) : Prop where
  blk : Blk w r 113 #[.int .i64 0, .int .i64 0, .int .i64 0, .bool false, .bool false]
  new : w0.heap.size ≤ r
theorem HdAt.cells {w0 w : World} {r : Nat} (h : HdAt w0 w r) : w.cell? ⟨r, 0, none⟩ = some (.int .i64 0) ∧ w.cell? ⟨r, 1, none⟩ = some (.int .i64 0) ∧ w.cell? ⟨r, 2, none⟩ = some (.int .i64 0) ∧ w.cell? ⟨r, 3, none⟩ = some (.bool false) ∧ w.cell? ⟨r, 4, none⟩ = some (.bool false) ∧
    w.frozen? ⟨r, 0, none⟩ = false ∧ w.frozen? ⟨r, 1, none⟩ = false ∧ w.frozen? ⟨r, 2, none⟩ = false ∧ w.frozen? ⟨r, 3, none⟩ = false ∧ w.frozen? ⟨r, 4, none⟩ = false :=
  ⟨h.blk.cell 0, h.blk.cell 1, h.blk.cell 2, h.blk.cell 3, h.blk.cell 4, h.blk.frozen 0, h.blk.frozen 1, h.blk.frozen 2, h.blk.frozen 3, h.blk.frozen 4⟩
theorem HdAt.upd0 {w0 w w' : World} {r : Nat} (h : HdAt w0 w r) (hu : Upd [] w w') : HdAt w0 w' r := ⟨h.blk.upd hu (by simp), h.new⟩
section
variable {h m : Nat} {np : List Pst} {l : List Int} {F : Int → Ob} {O Os : Nat → Prop}
theorem dhead_no (h : Nat) (np : List Pst) (a : Int) (w : World) (H : HeapD w h np l F O) (ha : a ∉ l) : Calls Tryz.prog 66 #[.pointer (some ⟨h, 0, none⟩), .int .i64 a] w fun e w' =>
    e = .returned (.agg #[.int .i64 0, .int .i64 0, .int .i64 0, .bool false, .bool false]) ∧ Upd [] w w' := by
  obtain ⟨m, S, Os, H, hnp, rfl⟩ := H
  have hno := H.objs.none ha
  have HG : Hid (HdAt w (w.alloc (.cells #[.int .i64 0, .int .i64 0, .int .i64 0, .bool false, .bool false] 113)) w.heap.size) := Lib.hid ⟨Blk.new _ _ _, Nat.le_refl _⟩
  have HUA : Hid (Upd [] w (w.alloc (.cells #[.int .i64 0, .int .i64 0, .int .i64 0, .bool false, .bool false] 113))) := Lib.hid ((Upd.refl [] w).alloc _)
  obtain ⟨c0, c1⟩ := (H.upd0 HUA.out).cells
  have hf := fun W (hu : Upd [] w W) => doc_find m S a W (H.upd0 hu).space
  unfold FoundV at hf
  generalize S.find a = z at *
  obtain ⟨z1, z2, z3⟩ := z
  simp only at hf hno
  have HF := Lib.hid hf
  clear H hf ha hnp
  cases z3
  · clear hno
    go_enter Tryz.func66, Tryz.ntmps66
    go_wp2_with fail
    refine (HF.out _ HUA.out).mono ?_
    rintro e w1 ⟨rfl, hu⟩
    have HU := Lib.hid ((HUA.out.trans hu).alloc (.cells #[.int .i64 z1, .int .i64 z2, .bool false] 155))
    have HG1 := Lib.hid ((HG.out.upd0 hu).upd0 ((Upd.refl [] w1).alloc (.cells #[.int .i64 z1, .int .i64 z2, .bool false] 155)))
    obtain ⟨x0, x1, x2, x3, x4, x5, x6, x7, x8, x9⟩ := HG1.out.cells
    clear hu
    go_wp2_with fail
    exact cell_ret rfl (((((HG1.out.blk.set_ 0 _).set_ 1 _).set_ 2 _).set_ 3 _).set_ 4 _) rfl rfl Tryz.underlying113 (by kernel_rfl) ⟨rfl, ((((HU.out.setCell (.inr (Nat.le_refl _)) _).setCell (.inr (Nat.le_refl _)) _).setCell (.inr (Nat.le_refl _)) _).setCell (.inr (Nat.le_refl _)) _).setCell (.inr (Nat.le_refl _)) _⟩
  · have hne : z1 ≠ a := by rcases hno with e | e; cases e; exact e
    clear hno
    go_enter Tryz.func66, Tryz.ntmps66
    go_wp2_with fail
    refine (HF.out _ HUA.out).mono ?_
    rintro e w1 ⟨rfl, hu⟩
    have HU := Lib.hid ((HUA.out.trans hu).alloc (.cells #[.int .i64 z1, .int .i64 z2, .bool true] 155))
    have HG1 := Lib.hid ((HG.out.upd0 hu).upd0 ((Upd.refl [] w1).alloc (.cells #[.int .i64 z1, .int .i64 z2, .bool true] 155)))
    obtain ⟨x0, x1, x2, x3, x4, x5, x6, x7, x8, x9⟩ := HG1.out.cells
    clear hu
    go_wp2_with fail
    exact cell_ret rfl (((((HG1.out.blk.set_ 0 _).set_ 1 _).set_ 2 _).set_ 3 _).set_ 4 _) rfl rfl Tryz.underlying113 (by kernel_rfl) ⟨rfl, ((((HU.out.setCell (.inr (Nat.le_refl _)) _).setCell (.inr (Nat.le_refl _)) _).setCell (.inr (Nat.le_refl _)) _).setCell (.inr (Nat.le_refl _)) _).setCell (.inr (Nat.le_refl _)) _⟩
set_option maxRecDepth 100000 in
theorem dhead_yes (h : Nat) (np : List Pst) (a k c n : Int) (f : Bool) (w : World) (H : HeapD w h np l F O) (ha : a ∈ l) (ho : (F a).head = .agg #[.int .i64 k, .int .i64 c, .int .i64 n, .bool f]) : Calls Tryz.prog 66 #[.pointer (some ⟨h, 0, none⟩), .int .i64 a] w fun e w' =>
    e = .returned (.agg #[.int .i64 k, .int .i64 c, .int .i64 n, .bool f, .bool true]) ∧ Upd [] w w' := by
  obtain ⟨m, S, Os, H, hnp, rfl⟩ := H
  obtain ⟨z, hm, hst⟩ := H.objs.ob a ha
  have fb := find_block H.space.wf hm
  have hr := hst.room
  have hmay : mayB k c n f = true ∧ S.W.getD a.toNat 0 = putZ k c n f := by
    have h1 := hst.may
    have h2 := hst.word
    unfold Ob.may at h1
    unfold Ob.word at h2
    unfold Ob.head at ho
    simp only [Value.agg.injEq, Array.mk.injEq, List.cons.injEq, Value.int.injEq, Value.bool.injEq, true_and, and_true] at ho
    obtain ⟨e1, e2, e3, e4⟩ := ho
    rw [e1, e2, e3, e4] at h1 h2
    exact ⟨h1, h2⟩
  obtain ⟨hmay, hw⟩ := hmay
  have hlen := H.space.wf.len
  have hn2 := H.space.wf.n2
  obtain ⟨p, rfl⟩ : ∃ p : Nat, a = p := ⟨a.toNat, by omega⟩
  have HG : Hid (HdAt w (w.alloc (.cells #[.int .i64 0, .int .i64 0, .int .i64 0, .bool false, .bool false] 113)) w.heap.size) := Lib.hid ⟨Blk.new _ _ _, Nat.le_refl _⟩
  have HUA : Hid (Upd [] w (w.alloc (.cells #[.int .i64 0, .int .i64 0, .int .i64 0, .bool false, .bool false] 113))) := Lib.hid ((Upd.refl [] w).alloc _)
  obtain ⟨c0, c1⟩ := (H.upd0 HUA.out).cells
  have hf := fun W (hu : Upd [] w W) => doc_find m S (p : Int) W (H.upd0 hu).space
  rw [hm] at hf
  unfold FoundV at hf
  obtain ⟨gw, _, hc⟩ := H.space.wcells
  have hW : ∀ W, Upd [] w W → W.cell? ⟨h, 0, none⟩ = some (.pointer (some ⟨m, 0, none⟩)) ∧ W.cell? ⟨m, 0, none⟩ = some (.slice (some ⟨gw, 0, none⟩) S.W.length S.W.length) ∧ W.cell? ⟨gw, p, none⟩ = some (.int .i64 (putZ k c n f)) := fun W hu => by
    obtain ⟨e2, e3⟩ := hc W hu
    refine ⟨(H.upd0 hu).cells.1, e2, ?_⟩
    rw [← hw]; exact (e3 p (by omega)).1
  have hpN : p < S.W.length := by omega
  have hN : S.W.length ≤ 16384 := by omega
  have HF := Lib.hid hf
  have HW := Lib.hid hW
  have HGET := Lib.hid (fun W => doc_get k c n f W hmay)
  generalize putZ k c n f = x at *
  generalize S.W.length = N at *
  clear H hf hc hW hm hst fb hr ho hw hnp hmay ha hlen hn2
  go_enter Tryz.func66, Tryz.ntmps66
  go_wp2_with fail
  refine (HF.out _ HUA.out).mono ?_
  rintro e w1 ⟨rfl, hu⟩
  have HU := Lib.hid ((HUA.out.trans hu).alloc (.cells #[.int .i64 p, .int .i64 z, .bool true] 155))
  have HG1 := Lib.hid ((HG.out.upd0 hu).upd0 ((Upd.refl [] w1).alloc (.cells #[.int .i64 p, .int .i64 z, .bool true] 155)))
  clear c0 c1 hu
  obtain ⟨d0, d1, d2⟩ := HW.out _ HU.out
  go_wp2_with fail
  refine (HGET.out _).mono ?_
  rintro e w2 ⟨rfl, hu⟩
  have HU2 := Lib.hid (HU.out.trans hu)
  have HG2 := Lib.hid (HG1.out.upd0 hu)
  obtain ⟨x0, x1, x2, x3, x4, x5, x6, x7, x8, x9⟩ := HG2.out.cells
  clear hu
  go_wp2_with fail
  exact cell_ret rfl (((((HG2.out.blk.set_ 0 _).set_ 1 _).set_ 2 _).set_ 3 _).set_ 4 _) rfl rfl Tryz.underlying113 (by kernel_rfl) ⟨rfl, ((((HU2.out.setCell (.inr (Nat.le_refl _)) _).setCell (.inr (Nat.le_refl _)) _).setCell (.inr (Nat.le_refl _)) _).setCell (.inr (Nat.le_refl _)) _).setCell (.inr (Nat.le_refl _)) _⟩
end
end Go.Proofs.YtpkbdmieelgdlaaGreat
