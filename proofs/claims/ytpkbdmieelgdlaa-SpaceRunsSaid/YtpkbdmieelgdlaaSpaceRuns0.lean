/- The program's space and the document's beside each other. -/
import Derived.Test.YtpkbdmieelgdlaaDoc8
import Derived.Test.YtpkbdmieelgdlaaSpO
namespace Go.Proofs.Ytpkbdmieelgdlaa
open Go Go.RowKit

/-- At s the program's space is S, at m the document's is T; they lie apart; neither lies among the blocks that were there at w0. -/
structure Both (w0 w : World) (s m : Nat) (S T : Sp) (Os Od : Nat → Prop) : Prop where
  pro : SpO w s S Os
  doc : DocO w m T Od
  apart : ∀ k, Od k → ¬ Os k
  newS : ∀ k, Os k → w0.heap.size ≤ k
  newD : ∀ k, Od k → w0.heap.size ≤ k
  upd : Upd [] w0 w
section
variable {w0 w w' : World} {s m : Nat} {S T S' T' : Sp} {Os Od Os' Od' : Nat → Prop}
theorem StepO.old {O O' : Nat → Prop} (k : StepO O w O' w') (hu : Upd [] w0 w) (hn : ∀ k, O k → w0.heap.size ≤ k) : Upd [] w0 w' ∧ ∀ k, O' k → w0.heap.size ≤ k :=
  ⟨⟨k.os.trans hu.os, k.tape.trans hu.tape, k.output.trans hu.output, Nat.le_trans hu.size k.size, fun i hi hm => (k.block i (Nat.lt_of_lt_of_le hi hu.size) (fun h => by have := hn i h; omega)).trans (hu.block i hi hm)⟩,
    fun i hi => (k.own i hi).elim (hn i) (Nat.le_trans hu.size)⟩
theorem Both.stepS (h : Both w0 w s m S T Os Od) (hs : SpO w' s S' Os') (k : StepO Os w Os' w') : Both w0 w' s m S' T Os' Od :=
  have h1 := k.old h.upd h.newS
  ⟨hs, h.doc.moved (apart_moved h.apart (fun _ hb => h.doc.owned hb) k), apart_step h.apart (fun _ hb => h.doc.owned hb) k, h1.2, h.newD, h1.1⟩
theorem Both.stepD (h : Both w0 w s m S T Os Od) (hd : DocO w' m T' Od') (k : StepO Od w Od' w') : Both w0 w' s m S T' Os Od' :=
  have h1 := k.old h.upd h.newD
  have ha : ∀ k, Os k → ¬ Od k := fun b hb hx => h.apart b hx hb
  ⟨h.pro.moved (apart_moved ha (fun _ hb => h.pro.owned hb) k), hd, fun b hb hx => apart_step ha (fun _ hb => h.pro.owned hb) k b hx hb, h.newS, h1.2, h1.1⟩
theorem Both.upd0 (h : Both w0 w s m S T Os Od) (hu : Upd [] w w') : Both w0 w' s m S T Os Od :=
  ⟨h.pro.upd0 hu, h.doc.upd0 hu, h.apart, h.newS, h.newD, h.upd.trans hu⟩
/-- A word is written in the document's space. -/
theorem DocO.word (H : DocO w m T Od) {i : Nat} (hi : i < T.W.length) (x : Int) : ∃ gw, w.cell? ⟨m, 0, none⟩ = some (.slice (some ⟨gw, 0, none⟩) T.W.length T.W.length) ∧ w.cell? ⟨gw, i, none⟩ = some (.int .i64 (T.W.getD i 0)) ∧ w.frozen? ⟨gw, i, none⟩ = false ∧
    DocO (w.setCell ⟨gw, i, none⟩ (.int .i64 x)) m ⟨T.W.set i x, T.pg⟩ Od ∧ StepO Od w Od (w.setCell ⟨gw, i, none⟩ (.int .i64 x)) := by
  obtain ⟨D, H, rfl⟩ := H
  have hc := H.cells.1
  rw [← H.wf.len] at hc
  refine ⟨D.gw, hc, (H.wordAt hi).1, (H.wordAt hi).2, ⟨D, DSpace.of (S := ⟨T.W.set i x, T.pg⟩) (H.raw.setW i x) (H.dbits.far H.words (by decide) i (.int .i64 x)) rfl rfl rfl rfl rfl ?_, rfl⟩, (StepO.refl _ _).setD (p := ⟨D.gw, i, none⟩) (show OwnsD m D T D.gw from .inr (.inl rfl)) _⟩
  have h := H.wf
  exact ⟨h.n1, h.n2, by simpa using h.len, h.zero, h.small, h.first, h.rest⟩
end
end Go.Proofs.Ytpkbdmieelgdlaa
