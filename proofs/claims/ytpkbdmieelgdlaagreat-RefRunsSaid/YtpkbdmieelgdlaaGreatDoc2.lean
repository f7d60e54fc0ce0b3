/- The document's space: NewSpace, pages, fill. -/
import Derived.Test.YtpkbdmieelgdlaaGreatDocR
import Derived.Deep.RegionLaw
import Derived.Deep.CutBlock
import Derived.Deep.DeepCutAuto
namespace Go.Proofs.YtpkbdmieelgdlaaGreat
open Go Go.RowKit

theorem bitss_info : (Tryz.prog.info? 142).map (fun i => (i.zero, i.size, i.bytes)) = some (some (.slice none 0 0), 1, 24) := by kernel_rfl
def zeros (n : Nat) : Array Value := Array.replicate n (.int .i64 0)
def nils (n : Nat) : Array Value := Array.replicate n (.slice none 0 0)
/-- What NewSpace has made ahead of page 0. -/
structure Fresh (w0 w : World) (m n : Nat) (D : DLay) : Prop where
  box : Blk w m 97 #[.slice (some ⟨D.gw, 0, none⟩) (n * 64) (n * 64), .slice (some ⟨D.gk, 0, none⟩) n n, .slice (some ⟨D.gm, 0, none⟩) n n, .slice (some ⟨D.gt, 0, none⟩) n n]
  words : Blk w D.gw 3 (zeros (n * 64))
  kind : Blk w D.gk 3 (zeros n)
  many : Blk w D.gm 3 (zeros n)
  taken : Blk w D.gt 142 (nils n)
  wk : D.gw ≠ D.gk
  wm : D.gw ≠ D.gm
  km : D.gk ≠ D.gm
  upd : Upd [] w0 w
  new : w0.heap.size ≤ m ∧ w0.heap.size ≤ D.gw ∧ w0.heap.size ≤ D.gk ∧ w0.heap.size ≤ D.gm ∧ w0.heap.size ≤ D.gt
def FreshV (w0 w : World) (n : Nat) (v : Value) : Prop := ∃ m D, v = .pointer (some ⟨m, 0, none⟩) ∧ Fresh w0 w m n D
theorem freshV_mk {w0 w : World} {n m gw gk gm gt : Nat} (h1 : Blk w m 97 #[.slice (some ⟨gw, 0, none⟩) (n * 64) (n * 64), .slice (some ⟨gk, 0, none⟩) n n, .slice (some ⟨gm, 0, none⟩) n n, .slice (some ⟨gt, 0, none⟩) n n])
    (h2 : Blk w gw 3 (zeros (n * 64))) (h3 : Blk w gk 3 (zeros n)) (h4 : Blk w gm 3 (zeros n)) (h5 : Blk w gt 142 (nils n)) (h6 : gw ≠ gk ∧ gw ≠ gm ∧ gk ≠ gm) (h7 : Upd [] w0 w) (h8 : w0.heap.size ≤ m ∧ w0.heap.size ≤ gw ∧ w0.heap.size ≤ gk ∧ w0.heap.size ≤ gm ∧ w0.heap.size ≤ gt) : FreshV w0 w n (.pointer (some ⟨m, 0, none⟩)) :=
  ⟨m, ⟨gw, gk, gm, gt, fun _ => 0⟩, rfl, ⟨h1, h2, h3, h4, h5, h6.1, h6.2.1, h6.2.2, h7, h8⟩⟩
theorem dnew_at (n p : Nat) : atP (newSp n).pg p = .zero ∨ atP (newSp n).pg p = .free := by
  unfold newSp atP
  rw [List.getD_eq_getElem?_getD, List.getElem?_set]
  by_cases h : 0 = p
  · rw [if_pos h]
    split
    · exact .inl rfl
    · exact .inr rfl
  · rw [if_neg h, List.getElem?_replicate]
    split <;> exact .inr rfl
theorem new_small (n p c : Nat) (l : List Bool) : atP (newSp n).pg p ≠ .small c l := fun e => by
  rcases dnew_at n p with h | h <;> rw [h] at e <;> cases e
theorem new_kinds (n : Nat) : (List.replicate n 0).set 0 (-1) = kindsL (newSp n).pg := by
  unfold kindsL newSp
  simp only [List.map_set, List.map_replicate]
  rfl
theorem new_manys (n : Nat) : List.replicate n 0 = manysL (newSp n).pg := by
  unfold manysL newSp
  simp only [List.map_set, List.map_replicate]
  show List.replicate n (0 : Int) = (List.replicate n 0).set 0 0
  apply List.ext_getElem (by simp)
  intro i h1 h2
  rw [List.getElem_set]
  split <;> simp
theorem new_takens (n : Nat) (D : DLay) : nils n = takensA D (newSp n).pg := by
  have hl : (newSp n).pg.length = n := by simp [newSp]
  apply Array.ext
  · simp [nils, takensA, hl]
  · intro i h1 h2
    have hi : i < n := by simpa [nils] using h1
    have e2 := takens_at D (pg := (newSp n).pg) (p := i) (by omega)
    rw [Array.getElem?_eq_getElem h2] at e2
    rw [Option.some.inj e2]
    rcases dnew_at n i with h | h <;> rw [h] <;> simp [nils, takenV]
theorem fresh_raw {w0 w : World} {m n : Nat} {D : DLay} (h : Fresh w0 w m n D) : DRaw w m D n (List.replicate (n * 64) 0) (List.replicate n 0) (List.replicate n 0) (nils n) := by
  have e : ∀ k, zeros k = ints (List.replicate k 0) := fun k => (ints_zero k).symm
  exact ⟨h.box, by rw [← e]; exact h.words, by rw [← e]; exact h.kind, by rw [← e]; exact h.many, h.taken, h.wk, h.wm, h.km⟩
set_option maxRecDepth 100000 in
set_option maxHeartbeats 6400000 in
theorem doc_new (n : Nat) (w : World) (h1 : 1 ≤ n) (h2 : n ≤ 256) : Calls Tryz.prog 52 #[.int .i64 n] w fun e w' =>
    ∃ m O, e = .returned (.pointer (some ⟨m, 0, none⟩)) ∧ DocO w' m (newSp n) O ∧ (∀ k, O k → w.heap.size ≤ k) ∧ Upd [] w w' := by
  have hmk1 : ∀ W, (Instr.makeSlice 23 (.int .i64 ((n : Int) * 64)) (.int .i64 ((n : Int) * 64))).run Tryz.prog W = .ok (.slice (some ⟨W.heap.size, 0, none⟩) (n * 64) (n * 64)) (W.alloc (.cells (zeros (n * 64)) 3)) := fun W => run_make_all (P := Tryz.prog) 23 3 (.int .i64 0) 8 Tryz.underlying23 int_info rfl ((n : Int) * 64) (n * 64) (by omega) (by omega) (by omega) W
  have hmk2 : ∀ W, (Instr.makeSlice 23 (.int .i64 (n : Int)) (.int .i64 (n : Int))).run Tryz.prog W = .ok (.slice (some ⟨W.heap.size, 0, none⟩) n n) (W.alloc (.cells (zeros n) 3)) := fun W => run_make_all (P := Tryz.prog) 23 3 (.int .i64 0) 8 Tryz.underlying23 int_info rfl (n : Int) n (by omega) (by omega) (by omega) W
  have hmk3 : ∀ W, (Instr.makeSlice 95 (.int .i64 (n : Int)) (.int .i64 (n : Int))).run Tryz.prog W = .ok (.slice (some ⟨W.heap.size, 0, none⟩) n n) (W.alloc (.cells (nils n) 142)) := fun W => run_make_all (P := Tryz.prog) 95 142 (.slice none 0 0) 24 Tryz.underlying95 bitss_info rfl (n : Int) n (by omega) (by omega) (by omega) W
  have hwr : IntKind.i64.wrap ((n : Int) * 64) = (n : Int) * 64 := IntWalk.i64_in _ (by omega)
  go_enter Tryz.func52, Tryz.ntmps52
  go_upto_region 1 with fail
  go_cut [3] (fun v wx => FreshV w wx n v)
  case first =>
    go_region_law (fail)
    all_goals
      go_wp2_with fail
      go_meet
      exact freshV_mk (by first | (refine Blk.newAt _ _ _ _ ?_; simp; done) | (refine (Blk.newAt _ _ _ _ ?_).alloc _; simp; done) | (refine ((Blk.newAt _ _ _ _ ?_).alloc _).alloc _; simp; done) | (refine (((Blk.newAt _ _ _ _ ?_).alloc _).alloc _).alloc _; simp; done) | (refine ((((Blk.newAt _ _ _ _ ?_).alloc _).alloc _).alloc _).alloc _; simp; done)) (by first | (refine Blk.newAt _ _ _ _ ?_; simp; done) | (refine (Blk.newAt _ _ _ _ ?_).alloc _; simp; done) | (refine ((Blk.newAt _ _ _ _ ?_).alloc _).alloc _; simp; done) | (refine (((Blk.newAt _ _ _ _ ?_).alloc _).alloc _).alloc _; simp; done) | (refine ((((Blk.newAt _ _ _ _ ?_).alloc _).alloc _).alloc _).alloc _; simp; done)) (by first | (refine Blk.newAt _ _ _ _ ?_; simp; done) | (refine (Blk.newAt _ _ _ _ ?_).alloc _; simp; done) | (refine ((Blk.newAt _ _ _ _ ?_).alloc _).alloc _; simp; done) | (refine (((Blk.newAt _ _ _ _ ?_).alloc _).alloc _).alloc _; simp; done) | (refine ((((Blk.newAt _ _ _ _ ?_).alloc _).alloc _).alloc _).alloc _; simp; done)) (by first | (refine Blk.newAt _ _ _ _ ?_; simp; done) | (refine (Blk.newAt _ _ _ _ ?_).alloc _; simp; done) | (refine ((Blk.newAt _ _ _ _ ?_).alloc _).alloc _; simp; done) | (refine (((Blk.newAt _ _ _ _ ?_).alloc _).alloc _).alloc _; simp; done) | (refine ((((Blk.newAt _ _ _ _ ?_).alloc _).alloc _).alloc _).alloc _; simp; done)) (by first | (refine Blk.newAt _ _ _ _ ?_; simp; done) | (refine (Blk.newAt _ _ _ _ ?_).alloc _; simp; done) | (refine ((Blk.newAt _ _ _ _ ?_).alloc _).alloc _; simp; done) | (refine (((Blk.newAt _ _ _ _ ?_).alloc _).alloc _).alloc _; simp; done) | (refine ((((Blk.newAt _ _ _ _ ?_).alloc _).alloc _).alloc _).alloc _; simp; done)) (by omega) ((((((Upd.refl [] w).drew.alloc _).alloc _).alloc _).alloc _).alloc _) (by omega)
  case rest =>
    obtain ⟨m, D, rfl, hF⟩ := hcut
    have HF := Lib.hid hF
    have hc1 : wc.cell? ⟨m, 1, none⟩ = some (.slice (some ⟨D.gk, 0, none⟩) n n) := hF.box.cell 1
    have hc2 : wc.cell? ⟨D.gk, 0, none⟩ = some (.int .i64 0) := by
      have := hF.kind.cell 0
      rw [this]
      unfold zeros
      rw [Array.getElem?_replicate, if_pos (by omega)]
    have hc3 : wc.frozen? ⟨D.gk, 0, none⟩ = false := hF.kind.frozen 0
    clear hmk1 hmk2 hmk3 hwr hF
    go_wp2_with fail
    go_ret
    have h := HF.out
    have hr := fresh_raw h
    have hr2 := hr.setK 0 (-1)
    obtain ⟨n1, n2, n3, n4, n5⟩ := h.new
    refine ⟨m, OwnsD m D (newSp n), rfl, ⟨D, DSpace.of hr2 ⟨fun p c l hp => absurd hp (new_small n p c l), fun p c l p' c' l' hp => absurd hp (new_small n p c l)⟩ (by simp [newSp]) rfl (new_kinds n) (new_manys n) (new_takens n D) (newSp_wf h1 h2), rfl⟩, fun k hk => ?_, ?_⟩
    · rcases hk with rfl | rfl | rfl | rfl | rfl | ⟨p, c, l, hp, _⟩
      · exact n1
      · exact n2
      · exact n3
      · exact n4
      · exact n5
      · exact absurd hp (new_small n p c l)
    · exact h.upd.setCell (.inr n3) _
end Go.Proofs.YtpkbdmieelgdlaaGreat
