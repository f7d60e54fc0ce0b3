/- The document's space: a block of whole pages is made; no block is made. -/
import Derived.Test.YtpkbdmieelgdlaaGreatDoc3
namespace Go.Proofs.YtpkbdmieelgdlaaGreat
open Go Go.RowKit

/-- How the made block is handed back. -/
theorem gotA_ret {w : World} {r : Nat} {x e : Value} {a : Act} {R : Ending → World → Prop} (hB : Blk w r 34 #[x, e]) (h4 : a.tmps.getD 4 undef = .pointer (some ⟨r, 0, none⟩)) (hd : a.defers = [])
    (hR : R (.returned (.agg #[x, e])) w) : bodyPost Tryz.prog Tryz.f54 R .ret a w :=
  ⟨hd, _, results_cell_row (fn := Tryz.f54) rfl _ _ r _ _ (0, 0) _ h4 hB Tryz.underlying34 rfl (by kernel_rfl), hR⟩
theorem StepO.newCell {O O' : Nat → Prop} {w w' : World} (h : StepO O w O' w') {p : Addr} (hp : w.heap.size ≤ p.block) (u : Value) : StepO O w O' (w'.setCell p u) :=
  ⟨h.os, h.tape, h.output, by simpa [World.setCell] using h.size, fun k hk hn => (Below.heap_setCell _ _ _ _ (by omega)).trans (h.block k hk hn), h.own⟩
theorem StepO.setD {O O' : Nat → Prop} {w w' : World} (h : StepO O w O' w') {p : Addr} (hp : O' p.block) (u : Value) : StepO O w O' (w'.setCell p u) :=
  h.trans ⟨rfl, rfl, rfl, Nat.le_of_eq (by simp [World.setCell]), fun k hk hn => Below.heap_setCell _ _ _ _ (by intro e; exact hn (e ▸ hp)), fun i hi => .inl hi⟩
theorem StepO.updIn {O : Nat → Prop} {w w' w'' : World} {O' : Nat → Prop} {E : List Nat} (h : StepO O w O' w') (k : Upd E w' w'') (hE : ∀ i ∈ E, O' i) : StepO O w O' w'' :=
  h.trans ⟨k.os, k.tape, k.output, k.size, fun i hi hn => k.block i hi fun hm => hn (hE i hm), fun _ hi => .inl hi⟩
/-- The result's cell, beside the document's space. -/
structure GotAt (w0 w : World) (r : Nat) (x e : Value) : Prop where
  blk : Blk w r 34 #[x, e]
  new : w0.heap.size ≤ r
section
variable {w0 w w' : World} {r m n : Nat} {D : DLay} {W K M : List Int} {T : Array Value} {x e : Value} {O : Nat → Prop}
theorem GotAt.cells (h : GotAt w0 w r x e) : w.cell? ⟨r, 0, none⟩ = some x ∧ w.cell? ⟨r, 1, none⟩ = some e ∧ w.frozen? ⟨r, 0, none⟩ = false ∧ w.frozen? ⟨r, 1, none⟩ = false := ⟨h.blk.cell 0, h.blk.cell 1, h.blk.frozen 0, h.blk.frozen 1⟩
theorem GotAt.upd {E : List Nat} (h : GotAt w0 w r x e) (hu : Upd E w w') (hE : ∀ i ∈ E, i < w0.heap.size) : GotAt w0 w' r x e := ⟨h.blk.upd hu fun hm => by have := hE r hm; have := h.new; omega, h.new⟩
theorem GotAt.upd0 (h : GotAt w0 w r x e) (hu : Upd [] w w') : GotAt w0 w' r x e := h.upd hu (by simp)
theorem GotAt.far (h : GotAt w0 w r x e) {p : Addr} (hp : p.block < w0.heap.size) (u : Value) : GotAt w0 (w.setCell p u) r x e := ⟨h.blk.far (by have := h.new; omega) u, h.new⟩
theorem DRaw.farG (h : DRaw w m D n W K M T) {g : Nat} {t : TypeId} {cs : Array Value} (hb : Blk w g t cs) (h1 : 97 ≠ t) (h2 : 3 ≠ t) (h3 : 142 ≠ t) (i : Nat) (v : Value) : DRaw (w.setCell ⟨g, i, none⟩ v) m D n W K M T :=
  h.moved fun k hk => Below.heap_setCell _ _ _ _ (by
    show k ≠ g
    rcases hk with rfl | rfl | rfl | rfl | rfl
    · exact h.box.ne_ hb h1
    · exact h.words.ne_ hb h2
    · exact h.kind.ne_ hb h2
    · exact h.many.ne_ hb h2
    · exact h.taken.ne_ hb h3)
theorem DBits.updW {pg : List Pst} (h : DBits w D pg) {g : Nat} {t : TypeId} {cs : Array Value} (hb : Blk w g t cs) (ht : 4 ≠ t) (hu : Upd [g] w w') : DBits w' D pg :=
  ⟨fun p c l hp => (h.bits p c l hp).upd hu (by simpa using (h.bits p c l hp).ne_ hb ht), h.apart⟩
/-- The document's space, told by its raw rows, is left alone by the two stores to the result. -/
theorem DRaw.got (h : DRaw w m D n W K M T) (hg : GotAt w0 w r x e) (u v : Value) : DRaw ((w.setCell ⟨r, 0, none⟩ u).setCell ⟨r, 1, none⟩ v) m D n W K M T :=
  (h.farG hg.blk (by decide) (by decide) (by decide) 0 u).farG (hg.blk.set_ 0 u) (by decide) (by decide) (by decide) 1 v
theorem DBits.got {pg : List Pst} (h : DBits w D pg) (hg : GotAt w0 w r x e) (u v : Value) : DBits ((w.setCell ⟨r, 0, none⟩ u).setCell ⟨r, 1, none⟩ v) D pg :=
  (h.far hg.blk (by decide) 0 u).far (hg.blk.set_ 0 u) (by decide) 1 v
theorem StepO.got {O' : Nat → Prop} (h : StepO O w0 O' w) (hg : GotAt w0 w r x e) (u v : Value) : StepO O w0 O' ((w.setCell ⟨r, 0, none⟩ u).setCell ⟨r, 1, none⟩ v) := (h.newCell hg.new u).newCell hg.new v
theorem dalloc_arg (m : Nat) (n : Int) (w : World) (hb : blockZ n = 0) : Calls Tryz.prog 54 #[.pointer (some ⟨m, 0, none⟩), .int .i64 n] w fun e w' => e = .returned (.agg #[.int .i64 0, .int .i64 1]) ∧ Upd [] w w' := by
  have hq := fun W => block1_walk n W
  rw [hb] at hq
  have HQ := Lib.hid hq
  have HG : Hid (GotAt w (w.alloc (.cells #[.int .i64 0, .int .i64 0] 34)) w.heap.size (.int .i64 0) (.int .i64 0)) := Lib.hid ⟨Blk.new _ _ _, Nat.le_refl _⟩
  clear hq hb
  go_enter Tryz.func54, Tryz.ntmps54
  go_wp2_with fail
  refine (HQ.out _).mono ?_
  rintro e w1 ⟨rfl, hb⟩
  have HG1 := Lib.hid (HG.out.upd0 (Upd.of_below hb))
  have HU : Hid (Upd [] w w1) := Lib.hid (((Upd.refl [] w).alloc _).trans (Upd.of_below hb))
  obtain ⟨x0, x1, x2, x3⟩ := HG1.out.cells
  clear hb
  go_wp2_with fail
  refine gotA_ret ((HG1.out.blk.set_ 0 (.int .i64 0)).set_ 1 (.int .i64 1)) rfl rfl ⟨rfl, ?_⟩
  exact (HU.out.setCell (.inr (Nat.le_refl _)) _).setCell (.inr (Nat.le_refl _)) _
set_option maxRecDepth 100000 in
set_option maxHeartbeats 3200000 in
theorem dalloc_full (m : Nat) (S : Sp) (n : Int) (k : Nat) (w : World) (H : DocO w m S O) (hc : classZ n < 0) (hbz : blockZ n = k * 64) (hk1 : 1 ≤ k) (hk2 : k ≤ 16) (hr : runZ (bitsOf S.pg) 0 k = -1) :
    Calls Tryz.prog 54 #[.pointer (some ⟨m, 0, none⟩), .int .i64 n] w fun e w' => e = .returned (.agg #[.int .i64 0, .int .i64 3]) ∧ Upd [] w w' := by
  have hn2 := (show S.pg.length ≤ 256 by obtain ⟨D, H, _⟩ := H; exact H.wf.n2)
  have hl : (bitsOf S.pg).length = S.pg.length := by simp [bitsOf]
  obtain ⟨B, hB⟩ : ∃ B : Nat, blockZ n = B := ⟨k * 64, by omega⟩
  have hB1 : 1 ≤ B := by omega
  have hB2 : B ≤ 1024 := by omega
  have hq := fun W => block1_walk n W
  rw [hB] at hq
  have HQ := Lib.hid hq
  have hq2 := fun W => class1_walk n W
  obtain ⟨cc, hcc⟩ : ∃ cc, classZ n = cc := ⟨_, rfl⟩
  rw [hcc] at hq2
  have HQ2 := Lib.hid hq2
  have HG : Hid (GotAt w (w.alloc (.cells #[.int .i64 0, .int .i64 0] 34)) w.heap.size (.int .i64 0) (.int .i64 0)) := Lib.hid ⟨Blk.new _ _ _, Nat.le_refl _⟩
  have hcn : cc < 0 := by omega
  have hdiv : (B : Int) / 64 = (k : Nat) := by omega
  have HPG := Lib.hid (fun W (hu : Upd [] w W) => doc_pages m S W (H.upd0 hu))
  have hrun := fun g c W (hb : Blk W g 4 (bools (bitsOf S.pg))) => ref_run g c (bitsOf S.pg) 0 k W hb (by omega) (by rw [hl]; omega)
  rw [hr, hl] at hrun
  obtain ⟨np, hnp⟩ : ∃ np, S.pg.length = np := ⟨_, rfl⟩
  rw [hnp] at HPG hrun
  have HRUN := Lib.hid hrun
  clear hq hq2 hcc hB hrun H hc hbz hl hr hn2 hnp
  go_enter Tryz.func54, Tryz.ntmps54
  go_wp2_with fail
  refine (HQ.out _).mono ?_
  rintro e w1 ⟨rfl, hb⟩
  have HG1 := Lib.hid (HG.out.upd0 (Upd.of_below hb))
  have HU1 : Hid (Upd [] w w1) := Lib.hid (((Upd.refl [] w).alloc _).trans (Upd.of_below hb))
  clear hb
  go_wp2_with fail
  refine (HQ2.out _).mono ?_
  rintro e w2 ⟨rfl, hb⟩
  have HG2 := Lib.hid (HG1.out.upd0 (Upd.of_below hb))
  have HU2 : Hid (Upd [] w w2) := Lib.hid (HU1.out.trans (Upd.of_below hb))
  clear hb HG HG1 HU1
  go_wp2_with fail
  refine (HPG.out _ HU2.out).mono ?_
  rintro e w3 ⟨g, rfl, hb3, hg3, hu3⟩
  have HB3 := Lib.hid hb3
  have HG3 := Lib.hid (HG2.out.upd0 hu3)
  have HU3 := Lib.hid (HU2.out.trans hu3)
  obtain ⟨x0, x1, x2, x3⟩ := HG3.out.cells
  clear hb3 hg3 hu3
  go_wp2_with fail
  refine (HRUN.out g _ _ HB3.out).mono ?_
  rintro e w' ⟨rfl, rfl⟩
  go_wp2_with fail
  refine gotA_ret ((HG3.out.blk.set_ 0 (.int .i64 0)).set_ 1 (.int .i64 3)) rfl rfl ⟨rfl, ?_⟩
  exact (HU3.out.setCell (.inr (Nat.le_refl _)) _).setCell (.inr (Nat.le_refl _)) _

set_option maxRecDepth 100000 in
set_option maxHeartbeats 6400000 in
theorem dalloc_large (m : Nat) (S : Sp) (n : Int) (k p : Nat) (w : World) (H : DocO w m S O) (hc : classZ n < 0) (hbz : blockZ n = k * 64) (hk1 : 1 ≤ k) (hk2 : k ≤ 16) (hr : runZ (bitsOf S.pg) 0 k = p) :
    Calls Tryz.prog 54 #[.pointer (some ⟨m, 0, none⟩), .int .i64 n] w fun e w' => e = .returned (.agg #[.int .i64 ((p : Int) * 64), .int .i64 0]) ∧ ∃ O', DocO w' m ⟨filledAt S.W (p * 64) (k * 64), putLarge S.pg p k⟩ O' ∧ StepO O w O' w' := by
  have hwf : S.WF := by obtain ⟨D, H, _⟩ := H; exact H.wf
  have hn2 := hwf.n2
  have hl : (bitsOf S.pg).length = S.pg.length := by simp [bitsOf]
  obtain ⟨hpk, hfree⟩ := run_at hk1 hr
  obtain ⟨B, hB⟩ : ∃ B : Nat, blockZ n = B := ⟨k * 64, by omega⟩
  have hB1 : 1 ≤ B := by omega
  have hB2 : B ≤ 1024 := by omega
  have hq := fun W => block1_walk n W
  rw [hB] at hq
  have HQ := Lib.hid hq
  have hq2 := fun W => class1_walk n W
  obtain ⟨cc, hcc⟩ : ∃ cc, classZ n = cc := ⟨_, rfl⟩
  rw [hcc] at hq2
  have HQ2 := Lib.hid hq2
  have HG : Hid (GotAt w (w.alloc (.cells #[.int .i64 0, .int .i64 0] 34)) w.heap.size (.int .i64 0) (.int .i64 0)) := Lib.hid ⟨Blk.new _ _ _, Nat.le_refl _⟩
  have hcn : cc < 0 := by omega
  have hdiv : (B : Int) / 64 = (k : Nat) := by omega
  have HBK : Hid (B = k * 64) := Lib.hid (by omega)
  have HPG := Lib.hid (fun W (hu : Upd [] w W) => doc_pages m S W (H.upd0 hu))
  have hrun := fun g c W (hb : Blk W g 4 (bools (bitsOf S.pg))) => ref_run g c (bitsOf S.pg) 0 k W hb (by omega) (by rw [hl]; omega)
  rw [hr, hl] at hrun
  obtain ⟨D, H, rfl⟩ := H
  have HLO := Lib.hid (fun k hk => H.owned (k := k) hk)
  have HRAW : Hid (DRaw w m D S.pg.length S.W (spanZ (kindsL S.pg) 7 p 0) (manysL S.pg) (takensA D S.pg)) := Lib.hid (by rw [spanZ_zero]; exact H.raw)
  have HBT := Lib.hid H.dbits
  have HFIN : Hid (∀ w' W, DRaw w' m D S.pg.length W ((spanZ (kindsL S.pg) 7 p k).set p 6) ((manysL S.pg).set p (k : Int)) (takensA D S.pg) → DBits w' D S.pg → W = filledAt S.W (p * 64) (k * 64) → DSpace w' m D ⟨filledAt S.W (p * 64) (k * 64), putLarge S.pg p k⟩) := Lib.hid fun w' W hr hb hW => by
    have hwf2 : (Sp.mk (filledAt S.W (p * 64) (k * 64)) (putLarge S.pg p k)).WF := hwf.put_large hpk hk1 hfree (filledAt_length _ _ _ (by have := hwf.len; omega))
    have hat : ∀ q c l, atP (putLarge S.pg p k) q = .small c l → atP S.pg q = .small c l := fun q c l e => by
      rw [atP_large hpk hk1] at e
      split at e
      · cases e
      · split at e
        · cases e
        · exact e
    refine DSpace.of hr ⟨fun q c l e => hb.bits q c l (hat q c l e), fun q c l q' c' l' e e' => hb.apart q c l q' c' l' (hat _ _ _ e) (hat _ _ _ e')⟩ putLarge_length.symm hW (kinds_large hpk hk1) (manys_large hpk hk1 hfree) (takens_large D hpk hk1 hfree).symm hwf2
  have hwl := hwf.len
  have hkl := kinds_len S.pg
  have hml := manys_len S.pg
  obtain ⟨np, hnp⟩ : ∃ np, S.pg.length = np := ⟨_, rfl⟩
  rw [hnp] at HPG hrun HRAW HFIN hpk hn2 hwl hkl hml
  have HRUN := Lib.hid hrun
  have HKL := Lib.hid hkl
  have HML := Lib.hid hml
  have HWL := Lib.hid hwl
  have HOW : Hid (OwnsD m D S D.gk ∧ OwnsD m D S D.gm ∧ OwnsD m D S D.gw) := Lib.hid ⟨.inr (.inr (.inl rfl)), .inr (.inr (.inr (.inl rfl))), .inr (.inl rfl)⟩
  have HOO : Hid (OwnsD m D ⟨filledAt S.W (p * 64) (k * 64), putLarge S.pg p k⟩ = OwnsD m D S) := Lib.hid (by
    funext q
    apply propext
    unfold OwnsD
    have : (∃ q' c l, atP (putLarge S.pg p k) q' = .small c l ∧ q = D.tk q') ↔ ∃ q' c l, atP S.pg q' = .small c l ∧ q = D.tk q' := by
      have hpk' : p + k ≤ S.pg.length := by omega
      constructor
      · rintro ⟨q', c, l, e, h⟩
        rw [atP_large hpk' hk1] at e
        split at e
        · cases e
        · split at e
          · cases e
          · exact ⟨q', c, l, e, h⟩
      · rintro ⟨q', c, l, e, h⟩
        refine ⟨q', c, l, ?_, h⟩
        rw [atP_large hpk' hk1]
        rw [if_neg (fun e2 => by rw [e2, hfree p (Nat.le_refl _) (by omega)] at e; cases e), if_neg (fun e2 => by rw [hfree q' (by omega) e2.2] at e; cases e)]
        exact e
    simp only [this])
  clear hq hq2 hcc hB hrun H hc hbz hl hr hnp hwf hfree hwl hkl hml
  go_enter Tryz.func54, Tryz.ntmps54
  go_wp2_with fail
  refine (HQ.out _).mono ?_
  rintro e w1 ⟨rfl, hb⟩
  have HG1 := Lib.hid (HG.out.upd0 (Upd.of_below hb))
  have HU1 : Hid (Upd [] w w1) := Lib.hid (((Upd.refl [] w).alloc _).trans (Upd.of_below hb))
  clear hb
  go_wp2_with fail
  refine (HQ2.out _).mono ?_
  rintro e w2 ⟨rfl, hb⟩
  have HG2 := Lib.hid (HG1.out.upd0 (Upd.of_below hb))
  have HU2 : Hid (Upd [] w w2) := Lib.hid (HU1.out.trans (Upd.of_below hb))
  clear hb HG HG1 HU1
  go_wp2_with fail
  refine (HPG.out _ HU2.out).mono ?_
  rintro e w3 ⟨g, rfl, hb3, hg3, hu3⟩
  have HB3 := Lib.hid hb3
  have HG3 := Lib.hid (HG2.out.upd0 hu3)
  have HU3 := Lib.hid (HU2.out.trans hu3)
  have HR3 := Lib.hid (HRAW.out.upd0 HU3.out)
  have HBT3 := Lib.hid (HBT.out.upd0 HU3.out)
  have HS3 : Hid (StepO (OwnsD m D S) w (OwnsD m D S) w3) := Lib.hid (.upd _ HU3.out)
  clear hb3 hg3 hu3 HG2 HU2 HU3 HRAW HBT
  go_wp2_with fail
  refine (HRUN.out g _ _ HB3.out).mono ?_
  rintro e w' ⟨rfl, rfl⟩
  go_wp2_with fail
  go_loopg [9] k (fun gk i wr => ∃ j : Nat, gk = k - j ∧ j ≤ k ∧ i = .int .i64 ((p + j : Nat) : Int) ∧ Hid (DRaw wr m D np S.W (spanZ (kindsL S.pg) 7 p j) (manysL S.pg) (takensA D S.pg)) ∧ Hid (DBits wr D S.pg) ∧ Hid (GotAt w wr w.heap.size (.int .i64 0) (.int .i64 0)) ∧ Hid (StepO (OwnsD m D S) w (OwnsD m D S) wr))
  case atStart => exact ⟨0, rfl, by omega, rfl, HR3, HBT3, HG3, HS3⟩
  case round =>
    clear HR3 HBT3 HG3 HS3
    obtain ⟨j, rfl, hj, rfl, HR, HBT, HG, HS⟩ := hrel
    by_cases hlt : j < k
    · obtain ⟨c0, c1, c2, c3⟩ := HR.out.cells
      have h4 := HR.out.kAt (p := p + j) (by rw [spanZ_len, HKL.out]; omega)
      have c4 := h4.1
      have c5 := h4.2
      have hn := HR.out.setK (p + j) 7
      rw [spanZ_succ] at hn
      have HN := Lib.hid hn
      have HB4 := Lib.hid (HBT.out.far HR.out.kind (by decide) (p + j) (.int .i64 7))
      have HG4 := Lib.hid (HG.out.far (p := ⟨D.gk, p + j, none⟩) (HLO.out _ HOW.out.1) (.int .i64 7))
      have HS4 := Lib.hid (HS.out.setD (p := ⟨D.gk, p + j, none⟩) HOW.out.1 (.int .i64 7))
      have hji : p + j < np := by omega
      clear h4 hn
      go_wp2_with fail
      go_roundg (k - (j + 1))
      case measure => omega
      case rel => exact ⟨j + 1, rfl, by omega, by go_num, HN, HB4, HG4, HS4⟩
    · obtain rfl : j = k := by omega
      obtain ⟨c0, c1, c2, c3⟩ := HR.out.cells
      have h4 := HR.out.kAt (p := p) (by rw [spanZ_len, HKL.out]; omega)
      have c4 := h4.1
      have c5 := h4.2
      have h6 := HR.out.mAt (p := p) (by rw [HML.out]; omega)
      have c6 := h6.1
      have c7 := h6.2
      have HR4 := Lib.hid ((HR.out.setK p 6).setM p j)
      have HB4 := Lib.hid ((HBT.out.far HR.out.kind (by decide) p (.int .i64 6)).far (HR.out.setK p 6).many (by decide) p (.int .i64 j))
      have HG4 := Lib.hid ((HG.out.far (p := ⟨D.gk, p, none⟩) (HLO.out _ HOW.out.1) (.int .i64 6)).far (p := ⟨D.gm, p, none⟩) (HLO.out _ HOW.out.2.1) (.int .i64 j))
      have HS4 := Lib.hid ((HS.out.setD (p := ⟨D.gk, p, none⟩) HOW.out.1 (.int .i64 6)).setD (p := ⟨D.gm, p, none⟩) HOW.out.2.1 (.int .i64 j))
      have hpn : p < np := by omega
      obtain ⟨d0, d1, d2, d3⟩ := (HR.out.setK p 6).cells
      have h8 := (HR.out.setK p 6).mAt (p := p) (by rw [HML.out]; omega)
      have c8 := h8.1
      have c9 := h8.2
      clear h4 h6 h8
      go_wp2_with fail
      refine (doc_fill m D ((p : Int) * 64) B (p * 64) B np _ _ _ _ _ HR4.out (by omega) rfl (by rw [HWL.out, HBK.out]; omega) HWL.out hn2).mono ?_
      rintro e w5 ⟨rfl, hr5, hu5⟩
      have HGF := Lib.hid (HG4.out.upd hu5 (fun i hi => by rw [List.mem_singleton.1 hi]; exact HLO.out _ HOW.out.2.2))
      have HSF := Lib.hid (HS4.out.updIn hu5 (fun i hi => by rw [List.mem_singleton.1 hi]; exact HOW.out.2.2))
      have HBF := Lib.hid (HB4.out.updW HR4.out.words (by decide) hu5)
      have HRF := Lib.hid hr5
      rw [HBK.out] at HRF
      obtain ⟨x0, x1, x2, x3⟩ := HGF.out.cells
      clear hr5 hu5
      go_wp2_with fail
      refine gotA_ret ((HGF.out.blk.set_ 0 (.int .i64 ((p : Int) * 64))).set_ 1 (.int .i64 0)) rfl rfl ⟨rfl, _, ⟨D, ?_, rfl⟩, ?_⟩
      · exact HFIN.out _ _ (HRF.out.got HGF.out _ _) (HBF.out.got HGF.out _ _) rfl
      · rw [HOO.out]; exact HSF.out.got HGF.out _ _
end
end Go.Proofs.YtpkbdmieelgdlaaGreat
