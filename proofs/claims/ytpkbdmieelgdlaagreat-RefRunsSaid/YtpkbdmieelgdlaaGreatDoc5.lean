/- The document's space: a block of a class is made. -/
import Derived.Test.YtpkbdmieelgdlaaGreatDoc4
import Derived.Deep.RegionLaw
namespace Go.Proofs.YtpkbdmieelgdlaaGreat
open Go Go.RowKit

theorem room_quo {c : Nat} (h : c < 5) : (64 : Int) / ((wordsOf c : Nat) : Int) = (roomOf c : Nat) := by
  have : c = 0 ∨ c = 1 ∨ c = 2 ∨ c = 3 ∨ c = 4 := by omega
  rcases this with rfl | rfl | rfl | rfl | rfl <;> decide
/-- What the walk sees of a page of a class or of none. -/
def Seen (w : World) (D : DLay) (c : Nat) (j : Nat) (x : Pst) : Prop := ∃ z : Int, w.cell? ⟨D.gk, j, none⟩ = some (.int .i64 z) ∧ -1 ≤ z ∧ z ≤ 7 ∧
  ((z ≠ (c : Int) + 1 ∧ isOpen c x = false) ∨ (z = (c : Int) + 1 ∧ ∃ (l : List Bool), w.cell? ⟨D.gt, j, none⟩ = some (.slice (some ⟨D.tk j, 0, none⟩) l.length l.length) ∧ Blk w (D.tk j) 4 (bools l) ∧ l.length ≤ 16384 ∧
    ((nextZ l false 0 = -1 ∧ isOpen c x = false) ∨ (∃ i : Nat, nextZ l false 0 = i) ∧ isOpen c x = true)))
section
variable {w w' : World} {m n : Nat} {D D' : DLay} {S : Sp} {O : Nat → Prop}
theorem count_next {l : List Bool} (h : countB l = l.length) : nextZ l false 0 = -1 := by
  refine nextZ_eq (.inl ⟨rfl, fun j _ hj => ?_⟩)
  have := List.count_eq_length.1 h
  rw [List.getD_eq_getElem?_getD, List.getElem?_eq_getElem hj]
  have := this _ (List.getElem_mem hj)
  simp [← this]
theorem DSpace.seen (H : DSpace w m D S) {c j : Nat} (hc : c < 5) (hj : j < S.pg.length) : Seen w D c j (atP S.pg j) := by
  have h1 := (H.kindAt hj).1
  have h2 := (H.takenAt hj).1
  cases hx : atP S.pg j with
  | small c' l =>
    rw [hx] at h1 h2
    have hb := H.bits j c' l hx
    obtain ⟨h5, hl⟩ := H.wf.small j c' l hx
    have hr := room_pos h5
    refine ⟨_, h1, by simp only [kindZ]; omega, by simp only [kindZ]; omega, ?_⟩
    by_cases e : c' = c
    · subst e
      refine .inr ⟨rfl, l, h2, hb, by omega, ?_⟩
      by_cases hcn : countB l = l.length
      · exact .inl ⟨count_next hcn, by simp [isOpen, hcn]⟩
      · obtain ⟨i, hi, _⟩ := next_of_count hcn
        exact .inr ⟨⟨i, hi⟩, by simp [isOpen, hcn]⟩
    · exact .inl ⟨by simp only [kindZ]; omega, by simp [isOpen, e]⟩
  | zero => rw [hx] at h1; exact ⟨_, h1, by decide, by decide, .inl ⟨by simp only [kindZ]; omega, rfl⟩⟩
  | free => rw [hx] at h1; exact ⟨_, h1, by decide, by decide, .inl ⟨by simp only [kindZ]; omega, rfl⟩⟩
  | first k => rw [hx] at h1; exact ⟨_, h1, by simp [kindZ], by simp [kindZ], .inl ⟨by simp only [kindZ]; omega, rfl⟩⟩
  | rest f => rw [hx] at h1; exact ⟨_, h1, by simp [kindZ], by simp [kindZ], .inl ⟨by simp only [kindZ]; omega, rfl⟩⟩
theorem Seen.upd0 {c j : Nat} {x : Pst} (h : Seen w D c j x) (hk : D.gk < w.heap.size) (ht : D.gt < w.heap.size) (hu : Upd [] w w') : Seen w' D c j x := by
  obtain ⟨z, h1, h2, h3, h4⟩ := h
  refine ⟨z, (hu.cell (p := ⟨D.gk, j, none⟩) hk (by simp)).trans h1, h2, h3, ?_⟩
  rcases h4 with h4 | ⟨e, l, h5, h6, h7⟩
  · exact .inl h4
  · exact .inr ⟨e, l, (hu.cell (p := ⟨D.gt, j, none⟩) ht (by simp)).trans h5, h6.upd hu (by simp), h7⟩
set_option maxRecDepth 100000 in
set_option maxHeartbeats 6400000 in
theorem dalloc_none (m : Nat) (S : Sp) (n : Int) (c : Nat) (w : World) (H : DocO w m S O) (hcc : classZ n = c) (hc5 : c < 5) (hbw : blockZ n = (wordsOf c : Nat)) (ho : ∀ j, isOpen c (atP S.pg j) = false) (hr : runZ (bitsOf S.pg) 0 1 = -1) :
    Calls Tryz.prog 54 #[.pointer (some ⟨m, 0, none⟩), .int .i64 n] w fun e w' => e = .returned (.agg #[.int .i64 0, .int .i64 3]) ∧ Upd [] w w' := by
  have HPG := Lib.hid (fun W (hu : Upd [] w W) => doc_pages m S W (H.upd0 hu))
  have hl : (bitsOf S.pg).length = S.pg.length := by simp [bitsOf]
  obtain ⟨D, H, rfl⟩ := H
  have hwf : S.WF := H.wf
  have hn2 := hwf.n2
  have hwp := words_pos hc5
  have hq := fun W => block1_walk n W
  rw [hbw] at hq
  have HQ := Lib.hid hq
  have hq2 := fun W => class1_walk n W
  rw [hcc] at hq2
  have HQ2 := Lib.hid hq2
  have HG : Hid (GotAt w (w.alloc (.cells #[.int .i64 0, .int .i64 0] 34)) w.heap.size (.int .i64 0) (.int .i64 0)) := Lib.hid ⟨Blk.new _ _ _, Nat.le_refl _⟩
  have HSN : Hid (∀ W, Upd [] w W → ∀ j, j < S.pg.length → Seen W D c j (atP S.pg j)) := Lib.hid fun W hu j hj => (H.seen hc5 hj).upd0 H.kind.lt H.taken.lt hu
  have HRAW : Hid (DRaw w m D S.pg.length S.W (kindsL S.pg) (manysL S.pg) (takensA D S.pg)) := Lib.hid H.raw
  have HBT := Lib.hid H.dbits
  have hnp1 := hwf.n1
  have hrun := fun g c W (hb : Blk W g 4 (bools (bitsOf S.pg))) => ref_run g c (bitsOf S.pg) 0 1 W hb (by omega) (by rw [hl]; omega)
  rw [hr, hl] at hrun
  have HO := Lib.hid ho
  obtain ⟨wo, hwo⟩ : ∃ wo, wordsOf c = wo := ⟨_, rfl⟩
  rw [hwo] at HQ hwp
  obtain ⟨np, hnp⟩ : ∃ np, S.pg.length = np := ⟨_, rfl⟩
  rw [hnp] at HPG hrun HSN HRAW hn2 hnp1
  have HRUN := Lib.hid hrun
  clear hq hq2 hrun H hl hwf hcc hbw ho hr hwo hnp
  go_enter Tryz.func54, Tryz.ntmps54
  go_wp2_with fail
  refine (HQ.out _).mono ?_
  rintro e w1 ⟨rfl, hb⟩
  have HG1 := Lib.hid (HG.out.upd0 (Upd.of_below hb))
  have HU1 : Hid (Upd [] w w1) := Lib.hid (((Upd.refl [] w).alloc _).trans (Upd.of_below hb))
  clear hb
  go_wp2_with fail
  refine (HQ2.out _).mono ?_
  rintro e w2 ⟨rfl, hb⟩
  have HG2 := Lib.hid (HG1.out.upd0 (Upd.of_below hb))
  have HU2 : Hid (Upd [] w w2) := Lib.hid (HU1.out.trans (Upd.of_below hb))
  clear hb HG HG1 HU1
  have HR2 := Lib.hid (HRAW.out.upd0 HU2.out)
  clear HRAW HBT
  go_upto_block 2 with fail
  go_cut [10] (fun v wx => v = .int .i64 np ∧ wx = w2)
  case first =>
    obtain ⟨c0, c1, c2, c3⟩ := HR2.out.cells
    go_wp2_with fail
    go_loopg [10] np (fun gk i wr => ∃ j : Nat, gk = np - j ∧ j ≤ np ∧ i = .int .i64 j ∧ wr = w2)
    case atStart => exact ⟨0, rfl, by omega, rfl, rfl⟩
    case round =>
      obtain ⟨j, rfl, hj, rfl, rfl⟩ := hrel
      by_cases hlt : j < np
      · obtain ⟨z, c4, hz1, hz2, hz⟩ := HSN.out _ HU2.out j hlt
        rcases hz with ⟨hz, _⟩ | ⟨rfl, l, c5, HB5, hl5, ⟨HX, _⟩ | ⟨_, hx⟩⟩
        · have h1 : (z != (c : Int) + 1) = true := by simp [hz]
          have h2 : (z == (c : Int) + 1) = false := by simp [hz]
          go_wp2_with fail
          go_roundg (np - (j + 1))
          case measure => omega
          case rel => exact ⟨j + 1, rfl, by omega, by go_num, rfl⟩
        · have HB := Lib.hid HB5
          have HXX := Lib.hid HX
          have HL5 := Lib.hid hl5
          clear HB5 HX hl5
          go_wp2_with fail
          refine (ref_next _ _ l 0 false _ HB.out (by omega) HL5.out).mono ?_
          rintro e w' ⟨rfl, rfl⟩
          rw [HXX.out]
          go_wp2_with fail
          go_roundg (np - (j + 1))
          case measure => omega
          case rel => exact ⟨j + 1, rfl, by omega, by go_num, rfl⟩
        · rw [HO.out j] at hx; cases hx
      · obtain rfl : j = np := by omega
        go_wp2_with fail
        go_meet
        exact ⟨rfl, rfl⟩
  case rest =>
    obtain ⟨rfl, rfl⟩ := hcut
    obtain ⟨c0, c1, c2, c3⟩ := HR2.out.cells
    clear HSN HO
    go_wp2_with fail
    refine (HPG.out _ HU2.out).mono ?_
    rintro e w3 ⟨g, rfl, hb3, hg3, hu3⟩
    have HB3 := Lib.hid hb3
    have HG3 := Lib.hid (HG2.out.upd0 hu3)
    have HU3 := Lib.hid (HU2.out.trans hu3)
    obtain ⟨x0, x1, x2, x3⟩ := HG3.out.cells
    clear hb3 hg3 hu3
    go_wp2_with fail
    refine (HRUN.out g _ _ HB3.out).mono ?_
    rintro e w' ⟨rfl, rfl⟩
    go_wp2_with fail
    refine gotA_ret ((HG3.out.blk.set_ 0 (.int .i64 0)).set_ 1 (.int .i64 3)) rfl rfl ⟨rfl, ?_⟩
    exact (HU3.out.setCell (.inr (Nat.le_refl _)) _).setCell (.inr (Nat.le_refl _)) _

theorem GotAt.farT {w0 w : World} {r g : Nat} {x e : Value} {t : TypeId} {cs : Array Value} (h : GotAt w0 w r x e) (hb : Blk w g t cs) (ht : 34 ≠ t) {i : Nat} (u : Value) : GotAt w0 (w.setCell ⟨g, i, none⟩ u) r x e := ⟨h.blk.far (h.blk.ne_ hb ht) u, h.new⟩
theorem GotAt.updT {w0 w w' : World} {r g : Nat} {x e : Value} {t : TypeId} {cs : Array Value} (h : GotAt w0 w r x e) (hb : Blk w g t cs) (ht : 34 ≠ t) (hu : Upd [g] w w') : GotAt w0 w' r x e := ⟨h.blk.upd hu (by simpa using h.blk.ne_ hb ht), h.new⟩
theorem takens_bits (D : DLay) {pg : List Pst} {p c : Nat} {l l' : List Bool} (h : atP pg p = .small c l) (hl : l'.length = l.length) : takensA D (pg.set p (.small c l')) = takensA D pg :=
  takens_ext (by simp) fun j hj => by
    rw [atP_set _ (atP_in h (by simp))]
    split
    · rename_i e; subst e; rw [h]; simp [takenV, hl]
    · rfl
theorem owns_bits {D : DLay} {W W' : List Int} {pg : List Pst} {p c : Nat} {l l' : List Bool} (h : atP pg p = .small c l) : OwnsD m D ⟨W, pg.set p (.small c l')⟩ = OwnsD m D ⟨W', pg⟩ := by
  funext q
  apply propext
  unfold OwnsD
  have : (∃ q' c' l2, atP (pg.set p (.small c l')) q' = .small c' l2 ∧ q = D.tk q') ↔ ∃ q' c' l2, atP pg q' = .small c' l2 ∧ q = D.tk q' := by
    have hA := fun j => atP_set (pg := pg) (j := j) (.small c l') (atP_in h (by simp))
    constructor
    · rintro ⟨q', c', l2, e, h2⟩
      rw [hA] at e
      split at e
      · rename_i e2; subst e2; exact ⟨_, c, l, h, h2⟩
      · exact ⟨q', c', l2, e, h2⟩
    · rintro ⟨q', c', l2, e, h2⟩
      by_cases e2 : q' = p
      · subst e2; exact ⟨q', c, l', by rw [hA, if_pos rfl], h2⟩
      · exact ⟨q', c', l2, by rw [hA, if_neg e2]; exact e, h2⟩
  simp only [this]
theorem DBits.setB {pg : List Pst} {p c : Nat} {l : List Bool} (h : DBits w D pg) (hat : atP pg p = .small c l) (i : Nat) (b : Bool) : DBits (w.setCell ⟨D.tk p, i, none⟩ (.bool b)) D (pg.set p (.small c (l.set i b))) := by
  have hA := fun j => atP_set (pg := pg) (j := j) (.small c (l.set i b)) (atP_in hat (by simp))
  have hs : ∀ j c' l', atP (pg.set p (.small c (l.set i b))) j = .small c' l' → (j = p ∧ l' = l.set i b) ∨ (j ≠ p ∧ atP pg j = .small c' l') := fun j c' l' e => by
    rw [hA] at e
    split at e
    · rename_i e2; cases e; exact .inl ⟨e2, rfl⟩
    · rename_i e2; exact .inr ⟨e2, e⟩
  have hex : ∀ j c' l', atP (pg.set p (.small c (l.set i b))) j = .small c' l' → ∃ c2 l2, atP pg j = .small c2 l2 := fun j c' l' e => by
    rcases hs j c' l' e with ⟨rfl, _⟩ | ⟨_, e2⟩
    · exact ⟨c, l, hat⟩
    · exact ⟨_, _, e2⟩
  refine ⟨fun j c' l' e => ?_, fun q c' l' q2 c2 l2 e1 e2 he => ?_⟩
  · rcases hs j c' l' e with ⟨rfl, rfl⟩ | ⟨hne, e2⟩
    · rw [← bools_set]; exact (h.bits j c l hat).set_ i _
    · exact (h.bits j c' l' e2).far (fun e3 => hne (h.apart _ _ _ _ _ _ e2 hat e3)) _
  · obtain ⟨_, _, h1⟩ := hex _ _ _ e1
    obtain ⟨_, _, h2⟩ := hex _ _ _ e2
    exact h.apart _ _ _ _ _ _ h1 h2 he
theorem dnew_page {w0 : World} {r p c rm g np : Nat} {x e : Value} {l : List Bool} (HR : DRaw w m D np S.W (kindsL S.pg) (manysL S.pg) (takensA D S.pg)) (HB : DBits w D S.pg) (HG : GotAt w0 w r x e) (HU : Upd [] w0 w) (HLO : ∀ k, OwnsD m D S k → k < w0.heap.size) (hfree : atP S.pg p = .free) (hp : p < S.pg.length) (hl : l = List.replicate rm false) (hg : w.heap.size = g) :
    ∃ D1, ∀ w5, w5 = ((w.setCell ⟨D.gk, p, none⟩ (.int .i64 ((c : Int) + 1))).alloc (.cells (Array.replicate rm (.bool false)) 4)).setCell ⟨D.gt, p, none⟩ (.slice (some ⟨g, 0, none⟩) rm rm) →
      Hid (DRaw w5 m D1 np S.W (kindsL (S.pg.set p (.small c l))) (manysL (S.pg.set p (.small c l))) (takensA D1 (S.pg.set p (.small c l)))) ∧ Hid (DBits w5 D1 (S.pg.set p (.small c l))) ∧ Hid (GotAt w0 w5 r x e) ∧ Hid (StepO (OwnsD m D S) w0 (OwnsD m D1 ⟨S.W, S.pg.set p (.small c l)⟩) w5) := by
  refine ⟨{ D with tk := fun j => if j = p then g else D.tk j }, ?_⟩
  rintro w5 rfl
  have hA := fun j => atP_set (pg := S.pg) (j := j) (.small c l) hp
  have hk := HR.setK p ((c : Int) + 1)
  have hu : Upd [] (w.setCell ⟨D.gk, p, none⟩ (.int .i64 ((c : Int) + 1))) ((w.setCell ⟨D.gk, p, none⟩ (.int .i64 ((c : Int) + 1))).alloc (.cells (Array.replicate rm (.bool false)) 4)) := (Upd.refl [] _).alloc _
  have hk2 := (hk.upd0 hu)
  have hb1 := (HB.far HR.kind (by decide) p (.int .i64 ((c : Int) + 1))).upd0 hu
  have hnew : Blk ((w.setCell ⟨D.gk, p, none⟩ (.int .i64 ((c : Int) + 1))).alloc (.cells (Array.replicate rm (.bool false)) 4)) g 4 (bools l) := by
    rw [hl, bools_zero]
    exact Blk.newAt _ _ _ _ (by simpa [World.setCell] using hg)
  have hkl := HLO _ (show OwnsD m D S D.gk from .inr (.inr (.inl rfl)))
  have htl := HLO _ (show OwnsD m D S D.gt from .inr (.inr (.inr (.inr (.inl rfl)))))
  have hsz := HU.size
  refine ⟨Lib.hid ?_, Lib.hid ?_, Lib.hid ?_, Lib.hid ?_⟩
  · have h := (hk2.setT p (.slice (some ⟨g, 0, none⟩) rm rm)).lay (fun j => if j = p then g else D.tk j)
    have e1 : (kindsL S.pg).set p ((c : Int) + 1) = kindsL (S.pg.set p (.small c l)) := kinds_set (x := .small c l)
    have e2 : manysL S.pg = manysL (S.pg.set p (.small c l)) := (manys_keep hp (by rw [hfree]; rfl)).symm
    rw [e1, e2, takens_set D { D with tk := fun j => if j = p then g else D.tk j } _ (x := .small c l) (by simp [takenV, hl]) (fun j hj => by simp [hj]) hp] at h
    exact h
  · have hne := hnew.ne_ hk2.taken (by decide)
    refine ⟨fun j c' l' e => ?_, fun q c' l' q2 c2 l2 e1 e2 he => ?_⟩
    · rw [hA] at e
      split at e
      · rename_i e2; cases e; subst e2
        simpa using hnew.far (p := ⟨D.gt, j, none⟩) hne _
      · rename_i e2
        have := hb1.bits j c' l' e
        simpa [e2] using this.far (p := ⟨D.gt, p, none⟩) (this.ne_ hk2.taken (by decide)) _
    · rw [hA] at e1 e2
      have hlt : ∀ q c' l', atP S.pg q = .small c' l' → D.tk q ≠ g := fun q c' l' e => by
        have := (HB.bits q c' l' e).lt
        omega
      dsimp only at he
      split at e1 <;> split at e2
      · omega
      · rename_i a b
        rw [if_pos a, if_neg b] at he
        exact absurd he.symm (hlt _ _ _ e2)
      · rename_i a b
        rw [if_neg a, if_pos b] at he
        exact absurd he (hlt _ _ _ e1)
      · rename_i a b
        rw [if_neg a, if_neg b] at he
        exact HB.apart _ _ _ _ _ _ e1 e2 he
  · exact ((HG.far (p := ⟨D.gk, p, none⟩) hkl _).upd0 hu).far (p := ⟨D.gt, p, none⟩) htl _
  · have h1 : StepO (OwnsD m D S) w0 (OwnsD m D S) w := .upd _ HU
    have h2 := (h1.setD (p := ⟨D.gk, p, none⟩) (show OwnsD m D S D.gk from .inr (.inr (.inl rfl))) (.int .i64 ((c : Int) + 1))).then hu
    have h3 := h2.setD (p := ⟨D.gt, p, none⟩) (show OwnsD m D S D.gt from .inr (.inr (.inr (.inr (.inl rfl))))) (.slice (some ⟨g, 0, none⟩) rm rm)
    refine ⟨h3.os, h3.tape, h3.output, h3.size, h3.block, fun k hk => ?_⟩
    rcases hk with rfl | rfl | rfl | rfl | rfl | ⟨q, c', l', e, rfl⟩
    · exact .inl (.inl rfl)
    · exact .inl (.inr (.inl rfl))
    · exact .inl (.inr (.inr (.inl rfl)))
    · exact .inl (.inr (.inr (.inr (.inl rfl))))
    · exact .inl (.inr (.inr (.inr (.inr (.inl rfl)))))
    · dsimp only at e ⊢
      rw [hA] at e
      split at e
      · rename_i e2; rw [if_pos e2]; exact .inr (by omega)
      · rename_i e2; rw [if_neg e2]; exact .inl (.inr (.inr (.inr (.inr (.inr ⟨q, c', l', e, rfl⟩)))))
set_option maxRecDepth 100000 in
set_option maxHeartbeats 12800000 in
theorem dalloc_small (m : Nat) (S S1 : Sp) (n : Int) (c p i : Nat) (l : List Bool) (w : World) (H : DocO w m S O) (hcc : classZ n = c) (hc5 : c < 5) (hbw : blockZ n = (wordsOf c : Nat)) (hf : First S c p l S1) (hi : nextZ l false 0 = i) :
    Calls Tryz.prog 54 #[.pointer (some ⟨m, 0, none⟩), .int .i64 n] w fun e w' => e = .returned (.agg #[.int .i64 ((p : Int) * 64 + (i : Int) * (wordsOf c : Nat)), .int .i64 0]) ∧
      ∃ O', DocO w' m ⟨filledAt S1.W (p * 64 + i * wordsOf c) (wordsOf c), S1.pg.set p (.small c (l.set i true))⟩ O' ∧ StepO O w O' w' := by
  have HPG := Lib.hid (fun W (hu : Upd [] w W) => doc_pages m S W (H.upd0 hu))
  have hl : (bitsOf S.pg).length = S.pg.length := by simp [bitsOf]
  obtain ⟨D, H, rfl⟩ := H
  have hwf : S.WF := H.wf
  have hn2 := hwf.n2
  have hwp := words_pos hc5
  have hq := fun W => block1_walk n W
  rw [hbw] at hq
  have HQ := Lib.hid hq
  have hq2 := fun W => class1_walk n W
  rw [hcc] at hq2
  have HQ2 := Lib.hid hq2
  have HG : Hid (GotAt w (w.alloc (.cells #[.int .i64 0, .int .i64 0] 34)) w.heap.size (.int .i64 0) (.int .i64 0)) := Lib.hid ⟨Blk.new _ _ _, Nat.le_refl _⟩
  have HSN : Hid (∀ W, Upd [] w W → ∀ j, j < S.pg.length → Seen W D c j (atP S.pg j)) := Lib.hid fun W hu j hj => (H.seen hc5 hj).upd0 H.kind.lt H.taken.lt hu
  have HRAW : Hid (DRaw w m D S.pg.length S.W (kindsL S.pg) (manysL S.pg) (takensA D S.pg)) := Lib.hid H.raw
  have HBT := Lib.hid H.dbits
  have hnp1 := hwf.n1
  have hrun := fun g c W (hb : Blk W g 4 (bools (bitsOf S.pg))) => ref_run g c (bitsOf S.pg) 0 1 W hb (by omega) (by rw [hl]; omega)
  rw [hl] at hrun
  have HF := Lib.hid hf
  have HAT := Lib.hid hf.at
  have HLO := Lib.hid (fun k hk => H.owned (k := k) hk)
  have HOW : Hid (OwnsD m D S D.gk ∧ OwnsD m D S D.gt ∧ OwnsD m D S D.gw) := Lib.hid ⟨.inr (.inr (.inl rfl)), .inr (.inr (.inr (.inr (.inl rfl)))), .inr (.inl rfl)⟩
  obtain ⟨T, hT⟩ : ∃ T : Nat, T ≤ S.pg.length ∧ (∀ j, j < T → isOpen c (atP S.pg j) = false) ∧ ((T = p ∧ p < S.pg.length ∧ isOpen c (atP S.pg p) = true ∧ S1 = S) ∨ (T = S.pg.length ∧ runZ (bitsOf S.pg) 0 1 = p ∧ atP S.pg p = .free ∧ p < S.pg.length ∧ l = List.replicate (roomOf c) false ∧ S1 = ⟨S.W, S.pg.set p (.small c l)⟩)) := by
    rcases hf with ⟨ho, he, _⟩ | ⟨ho, h1, h2, h3⟩
    · rcases openZ_cases S.pg c with ⟨ho2, _⟩ | ⟨p', ho2, hp, hop, hbe⟩
      · omega
      · obtain rfl : p' = p := by omega
        exact ⟨p', by omega, hbe, .inl ⟨rfl, hp, hop, he⟩⟩
    · rcases openZ_cases S.pg c with ⟨ho2, hall⟩ | ⟨p', ho2, hp, hop, hbe⟩
      · obtain ⟨hpk, hfree⟩ := run_at (k := 1) (by decide) h1
        exact ⟨_, Nat.le_refl _, fun j _ => hall j, .inr ⟨rfl, h1, hfree p (Nat.le_refl _) (by omega), by omega, h2, h3⟩⟩
      · omega
  obtain ⟨hT1, hT2, hT3⟩ := hT
  have HT := Lib.hid hT2
  have hrq := room_quo hc5
  have hrm := room_pos hc5
  have hp1 : p < S1.pg.length ∧ S1.pg.length = S.pg.length ∧ S1.W = S.W ∧ S1.WF := by
    refine ⟨atP_in HAT.out (by simp), ?_⟩
    rcases hT3 with ⟨_, _, _, rfl⟩ | ⟨_, h1, h2, h3, h4, rfl⟩
    · exact ⟨rfl, rfl, hwf⟩
    · exact ⟨by simp, rfl, hwf.set_small h3 (.inl h2) hc5 (by simp [h4]) rfl⟩
  obtain ⟨hp1, hp2, hp3, hp4⟩ := hp1
  obtain ⟨_, hll⟩ := hp4.small p c l HAT.out
  have hlen := hp4.len
  have hil : i < l.length := by have := nextZ_range l false 0; rw [hi] at this; omega
  have hfit := block_fits hc5 (show i < roomOf c by omega)
  have HI := Lib.hid hi
  have HIL := Lib.hid hil
  have HLL := Lib.hid hll
  have HL := Lib.hid hlen
  have HSL := Lib.hid hp2
  have HSW := Lib.hid hp3
  have HFIN : Hid (∀ w' D1 W, DRaw w' m D1 S1.pg.length W (kindsL S1.pg) (manysL S1.pg) (takensA D1 S1.pg) → DBits w' D1 (S1.pg.set p (.small c (l.set i true))) → W = filledAt S1.W (p * 64 + i * wordsOf c) (wordsOf c) → DSpace w' m D1 ⟨filledAt S1.W (p * 64 + i * wordsOf c) (wordsOf c), S1.pg.set p (.small c (l.set i true))⟩) := Lib.hid fun w' D1 W hr hb hW => by
    have hat := HAT.out
    refine DSpace.of hr hb (by simp) hW (kinds_keep hp1 (by rw [hat]; rfl)).symm (manys_keep hp1 (by rw [hat]; rfl)).symm (takens_bits D1 hat (by simp)).symm ?_
    exact hp4.set_small hp1 (.inr ⟨c, l, hat⟩) hc5 (by simp [hll]) (filledAt_length _ _ _ (by omega))
  obtain ⟨wo, hwo⟩ : ∃ wo, wordsOf c = wo := ⟨_, rfl⟩
  rw [hwo] at HQ hwp hrq hfit HFIN ⊢
  obtain ⟨rm, hro⟩ : ∃ rm, roomOf c = rm := ⟨_, rfl⟩
  rw [hro] at hrq hrm HLL hT3
  have hil2 : i < rm := by have := HLL.out; omega
  have hiw : i * wo ≤ 64 := by omega
  have hiw' : (i : Int) * (wo : Int) ≤ 64 := by rw [← Int.natCast_mul]; omega
  have hiw0 : 0 ≤ (i : Int) * (wo : Int) := by rw [← Int.natCast_mul]; omega
  have hmk : ∀ W, (Instr.makeSlice 142 (.int .i64 (rm : Int)) (.int .i64 (rm : Int))).run Tryz.prog W = .ok (.slice (some ⟨W.heap.size, 0, none⟩) rm rm) (W.alloc (.cells (Array.replicate rm (.bool false)) 4)) := fun W => run_make_all (P := Tryz.prog) 142 4 (.bool false) 1 Tryz.underlying142 bool_info rfl (rm : Int) rm rfl (by omega) (by omega) W
  have HMK := Lib.hid hmk
  obtain ⟨np, hnp⟩ : ∃ np, S.pg.length = np := ⟨_, rfl⟩
  rw [hnp] at HPG hrun HSN HRAW hn2 hnp1 hT1 hT3 HSL
  have hpn : p < np := by have := HSL.out; omega
  have HNP := Lib.hid hnp
  have HRUN := Lib.hid hrun
  clear hq hq2 hrun H hl hwf hcc hbw hwo hnp hf hT2 hp1 hp2 hp3 hp4 hll hlen hil hi hmk hro hiw
  go_enter Tryz.func54, Tryz.ntmps54
  go_wp2_with fail
  refine (HQ.out _).mono ?_
  rintro e w1 ⟨rfl, hb⟩
  have HG1 := Lib.hid (HG.out.upd0 (Upd.of_below hb))
  have HU1 : Hid (Upd [] w w1) := Lib.hid (((Upd.refl [] w).alloc _).trans (Upd.of_below hb))
  clear hb
  go_wp2_with fail
  refine (HQ2.out _).mono ?_
  rintro e w2 ⟨rfl, hb⟩
  have HG2 := Lib.hid (HG1.out.upd0 (Upd.of_below hb))
  have HU2 : Hid (Upd [] w w2) := Lib.hid (HU1.out.trans (Upd.of_below hb))
  clear hb HG HG1 HU1
  have HR2 := Lib.hid (HRAW.out.upd0 HU2.out)
  have HB2 := Lib.hid (HBT.out.upd0 HU2.out)
  clear HRAW HBT
  go_upto_block 2 with fail
  go_cut [10] (fun v wx => v = .int .i64 T ∧ wx = w2)
  case first =>
    obtain ⟨c0, c1, c2, c3⟩ := HR2.out.cells
    go_wp2_with fail
    go_loopg [10] T (fun gk i wr => ∃ j : Nat, gk = T - j ∧ j ≤ T ∧ i = .int .i64 j ∧ wr = w2)
    case atStart => exact ⟨0, rfl, by omega, rfl, rfl⟩
    case round =>
      obtain ⟨j, rfl, hj, rfl, rfl⟩ := hrel
      by_cases hlt : j < np
      · obtain ⟨z, c4, hz1, hz2, hz⟩ := HSN.out _ HU2.out j hlt
        rcases hz with ⟨hz, hx⟩ | ⟨rfl, l5, c5, HB5, hl5, ⟨HX, hx⟩ | ⟨⟨i5, HX⟩, hx⟩⟩
        · have hjt : j < T := by
            rcases hT3 with ⟨rfl, _, h, _⟩ | ⟨rfl, _⟩
            · rcases Nat.lt_or_ge j T with h2 | h2
              · exact h2
              · obtain rfl : j = T := by omega
                rw [h] at hx; cases hx
            · exact hlt
          have h1 : (z != (c : Int) + 1) = true := by simp [hz]
          have h2 : (z == (c : Int) + 1) = false := by simp [hz]
          clear hT3
          go_wp2_with fail
          go_roundg (T - (j + 1))
          case measure => omega
          case rel => exact ⟨j + 1, rfl, by omega, by go_num, rfl⟩
        · have hjt : j < T := by
            rcases hT3 with ⟨rfl, _, h, _⟩ | ⟨rfl, _⟩
            · rcases Nat.lt_or_ge j T with h2 | h2
              · exact h2
              · obtain rfl : j = T := by omega
                rw [h] at hx; cases hx
            · exact hlt
          have HB := Lib.hid HB5
          have HXX := Lib.hid HX
          have HL5 := Lib.hid hl5
          clear HB5 HX hl5 hT3
          go_wp2_with fail
          refine (ref_next _ _ l5 0 false _ HB.out (by omega) HL5.out).mono ?_
          rintro e w' ⟨rfl, rfl⟩
          rw [HXX.out]
          go_wp2_with fail
          go_roundg (T - (j + 1))
          case measure => omega
          case rel => exact ⟨j + 1, rfl, by omega, by go_num, rfl⟩
        · obtain rfl : j = T := by
            rcases Nat.lt_or_ge j T with h2 | h2
            · rw [HT.out j h2] at hx; cases hx
            · omega
          have HB := Lib.hid HB5
          have HXX := Lib.hid HX
          have HL5 := Lib.hid hl5
          clear HB5 HX hl5 hT3
          go_wp2_with fail
          refine (ref_next _ _ l5 0 false _ HB.out (by omega) HL5.out).mono ?_
          rintro e w' ⟨rfl, rfl⟩
          rw [HXX.out]
          go_wp2_with fail
          go_meet
          exact ⟨rfl, rfl⟩
      · obtain rfl : j = np := by omega
        obtain rfl : T = j := by omega
        clear hT3
        go_wp2_with fail
        go_meet
        exact ⟨rfl, rfl⟩
  case rest =>
    obtain ⟨rfl, rfl⟩ := hcut
    clear HSN HT
    obtain ⟨c0, c1, c2, c3⟩ := HR2.out.cells
    go_upto_if 104 with fail
    go_cut [10] (fun v wx => v = .int .i64 p ∧ ∃ D1, Hid (DRaw wx m D1 np S.W (kindsL S1.pg) (manysL S1.pg) (takensA D1 S1.pg)) ∧ Hid (DBits wx D1 S1.pg) ∧ Hid (GotAt w wx w.heap.size (.int .i64 0) (.int .i64 0)) ∧ Hid (StepO (OwnsD m D S) w (OwnsD m D1 S1) wx))
    case first =>
      rcases hT3 with ⟨rfl, h1, h2, h3⟩ | ⟨rfl, h1, h2, h3, h4, h5⟩
      · subst h3
        go_wp2_with fail
        go_meet
        exact ⟨rfl, D, HR2, HB2, HG2, Lib.hid (.upd _ HU2.out)⟩
      · subst h5
        have HFREE := Lib.hid h2
        have HLR := Lib.hid h4
        rw [h1] at HRUN
        clear h2 h4 c0 c1 c2 c3
        go_wp2_with fail
        refine (HPG.out _ HU2.out).mono ?_
        rintro e w3 ⟨g, rfl, hb3, hg3, hu3⟩
        have HB3 := Lib.hid hb3
        have HG3 := Lib.hid (HG2.out.upd0 hu3)
        have HU3 := Lib.hid (HU2.out.trans hu3)
        have HR3 := Lib.hid (HR2.out.upd0 hu3)
        have HBB3 := Lib.hid (HB2.out.upd0 hu3)
        clear hb3 hg3 hu3 HG2 HU2 HR2 HB2
        go_wp2_with fail
        refine (HRUN.out g _ _ HB3.out).mono ?_
        rintro e w' ⟨rfl, rfl⟩
        obtain ⟨d0, d1, d2, d3⟩ := HR3.out.cells
        have h4 := HR3.out.kAt (p := p) (by rw [kinds_len, HNP.out]; exact hpn)
        have d4 := h4.1
        have d5 := h4.2
        obtain ⟨e0, e1, e2, e3⟩ := (HR3.out.setK p ((c : Int) + 1)).cells
        have e5 := (HR3.out.setK p ((c : Int) + 1)).taken.frozen p
        obtain ⟨e6, he6⟩ : ∃ v, (w3.setCell ⟨D.gk, p, none⟩ (.int .i64 ((c : Int) + 1))).cell? ⟨D.gt, p, none⟩ = some v := ⟨_, ((HR3.out.setK p ((c : Int) + 1)).taken.cell p).trans (takens_at D (by rw [HNP.out]; exact hpn))⟩
        have HRA := (HR3.out.setK p ((c : Int) + 1)).upd0 ((Upd.refl [] _).alloc (.cells (Array.replicate rm (.bool false)) 4))
        obtain ⟨f0, f1, f2, f3⟩ := HRA.cells
        have f5 := HRA.taken.frozen p
        obtain ⟨f6, hf6⟩ : ∃ v, ((w3.setCell ⟨D.gk, p, none⟩ (.int .i64 ((c : Int) + 1))).alloc (.cells (Array.replicate rm (.bool false)) 4)).cell? ⟨D.gt, p, none⟩ = some v := ⟨_, (HRA.taken.cell p).trans (takens_at D (by rw [HNP.out]; exact hpn))⟩
        obtain ⟨G, hG⟩ : ∃ G, w3.heap.size = G := ⟨_, rfl⟩
        obtain ⟨D1, hD1⟩ := dnew_page (c := c) HR3.out HBB3.out HG3.out HU3.out HLO.out HFREE.out (by rw [HNP.out]; exact hpn) HLR.out hG
        have HD := Lib.hid hD1
        clear h4 hD1 HRA
        go_upto_region 26 with fail
        have hmk := HMK.out
        have hw0 : wo ≠ 0 := by omega
        have hwr : IntKind.i64.wrap (Int.tdiv 64 (wo : Int)) = (rm : Int) := by
          rw [Int.tdiv_eq_ediv_of_nonneg (by decide), hrq]
          exact IntWalk.i64_in _ (by omega)
        go_region_law (fail)
        all_goals
          go_wp2_with fail
          go_meet
          obtain ⟨a1, a2, a3, a4⟩ := HD.out _ rfl
          exact ⟨rfl, D1, Lib.hid (a1.out.upd0 (Upd.refl [] _).drew), Lib.hid (a2.out.upd0 (Upd.refl [] _).drew), Lib.hid (a3.out.upd0 (Upd.refl [] _).drew), Lib.hid (a4.out.then (Upd.refl [] _).drew)⟩
    case rest =>
      obtain ⟨rfl, D1, HR, HBB, HG, HS⟩ := hcut
      clear hT3 HR2 HB2 HG2 HU2 c0 c1 c2 c3
      have hb := HBB.out.bits p c l HAT.out
      have HB := Lib.hid hb
      obtain ⟨c0, c1, c2, c3⟩ := HR.out.cells
      have c4 : wc.cell? ⟨D1.gt, p, none⟩ = some (.slice (some ⟨D1.tk p, 0, none⟩) l.length l.length) := (HR.out.taken.cell p).trans ((takens_at D1 (by rw [HSL.out]; exact hpn)).trans (by rw [HAT.out]; rfl))
      have hil := HIL.out
      have hl32 : l.length ≤ 32 := by rw [HLL.out]; exact hrm.2
      clear hb
      go_wp2_with fail
      refine (ref_next (D1.tk p) _ l 0 false _ HB.out (by omega) (by omega)).mono ?_
      rintro e w' ⟨rfl, rfl⟩
      rw [HI.out]
      have c5 := HB.out.frozen i
      have c6 := HB.out.bool i hil
      have HR6 := Lib.hid (HR.out.far HB.out i (.bool true))
      have HB6 := Lib.hid (HBB.out.setB HAT.out i true)
      have HG6 : Hid (GotAt w (wc.setCell ⟨D1.tk p, i, none⟩ (.bool true)) w.heap.size (.int .i64 0) (.int .i64 0)) := Lib.hid (HG.out.farT HB.out (by decide) _)
      have HS6 := Lib.hid (HS.out.setD (p := ⟨D1.tk p, i, none⟩) (show OwnsD m D1 S1 (D1.tk p) from .inr (.inr (.inr (.inr (.inr ⟨p, c, l, HAT.out, rfl⟩))))) (.bool true))
      clear HR HBB HG HS
      go_wp2_with fail
      refine (doc_fill m D1 ((p : Int) * 64 + (i : Int) * (wo : Int)) wo (p * 64 + i * wo) wo np _ _ _ _ _ HR6.out (by rw [Int.natCast_add, Int.natCast_mul, Int.natCast_mul]; rfl) rfl (by rw [← HSW.out, HL.out, HSL.out]; omega) (by rw [← HSW.out, HL.out, HSL.out]) hn2).mono ?_
      rintro e w7 ⟨rfl, hr7, hu7⟩
      have HR7 := Lib.hid hr7
      have HB7 := Lib.hid (HB6.out.updW HR6.out.words (by decide) hu7)
      have HG7 := Lib.hid (HG6.out.updT HR6.out.words (by decide) hu7)
      have HS7 := Lib.hid (HS6.out.updIn hu7 (fun i hi => by rw [List.mem_singleton.1 hi]; exact .inr (.inl rfl)))
      obtain ⟨x0, x1, x2, x3⟩ := HG7.out.cells
      clear hr7 hu7 HR6 HB6 HG6 HS6
      go_wp2_with fail
      refine gotA_ret ((HG7.out.blk.set_ 0 (.int .i64 ((p : Int) * 64 + (i : Int) * (wo : Int)))).set_ 1 (.int .i64 0)) rfl rfl ⟨rfl, _, ⟨D1, ?_, rfl⟩, ?_⟩
      · refine HFIN.out _ _ _ ?_ (HB7.out.got HG7.out _ _) (by rw [HSW.out])
        rw [HSL.out]
        exact HR7.out.got HG7.out _ _
      · have e : OwnsD m D1 ⟨filledAt S1.W (p * 64 + i * wo) wo, S1.pg.set p (.small c (l.set i true))⟩ = OwnsD m D1 S1 := owns_bits HAT.out
        rw [e]; exact HS7.out.got HG7.out _ _

theorem DocO.same {w w' : World} (H : DocO w m S O) (hu : Upd [] w w') : ∃ O', DocO w' m S O' ∧ StepO O w O' w' := ⟨O, H.upd0 hu, .upd _ hu⟩
theorem doc_alloc (m : Nat) (S : Sp) (n : Int) (w : World) (H : DocO w m S O) :
    Calls Tryz.prog 54 #[.pointer (some ⟨m, 0, none⟩), .int .i64 n] w fun e w' => e = .returned (.agg #[.int .i64 (S.alloc n).2.1, .int .i64 (S.alloc n).2.2]) ∧ ∃ O', DocO w' m (S.alloc n).1 O' ∧ StepO O w O' w' := by
  have hwf : S.WF := by obtain ⟨D, H, _⟩ := H; exact H.wf
  have hlen := hwf.len
  by_cases hb : blockZ n = 0
  · have e : S.alloc n = (S, 0, 1) := if_pos hb
    rw [e]
    exact (dalloc_arg m n w hb).mono fun e w' ⟨h1, h2⟩ => ⟨h1, H.same h2⟩
  by_cases hc : classZ n < 0
  · obtain ⟨k, hk, hk1, hk2, hbk, _, _⟩ := pages_nat hb hc
    rcases run_nat (l := bitsOf S.pg) (i := 0) (k := k) with hr | ⟨p, hr⟩
    · have e : S.alloc n = (S, 0, 3) := by
        unfold Sp.alloc
        rw [if_neg hb, if_pos hc, hk, hr, if_pos (by omega)]
      rw [e]
      exact (dalloc_full m S n k w H hc hbk hk1 hk2 hr).mono fun e w' ⟨h1, h2⟩ => ⟨h1, H.same h2⟩
    · rw [alloc_pages hc hb hk hr]
      exact dalloc_large m S n k p w H hc hbk hk1 hk2 hr
  · obtain ⟨c, hcc, hc5, hbw⟩ := class_small hc
    have main : ∀ (p i : Nat) (l : List Bool) (S1 : Sp), First S c p l S1 → nextZ l false 0 = i → S.alloc n = (⟨filledAt S1.W (p * 64 + i * wordsOf c) (wordsOf c), S1.pg.set p (.small c (l.set i true))⟩, (p : Int) * 64 + (i : Int) * (wordsOf c : Nat), 0) →
        Calls Tryz.prog 54 #[.pointer (some ⟨m, 0, none⟩), .int .i64 n] w fun e w' => e = .returned (.agg #[.int .i64 (S.alloc n).2.1, .int .i64 (S.alloc n).2.2]) ∧ ∃ O', DocO w' m (S.alloc n).1 O' ∧ StepO O w O' w' := fun p i l S1 hF hi e => by
      rw [e]
      exact dalloc_small m S S1 n c p i l w H hcc hc5 hbw hF hi
    rcases openZ_cases S.pg c with ⟨ho, hall⟩ | ⟨p, ho, hp, hopen, _⟩
    · rcases run_nat (l := bitsOf S.pg) (i := 0) (k := 1) with hr | ⟨p, hr⟩
      · have e : S.alloc n = (S, 0, 3) := by
          unfold Sp.alloc
          rw [if_neg hb, hcc, if_neg (by omega), Int.toNat_natCast, ho, if_neg (by omega), hr, if_pos (by omega)]
        rw [e]
        exact (dalloc_none m S n c w H hcc hc5 hbw hall hr).mono fun e w' ⟨h1, h2⟩ => ⟨h1, H.same h2⟩
      · have hrm := room_pos hc5
        refine main p 0 (List.replicate (roomOf c) false) ⟨S.W, S.pg.set p (.small c (List.replicate (roomOf c) false))⟩ (.inr ⟨ho, hr, rfl, rfl⟩) (rep_false (by omega) (by omega)) ?_
        rw [alloc_new hcc hb ho hr]
        simp [firstOne, List.set_set]
    · obtain ⟨l, hat, hcnt⟩ := open_small hopen
      obtain ⟨i, hi, hil, _⟩ := next_of_count hcnt
      exact main p i l S (.inl ⟨ho, rfl, hat⟩) hi (alloc_open hcc hb ho hat hi)
end
end Go.Proofs.YtpkbdmieelgdlaaGreat
