/- The document's space: Free. -/
import Derived.Test.YtpkbdmieelgdlaaDoc6
import Derived.Deep.RegionLaw
namespace Go.Proofs.Ytpkbdmieelgdlaa
open Go Go.RowKit

section
variable {w0 w w' : World} {r m n : Nat} {D : DLay} {S : Sp} {O : Nat → Prop}
set_option maxRecDepth 100000 in
set_option maxHeartbeats 800000 in
theorem dfree_none (m : Nat) (S : Sp) (a : Int) (w : World) (H : DocO w m S O) (hno : (S.find a).2.2 = false ∨ (S.find a).1 ≠ a) :
    Calls Try.prog 12 #[.pointer (some ⟨m, 0, none⟩), .int .i64 a] w fun e w' => e = .returned (.int .i64 2) ∧ Upd [] w w' := by
  have hf := doc_find m S a w H
  generalize S.find a = z at *
  obtain ⟨x, y, b⟩ := z
  unfold FoundV at hf
  try simp only at hf
  try simp only at hno
  have HF := Lib.hid hf
  clear hf
  cases b with
  | false =>
    clear hno
    go_enter Try.func12, Try.ntmps12
    go_wp2_with fail
    refine (HF.out).mono ?_
    rintro e w1 ⟨rfl, hu⟩
    have HU := Lib.hid hu
    clear hu
    go_wp2_with fail
    go_ret
    exact ⟨rfl, HU.out.alloc _⟩
  | true =>
    have hne : x ≠ a := by rcases hno with h | h; cases h; exact h
    have h1 : (x == a) = false := by simp [hne]
    have h2 : (x != a) = true := by simp [hne]
    clear hno hne
    go_enter Try.func12, Try.ntmps12
    go_wp2_with fail
    refine (HF.out).mono ?_
    rintro e w1 ⟨rfl, hu⟩
    have HU := Lib.hid hu
    clear hu
    go_wp2_with fail
    go_ret
    exact ⟨rfl, HU.out.alloc _⟩
theorem owns_clear {W W' : List Int} {pg : List Pst} {p k : Nat} (hpk : p + k ≤ pg.length) (hf : atP pg p = .first k) (hr : ∀ j, p < j → j < p + k → atP pg j = .rest p) : OwnsD m D ⟨W, clearPg pg p k⟩ = OwnsD m D ⟨W', pg⟩ := by
  funext q
  apply propext
  unfold OwnsD
  have : (∃ q' c' l2, atP (clearPg pg p k) q' = .small c' l2 ∧ q = D.tk q') ↔ ∃ q' c' l2, atP pg q' = .small c' l2 ∧ q = D.tk q' := by
    constructor
    · rintro ⟨q', c', l2, e, h2⟩
      rw [atP_clear hpk] at e
      split at e
      · cases e
      · exact ⟨q', c', l2, e, h2⟩
    · rintro ⟨q', c', l2, e, h2⟩
      refine ⟨q', c', l2, ?_, h2⟩
      rw [atP_clear hpk, if_neg]
      · exact e
      · rintro ⟨a, b⟩
        rcases Nat.eq_or_lt_of_le a with rfl | a
        · rw [hf] at e; cases e
        · rw [hr q' a b] at e; cases e
  simp only [this]
theorem DBits.clear {pg : List Pst} {p k : Nat} (h : DBits w D pg) (hpk : p + k ≤ pg.length) : DBits w D (clearPg pg p k) := by
  have hx : ∀ q c l, atP (clearPg pg p k) q = .small c l → atP pg q = .small c l := fun q c l e => by
    rw [atP_clear hpk] at e
    split at e
    · cases e
    · exact e
  exact ⟨fun q c l e => h.bits q c l (hx _ _ _ e), fun q c l q' c' l' e e' => h.apart q c l q' c' l' (hx _ _ _ e) (hx _ _ _ e')⟩
set_option maxRecDepth 100000 in
set_option maxHeartbeats 3200000 in
theorem dfree_large (m : Nat) (S : Sp) (a : Int) (p k : Nat) (y : Int) (w : World) (H : DocO w m S O) (hfd : S.find a = (a, y, true)) (h0 : 0 ≤ a) (hp : a / 64 = p) (hat : atP S.pg p = .first k) :
    Calls Try.prog 12 #[.pointer (some ⟨m, 0, none⟩), .int .i64 a] w fun e w' => e = .returned (.int .i64 0) ∧ ∃ O', DocO w' m ⟨S.W, clearPg S.pg p k⟩ O' ∧ StepO O w O' w' := by
  have hf := doc_find m S a w H
  rw [hfd] at hf
  unfold FoundV at hf
  simp only at hf
  have HF := Lib.hid hf
  obtain ⟨D, H, rfl⟩ := H
  have hwf := H.wf
  have hn2 := hwf.n2
  obtain ⟨hk1, hpk, hr⟩ := hwf.first p k hat
  have HRAW : Hid (DRaw w m D S.pg.length S.W (spanZ (kindsL S.pg) 0 p 0) (manysL S.pg) (takensA D S.pg)) := Lib.hid (by rw [spanZ_zero]; exact H.raw)
  have HBT := Lib.hid H.dbits
  have HOW : Hid (OwnsD m D S D.gk ∧ OwnsD m D S D.gm) := Lib.hid ⟨.inr (.inr (.inl rfl)), .inr (.inr (.inr (.inl rfl)))⟩
  have HKP : Hid ((kindsL S.pg).getD p 0 = 6 ∧ (manysL S.pg).getD p 0 = k) := Lib.hid (by rw [kinds_at (by omega), manys_at (by omega), hat]; exact ⟨rfl, rfl⟩)
  have hkl := kinds_len S.pg
  have hml := manys_len S.pg
  have HFIN : Hid (∀ w', DRaw w' m D S.pg.length S.W (spanZ (kindsL S.pg) 0 p k) ((manysL S.pg).set p 0) (takensA D S.pg) → DBits w' D S.pg → DSpace w' m D ⟨S.W, clearPg S.pg p k⟩) := Lib.hid fun w' hr1 hb => by
    refine DSpace.of hr1 (hb.clear hpk) clearPg_length.symm rfl (kinds_clear hpk) ?_ (takens_clear D hpk hat hr).symm (hwf.clear hat)
    rcases manys_clear hpk hr with h | h
    · exact h
    · omega
  have HOO : Hid (OwnsD m D ⟨S.W, clearPg S.pg p k⟩ = OwnsD m D S) := Lib.hid (owns_clear (W' := S.W) hpk hat hr)
  obtain ⟨np, hnp⟩ : ∃ np, S.pg.length = np := ⟨_, rfl⟩
  rw [hnp] at hpk hn2 hkl hml HRAW HFIN
  have HKL := Lib.hid hkl
  have HML := Lib.hid hml
  clear hf hfd hat hwf H hr hkl hml hnp
  go_enter Try.func12, Try.ntmps12
  go_wp2_with fail
  refine (HF.out).mono ?_
  rintro e w1 ⟨rfl, hu⟩
  have HU1 : Hid (Upd [] w (w1.alloc (.cells #[.int .i64 a, .int .i64 y, .bool true] 57))) := Lib.hid (hu.alloc _)
  have HR1 := Lib.hid (HRAW.out.upd0 HU1.out)
  have HB1 := Lib.hid (HBT.out.upd0 HU1.out)
  have HS1 : Hid (StepO (OwnsD m D S) w (OwnsD m D S) (w1.alloc (.cells #[.int .i64 a, .int .i64 y, .bool true] 57))) := Lib.hid (.upd _ HU1.out)
  obtain ⟨c0, c1, c2, c3⟩ := HR1.out.cells
  have c4 := (HR1.out.kAt (p := p) (by rw [spanZ_len, HKL.out]; omega)).1
  have c5 := (HR1.out.mAt (p := p) (by rw [HML.out]; omega)).1
  rw [spanZ_zero, HKP.out.1] at c4
  rw [HKP.out.2] at c5
  clear hu HRAW HBT HU1
  go_upto_block 0 with fail
  rw [hp]
  clear c0 c1 c2 c3 c4 c5
  go_wp2_with fail
  go_loopg [8] k (fun gk i wr => ∃ j : Nat, gk = k - j ∧ j ≤ k ∧ i = .int .i64 ((p + j : Nat) : Int) ∧ Hid (DRaw wr m D np S.W (spanZ (kindsL S.pg) 0 p j) (manysL S.pg) (takensA D S.pg)) ∧ Hid (DBits wr D S.pg) ∧ Hid (StepO (OwnsD m D S) w (OwnsD m D S) wr))
  case atStart => exact ⟨0, rfl, by omega, rfl, HR1, HB1, HS1⟩
  case round =>
    clear HR1 HB1 HS1
    obtain ⟨j, rfl, hj, rfl, HR, HBT, HS⟩ := hrel
    by_cases hlt : j < k
    · obtain ⟨c0, c1, c2, c3⟩ := HR.out.cells
      have h4 := HR.out.kAt (p := p + j) (by rw [spanZ_len, HKL.out]; omega)
      have c4 := h4.1
      have c5 := h4.2
      have hn := HR.out.setK (p + j) 0
      rw [spanZ_succ] at hn
      have HN := Lib.hid hn
      have HB4 := Lib.hid (HBT.out.far HR.out.kind (by decide) (p + j) (.int .i64 0))
      have HS4 := Lib.hid (HS.out.setD (p := ⟨D.gk, p + j, none⟩) HOW.out.1 (.int .i64 0))
      have hji : p + j < np := by omega
      clear h4 hn
      go_wp2_with fail
      go_roundg (k - (j + 1))
      case measure => omega
      case rel => exact ⟨j + 1, rfl, by omega, by go_num, HN, HB4, HS4⟩
    · obtain rfl : j = k := by omega
      obtain ⟨c0, c1, c2, c3⟩ := HR.out.cells
      have h6 := HR.out.mAt (p := p) (by rw [HML.out]; omega)
      have c6 := h6.1
      have c7 := h6.2
      have HR4 := Lib.hid (HR.out.setM p 0)
      have HB4 := Lib.hid (HBT.out.far HR.out.many (by decide) p (.int .i64 0))
      have HS4 := Lib.hid (HS.out.setD (p := ⟨D.gm, p, none⟩) HOW.out.2 (.int .i64 0))
      have hpn : p < np := by omega
      clear h6
      go_wp2_with fail
      go_ret
      refine ⟨rfl, _, ⟨D, HFIN.out _ HR4.out HB4.out, rfl⟩, ?_⟩
      rw [HOO.out]; exact HS4.out
theorem owns_free {W W' : List Int} {pg : List Pst} {p c k : Nat} {l : List Bool} (h : atP pg p = .small c l) (hk : OwnsD m D ⟨W, pg.set p .free⟩ k) : OwnsD m D ⟨W', pg⟩ k := by
  rcases hk with e | e | e | e | e | ⟨q, c', l', e, rfl⟩
  · exact .inl e
  · exact .inr (.inl e)
  · exact .inr (.inr (.inl e))
  · exact .inr (.inr (.inr (.inl e)))
  · exact .inr (.inr (.inr (.inr (.inl e))))
  · dsimp only at e
    rw [atP_set _ (atP_in h (by simp))] at e
    split at e
    · cases e
    · exact .inr (.inr (.inr (.inr (.inr ⟨q, c', l', e, rfl⟩))))
theorem DBits.setFree {pg : List Pst} {p c : Nat} {l : List Bool} (h : DBits w D pg) (hat : atP pg p = .small c l) : DBits w D (pg.set p .free) := by
  have hx : ∀ q c l, atP (pg.set p .free) q = .small c l → atP pg q = .small c l := fun q c' l' e => by
    rw [atP_set _ (atP_in hat (by simp))] at e
    split at e
    · cases e
    · exact e
  exact ⟨fun q c l e => h.bits q c l (hx _ _ _ e), fun q c l q' c' l' e e' => h.apart q c l q' c' l' (hx _ _ _ e) (hx _ _ _ e')⟩
set_option maxRecDepth 100000 in
set_option maxHeartbeats 6400000 in
theorem dfree_small (m : Nat) (S S2 : Sp) (a : Int) (p c i : Nat) (l : List Bool) (w : World) (H : DocO w m S O) (hfd : S.find a = (a, ((wordsOf c : Nat) : Int), true)) (h0 : 0 ≤ a) (hp : a / 64 = p) (hat : atP S.pg p = .small c l) (hi : a % 64 / ((wordsOf c : Nat) : Int) = i) (hil : i < l.length)
    (hS2 : (countB (l.set i false) = 0 ∧ S2 = ⟨S.W, S.pg.set p .free⟩) ∨ (countB (l.set i false) ≠ 0 ∧ S2 = ⟨S.W, S.pg.set p (.small c (l.set i false))⟩)) :
    Calls Try.prog 12 #[.pointer (some ⟨m, 0, none⟩), .int .i64 a] w fun e w' => e = .returned (.int .i64 0) ∧ ∃ O', DocO w' m S2 O' ∧ StepO O w O' w' := by
  have hf := doc_find m S a w H
  rw [hfd] at hf
  unfold FoundV at hf
  simp only at hf
  have HF := Lib.hid hf
  obtain ⟨D, H, rfl⟩ := H
  have hwf := H.wf
  have hn2 := hwf.n2
  have hpn := atP_in hat (by simp)
  obtain ⟨hc5, hll⟩ := hwf.small p c l hat
  have hwp := words_pos hc5
  have hrm := room_pos hc5
  have HRAW := Lib.hid H.raw
  have HBT := Lib.hid H.dbits
  have HKP : Hid ((kindsL S.pg).getD p 0 = (c : Int) + 1) := Lib.hid (by rw [kinds_at hpn, hat]; rfl)
  have hkl := kinds_len S.pg
  have hml := manys_len S.pg
  have HAT := Lib.hid hat
  have HWF := Lib.hid hwf
  obtain ⟨np, hnp⟩ : ∃ np, S.pg.length = np := ⟨_, rfl⟩
  have HNP := Lib.hid hnp
  rw [hnp] at hpn hn2 hkl hml HRAW
  have HKL := Lib.hid hkl
  have HML := Lib.hid hml
  have hl32 : l.length ≤ 32 := by omega
  clear hf hfd hwf H hkl hml hnp hll hrm hat
  go_enter Try.func12, Try.ntmps12
  go_wp2_with fail
  refine (HF.out).mono ?_
  rintro e w1 ⟨rfl, hu⟩
  have HU1 : Hid (Upd [] w (w1.alloc (.cells #[.int .i64 a, .int .i64 (wordsOf c : Nat), .bool true] 57))) := Lib.hid (hu.alloc _)
  have HR1 := Lib.hid (HRAW.out.upd0 HU1.out)
  have HB1 := Lib.hid (HBT.out.upd0 HU1.out)
  have HS1 : Hid (StepO (OwnsD m D S) w (OwnsD m D S) (w1.alloc (.cells #[.int .i64 a, .int .i64 (wordsOf c : Nat), .bool true] 57))) := Lib.hid (.upd _ HU1.out)
  obtain ⟨c0, c1, c2, c3⟩ := HR1.out.cells
  have c4 := (HR1.out.kAt (p := p) (by rw [HKL.out]; exact hpn)).1
  rw [HKP.out] at c4
  have c5 : (w1.alloc (.cells #[.int .i64 a, .int .i64 (wordsOf c : Nat), .bool true] 57)).cell? ⟨D.gt, p, none⟩ = some (.slice (some ⟨D.tk p, 0, none⟩) l.length l.length) := (HR1.out.taken.cell p).trans ((takens_at D (by rw [HNP.out]; exact hpn)).trans (by rw [HAT.out]; rfl))
  have HBB := Lib.hid (HB1.out.bits p c l HAT.out)
  have c6 := HBB.out.frozen i
  have c7 := HBB.out.bool i hil
  have x0 : (w1.alloc (.cells #[.int .i64 a, .int .i64 (wordsOf c : Nat), .bool true] 57)).cell? ⟨w1.heap.size, 1, none⟩ = some (.int .i64 (wordsOf c : Nat)) := (Blk.new _ _ _).cell 1
  have h61 : ((c : Int) + 1 == 6) = false := by simp; omega
  clear hu HRAW HBT HU1
  go_upto_region 13 with fail
  rw [hp]
  have hw0 : wordsOf c ≠ 0 := by omega
  have hwd : IntKind.i64.wrap ((Int.tmod a 64).tdiv ((wordsOf c : Nat) : Int)) = (i : Int) := by
    rw [Int.tmod_eq_emod_of_nonneg h0, Int.tdiv_eq_ediv_of_nonneg (by omega), hi]
    exact IntWalk.i64_in _ (by omega)
  generalize w1.alloc (.cells #[.int .i64 a, .int .i64 (wordsOf c : Nat), .bool true] 57) = w2 at *
  go_cut [4] (fun v wx => v = .int .i64 0 ∧ wx = (w2.setCell ⟨D.tk p, i, none⟩ (.bool false)).drew)
  case first =>
    go_region_law (fail)
    all_goals
      go_wp2_with fail
      go_meet
      exact ⟨rfl, rfl⟩
  case rest =>
    obtain ⟨rfl, rfl⟩ := hcut
    have HB3 : Hid (DBits (w2.setCell ⟨D.tk p, i, none⟩ (.bool false)).drew D (S.pg.set p (.small c (l.set i false)))) := Lib.hid ((HB1.out.setB HAT.out i false).upd0 (Upd.refl [] _).drew)
    have HR3 : Hid (DRaw (w2.setCell ⟨D.tk p, i, none⟩ (.bool false)).drew m D np S.W (kindsL S.pg) (manysL S.pg) (takensA D S.pg)) := Lib.hid ((HR1.out.far HBB.out i (.bool false)).upd0 (Upd.refl [] _).drew)
    have HS3 : Hid (StepO (OwnsD m D S) w (OwnsD m D S) (w2.setCell ⟨D.tk p, i, none⟩ (.bool false)).drew) := Lib.hid ((HS1.out.setD (p := ⟨D.tk p, i, none⟩) (show OwnsD m D S (D.tk p) from .inr (.inr (.inr (.inr (.inr ⟨p, c, l, HAT.out, rfl⟩))))) (.bool false)).then (Upd.refl [] _).drew)
    clear c0 c1 c2 c3 c4 c5 c6 c7 x0 hwd HB1 HR1 HS1 HBB
    generalize (w2.setCell ⟨D.tk p, i, none⟩ (.bool false)).drew = w3 at *
    obtain ⟨c0, c1, c2, c3⟩ := HR3.out.cells
    have c5 : w3.cell? ⟨D.gt, p, none⟩ = some (.slice (some ⟨D.tk p, 0, none⟩) l.length l.length) := (HR3.out.taken.cell p).trans ((takens_at D (by rw [HNP.out]; exact hpn)).trans (by rw [HAT.out]; rfl))
    have hb := HB3.out.bits p c (l.set i false) (by rw [atP_set _ (by rw [HNP.out]; exact hpn), if_pos rfl])
    have hcl := ref_count (D.tk p) l.length (l.set i false) w3 hb (by rw [List.length_set]; omega)
    rw [List.length_set] at hcl
    have HCL := Lib.hid hcl
    have c6 := HR3.out.taken.frozen p
    have h4 := HR3.out.kAt (p := p) (by rw [HKL.out]; exact hpn)
    have c7 := h4.1
    have c8 := h4.2
    clear hb hcl h4
    go_wp2_with fail
    refine (HCL.out).mono ?_
    rintro e w' ⟨rfl, rfl⟩
    rcases hS2 with ⟨hc, rfl⟩ | ⟨hc, rfl⟩
    · rw [hc]
      obtain ⟨e0, e1, e2, e3⟩ := (HR3.out.setK p 0).cells
      have e6 := (HR3.out.setK p 0).taken.frozen p
      have e7 : (w3.setCell ⟨D.gk, p, none⟩ (.int .i64 0)).cell? ⟨D.gt, p, none⟩ = some (.slice (some ⟨D.tk p, 0, none⟩) l.length l.length) := ((HR3.out.setK p 0).taken.cell p).trans ((takens_at D (by rw [HNP.out]; exact hpn)).trans (by rw [HAT.out]; rfl))
      have HR5 := Lib.hid ((HR3.out.setK p 0).setT p (.slice none 0 0))
      have HB5 := Lib.hid ((HB3.out.far HR3.out.kind (by decide) p (.int .i64 0)).far (HR3.out.setK p 0).taken (by decide) p (.slice none 0 0))
      have HS5 := Lib.hid ((HS3.out.setD (p := ⟨D.gk, p, none⟩) (show OwnsD m D S D.gk from .inr (.inr (.inl rfl))) (.int .i64 0)).setD (p := ⟨D.gt, p, none⟩) (show OwnsD m D S D.gt from .inr (.inr (.inr (.inr (.inl rfl))))) (.slice none 0 0))
      go_wp2_with fail
      go_ret
      have hpl : p < S.pg.length := by rw [HNP.out]; exact hpn
      refine ⟨rfl, _, ⟨D, DSpace.of HR5.out ?_ (by rw [← HNP.out]; simp) rfl (kinds_set (x := .free)) (manys_keep hpl (by rw [HAT.out]; rfl)).symm (takens_set D D _ (x := .free) rfl (fun _ _ => rfl) hpl) (HWF.out.set_free HAT.out), rfl⟩, ?_⟩
      · have := HB5.out.setFree (p := p) (c := c) (l := l.set i false) (by rw [atP_set _ hpl, if_pos rfl])
        rwa [List.set_set] at this
      · exact ⟨HS5.out.os, HS5.out.tape, HS5.out.output, HS5.out.size, HS5.out.block, fun k hk => HS5.out.own k (owns_free (W' := S.W) HAT.out hk)⟩
    · obtain ⟨cn, hcn⟩ : ∃ cn, countB (l.set i false) = cn := ⟨_, rfl⟩
      rw [hcn] at hc ⊢
      have h01 : ((cn : Int) == 0) = false := by simp; omega
      go_wp2_with fail
      go_ret
      have hpl : p < S.pg.length := by rw [HNP.out]; exact hpn
      obtain ⟨hc5', hll⟩ := HWF.out.small p c l HAT.out
      refine ⟨rfl, _, ⟨D, DSpace.of HR3.out HB3.out (by rw [← HNP.out]; simp) rfl (kinds_keep hpl (by rw [HAT.out]; rfl)).symm (manys_keep hpl (by rw [HAT.out]; rfl)).symm (takens_bits D HAT.out (by simp)).symm (HWF.out.set_small hpl (.inr ⟨c, l, HAT.out⟩) hc5' (by simp [hll]) rfl), rfl⟩, ?_⟩
      have e : OwnsD m D ⟨S.W, S.pg.set p (.small c (l.set i false))⟩ = OwnsD m D S := owns_bits HAT.out
      rw [e]; exact HS3.out

theorem doc_free (m : Nat) (S : Sp) (a : Int) (w : World) (H : DocO w m S O) :
    Calls Try.prog 12 #[.pointer (some ⟨m, 0, none⟩), .int .i64 a] w fun e w' => e = .returned (.int .i64 (S.drop a).2) ∧ ∃ O', DocO w' m (S.drop a).1 O' ∧ StepO O w O' w' := by
  have hwf : S.WF := by obtain ⟨D, H, _⟩ := H; exact H.wf
  by_cases hno : (S.find a).2.2 = false ∨ (S.find a).1 ≠ a
  · have e : S.drop a = (S, 2) := if_pos hno
    rw [e]
    exact (dfree_none m S a w H hno).mono fun e w' ⟨he, hu⟩ => ⟨he, H.same hu⟩
  · have hf : S.find a = (a, (S.find a).2.1, true) := by
      have h1 : (S.find a).1 = a := by
        rcases Classical.em ((S.find a).1 = a) with h | h
        · exact h
        · exact absurd (.inr h) hno
      have h2 : (S.find a).2.2 = true := by
        cases h : (S.find a).2.2
        · exact absurd (.inl h) hno
        · rfl
      rw [Prod.ext_iff, Prod.ext_iff]
      exact ⟨h1, rfl, h2⟩
    have hin : ¬ (a < 0 ∨ S.W.length ≤ a) := fun ho => by
      have e : S.find a = (0, 0, false) := if_pos ho
      rw [e] at hf; cases hf
    have h0 : 0 ≤ a := by omega
    obtain ⟨p, hp⟩ : ∃ p : Nat, a / 64 = p := ⟨(a / 64).toNat, by omega⟩
    have hpt : (a / 64).toNat = p := by omega
    have hD : ∀ x, atP S.pg p = x → S.drop a = match x with
        | .small c l => if countB (l.set (a % 64 / wordsOf c).toNat false) = 0 then (⟨S.W, S.pg.set p .free⟩, 0) else (⟨S.W, S.pg.set p (.small c (l.set (a % 64 / wordsOf c).toNat false))⟩, 0)
        | .first k => (⟨S.W, clearPg S.pg p k⟩, 0)
        | _ => (S, 2) := fun x hx => by
      unfold Sp.drop
      rw [if_neg hno, hpt, hx]
      all_goals (cases x <;> rfl)
    have hF : ∀ x, atP S.pg p = x → S.find a = match x with
        | .small c l => if hasB l (a % 64 / wordsOf c) then (a / 64 * 64 + a % 64 / wordsOf c * wordsOf c, wordsOf c, true) else (0, 0, false)
        | .first k => (a / 64 * 64, k * 64, true)
        | .rest f => (f * 64, manyOf (atP S.pg f) * 64, true)
        | _ => (0, 0, false) := fun x hx => by
      unfold Sp.find
      rw [if_neg hin, hpt, hx]
      all_goals (cases x <;> rfl)
    cases hx : atP S.pg p with
    | zero => rw [hF _ hx] at hf; cases hf
    | free => rw [hF _ hx] at hf; cases hf
    | first k =>
      rw [hD _ hx]
      exact dfree_large m S a p k _ w H hf h0 hp hx
    | rest f =>
      have := hF _ hx
      rw [hf] at this
      simp only [Prod.mk.injEq] at this
      have h1 := (hwf.rest p f hx).1
      omega
    | small c l =>
      have hfx := hF _ hx
      simp only at hfx
      have hhas : hasB l (a % 64 / (wordsOf c : Nat)) = true := by
        cases hb : hasB l (a % 64 / (wordsOf c : Nat)) with
        | true => rfl
        | false =>
          rw [if_neg (by rw [hb]; simp)] at hfx
          rw [hfx] at hf; cases hf
      obtain ⟨hc, hll⟩ := hwf.small p c l hx
      have hwp := words_pos hc
      have hwr := words_room hc
      have hq0 : 0 ≤ a % 64 / ((wordsOf c : Nat) : Int) := Int.ediv_nonneg (by omega) (by omega)
      have hq1 : a % 64 / ((wordsOf c : Nat) : Int) < (roomOf c : Nat) := by
        refine Int.ediv_lt_of_lt_mul (by omega) ?_
        rw [← Int.natCast_mul, Nat.mul_comm, hwr]
        omega
      have hfd : S.find a = (a, ((wordsOf c : Nat) : Int), true) := by
        rw [if_pos hhas] at hfx
        have hy := congrArg (fun x => x.2.1) hfx
        simp only at hy
        rw [hf]
        exact Prod.ext rfl (Prod.ext hy rfl)
      obtain ⟨i, hi⟩ : ∃ i : Nat, a % 64 / ((wordsOf c : Nat) : Int) = i := ⟨(a % 64 / ((wordsOf c : Nat) : Int)).toNat, by omega⟩
      rw [hD _ hx]
      simp only
      rw [hi, Int.toNat_natCast]
      by_cases hcnt : countB (l.set i false) = 0
      · rw [if_pos hcnt]
        exact dfree_small m S _ a p c i l w H hfd h0 hp hx hi (by omega) (.inl ⟨hcnt, rfl⟩)
      · rw [if_neg hcnt]
        exact dfree_small m S _ a p c i l w H hfd h0 hp hx hi (by omega) (.inr ⟨hcnt, rfl⟩)
end
end Go.Proofs.Ytpkbdmieelgdlaa
