/- The walk of PagesRuns: at every input the law returns true, and nothing that was there has turned. -/
import Derived.Test.YtnphkgiiondjkaaPagesRefuses
import Derived.Test.YtnphkgiiondjkaaOpen3
namespace Go.Proofs.Ytnphkgiiondjkaa
open Go Go.RowKit

/-- What a give tells, and leaves. -/
def giveE (l : List Bool) (a k : Int) : Int := if k < 1 ∨ a < 1 then 1 else if (l.length : Int) < a ∨ (l.length : Int) - a < k then 2 else if fullB l a.toNat k.toNat = true then 0 else 2
def giveL (l : List Bool) (a k : Int) : List Bool := if giveE l a k = 0 then span l false a.toNat k.toNat else l
def takeE (l : List Bool) (k : Int) : Int := if k < 1 then 1 else if runZ l 0 k < 0 then 3 else 0
def takeN (l : List Bool) (k : Int) : Int := if k < 1 then 0 else if runZ l 0 k < 0 then 0 else runZ l 0 k
def takeL (l : List Bool) (k : Int) : List Bool := if takeE l k = 0 then span l true (takeN l k).toNat k.toNat else l
theorem giveL_length (l : List Bool) (a k : Int) : (giveL l a k).length = l.length := by unfold giveL; split; exact span_length _ _ _ _; rfl
theorem takeL_length (l : List Bool) (k : Int) : (takeL l k).length = l.length := by unfold takeL; split; exact span_length _ _ _ _; rfl
theorem giveE_range (l : List Bool) (a k : Int) : 0 ≤ giveE l a k ∧ giveE l a k ≤ 7 := by unfold giveE; split <;> (try split) <;> (try split) <;> omega
theorem takeE_range (l : List Bool) (k : Int) : 0 ≤ takeE l k ∧ takeE l k ≤ 7 := by unfold takeE; split <;> (try split) <;> omega

theorem pgive_any (q p g : Nat) (l : List Bool) (a k : Int) (w : World) (h : IsPages w q p g l) (hl : l.length ≤ 256) :
    Calls Try.prog 53 #[.pointer (some ⟨q, 0, none⟩), .int .i64 a, .int .i64 k] w fun e w' => e = .returned (.int .i64 (giveE l a k)) ∧ IsPages w' q p g (giveL l a k) ∧ Upd [g] w w' := by
  by_cases h1 : k < 1 ∨ a < 1
  · have e1 : giveE l a k = 1 := if_pos h1
    have e2 : giveL l a k = l := by unfold giveL; rw [e1]; rfl
    rw [e1, e2]
    exact (pgive_arg q a k w h1).mono fun e w' hw => by obtain ⟨rfl, rfl⟩ := hw; exact ⟨rfl, h, Upd.refl _ _⟩
  · obtain ⟨k, rfl⟩ := Int.eq_ofNat_of_zero_le (show 0 ≤ k by omega)
    obtain ⟨a, rfl⟩ := Int.eq_ofNat_of_zero_le (show 0 ≤ a by omega)
    by_cases h2 : (l.length : Int) < a ∨ (l.length : Int) - a < k
    · have e1 : giveE l a k = 2 := by unfold giveE; rw [if_neg h1, if_pos h2]
      have e2 : giveL l a k = l := by unfold giveL; rw [e1]; rfl
      rw [e1, e2]
      exact (pgive_none q p g l a k w h hl (by omega) (by omega) h2).mono fun e w' hw => by obtain ⟨rfl, rfl⟩ := hw; exact ⟨rfl, h, Upd.refl _ _⟩
    · cases hf : fullB l a k with
      | true =>
        have e1 : giveE l a k = 0 := by unfold giveE; rw [if_neg h1, if_neg h2]; exact if_pos hf
        have e2 : giveL l a k = span l false a k := by unfold giveL; rw [e1]; rfl
        rw [e1, e2]
        exact pgive_yes q p g l a k w h hl (by omega) (by omega) (by omega) hf
      | false =>
        have e1 : giveE l a k = 2 := by unfold giveE; rw [if_neg h1, if_neg h2, if_neg (by show ¬ fullB l a k = true; rw [hf]; decide)]
        have e2 : giveL l a k = l := by unfold giveL; rw [e1]; rfl
        rw [e1, e2]
        exact (pgive_no q p g l a k w h hl (by omega) (by omega) (by omega) hf).mono fun e w' hw => by obtain ⟨rfl, rfl⟩ := hw; exact ⟨rfl, h, Upd.refl _ _⟩
theorem rgive_any (g c n : Nat) (l : List Bool) (a k : Int) (w : World) (h : Blk w g 4 (bools l)) (hn : l.length = n) (hl : n ≤ 256) :
    Calls Try.prog 55 #[.slice (some ⟨g, 0, none⟩) n c, .int .i64 a, .int .i64 k] w fun e w' => e = .returned (.int .i64 (giveE l a k)) ∧ Blk w' g 4 (bools (giveL l a k)) ∧ Upd [g] w w' := by
  by_cases h1 : k < 1 ∨ a < 1
  · have e1 : giveE l a k = 1 := if_pos h1
    have e2 : giveL l a k = l := by unfold giveL; rw [e1]; rfl
    rw [e1, e2]
    exact (rgive_arg _ n c a k w h1).mono fun e w' hw => by obtain ⟨rfl, rfl⟩ := hw; exact ⟨rfl, h, Upd.refl _ _⟩
  · obtain ⟨k, rfl⟩ := Int.eq_ofNat_of_zero_le (show 0 ≤ k by omega)
    obtain ⟨a, rfl⟩ := Int.eq_ofNat_of_zero_le (show 0 ≤ a by omega)
    by_cases h2 : (l.length : Int) < a ∨ (l.length : Int) - a < k
    · have e1 : giveE l a k = 2 := by unfold giveE; rw [if_neg h1, if_pos h2]
      have e2 : giveL l a k = l := by unfold giveL; rw [e1]; rfl
      rw [e1, e2]
      exact (rgive_none _ n c a k w hl (by omega) (by omega) (by rw [← hn]; exact h2)).mono fun e w' hw => by obtain ⟨rfl, rfl⟩ := hw; exact ⟨rfl, h, Upd.refl _ _⟩
    · cases hf : fullB l a k with
      | true =>
        have e1 : giveE l a k = 0 := by unfold giveE; rw [if_neg h1, if_neg h2]; exact if_pos hf
        have e2 : giveL l a k = span l false a k := by unfold giveL; rw [e1]; rfl
        rw [e1, e2]
        exact rgive_yes g c l n a k w h hn hl (by omega) (by omega) (by omega) hf
      | false =>
        have e1 : giveE l a k = 2 := by unfold giveE; rw [if_neg h1, if_neg h2, if_neg (by show ¬ fullB l a k = true; rw [hf]; decide)]
        have e2 : giveL l a k = l := by unfold giveL; rw [e1]; rfl
        rw [e1, e2]
        exact (rgive_no g c l n a k w h hn hl (by omega) (by omega) (by omega) hf).mono fun e w' hw => by obtain ⟨rfl, rfl⟩ := hw; exact ⟨rfl, h, Upd.refl _ _⟩
theorem runZ_low {l : List Bool} {i k : Int} (hk : 1 ≤ k) : runZ l i k = -1 ∨ ∃ a : Nat, runZ l i k = a := by
  rcases isRun_runZ l i k hk with ⟨h, _⟩ | ⟨a, h, _⟩
  · exact .inl h
  · exact .inr ⟨a, h⟩
theorem ptake_any (q p g : Nat) (l : List Bool) (k : Int) (w : World) (h : IsPages w q p g l) (hl : l.length ≤ 256) (BK : k ≤ 9223372036854775807) :
    Calls Try.prog 50 #[.pointer (some ⟨q, 0, none⟩), .int .i64 k] w fun e w' => e = .returned (.tuple #[.int .i64 (takeN l k), .int .i64 (takeE l k)]) ∧ IsPages w' q p g (takeL l k) ∧ Upd [g] w w' := by
  by_cases h1 : k < 1
  · have e1 : takeE l k = 1 := if_pos h1
    have e0 : takeN l k = 0 := if_pos h1
    have e2 : takeL l k = l := by unfold takeL; rw [e1]; rfl
    rw [e1, e2, e0]
    exact (ptake_arg q k w h1).mono fun e w' hw => by obtain ⟨rfl, rfl⟩ := hw; exact ⟨rfl, h, Upd.refl _ _⟩
  · rcases runZ_low (l := l) (i := 0) (k := k) (by omega) with hr | ⟨a, hr⟩
    · have e1 : takeE l k = 3 := by unfold takeE; rw [if_neg h1, if_pos (by omega)]
      have e0 : takeN l k = 0 := by unfold takeN; rw [if_neg h1, if_pos (by omega)]
      have e2 : takeL l k = l := by unfold takeL; rw [e1]; rfl
      rw [e1, e2, e0]
      exact (ptake_no q p g l k w h hl (by omega) BK hr).mono fun e w' hw => by obtain ⟨rfl, rfl⟩ := hw; exact ⟨rfl, h, Upd.refl _ _⟩
    · obtain ⟨k, rfl⟩ := Int.eq_ofNat_of_zero_le (show 0 ≤ k by omega)
      have e1 : takeE l k = 0 := by unfold takeE; rw [if_neg h1, if_neg (by omega)]
      have e0 : takeN l k = a := by unfold takeN; rw [if_neg h1, if_neg (by omega), hr]
      have e2 : takeL l k = span l true a k := by unfold takeL; rw [e1, e0]; rfl
      rw [e1, e2, e0]
      exact ptake_yes q p g l k a w h hl (by omega) hr
theorem rtake_any (g c n : Nat) (l : List Bool) (k : Int) (w : World) (h : Blk w g 4 (bools l)) (hn : l.length = n) (hl : n ≤ 256) :
    Calls Try.prog 56 #[.slice (some ⟨g, 0, none⟩) n c, .int .i64 k] w fun e w' => e = .returned (.agg #[.int .i64 (takeN l k), .int .i64 (takeE l k)]) ∧ Blk w' g 4 (bools (takeL l k)) ∧ Upd [g] w w' := by
  by_cases h1 : k < 1
  · have e1 : takeE l k = 1 := if_pos h1
    have e0 : takeN l k = 0 := if_pos h1
    have e2 : takeL l k = l := by unfold takeL; rw [e1]; rfl
    rw [e1, e2, e0]
    exact (rtake_arg _ n c k w h1).mono fun e w' hw => by obtain ⟨rfl, hu⟩ := hw; exact ⟨rfl, h.upd hu (by simp), hu.mono (by simp)⟩
  · rcases runZ_low (l := l) (i := 0) (k := k) (by omega) with hr | ⟨a, hr⟩
    · have e1 : takeE l k = 3 := by unfold takeE; rw [if_neg h1, if_pos (by omega)]
      have e0 : takeN l k = 0 := by unfold takeN; rw [if_neg h1, if_pos (by omega)]
      have e2 : takeL l k = l := by unfold takeL; rw [e1]; rfl
      rw [e1, e2, e0]
      exact (rtake_no g c l n k w h hn hl (by omega) hr).mono fun e w' hw => by obtain ⟨rfl, hu⟩ := hw; exact ⟨rfl, h.upd hu (by simp), hu.mono (by simp)⟩
    · obtain ⟨k, rfl⟩ := Int.eq_ofNat_of_zero_le (show 0 ≤ k by omega)
      have e1 : takeE l k = 0 := by unfold takeE; rw [if_neg h1, if_neg (by omega)]
      have e0 : takeN l k = a := by unfold takeN; rw [if_neg h1, if_neg (by omega), hr]
      have e2 : takeL l k = span l true a k := by unfold takeL; rw [e1, e0]; rfl
      rw [e1, e2, e0]
      exact rtake_yes g c l n k a w h hn hl (by omega) hr

def Asks3 (w : World) (A : Option Addr) (len : Nat) : Prop := len = 0 ∨ ∃ b off, A = some ⟨b, off, none⟩ ∧ b < w.heap.size ∧ ∀ k, k < len → ∃ g x y, PAskAt w b (off + k * 3) g x y

set_option maxRecDepth 100000 in
theorem pruns_no (n : Int) (A : Option Addr) (len cap : Nat) (w : World) (h : n < 1 ∨ 256 < n) :
    Calls Try.prog 18 #[.int .i64 n, .slice A len cap] w fun e w' => e = .returned (.bool true) ∧ Below w.heap.size w w' := by
  have hn := pages_new_no n w h
  have HN := Lib.hid hn
  clear hn
  rcases h with h | h
  · go_enter Try.func18, Try.ntmps18
    go_wp2_with fail
    refine (HN.out).mono ?_
    rintro e w' ⟨rfl, rfl⟩
    go_wp2_with fail
    refine (err1 _).mono ?_
    rintro e w' ⟨rfl, rfl⟩
    go_wp2_with fail
    refine (awake3_calls _).mono ?_
    rintro e w6 ⟨rfl, hb⟩
    have HB := Lib.hid hb
    clear hb
    go_wp2_with fail
    go_ret
    exact ⟨rfl, HB.out⟩
  · have h' : ¬ n < 1 := by omega
    go_enter Try.func18, Try.ntmps18
    go_wp2_with fail
    refine (HN.out).mono ?_
    rintro e w' ⟨rfl, rfl⟩
    go_wp2_with fail
    refine (err1 _).mono ?_
    rintro e w' ⟨rfl, rfl⟩
    go_wp2_with fail
    refine (awake3_calls _).mono ?_
    rintro e w6 ⟨rfl, hb⟩
    have HB := Lib.hid hb
    clear hb
    go_wp2_with fail
    go_ret
    exact ⟨rfl, HB.out⟩

set_option maxRecDepth 100000 in
set_option maxHeartbeats 8000000 in
theorem pruns_yes (n : Nat) (A : Option Addr) (len cap : Nat) (w : World) (h1 : 1 ≤ n) (h2 : n ≤ 256) (hA : Asks3 w A len) :
    Calls Try.prog 18 #[.int .i64 n, .slice A len cap] w fun e w' => e = .returned (.bool true) ∧ Below w.heap.size w w' := by
  have HA := Lib.hid hA
  have N1 := fun w => pages_new_fill n w h1 h2
  have N2 := fun w => refnew_calls n w h1 h2
  have HN1 := Lib.hid N1
  have HN2 := Lib.hid N2
  clear hA N1 N2
  go_enter Try.func18, Try.ntmps18
  go_wp2_with fail
  refine (HN1.out _).mono ?_
  rintro e w1 ⟨q, p, g, rfl, hA, hq, hp, hg, hb⟩
  have c0 : w1.cell? ⟨q, 0, none⟩ = some (.pointer (some ⟨p, 0, none⟩)) := hA.1.cell 0
  have H := Lib.hid hA
  have HB := Lib.hid hb
  have HG := Lib.hid hg
  clear hA hb hq hp hg
  go_wp2_with fail
  refine (err0 _).mono ?_
  rintro e w' ⟨rfl, rfl⟩
  go_wp2_with fail
  refine (HN2.out _).mono ?_
  rintro e w2 ⟨f, rfl, hf, hfw, hu⟩
  have HH2 := Lib.hid (H.out.upd hu (by simp) (by simp) (by simp))
  have HR2 := Lib.hid hf
  have HU2 := Lib.hid ((Upd.of_below HB.out : Upd [] w w1).step hu (by simp))
  have HF : Hid (f ≠ g ∧ f ≠ p ∧ f ≠ q ∧ w.heap.size ≤ f) := Lib.hid ⟨by have := H.out.2.2.lt; omega, by have := H.out.2.1.lt; omega, by have := H.out.1.lt; omega, by have := HB.out.size; omega⟩
  have HL2 : Hid ((fillB n 1).length = n) := Lib.hid (fillB_length h1)
  obtain ⟨L0, hL0⟩ : ∃ L0, fillB n 1 = L0 := ⟨_, rfl⟩
  rw [hL0] at HH2 HR2 HL2
  clear hf hfw hu c0 H HB hL0 HN1 HN2
  go_upto_block 0 with fail
  go_cut [8, 9, 10, 11] (fun _ _ _ _ wx => ∃ L : List Bool, Hid (L.length = n) ∧ Hid (IsPages wx q p g L) ∧ Hid (Blk wx f 4 (bools L)) ∧ Hid (Upd [] w wx))
  case first =>
    go_wp2_with fail
    go_loopg [8] len (fun gk i wr => ∃ (j : Nat) (L : List Bool), gk = len - j ∧ j ≤ len ∧ j ≤ 60 ∧ i = .int .i64 j ∧ Hid (L.length = n) ∧ Hid (IsPages wr q p g L) ∧ Hid (Blk wr f 4 (bools L)) ∧ Hid (Upd [] w wr))
    case atStart => exact ⟨0, L0, rfl, by omega, by omega, rfl, HL2, HH2, HR2, HU2⟩
    case round =>
      clear HL2 HH2 HR2 HU2 L0
      obtain ⟨j, L, rfl, hj, hj60, rfl, HL, HP, HR, HU⟩ := hrel
      by_cases hlt : j < len
      · by_cases h60 : j < 60
        · obtain ⟨b, off, rfl, hbw, hF⟩ : ∃ b off, A = some ⟨b, off, none⟩ ∧ b < w.heap.size ∧ ∀ k, k < len → ∃ g x y, PAskAt w b (off + k * 3) g x y := by
            rcases HA.out with h0 | h0
            · omega
            · exact h0
          obtain ⟨t, x, y, hr⟩ := hF j hlt
          have c0 := (HU.out.cell (p := ⟨b, off + j * 3, none⟩) hbw (by simp)).trans hr.c0
          have c1 := (HU.out.cell (p := ⟨b, off + j * 3 + 1, none⟩) hbw (by simp)).trans hr.c1
          have c2 := (HU.out.cell (p := ⟨b, off + j * 3 + 2, none⟩) hbw (by simp)).trans hr.c2
          have HQ := Lib.hid hr
          have HBW := Lib.hid hbw
          clear hr hF hbw
          have HLL : Hid (L.length ≤ 256) := Lib.hid (by rw [HL.out]; exact h2)
          go_upto_if 64 with fail
          go_cut [9, 10, 11] (fun _ _ _ wx => ∃ L' : List Bool, Hid (L'.length = n) ∧ Hid (IsPages wx q p g L') ∧ Hid (Blk wx f 4 (bools L')) ∧ Hid (Upd [] w wx))
          case first =>
            cases t with
            | true =>
              go_upto_region 11 with fail
              have HE : Hid (0 ≤ giveE L x y ∧ giveE L x y ≤ 7) := Lib.hid (giveE_range L x y)
              have hd0 : wr.drew.cell? ⟨b, off + j * 3 + 1, none⟩ = some (.int .i64 x) := c1
              have hd1 : wr.drew.cell? ⟨b, off + j * 3 + 2, none⟩ = some (.int .i64 y) := c2
              go_region_held3 (fun w' => w'.cell? ⟨b, off + j * 3 + 1, none⟩ = some (.int .i64 x) ∧ w'.cell? ⟨b, off + j * 3 + 2, none⟩ = some (.int .i64 y))
                (first | exact ⟨hd0, hd1⟩ | exact ⟨e0, e1⟩ | exact ⟨f0, f1⟩)
                (first
                  | (go_at_call 53; refine (pgive_any q p g L x y _ (show IsPages wr.drew q p g L from HP.out) HLL.out).mono ?_; rintro e w4 ⟨rfl, hp, hu⟩
                     have e0 := (hu.cell (p := ⟨b, off + j * 3 + 1, none⟩) (World.block_lt_of_cell? _ _ hd0) (show b ∉ [g] by have := HG.out; have := HBW.out; simp; omega)).trans hd0
                     have e1 := (hu.cell (p := ⟨b, off + j * 3 + 2, none⟩) (World.block_lt_of_cell? _ _ hd1) (show b ∉ [g] by have := HG.out; have := HBW.out; simp; omega)).trans hd1
                     have HR4 := Lib.hid ((show Blk wr.drew f 4 (bools L) from HR.out).upd hu (show f ∉ [g] by have := HF.out; simp; omega))
                     have HP4 := Lib.hid hp
                     have HU4 := Lib.hid (HU.out.drew.step hu (by have := HG.out; simp; omega))
                     clear hp hu)
                  | (go_at_call 22; refine (err_calls _ _ HE.out).mono ?_; rintro e w' ⟨rfl, rfl⟩)
                  | (go_at_call 55; refine (rgive_any f n n L x y _ HR4.out HL.out h2).mono ?_; rintro e w5 ⟨rfl, hp, hu⟩
                     have f0 := (hu.cell (p := ⟨b, off + j * 3 + 1, none⟩) (World.block_lt_of_cell? _ _ e0) (show b ∉ [f] by have := HF.out; have := HBW.out; simp; omega)).trans e0
                     have f1 := (hu.cell (p := ⟨b, off + j * 3 + 2, none⟩) (World.block_lt_of_cell? _ _ e1) (show b ∉ [f] by have := HF.out; have := HBW.out; simp; omega)).trans e1
                     have HR5 := Lib.hid hp
                     have HP5 := Lib.hid (HP4.out.upd hu (show q ∉ [f] by have := HF.out; simp; omega) (show p ∉ [f] by have := HF.out; simp; omega) (show g ∉ [f] by have := HF.out; simp; omega))
                     have HU5 := Lib.hid (HU4.out.step hu (by have := HF.out; simp; omega))
                     clear hp hu))
              all_goals
                go_wp2_with fail
                go_meet
                exact ⟨giveL L x y, Lib.hid (by rw [giveL_length, HL.out]), HP5, HR5, HU5⟩
            | false =>
              have BY := Lib.hid HQ.out.K
              have HE : Hid (0 ≤ takeE L y ∧ takeE L y ≤ 7) := Lib.hid (takeE_range L y)
              go_wp2_with fail
              refine (ptake_any q p g L y _ HP.out HLL.out BY.out.2).mono ?_
              rintro e w4 ⟨rfl, hp, hu⟩
              have e1 := (hu.cell (p := ⟨b, off + j * 3 + 2, none⟩) (World.block_lt_of_cell? _ _ c2) (show b ∉ [g] by have := HG.out; have := HBW.out; simp; omega)).trans c2
              have HR4 := Lib.hid (HR.out.upd hu (show f ∉ [g] by have := HF.out; simp; omega))
              have HP4 := Lib.hid hp
              have HU4 := Lib.hid (HU.out.step hu (by have := HG.out; simp; omega))
              clear hp hu
              go_wp2_with fail
              refine (rtake_any f n n L y _ HR4.out HL.out h2).mono ?_
              rintro e w5 ⟨rfl, hp, hu⟩
              have HR5 := Lib.hid hp
              have HP5 := Lib.hid (HP4.out.upd hu (show q ∉ [f] by have := HF.out; simp; omega) (show p ∉ [f] by have := HF.out; simp; omega) (show g ∉ [f] by have := HF.out; simp; omega))
              have HU5 := Lib.hid (HU4.out.step hu (by have := HF.out; simp; omega))
              clear hp hu
              go_upto_region 15 with fail
              have hd0 : (w5.alloc (.cells #[.int .i64 (takeN L y), .int .i64 (takeE L y)] 83)).drew.cell? ⟨w5.heap.size, 0, none⟩ = some (.int .i64 (takeN L y)) := (Blk.new w5 83 #[.int .i64 (takeN L y), .int .i64 (takeE L y)]).cell 0
              have hd1 : (w5.alloc (.cells #[.int .i64 (takeN L y), .int .i64 (takeE L y)] 83)).drew.cell? ⟨w5.heap.size, 1, none⟩ = some (.int .i64 (takeE L y)) := (Blk.new w5 83 #[.int .i64 (takeN L y), .int .i64 (takeE L y)]).cell 1
              have hR6 : Blk (w5.alloc (.cells #[.int .i64 (takeN L y), .int .i64 (takeE L y)] 83)).drew f 4 (bools (takeL L y)) := HR5.out.alloc _
              have hP6 : IsPages (w5.alloc (.cells #[.int .i64 (takeN L y), .int .i64 (takeE L y)] 83)).drew q p g (takeL L y) := HP5.out.upd (E := []) ((Upd.refl [] w5).alloc _).drew (by simp) (by simp) (by simp)
              have hU6 : Upd [] w (w5.alloc (.cells #[.int .i64 (takeN L y), .int .i64 (takeE L y)] 83)).drew := (HU5.out.alloc _).drew
              have HR6 := Lib.hid hR6
              have HP6 := Lib.hid hP6
              have HU6 := Lib.hid hU6
              have HT : Hid ((takeL L y).length = n) := Lib.hid (by rw [takeL_length, HL.out])
              clear hR6 hP6 hU6
              go_region_held3 (fun w' => w'.cell? ⟨w5.heap.size, 0, none⟩ = some (.int .i64 (takeN L y)) ∧ w'.cell? ⟨w5.heap.size, 1, none⟩ = some (.int .i64 (takeE L y)))
                (first | exact ⟨hd0, hd1⟩)
                (first
                  | (go_at_call 22; refine (err_calls _ _ HE.out).mono ?_; rintro e w' ⟨rfl, rfl⟩))
              all_goals
                go_wp2_with fail
                go_meet
                exact ⟨takeL L y, HT, HP6, HR6, HU6⟩
          case rest =>
            clear HL HP HR HU HLL
            obtain ⟨L', HL, HP, HR, HU⟩ := hcut
            have hleft := left_any q p g L' wc HP.out (by rw [HL.out]; exact h2)
            rw [HL.out] at hleft
            have HLEFT := Lib.hid hleft
            have HCL := Lib.hid (HL.out ▸ countB_le L')
            clear hleft
            go_wp2_with fail
            refine (HLEFT.out).mono ?_
            rintro e w' ⟨rfl, n1, rfl⟩
            have hP3 : IsPages (wc.drewN n1) q p g L' := HP.out
            have hR3 : Blk (wc.drewN n1) f 4 (bools L') := HR.out
            have hU3 : Upd [] w (wc.drewN n1) := HU.out.drewN n1
            obtain ⟨w3, hw3⟩ : ∃ w3, wc.drewN n1 = w3 := ⟨_, rfl⟩
            rw [hw3] at hP3 hR3 hU3 ⊢
            have hcn := ref_count f n L' w3 hR3 (by rw [HL.out]; omega)
            rw [HL.out] at hcn
            have HCN := Lib.hid hcn
            have HP3 := Lib.hid hP3
            have HR3 := Lib.hid hR3
            have HU3 := Lib.hid hU3
            clear hP3 hU3 hR3 hw3 hcn
            obtain ⟨z, hz⟩ : ∃ z : Nat, countB L' = z := ⟨_, rfl⟩
            rw [hz] at HCN HCL ⊢
            have hzn : z ≤ n := HCL.out
            clear hz
            go_wp2_with fail
            refine (HCN.out).mono ?_
            rintro e w' ⟨rfl, rfl⟩
            go_wp2_with fail
            go_roundg (len - (j + 1))
            case measure => omega
            case rel => exact ⟨j + 1, L', rfl, by omega, by omega, by go_num, HL, HP3, HR3, HU3⟩
        · obtain rfl : j = 60 := by omega
          go_wp2_with fail
          go_meet
          exact ⟨L, HL, HP, HR, HU⟩
      · obtain rfl : j = len := by omega
        go_wp2_with fail
        go_meet
        exact ⟨L, HL, HP, HR, HU⟩
  case rest =>
    clear HL2 HH2 HR2 HU2 L0
    obtain ⟨L, HL, HP, HR, HU⟩ := hcut
    clear HA
    obtain ⟨w4, rfl⟩ : ∃ w4 : World, w4 = wc := ⟨_, rfl⟩
    have c0 : w4.cell? ⟨q, 0, none⟩ = some (.pointer (some ⟨p, 0, none⟩)) := HP.out.1.cell 0
    go_wp2_with fail
    go_loopg [12] n (fun gk i wl => ∃ j : Nat, gk = n - j ∧ j ≤ n ∧ i = .int .i64 j ∧ w4 = wl)
    case atStart => exact ⟨0, rfl, by omega, rfl, rfl⟩
    case round =>
      obtain ⟨j, rfl, hj, rfl, rfl⟩ := hrel
      by_cases hlt : j < n
      · obtain ⟨v, hv⟩ : ∃ v, hasB L (j : Int) = v := ⟨_, rfl⟩
        have h1 := bits_has p g L j w4 HP.out.2
        have h2 := ref_has f n L j w4 HR.out
        rw [hv] at h1 h2
        rw [HL.out] at h2
        have H1 := Lib.hid h1
        have H2 := Lib.hid h2
        clear h1 h2 hv
        go_wp2_with fail
        refine (H1.out).mono ?_
        rintro e w' ⟨rfl, rfl⟩
        go_wp2_with fail
        refine (H2.out).mono ?_
        rintro e w' ⟨rfl, rfl⟩
        go_wp2_with fail
        go_roundg (n - (j + 1))
        case measure => omega
        case rel => exact ⟨j + 1, rfl, by omega, by go_num, rfl⟩
      · obtain rfl : j = n := by omega
        go_wp2_with fail
        refine (awake3_calls _).mono ?_
        rintro e w6 ⟨rfl, hb⟩
        have HE := Lib.hid (HU.out.step (Upd.of_below hb : Upd [] _ _) (by simp))
        clear hb
        go_wp2_with fail
        go_ret
        exact ⟨rfl, HE.out.below⟩

theorem pruns_all (n : Int) (A : Option Addr) (len cap : Nat) (w : World) (hA : Asks3 w A len) :
    Calls Try.prog 18 #[.int .i64 n, .slice A len cap] w fun e w' => e = .returned (.bool true) ∧ Below w.heap.size w w' := by
  by_cases hn : n < 1 ∨ 256 < n
  · exact pruns_no n A len cap w hn
  · obtain ⟨n, rfl⟩ := Int.eq_ofNat_of_zero_le (show 0 ≤ n by omega)
    exact pruns_yes n A len cap w (by omega) (by omega) hA
end Go.Proofs.Ytnphkgiiondjkaa
