/- The contracts of Find, New, Cap, and of a space that there is not. -/
import Derived.Test.YtendjhobemlhoaaSpace3
namespace Go.Proofs.Ytendjhobemlhoaa
open Go Go.RowKit

def FindVal (x : Int × Int × Bool) : Value := .tuple #[.int .i64 x.1, .int .i64 x.2.1, .bool x.2.2]
theorem find_no (s : Nat) (L : Lay) (S : Sp) (a : Int) (w : World) (h : IsSpace w s L S) (ha : a < 0 ∨ S.W.length ≤ a) :
    Calls Try.prog 60 #[.pointer (some ⟨s, 0, none⟩), .int .i64 a] w fun e w' => e = .returned (FindVal (0, 0, false)) ∧ Upd [] w w' := by
  unfold FindVal
  by_cases h0 : a < 0
  · clear ha
    go_enter Try.func60, Try.ntmps60
    go_wp2_with fail
    go_ret3
    exact ⟨rfl, Upd.refl _ _⟩
  · have h1 : (S.W.length : Int) ≤ a := by omega
    have c0 : w.cell? ⟨s, 0, none⟩ = some (.pointer (some ⟨L.pa, 0, none⟩)) := h.box.cell 0
    have H := Lib.hid h
    clear ha h
    go_enter Try.func60, Try.ntmps60
    go_wp2_with fail
    refine (arena_len L.pa L.ga S.W _ H.out.arena).mono ?_
    rintro e w' ⟨rfl, rfl⟩
    go_wp2_with fail
    go_ret3
    exact ⟨rfl, Upd.refl _ _⟩

set_option maxRecDepth 100000 in
theorem find_small (s : Nat) (L : Lay) (S : Sp) (a : Int) (p c : Nat) (l : List Bool) (w : World) (h : IsSpace w s L S) (h0 : 0 ≤ a) (ha : a < S.W.length) (hp : a / 64 = p) (hat : atP S.pg p = .small c l) (r : Bool) (hr : hasB l (a % 64 / (wordsOf c : Nat)) = r) :
    Calls Try.prog 60 #[.pointer (some ⟨s, 0, none⟩), .int .i64 a] w fun e w' => e = .returned (FindVal (if r then (a / 64 * 64 + a % 64 / (wordsOf c : Nat) * (wordsOf c : Nat), ((wordsOf c : Nat) : Int), true) else (0, 0, false))) ∧ Upd [] w w' := by
  have hpn := atP_in hat (by simp)
  obtain ⟨hc, hll⟩ := h.wf.small p c l hat
  have hwp := words_pos hc
  have hp256 : p ≤ 256 := by have := h.wf.n2; omega
  have hf : smallF L S.pg (a / 64) = some (.pointer (some ⟨(L.lay p).1, 0, none⟩)) := by rw [hp, smallF_at, hat]; rfl
  have HFF := Lib.hid hf
  have HPG := Lib.hid (h.page p c l hat)
  have HR := Lib.hid hr
  have hil : a % 64 / ((wordsOf c : Nat) : Int) ≤ 64 := Int.le_trans (Int.ediv_le_self _ (by omega)) (by omega)
  have hi0 : 0 ≤ a % 64 / ((wordsOf c : Nat) : Int) := Int.ediv_nonneg (by omega) (by omega)
  have hiw0 : 0 ≤ a % 64 / ((wordsOf c : Nat) : Int) * ((wordsOf c : Nat) : Int) := Int.mul_nonneg hi0 (by omega)
  have hiw' : a % 64 / ((wordsOf c : Nat) : Int) * ((wordsOf c : Nat) : Int) ≤ 64 := Int.le_trans (Int.ediv_mul_le _ (by omega)) (by omega)
  have hpa : a / 64 ≤ 256 := by omega
  generalize hm : wordsOf c = m at *
  have hm2 := hwp.1
  have hm3 := hwp.2
  generalize hq : (L.lay p).1 = q at *
  generalize (L.lay p).2.1 = bb at *
  generalize (L.lay p).2.2 = g at *
  clear hr hf hat hll hc hwp hm hq hp256
  have c0 : w.cell? ⟨s, 0, none⟩ = some (.pointer (some ⟨L.pa, 0, none⟩)) := h.box.cell 0
  have c2 : w.cell? ⟨s, 2, none⟩ = some (.map (some L.ms)) := h.box.cell 2
  have hp64 : ok64 (a / 64) := by have := h.wf.n2; unfold ok64; omega
  have HP64 := Lib.hid hp64
  have H := Lib.hid h
  obtain ⟨n, hn⟩ : ∃ n, S.W.length = n := ⟨_, rfl⟩
  have HN := Lib.hid hn
  rw [hn] at ha
  have HPA := Lib.hid hp
  clear h hn hp64 hpn hp
  unfold FindVal
  cases r
  · simp only [Bool.false_eq_true, if_false]
    go_enter Try.func60, Try.ntmps60
    go_wp2_with fail
    have hz := arena_len L.pa L.ga S.W _ H.out.arena
    rw [HN.out] at hz
    refine hz.mono ?_
    clear hz
    rintro e w' ⟨rfl, rfl⟩
    go_wp2_with (at_lookup; refine wpList_hit_mapv rfl _ _ 99 124 rfl Try.underlying99 H.out.small (ptrZero _) rdV_nil rfl (a / 64) HP64.out rfl _ HFF.out ?_)
    go_wp2_with fail
    refine (words_any q bb g m l _ HPG.out).mono ?_
    rintro e w' ⟨rfl, rfl⟩
    have d0 : w.cell? ⟨q, 0, none⟩ = some (.pointer (some ⟨bb, 0, none⟩)) := HPG.out.1.cell 0
    go_wp2_with fail
    have hq := bits_has bb g l (a % 64 / (m : Int)) _ HPG.out.2
    rw [HR.out] at hq
    refine hq.mono ?_
    rintro e w' ⟨rfl, rfl⟩
    clear hq
    go_wp2_with fail
    go_ret3
    exact ⟨rfl, Upd.refl _ _⟩
  · simp only [if_true]
    go_enter Try.func60, Try.ntmps60
    go_wp2_with fail
    have hz := arena_len L.pa L.ga S.W _ H.out.arena
    rw [HN.out] at hz
    refine hz.mono ?_
    clear hz
    rintro e w' ⟨rfl, rfl⟩
    go_wp2_with (at_lookup; refine wpList_hit_mapv rfl _ _ 99 124 rfl Try.underlying99 H.out.small (ptrZero _) rdV_nil rfl (a / 64) HP64.out rfl _ HFF.out ?_)
    go_wp2_with fail
    refine (words_any q bb g m l _ HPG.out).mono ?_
    rintro e w' ⟨rfl, rfl⟩
    have d0 : w.cell? ⟨q, 0, none⟩ = some (.pointer (some ⟨bb, 0, none⟩)) := HPG.out.1.cell 0
    go_wp2_with fail
    have hq := bits_has bb g l (a % 64 / (m : Int)) _ HPG.out.2
    rw [HR.out] at hq
    refine hq.mono ?_
    rintro e w' ⟨rfl, rfl⟩
    clear hq
    go_wp2_with fail
    refine (words_any q bb g m l _ HPG.out).mono ?_
    rintro e w' ⟨rfl, rfl⟩
    go_wp2_with fail
    refine (words_any q bb g m l _ HPG.out).mono ?_
    rintro e w' ⟨rfl, rfl⟩
    go_wp2_with fail
    go_ret3
    exact ⟨rfl, Upd.refl _ _⟩

/-- The larger block over a page: its first page and its pages. -/
def LargeAt (pg : List Pst) (p : Nat) (f k : Nat) : Prop := atP pg f = .first k ∧ f ≤ p ∧ p < f + k
def NoLarge (pg : List Pst) (p : Nat) : Prop := ∀ f k, atP pg f = .first k → ¬ (f ≤ p ∧ p < f + k)
theorem large_one {S : Sp} (h : S.WF) {p f k f' k' : Nat} (h1 : LargeAt S.pg p f k) (h2 : LargeAt S.pg p f' k') : f = f' ∧ k = k' := by
  obtain ⟨a1, a2, a3⟩ := h1
  obtain ⟨b1, b2, b3⟩ := h2
  obtain ⟨_, _, hr⟩ := h.first f k a1
  obtain ⟨_, _, hr'⟩ := h.first f' k' b1
  rcases Nat.lt_trichotomy f f' with h3 | rfl | h3
  · have := hr f' h3 (by omega)
    rw [b1] at this; cases this
  · rw [a1] at b1; injection b1 with b1; exact ⟨rfl, b1⟩
  · have := hr' f h3 (by omega)
    rw [a1] at this; cases this

set_option maxRecDepth 100000 in
set_option maxHeartbeats 800000 in
theorem find_large (s : Nat) (L : Lay) (S : Sp) (a : Int) (p : Nat) (w : World) (h : IsSpace w s L S) (h0 : 0 ≤ a) (ha : a < S.W.length) (hp : a / 64 = p) (hns : ∀ c l, atP S.pg p ≠ .small c l) :
    Calls Try.prog 60 #[.pointer (some ⟨s, 0, none⟩), .int .i64 a] w fun e w' => ((∃ f k, LargeAt S.pg p f k ∧ e = .returned (FindVal ((f : Int) * 64, (k : Int) * 64, true))) ∨ (NoLarge S.pg p ∧ e = .returned (FindVal (0, 0, false)))) ∧ Upd [] w w' := by
  have hpn : p < S.pg.length := by have := h.wf.len; omega
  have hp256 : p ≤ 256 := by have := h.wf.n2; omega
  have hpa : a / 64 ≤ 256 := by omega
  have hf : smallF L S.pg (a / 64) = none := by
    rw [hp, smallF_at]
    cases hx : atP S.pg p <;> try rfl
    exact absurd hx (hns _ _)
  have HFF := Lib.hid hf
  have c3 : w.cell? ⟨s, 3, none⟩ = some (.map (some L.ml)) := h.box.cell 3
  clear hf hns
  have c0 : w.cell? ⟨s, 0, none⟩ = some (.pointer (some ⟨L.pa, 0, none⟩)) := h.box.cell 0
  have c2 : w.cell? ⟨s, 2, none⟩ = some (.map (some L.ms)) := h.box.cell 2
  have hp64 : ok64 (a / 64) := by have := h.wf.n2; unfold ok64; omega
  have HP64 := Lib.hid hp64
  have H := Lib.hid h
  obtain ⟨n, hn⟩ : ∃ n, S.W.length = n := ⟨_, rfl⟩
  have HN := Lib.hid hn
  rw [hn] at ha
  have HPA := Lib.hid hp
  clear h hn hp64 hpn hp
  unfold FindVal
  go_enter Try.func60, Try.ntmps60
  go_wp2_with fail
  have hz := arena_len L.pa L.ga S.W _ H.out.arena
  rw [HN.out] at hz
  refine hz.mono ?_
  clear hz
  rintro e w' ⟨rfl, rfl⟩
  go_wp2_with (first
    | (at_lookup; refine wpList_miss_mapv rfl _ _ 99 124 rfl Try.underlying99 H.out.small (ptrZero _) rdV_nil rfl (a / 64) HP64.out rfl HFF.out ?_)
    | (at_range; refine wpList_range_mapv rfl _ 100 3 rfl Try.underlying100 H.out.large rfl ?_; intro w1 cnt hit hu hsz))
  have HIT := Lib.hid hit
  have HU := Lib.hid hu
  clear hit hu hsz
  go_frame
  obtain ⟨r, hr⟩ : ∃ r, w.heap.size = r := ⟨_, rfl⟩
  rw [hr]
  rw [hr] at HIT
  have HRR := Lib.hid hr
  clear hr
  go_loopg [] cnt (fun gk wr => ∃ left, Hid (MapIt wr L.ml r 256 (largeF S.pg) left gk) ∧ Hid (Upd [] w wr) ∧ Hid (∀ f k, atP S.pg f = .first k → left f = false → ¬ (f ≤ p ∧ p < f + k)))
  case atStart => exact ⟨_, HIT, HU, Lib.hid (fun f k hf hl => by rw [largeF_at, hf] at hl; cases hl)⟩
  case round =>
    obtain ⟨left, HI, HW, HP⟩ := hrel
    go_wp2_with (at_next; refine wpList_next_mapv rfl _ rfl r left _ rfl HI.out ?_ ?_)
    · intro _ hleft
      have HNO : Hid (NoLarge S.pg p) := Lib.hid (fun f k hf => HP.out f k hf (hleft f))
      clear hleft
      go_wp2_with fail
      go_ret3
      exact ⟨.inr ⟨HNO.out, rfl⟩, HW.out⟩
    · intro x v w2 cnt2 hlx hfx hok hit2 hlt hu2 hs2 hen
      obtain ⟨f, k, rfl, hfn, hfa⟩ := largeF_in (by rw [hfx]; simp)
      have hv : v = .int .i64 k := by rw [largeF_at, hfa] at hfx; exact (Option.some.inj hfx).symm
      subst hv
      have HFA := Lib.hid hfa
      have hkf : f + k ≤ 256 := by have := (H.out.wf.first f k hfa).2.1; have := H.out.wf.n2; omega
      have HIT2 := Lib.hid hit2
      have HU2 : Hid (Upd [] w w2) := Lib.hid (HW.out.step hu2 (by intro i hi; simp at hi; subst hi; right; have := HRR.out; omega))
      clear hlx hfx hok hit2 hu2 hs2 hfa
      by_cases hin : f ≤ p ∧ p < f + k
      · obtain ⟨h1, h2⟩ := hin
        have HAT : Hid (LargeAt S.pg p f k) := Lib.hid ⟨HFA.out, h1, h2⟩
        have h1' : (f : Int) ≤ a / 64 := by have := HPA.out; omega
        have h2' : a / 64 < (f : Int) + k := by have := HPA.out; omega
        clear h1 h2
        go_wp2_with fail
        go_ret3
        exact ⟨.inl ⟨f, k, HAT.out, rfl⟩, HU2.out⟩
      · have HNOT := Lib.hid hin
        have hcase : a / 64 < (f : Int) ∨ ((f : Int) ≤ a / 64 ∧ (f : Int) + k ≤ a / 64) := by have := HPA.out; omega
        clear hin
        rcases hcase with h1 | ⟨h1, h2⟩
        all_goals
          go_wp2_with fail
          go_roundg cnt2
          case measure => omega
          case rel =>
            exact ⟨_, HIT2, HU2, Lib.hid (fun f' k' hf' hl' => by
              by_cases e : f' = f
              · subst e
                have := HFA.out
                rw [hf'] at this
                injection this with this
                subst this
                exact HNOT.out
              · refine HP.out f' k' hf' ?_
                simp only [Bool.and_eq_false_iff, Bool.not_eq_false', decide_eq_true_eq] at hl'
                rcases hl' with h | h
                · exact h
                · exact absurd (by omega) e)⟩
end Go.Proofs.Ytendjhobemlhoaa
