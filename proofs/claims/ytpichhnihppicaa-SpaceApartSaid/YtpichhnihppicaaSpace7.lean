/- The contract of Free as a function of the space's state. -/
import Derived.Test.YtpichhnihppicaaSpace6
namespace Go.Proofs.Ytpichhnihppicaa
open Go Go.RowKit

theorem free_nil (a : Int) (w : World) : Calls Try.prog 16 #[.pointer none, .int .i64 a] w fun e w' => e = .returned (.int .i64 2) ∧ w = w' := by
  have hf := fun w => find_nil a w
  unfold FindVal at hf
  go_enter Try.func16, Try.ntmps16
  go_wp2_with fail
  refine (hf _).mono ?_
  rintro e w' ⟨rfl, rfl⟩
  go_wp2_with fail
  go_ret
  exact ⟨rfl, rfl⟩
theorem free_none (s : Nat) (L : Lay) (S : Sp) (a : Int) (w : World) (h : IsSpace w s L S) (hno : (S.find a).2.2 = false ∨ (S.find a).1 ≠ a) :
    Calls Try.prog 16 #[.pointer (some ⟨s, 0, none⟩), .int .i64 a] w fun e w' => e = .returned (.int .i64 2) ∧ Upd [] w w' := by
  have hf := find_calls s L S a w h
  obtain ⟨z, hz⟩ : ∃ z, S.find a = z := ⟨_, rfl⟩
  rw [hz] at hf hno
  clear hz
  obtain ⟨x, y, b⟩ := z
  unfold FindVal at hf
  try simp only at hf
  try simp only at hno
  have HF := Lib.hid hf
  clear hf
  cases b with
  | false =>
    clear hno
    go_enter Try.func16, Try.ntmps16
    go_wp2_with fail
    refine (HF.out).mono ?_
    rintro e w1 ⟨rfl, hu⟩
    have HU := Lib.hid hu
    clear hu
    go_wp2_with fail
    go_ret
    exact ⟨rfl, HU.out⟩
  | true =>
    have hne : x ≠ a := by rcases hno with h | h; cases h; exact h
    have h1 : (x == a) = false := by simp [hne]
    have h2 : (x != a) = true := by simp [hne]
    clear hno hne
    go_enter Try.func16, Try.ntmps16
    go_wp2_with fail
    refine (HF.out).mono ?_
    rintro e w1 ⟨rfl, hu⟩
    have HU := Lib.hid hu
    clear hu
    go_wp2_with fail
    go_ret
    exact ⟨rfl, HU.out⟩

set_option maxRecDepth 100000 in
set_option maxHeartbeats 800000 in
theorem free_large (s : Nat) (L : Lay) (S : Sp) (a : Int) (p k : Nat) (y : Int) (w : World) (h : IsSpace w s L S) (hfd : S.find a = (a, y, true)) (h0 : 0 ≤ a) (hp : a / 64 = p) (hat : atP S.pg p = .first k) :
    Calls Try.prog 16 #[.pointer (some ⟨s, 0, none⟩), .int .i64 a] w fun e w' => e = .returned (.int .i64 0) ∧ After s L S ⟨S.W, clearPg S.pg p k⟩ w w' := by
  have hf := find_calls s L S a w h
  rw [hfd] at hf
  unfold FindVal at hf
  try simp only at hf
  have HF := Lib.hid hf
  have hpn := atP_in hat (by simp)
  obtain ⟨hk1, hpk, hrest⟩ := h.wf.first p k hat
  have hn2 := h.wf.n2
  have hpa : a / 64 ≤ 256 := by omega
  have hka : k ≤ 256 := by omega
  have hp64 : ok64 (a / 64) := by unfold ok64; omega
  have HP64 := Lib.hid hp64
  have hsf : smallF L S.pg (a / 64) = none := by rw [hp, smallF_at, hat]; rfl
  have hlf : largeF S.pg (a / 64) = some (.int .i64 k) := by rw [hp, largeF_at, hat]; rfl
  have HSF := Lib.hid hsf
  have HLF := Lib.hid hlf
  have hpos : 1 ≤ p := by
    rcases Nat.eq_zero_or_pos p with e | e
    · have := (h.wf.zero p).2 e
      rw [this] at hat; cases hat
    · exact e
  have hfull : fullB (bitsOf S.pg) p k = true := fullB_true.2 fun j h1 h2 => by
    rw [bits_get]
    rcases Nat.eq_or_lt_of_le h1 with rfl | h3
    · rw [hat]; rfl
    · rw [hrest j h3 h2]; rfl
  have hgive : ∀ W, IsPages W L.q0 L.b0 L.g0 (bitsOf S.pg) → Calls Try.prog 39 #[.pointer (some ⟨L.q0, 0, none⟩), .int .i64 (a / 64), .int .i64 k] W fun e w' => e = .returned (.int .i64 0) ∧ IsPages w' L.q0 L.b0 L.g0 (span (bitsOf S.pg) false p k) ∧ Upd [L.g0] W w' := fun W hW => by
    rw [hp]
    exact pgive_yes L.q0 L.b0 L.g0 (bitsOf S.pg) p k W hW (by rw [bits_length]; omega) hk1 hpos (by rw [bits_length]; omega) hfull
  have HG := Lib.hid hgive
  have HAT := Lib.hid hat
  have HP := Lib.hid (And.intro hp hpk)
  have H := Lib.hid h
  clear h hfd hf hpn hk1 hpk hrest hn2 hp64 hsf hlf hpos hfull hgive hat hp
  go_enter Try.func16, Try.ntmps16
  go_wp2_with fail
  refine (HF.out).mono ?_
  rintro e w1 ⟨rfl, hu⟩
  have hu1 : Hid (Upd [] w w1) := Lib.hid hu
  have HS := Lib.hid (H.out.upd0 hu)
  have c1 : w1.cell? ⟨s, 1, none⟩ = some (.pointer (some ⟨L.q0, 0, none⟩)) := HS.out.box.cell 1
  have c2 : w1.cell? ⟨s, 2, none⟩ = some (.map (some L.ms)) := HS.out.box.cell 2
  have c3 : w1.cell? ⟨s, 3, none⟩ = some (.map (some L.ml)) := HS.out.box.cell 3
  clear hu
  go_wp2_with (first
    | (at_lookup; refine wpList_miss_mapv rfl _ _ 28 73 rfl Try.underlying28 HS.out.small (ptrZero _) rdV_nil rfl (a / 64) HP64.out rfl HSF.out ?_)
    | (at_lookup; refine wpList_at_mapv rfl _ _ 29 3 rfl Try.underlying29 HS.out.large (intZero _) (rdV_int 0) rfl (a / 64) HP64.out rfl _ HLF.out ?_)
    | (at_delete; refine wpList_del_mapv rfl _ _ 29 3 rfl Try.underlying29 HS.out.large rfl (a / 64) HP64.out rfl ?_; intro w2 hM hu; have HM := Lib.hid hM; have HU2 := Lib.hid hu; have d1 : w2.cell? ⟨s, 1, none⟩ = some (.pointer (some ⟨L.q0, 0, none⟩)) := (hu.cell (p := ⟨s, 1, none⟩) HS.out.box.lt (by simpa using HS.out.box.ne_map HS.out.large)).trans c1; clear hM hu))
  have e1 := Lib.hid (HS.out.pages.1.ne_map HS.out.large)
  have e2 := Lib.hid (HS.out.pages.2.1.ne_map HS.out.large)
  have e3 := Lib.hid (HS.out.pages.2.2.ne_map HS.out.large)
  have HPG : Hid (IsPages w2 L.q0 L.b0 L.g0 (bitsOf S.pg)) := Lib.hid (HS.out.pages.upd HU2.out (by simpa using e1.out) (by simpa using e2.out) (by simpa using e3.out))
  go_wp2_with fail
  refine (HG.out _ HPG.out).mono ?_
  rintro e w3 ⟨rfl, hP, hu⟩
  have HP3 := Lib.hid hP
  have HU3 := Lib.hid hu
  clear hP hu
  go_wp2_with fail
  go_ret
  refine ⟨rfl, After.behind hu1.out ?_⟩
  obtain ⟨hp, hpk⟩ := HP.out
  have HA : ∀ j, atP (clearPg S.pg p k) j = if p ≤ j ∧ j < p + k then .free else atP S.pg j := fun j => atP_clear hpk
  obtain ⟨hk1, _, hrest⟩ := HS.out.wf.first p k HAT.out
  refine HS.out.turn (E := [L.ml, L.g0]) (HS.out.wf.clear HAT.out) (fun j c l hj => ?_) (fun i hi => ?_) ((HU2.out.mono (by simp)).trans (HU3.out.mono (by simp))) ?_ ?_ ?_
  · rw [HA] at hj
    split at hj
    · cases hj
    · exact hj
  · simp only [List.mem_cons, List.not_mem_nil, or_false] at hi
    rcases hi with rfl | rfl
    · exact .inr (.inr (.inl rfl))
    · exact .inl rfl
  · rw [bits_clear hpk]
    exact HP3.out
  · refine ((HS.out.small.upd HU2.out (by simpa using HS.out.apart)).upd HU3.out (by simpa using (HS.out.pages.2.2.ne_map HS.out.small).symm)).congr fun x => ?_
    unfold smallF
    split
    · rfl
    · rw [HA]
      split
      · rename_i e
        rcases Nat.eq_or_lt_of_le e.1 with e2 | e2
        · rw [← e2, HAT.out]; rfl
        · rw [hrest _ e2 e.2]; rfl
      · rfl
  · refine (HM.out.upd HU3.out (by simpa using (HS.out.pages.2.2.ne_map HS.out.large).symm)).congr fun x => ?_
    unfold setF
    by_cases e : x = a / 64
    · rw [if_pos e, e, hp, largeF_at, HA, if_pos (by omega)]; rfl
    · rw [if_neg e]
      unfold largeF
      split
      · rfl
      · rw [HA]
        split
        · rename_i e4
          rw [hrest _ (by omega) e4.2]; rfl
        · rfl

set_option maxRecDepth 100000 in
set_option maxHeartbeats 800000 in
theorem free_some (s : Nat) (L : Lay) (S : Sp) (a : Int) (p c i : Nat) (l : List Bool) (y : Int) (w : World) (h : IsSpace w s L S) (hfd : S.find a = (a, y, true)) (h0 : 0 ≤ a) (hp : a / 64 = p) (hat : atP S.pg p = .small c l) (hi : a % 64 / (wordsOf c : Nat) = i) (hhas : hasB l i = true)
    (hcnt : countB (l.set i false) ≠ 0) :
    Calls Try.prog 16 #[.pointer (some ⟨s, 0, none⟩), .int .i64 a] w fun e w' => e = .returned (.int .i64 0) ∧ After s L S ⟨S.W, S.pg.set p (.small c (l.set i false))⟩ w w' := by
  have hf := find_calls s L S a w h
  rw [hfd] at hf
  unfold FindVal at hf
  try simp only at hf
  have HF := Lib.hid hf
  have hpn := atP_in hat (by simp)
  obtain ⟨hc5, hll⟩ := h.wf.small p c l hat
  have hwp := words_pos hc5
  have hrm := room_pos hc5
  have hn2 := h.wf.n2
  have hpa : a / 64 ≤ 256 := by omega
  have hp64 : ok64 (a / 64) := by unfold ok64; omega
  have HP64 := Lib.hid hp64
  have hsf : smallF L S.pg (a / 64) = some (.pointer (some ⟨(L.lay p).1, 0, none⟩)) := by rw [hp, smallF_at, hat]; rfl
  have HSF := Lib.hid hsf
  have HPAGE := Lib.hid (h.page p c l hat)
  have HLL : Hid (l.length ≤ 16384) := Lib.hid (by omega)
  have hil : i < l.length := by
    rcases Nat.lt_or_ge i l.length with h1 | h1
    · exact h1
    · rw [hasB_no (.inr (by omega))] at hhas; cases hhas
  generalize hm : wordsOf c = m at *
  have hm2 := hwp.1
  have hm3 := hwp.2
  have hi0 : 0 ≤ a % 64 / (m : Int) := by omega
  have hi1 : a % 64 / (m : Int) ≤ 64 := by omega
  have hgv : ∀ W, IsPage W (L.lay p).1 (L.lay p).2.1 (L.lay p).2.2 m l → Calls Try.prog 40 #[.pointer (some ⟨(L.lay p).1, 0, none⟩), .int .i64 (a % 64 / (m : Int))] W fun e w' => e = .returned (.int .i64 0) ∧ IsPage w' (L.lay p).1 (L.lay p).2.1 (L.lay p).2.2 m (l.set i false) ∧ Upd [(L.lay p).2.2] W w' := fun W hW => by
    rw [hi]
    exact give_yes _ _ _ m l i W hW hhas hil
  have HGV := Lib.hid hgv
  have HAT := Lib.hid hat
  have HP := Lib.hid hp
  have HM2 := Lib.hid hm
  have H := Lib.hid h
  have HCNT := Lib.hid (show decide (countB (l.set i false) = 0) = false by simp [hcnt])
  clear h hfd hf hpn hc5 hll hwp hrm hn2 hp64 hsf hil hgv hat hp hm hi hhas hcnt
  go_enter Try.func16, Try.ntmps16
  go_wp2_with fail
  refine (HF.out).mono ?_
  rintro e w1 ⟨rfl, hu⟩
  have hu1 : Hid (Upd [] w w1) := Lib.hid hu
  have HS := Lib.hid (H.out.upd0 hu)
  have c1 : w1.cell? ⟨s, 1, none⟩ = some (.pointer (some ⟨L.q0, 0, none⟩)) := HS.out.box.cell 1
  have c2 : w1.cell? ⟨s, 2, none⟩ = some (.map (some L.ms)) := HS.out.box.cell 2
  have c3 : w1.cell? ⟨s, 3, none⟩ = some (.map (some L.ml)) := HS.out.box.cell 3
  clear hu
  go_wp2_with (at_lookup; refine wpList_hit_mapv rfl _ _ 28 73 rfl Try.underlying28 HS.out.small (ptrZero _) rdV_nil rfl (a / 64) HP64.out rfl _ HSF.out ?_)
  have HPG1 : Hid (IsPage w1 (L.lay p).1 (L.lay p).2.1 (L.lay p).2.2 m l) := Lib.hid (HPAGE.out.upd hu1.out (by simp) (by simp) (by simp))
  go_wp2_with fail
  refine (words_any (L.lay p).1 (L.lay p).2.1 (L.lay p).2.2 m l _ HPG1.out).mono ?_
  rintro e w' ⟨rfl, rfl⟩
  go_wp2_with fail
  refine (HGV.out _ HPG1.out).mono ?_
  rintro e w2 ⟨rfl, hP, hu⟩
  have HP2 := Lib.hid hP
  have HU2 := Lib.hid hu
  have ng : ∀ (g : Nat) (t : TypeId) (cs : Array Value), Blk w1 g t cs → t ≠ 4 → g ∉ [(L.lay p).2.2] := fun g t cs hb' hne => by simpa using hb'.ne_ HPG1.out.2.2 hne
  have d1 : w2.cell? ⟨s, 1, none⟩ = some (.pointer (some ⟨L.q0, 0, none⟩)) := (hu.cell (p := ⟨s, 1, none⟩) HS.out.box.lt (ng _ _ _ HS.out.box (by decide))).trans c1
  have d2 : w2.cell? ⟨s, 2, none⟩ = some (.map (some L.ms)) := (hu.cell (p := ⟨s, 2, none⟩) HS.out.box.lt (ng _ _ _ HS.out.box (by decide))).trans c2
  have HNG := Lib.hid ng
  clear hP hu ng c1 c2 c3
  go_wp2_with fail
  have hq := empty_any (L.lay p).1 (L.lay p).2.1 (L.lay p).2.2 m (l.set i false) _ HP2.out (by rw [List.length_set]; exact HLL.out)
  rw [HCNT.out] at hq
  refine hq.mono ?_
  rintro e w' ⟨rfl, rfl⟩
  clear hq
  go_wp2_with fail
  go_ret
  exact ⟨rfl, After.behind hu1.out (HS.out.bits HAT.out (by rw [HM2.out]; exact HP2.out) (by simp) HU2.out)⟩
set_option maxRecDepth 100000 in
set_option maxHeartbeats 800000 in
theorem free_last (s : Nat) (L : Lay) (S : Sp) (a : Int) (p c i : Nat) (l : List Bool) (y : Int) (w : World) (h : IsSpace w s L S) (hfd : S.find a = (a, y, true)) (h0 : 0 ≤ a) (hp : a / 64 = p) (hat : atP S.pg p = .small c l) (hi : a % 64 / (wordsOf c : Nat) = i) (hhas : hasB l i = true)
    (hcnt : countB (l.set i false) = 0) :
    Calls Try.prog 16 #[.pointer (some ⟨s, 0, none⟩), .int .i64 a] w fun e w' => e = .returned (.int .i64 0) ∧ After s L S ⟨S.W, S.pg.set p .free⟩ w w' := by
  have hf := find_calls s L S a w h
  rw [hfd] at hf
  unfold FindVal at hf
  try simp only at hf
  have HF := Lib.hid hf
  have hpn := atP_in hat (by simp)
  obtain ⟨hc5, hll⟩ := h.wf.small p c l hat
  have hwp := words_pos hc5
  have hrm := room_pos hc5
  have hn2 := h.wf.n2
  have hpa : a / 64 ≤ 256 := by omega
  have hp64 : ok64 (a / 64) := by unfold ok64; omega
  have HP64 := Lib.hid hp64
  have hsf : smallF L S.pg (a / 64) = some (.pointer (some ⟨(L.lay p).1, 0, none⟩)) := by rw [hp, smallF_at, hat]; rfl
  have HSF := Lib.hid hsf
  have HPAGE := Lib.hid (h.page p c l hat)
  have HLL : Hid (l.length ≤ 16384) := Lib.hid (by omega)
  have hil : i < l.length := by
    rcases Nat.lt_or_ge i l.length with h1 | h1
    · exact h1
    · rw [hasB_no (.inr (by omega))] at hhas; cases hhas
  generalize hm : wordsOf c = m at *
  have hm2 := hwp.1
  have hm3 := hwp.2
  have hi0 : 0 ≤ a % 64 / (m : Int) := by omega
  have hi1 : a % 64 / (m : Int) ≤ 64 := by omega
  have hgv : ∀ W, IsPage W (L.lay p).1 (L.lay p).2.1 (L.lay p).2.2 m l → Calls Try.prog 40 #[.pointer (some ⟨(L.lay p).1, 0, none⟩), .int .i64 (a % 64 / (m : Int))] W fun e w' => e = .returned (.int .i64 0) ∧ IsPage w' (L.lay p).1 (L.lay p).2.1 (L.lay p).2.2 m (l.set i false) ∧ Upd [(L.lay p).2.2] W w' := fun W hW => by
    rw [hi]
    exact give_yes _ _ _ m l i W hW hhas hil
  have HGV := Lib.hid hgv
  have HAT := Lib.hid hat
  have HP := Lib.hid hp
  have HM2 := Lib.hid hm
  have H := Lib.hid h
  have HCNT := Lib.hid (show decide (countB (l.set i false) = 0) = true by simp [hcnt])
  have hpos : 1 ≤ p := by
    rcases Nat.eq_zero_or_pos p with e | e
    · have := (h.wf.zero p).2 e
      rw [this] at hat; cases hat
    · exact e
  have hfull : fullB (bitsOf S.pg) p 1 = true := fullB_true.2 fun j h1 h2 => by
    obtain rfl : j = p := by omega
    rw [bits_get, hat]; rfl
  have hgive : ∀ W, IsPages W L.q0 L.b0 L.g0 (bitsOf S.pg) → Calls Try.prog 39 #[.pointer (some ⟨L.q0, 0, none⟩), .int .i64 (a / 64), .int .i64 1] W fun e w' => e = .returned (.int .i64 0) ∧ IsPages w' L.q0 L.b0 L.g0 (span (bitsOf S.pg) false p 1) ∧ Upd [L.g0] W w' := fun W hW => by
    rw [hp]
    exact pgive_yes L.q0 L.b0 L.g0 (bitsOf S.pg) p 1 W hW (by rw [bits_length]; omega) (by omega) hpos (by rw [bits_length]; omega) hfull
  have HG := Lib.hid hgive
  have HPN := Lib.hid hpn
  clear h hfd hf hpn hc5 hll hwp hrm hn2 hp64 hsf hil hgv hat hp hm hi hhas hcnt hpos hfull hgive
  go_enter Try.func16, Try.ntmps16
  go_wp2_with fail
  refine (HF.out).mono ?_
  rintro e w1 ⟨rfl, hu⟩
  have hu1 : Hid (Upd [] w w1) := Lib.hid hu
  have HS := Lib.hid (H.out.upd0 hu)
  have c1 : w1.cell? ⟨s, 1, none⟩ = some (.pointer (some ⟨L.q0, 0, none⟩)) := HS.out.box.cell 1
  have c2 : w1.cell? ⟨s, 2, none⟩ = some (.map (some L.ms)) := HS.out.box.cell 2
  have c3 : w1.cell? ⟨s, 3, none⟩ = some (.map (some L.ml)) := HS.out.box.cell 3
  clear hu
  go_wp2_with (at_lookup; refine wpList_hit_mapv rfl _ _ 28 73 rfl Try.underlying28 HS.out.small (ptrZero _) rdV_nil rfl (a / 64) HP64.out rfl _ HSF.out ?_)
  have HPG1 : Hid (IsPage w1 (L.lay p).1 (L.lay p).2.1 (L.lay p).2.2 m l) := Lib.hid (HPAGE.out.upd hu1.out (by simp) (by simp) (by simp))
  go_wp2_with fail
  refine (words_any (L.lay p).1 (L.lay p).2.1 (L.lay p).2.2 m l _ HPG1.out).mono ?_
  rintro e w' ⟨rfl, rfl⟩
  go_wp2_with fail
  refine (HGV.out _ HPG1.out).mono ?_
  rintro e w2 ⟨rfl, hP, hu⟩
  have HP2 := Lib.hid hP
  have HU2 := Lib.hid hu
  have ng : ∀ (g : Nat) (t : TypeId) (cs : Array Value), Blk w1 g t cs → t ≠ 4 → g ∉ [(L.lay p).2.2] := fun g t cs hb' hne => by simpa using hb'.ne_ HPG1.out.2.2 hne
  have d1 : w2.cell? ⟨s, 1, none⟩ = some (.pointer (some ⟨L.q0, 0, none⟩)) := (hu.cell (p := ⟨s, 1, none⟩) HS.out.box.lt (ng _ _ _ HS.out.box (by decide))).trans c1
  have d2 : w2.cell? ⟨s, 2, none⟩ = some (.map (some L.ms)) := (hu.cell (p := ⟨s, 2, none⟩) HS.out.box.lt (ng _ _ _ HS.out.box (by decide))).trans c2
  have HNG := Lib.hid ng
  clear hP hu ng c1 c2 c3
  go_wp2_with fail
  have hq := empty_any (L.lay p).1 (L.lay p).2.1 (L.lay p).2.2 m (l.set i false) _ HP2.out (by rw [List.length_set]; exact HLL.out)
  rw [HCNT.out] at hq
  refine hq.mono ?_
  rintro e w' ⟨rfl, rfl⟩
  clear hq
  have HMS : Hid (MapV w2 L.ms 256 (smallF L S.pg)) := Lib.hid (HS.out.small.upd HU2.out (by simpa using (HPG1.out.2.2.ne_map HS.out.small).symm))
  go_wp2_with (at_delete; refine wpList_del_mapv rfl _ _ 28 73 rfl Try.underlying28 HMS.out rfl (a / 64) HP64.out rfl ?_; intro w3 hM hu; have HM := Lib.hid hM; have HU3 := Lib.hid hu; have f1 : w3.cell? ⟨s, 1, none⟩ = some (.pointer (some ⟨L.q0, 0, none⟩)) := (hu.cell (p := ⟨s, 1, none⟩) (Nat.lt_of_lt_of_le HS.out.box.lt HU2.out.size) (by simpa using HS.out.box.ne_map HS.out.small)).trans d1; clear hM hu)
  have e1 := Lib.hid (HS.out.pages.1.ne_map HS.out.small)
  have e2 := Lib.hid (HS.out.pages.2.1.ne_map HS.out.small)
  have e3 := Lib.hid (HS.out.pages.2.2.ne_map HS.out.small)
  have HPG : Hid (IsPages w3 L.q0 L.b0 L.g0 (bitsOf S.pg)) := Lib.hid ((HS.out.pages.upd HU2.out (HNG.out _ _ _ HS.out.pages.1 (by decide)) (HNG.out _ _ _ HS.out.pages.2.1 (by decide)) (by simpa using (HS.out.apart0 p c l HAT.out).symm)).upd HU3.out (by simpa using e1.out) (by simpa using e2.out) (by simpa using e3.out))
  go_wp2_with fail
  refine (HG.out _ HPG.out).mono ?_
  rintro e w4 ⟨rfl, hP, hu⟩
  have HP4 := Lib.hid hP
  have HU4 := Lib.hid hu
  clear hP hu
  go_wp2_with fail
  go_ret
  refine ⟨rfl, After.behind hu1.out ?_⟩
  have HA : ∀ j, atP (S.pg.set p .free) j = if j = p then .free else atP S.pg j := fun j => atP_set _ HPN.out
  refine HS.out.turn (E := [(L.lay p).2.2, L.ms, L.g0]) (HS.out.wf.set_free HAT.out) (fun j c' l' hj => ?_) (fun k hk => ?_) (((HU2.out.mono (by simp)).trans (HU3.out.mono (by simp))).trans (HU4.out.mono (by simp))) ?_ ?_ ?_
  · rw [HA] at hj
    split at hj
    · cases hj
    · exact hj
  · simp only [List.mem_cons, List.not_mem_nil, or_false] at hk
    rcases hk with rfl | rfl | rfl
    · exact .inr (.inr (.inr ⟨p, c, l, HAT.out, rfl, fun c' l' e => by rw [HA, if_pos rfl] at e; cases e⟩))
    · exact .inr (.inl rfl)
    · exact .inl rfl
  · rw [bits_set, show Pst.free.taken = false from rfl, ← span_one]
    exact HP4.out
  · refine (HM.out.upd HU4.out (by simpa using (HS.out.pages.2.2.ne_map HS.out.small).symm)).congr fun x => ?_
    unfold setF
    by_cases e : x = a / 64
    · rw [if_pos e, e, HP.out, smallF_at, HA, if_pos rfl]; rfl
    · rw [if_neg e]
      have := HP.out
      unfold smallF
      split
      · rfl
      · rw [HA, if_neg (by omega)]
  · refine (((HS.out.large.upd HU2.out (by simpa using (HPG1.out.2.2.ne_map HS.out.large).symm)).upd HU3.out (by simpa using HS.out.apart.symm)).upd HU4.out (by simpa using (HS.out.pages.2.2.ne_map HS.out.large).symm)).congr fun x => ?_
    unfold largeF
    split
    · rfl
    · rw [HA]
      split
      · rename_i e; rw [e, HAT.out]; rfl
      · rfl

theorem free_calls (s : Nat) (L : Lay) (S : Sp) (a : Int) (w : World) (h : IsSpace w s L S) :
    Calls Try.prog 16 #[.pointer (some ⟨s, 0, none⟩), .int .i64 a] w fun e w' => e = .returned (.int .i64 (S.drop a).2) ∧ After s L S (S.drop a).1 w w' := by
  by_cases hno : (S.find a).2.2 = false ∨ (S.find a).1 ≠ a
  · have e : S.drop a = (S, 2) := if_pos hno
    rw [e]
    exact (free_none s L S a w h hno).mono fun e w' ⟨h1, h2⟩ => ⟨h1, .same h h2⟩
  · have hf : S.find a = (a, (S.find a).2.1, true) := by
      have h1 : (S.find a).1 = a := Classical.byContradiction fun e => hno (.inr e)
      have h2 : (S.find a).2.2 = true := by
        cases hx : (S.find a).2.2
        · exact absurd (.inl hx) hno
        · rfl
      exact Prod.ext h1 (Prod.ext rfl h2)
    have hin : ¬ (a < 0 ∨ S.W.length ≤ a) := fun e => by
      have : S.find a = (0, 0, false) := if_pos e
      rw [this] at hf; cases hf
    have h0 : 0 ≤ a := by omega
    obtain ⟨p, hp⟩ : ∃ p : Nat, a / 64 = p := ⟨(a / 64).toNat, by omega⟩
    have hpt : (a / 64).toNat = p := by omega
    have hD : ∀ x, atP S.pg p = x → S.drop a = match x with
        | .small c l => if countB (l.set (a % 64 / wordsOf c).toNat false) = 0 then (⟨S.W, S.pg.set p .free⟩, 0) else (⟨S.W, S.pg.set p (.small c (l.set (a % 64 / wordsOf c).toNat false))⟩, 0)
        | .first k => (⟨S.W, clearPg S.pg p k⟩, 0)
        | _ => (S, 2) := fun x hx => by
      unfold Sp.drop
      rw [if_neg hno, hpt, hx]
      cases x <;> rfl
    have hF : ∀ x, atP S.pg p = x → S.find a = match x with
        | .small c l => if hasB l (a % 64 / wordsOf c) then (a / 64 * 64 + a % 64 / wordsOf c * wordsOf c, wordsOf c, true) else (0, 0, false)
        | .first k => (a / 64 * 64, k * 64, true)
        | .rest f => (f * 64, manyOf (atP S.pg f) * 64, true)
        | _ => (0, 0, false) := fun x hx => by
      unfold Sp.find
      rw [if_neg hin, hpt, hx]
      cases x <;> rfl
    cases hx : atP S.pg p with
    | zero => rw [hF _ hx] at hf; cases hf
    | free => rw [hF _ hx] at hf; cases hf
    | first k =>
      rw [hD _ hx]
      exact free_large s L S a p k _ w h hf h0 hp hx
    | rest f =>
      have := hF _ hx
      rw [hf] at this
      simp only [Prod.mk.injEq] at this
      have h1 := (h.wf.rest p f hx).1
      omega
    | small c l =>
      have hfx := hF _ hx
      simp only at hfx
      have hhas : hasB l (a % 64 / (wordsOf c : Nat)) = true := by
        cases hb : hasB l (a % 64 / (wordsOf c : Nat)) with
        | true => rfl
        | false =>
          rw [if_neg (by rw [hb]; simp)] at hfx
          rw [hfx] at hf; cases hf
      have hwp := words_pos (h.wf.small p c l hx).1
      obtain ⟨i, hi⟩ : ∃ i : Nat, a % 64 / (wordsOf c : Nat) = i := ⟨(a % 64 / (wordsOf c : Nat)).toNat, by
        have : 0 ≤ a % 64 / ((wordsOf c : Nat) : Int) := Int.ediv_nonneg (by omega) (by omega)
        omega⟩
      rw [hD _ hx]
      simp only
      rw [hi] at hhas ⊢
      rw [Int.toNat_natCast]
      by_cases hcnt : countB (l.set i false) = 0
      · rw [if_pos hcnt]
        exact free_last s L S a p c i l _ w h hf h0 hp hx hi hhas hcnt
      · rw [if_neg hcnt]
        exact free_some s L S a p c i l _ w h hf h0 hp hx hi hhas hcnt
end Go.Proofs.Ytpichhnihppicaa
