/- A space in memory: what its blocks are, what is left as it was; the class's first open page. -/
import Derived.Test.YtendjhobemlhoaaSp
import Derived.Test.YtendjhobemlhoaaKeys
import Derived.Test.YtendjhobemlhoaaPages
import Derived.Deep.LoopGhost
import Derived.Deep.QuietTactic
import Derived.BigQuiet
namespace Go.Proofs.Ytendjhobemlhoaa
open Go Go.RowKit

structure Lay where
  pa : Nat
  ga : Nat
  q0 : Nat
  b0 : Nat
  g0 : Nat
  ms : Nat
  ml : Nat
  lay : Nat → Nat × Nat × Nat
def smallP (L : Lay) (p : Nat) : Pst → Option Value
  | .small _ _ => some (.pointer (some ⟨(L.lay p).1, 0, none⟩))
  | _ => none
def largeP : Pst → Option Value
  | .first k => some (.int .i64 k)
  | _ => none
def smallF (L : Lay) (pg : List Pst) (x : Int) : Option Value := if x < 0 then none else smallP L x.toNat (atP pg x.toNat)
def largeF (pg : List Pst) (x : Int) : Option Value := if x < 0 then none else largeP (atP pg x.toNat)
theorem smallF_at (L : Lay) (pg : List Pst) (p : Nat) : smallF L pg p = smallP L p (atP pg p) := by unfold smallF; rw [if_neg (by omega), Int.toNat_natCast]
theorem largeF_at (pg : List Pst) (p : Nat) : largeF pg p = largeP (atP pg p) := by unfold largeF; rw [if_neg (by omega), Int.toNat_natCast]
theorem smallF_in {L : Lay} {pg : List Pst} {x : Int} (h : smallF L pg x ≠ none) : ∃ p c l, x = (p : Nat) ∧ p < pg.length ∧ atP pg p = .small c l := by
  unfold smallF at h
  split at h
  · exact absurd rfl h
  · rename_i h0
    cases hx : atP pg x.toNat <;> rw [hx] at h <;> try exact absurd rfl h
    rename_i c l
    exact ⟨x.toNat, c, l, by omega, atP_in hx (by simp), hx⟩
theorem largeF_in {pg : List Pst} {x : Int} (h : largeF pg x ≠ none) : ∃ p k, x = (p : Nat) ∧ p < pg.length ∧ atP pg p = .first k := by
  unfold largeF at h
  split at h
  · exact absurd rfl h
  · rename_i h0
    cases hx : atP pg x.toNat <;> rw [hx] at h <;> try exact absurd rfl h
    rename_i k
    exact ⟨x.toNat, k, by omega, atP_in hx (by simp), hx⟩

/-- The blocks of a space; those of them that a step may turn. -/
def Owns (s : Nat) (L : Lay) (S : Sp) (k : Nat) : Prop := k = s ∨ k = L.pa ∨ k = L.ga ∨ k = L.q0 ∨ k = L.b0 ∨ k = L.g0 ∨ k = L.ms ∨ k = L.ml ∨ ∃ p c l, atP S.pg p = .small c l ∧ (k = (L.lay p).1 ∨ k = (L.lay p).2.1 ∨ k = (L.lay p).2.2)

structure IsSpace (w : World) (s : Nat) (L : Lay) (S : Sp) : Prop where
  box : Blk w s 102 #[.pointer (some ⟨L.pa, 0, none⟩), .pointer (some ⟨L.q0, 0, none⟩), .map (some L.ms), .map (some L.ml)]
  arena : IsArena w L.pa L.ga S.W
  pages : IsPages w L.q0 L.b0 L.g0 (bitsOf S.pg)
  small : MapV w L.ms 256 (smallF L S.pg)
  large : MapV w L.ml 256 (largeF S.pg)
  page : ∀ p c l, atP S.pg p = .small c l → IsPage w (L.lay p).1 (L.lay p).2.1 (L.lay p).2.2 (wordsOf c) l
  apart : L.ms ≠ L.ml
  apart0 : ∀ p c l, atP S.pg p = .small c l → (L.lay p).2.2 ≠ L.g0
  apart1 : ∀ p c l p' c' l', atP S.pg p = .small c l → atP S.pg p' = .small c' l' → (L.lay p).2.2 = (L.lay p').2.2 → p = p'
  wf : S.WF

section
variable {w w' : World} {s : Nat} {L : Lay} {S : Sp} {E : List Nat}
theorem IsSpace.owned (h : IsSpace w s L S) {k : Nat} (hk : Owns s L S k) : k < w.heap.size := by
  rcases hk with rfl | rfl | rfl | rfl | rfl | rfl | rfl | rfl | ⟨p, c, l, hp, hk⟩
  · exact h.box.lt
  · exact h.arena.1.lt
  · exact h.arena.2.lt
  · exact h.pages.1.lt
  · exact h.pages.2.1.lt
  · exact h.pages.2.2.lt
  · exact h.small.lt
  · exact h.large.lt
  · have := h.page p c l hp
    rcases hk with rfl | rfl | rfl
    · exact this.1.lt
    · exact this.2.1.lt
    · exact this.2.2.lt
theorem Blk.moved {g : Nat} {t : TypeId} {cs : Array Value} (h : Blk w g t cs) (hb : w'.heap[g]? = w.heap[g]?) : Blk w' g t cs := hb.trans h
theorem IsSpace.moved (h : IsSpace w s L S) (hb : ∀ k, Owns s L S k → w'.heap[k]? = w.heap[k]?) : IsSpace w' s L S :=
  ⟨h.box.moved (hb _ (.inl rfl)), ⟨h.arena.1.moved (hb _ (.inr (.inl rfl))), h.arena.2.moved (hb _ (.inr (.inr (.inl rfl))))⟩,
    ⟨h.pages.1.moved (hb _ (.inr (.inr (.inr (.inl rfl))))), h.pages.2.1.moved (hb _ (.inr (.inr (.inr (.inr (.inl rfl)))))), h.pages.2.2.moved (hb _ (.inr (.inr (.inr (.inr (.inr (.inl rfl))))))) ⟩,
    h.small.of_block (hb _ (.inr (.inr (.inr (.inr (.inr (.inr (.inl rfl)))))))), h.large.of_block (hb _ (.inr (.inr (.inr (.inr (.inr (.inr (.inr (.inl rfl))))))))),
    fun p c l hp => by
      have hh := fun k hk => hb k (.inr (.inr (.inr (.inr (.inr (.inr (.inr (.inr ⟨p, c, l, hp, hk⟩))))))))
      have := h.page p c l hp
      exact ⟨this.1.moved (hh _ (.inl rfl)), this.2.1.moved (hh _ (.inr (.inl rfl))), this.2.2.moved (hh _ (.inr (.inr rfl)))⟩,
    h.apart, h.apart0, h.apart1, h.wf⟩
theorem IsSpace.upd (h : IsSpace w s L S) (hu : Upd E w w') (hE : ∀ k, Owns s L S k → k ∉ E) : IsSpace w' s L S := h.moved fun k hk => hu.block k (h.owned hk) (hE k hk)
theorem IsSpace.upd0 (h : IsSpace w s L S) (hu : Upd [] w w') : IsSpace w' s L S := h.upd hu (by simp)
theorem IsSpace.drew (h : IsSpace w s L S) : IsSpace w.drew s L S := h.upd0 (Upd.refl [] w).drew
theorem IsSpace.drewN (h : IsSpace w s L S) (n : Nat) : IsSpace (w.drewN n) s L S := h.upd0 ((Upd.refl [] w).drewN n)
theorem IsSpace.alloc (h : IsSpace w s L S) (o : Obj) : IsSpace (w.alloc o) s L S := h.upd0 ((Upd.refl [] w).alloc o)
theorem IsSpace.len (h : IsSpace w s L S) : S.W.length ≤ 16384 := by have := h.wf.n2; have := h.wf.len; omega
end

theorem sizes_at {c : Nat} (h : c < 5) : sizesL.getD c 0 = (wordsOf c : Nat) := by
  have : c = 0 ∨ c = 1 ∨ c = 2 ∨ c = 3 ∨ c = 4 := by omega
  rcases this with rfl | rfl | rfl | rfl | rfl <;> decide

theorem ptrZero (w : World) : (zeroValue 124).run Try.prog w = .ok (.pointer none) w := by kernel_rfl
theorem intZero (w : World) : (zeroValue 3).run Try.prog w = .ok (.int .i64 0) w := by kernel_rfl

/-- What 'open' answers. -/
def OpenSay (z : Int) (e : Ending) : Prop := (∃ p : Nat, z = p ∧ e = .returned (.tuple #[.int .i64 p, .bool true])) ∨ (z = -1 ∧ e = .returned (.tuple #[.int .i64 0, .bool false]))

set_option maxHeartbeats 800000 in
theorem open_calls (s : Nat) (L : Lay) (S : Sp) (c : Nat) (w : World) (h : IsSpace w s L S) (hc : c < 5) :
    Calls Try.prog 91 #[.pointer (some ⟨s, 0, none⟩), .int .i64 c] w fun e w' => OpenSay (openZ S.pg c) e ∧ Upd [] w w' := by
  have hks : ∀ x, smallF L S.pg x ≠ none → 0 ≤ x ∧ x < (S.pg.length : Nat) := fun x hx => by
    obtain ⟨p, c, l, rfl, hp, _⟩ := smallF_in hx
    omega
  obtain ⟨ks, hk⟩ : ∃ ks, keysL (smallF L S.pg) S.pg.length = ks := ⟨_, rfl⟩
  have hmem : ∀ j, j < ks.length → ∃ p c' l, ks.getD j 0 = (p : Nat) ∧ p < S.pg.length ∧ atP S.pg p = .small c' l := fun j hj => by
    have : ks.getD j 0 ∈ keysL (smallF L S.pg) S.pg.length := by rw [hk, List.getD_eq_getElem?_getD, List.getElem?_eq_getElem hj]; exact List.getElem_mem hj
    obtain ⟨p, e, hp, hf⟩ := mem_keysL.1 this
    obtain ⟨p', c', l, e', h1, h2⟩ := smallF_in hf
    obtain rfl : p = p' := by omega
    exact ⟨p, c', l, e, hp, h2⟩
  have hall : ∀ p c' l, atP S.pg p = .small c' l → ∃ j, j < ks.length ∧ ks.getD j 0 = (p : Nat) := fun p c' l hp => by
    have : (p : Int) ∈ ks := by rw [← hk, mem_keysL]; exact ⟨p, rfl, atP_in hp (by simp), by rw [smallF_at, hp]; simp [smallP]⟩
    obtain ⟨j, hj, e⟩ := List.mem_iff_getElem.1 this
    exact ⟨j, hj, by rw [List.getD_eq_getElem?_getD, List.getElem?_eq_getElem hj]; exact e⟩
  have hsort : ∀ i j, i < j → j < ks.length → ks.getD i 0 < ks.getD j 0 := fun i j hij hj => by
    have hs : ks.Pairwise (· < ·) := by rw [← hk]; exact keysL_sorted _ _
    have := List.pairwise_iff_getElem.1 hs i j (by omega) hj hij
    rw [List.getD_eq_getElem?_getD, List.getD_eq_getElem?_getD, List.getElem?_eq_getElem hj, List.getElem?_eq_getElem (show i < ks.length by omega)]
    exact this
  have hkl : ks.length ≤ 256 := by rw [← hk]; have := keysL_length (smallF L S.pg) S.pg.length; have := h.wf.n2; omega
  have hlenl : ∀ p c' l, atP S.pg p = .small c' l → c' < 5 ∧ l.length ≤ 16384 := fun p c' l hp => by
    have := h.wf.small p c' l hp
    have := room_pos this.1
    omega
  have c2 : w.cell? ⟨s, 2, none⟩ = some (.map (some L.ms)) := h.box.cell 2
  have H := Lib.hid h
  have HMEM := Lib.hid hmem
  have HALL := Lib.hid hall
  have HSORT := Lib.hid hsort
  have HLL := Lib.hid hlenl
  have HK := Lib.hid hk
  have HKS := Lib.hid hks
  have HSA := Lib.hid (sizes_at hc)
  clear h hmem hall hsort hlenl hk hks
  go_enter Try.func91, Try.ntmps91
  go_wp2_with fail
  refine (sizes_calls _).mono ?_
  rintro e w1 ⟨hz, rfl, hB, hh, hb⟩
  have cz : w1.cell? ⟨hz, c, none⟩ = some (.int .i64 (wordsOf c)) := by rw [← HSA.out]; exact hB.int c hc
  have HU1 : Hid (Upd [] w w1) := Lib.hid (Upd.of_below hb)
  have c21 : w1.cell? ⟨s, 2, none⟩ = some (.map (some L.ms)) := (HU1.out.cell (p := ⟨s, 2, none⟩) H.out.box.lt (by simp)).trans c2
  clear hb hB hh
  go_wp2_with fail
  refine (maps_keys _ _).mono ?_
  rintro e w2 ⟨rfl, rfl⟩
  go_wp2_with fail
  have hsk := sorted_keys w1.heap.size L.ms 256 S.pg.length (smallF L S.pg) (w1.alloc (.cells #[.map (some L.ms)] 99)) (by simp) ((H.out.upd0 HU1.out).small.alloc _) (by omega) HKS.out
  rw [HK.out] at hsk
  refine hsk.mono ?_
  clear hsk
  rintro e w3 ⟨v, rfl, hO, hb⟩
  obtain ⟨A, cap, hv, hI, _⟩ := hO.form
  subst hv
  have HU3 : Hid (Upd [] w w3) := Lib.hid ((HU1.out.alloc _).step (Upd.of_below hb : Upd [] _ _) (by simp))
  have HI := Lib.hid hI
  have c23 : w3.cell? ⟨s, 2, none⟩ = some (.map (some L.ms)) := (HU3.out.cell (p := ⟨s, 2, none⟩) H.out.box.lt (by simp)).trans c2
  clear hO hb hI c21 cz
  obtain ⟨N, hN⟩ : ∃ N, ks.length = N := ⟨_, rfl⟩
  rw [hN] at hkl ⊢
  have HN := Lib.hid hN
  clear hN
  go_wp2_with fail
  go_loopg [21] N (fun gk i wr => ∃ j : Nat, gk = N - j ∧ j ≤ N ∧ i = .int .i64 j ∧ Hid (Upd [] w3 wr) ∧ Hid (∀ m, m < j → ∀ p : Nat, ks.getD m 0 = p → isOpen c (atP S.pg p) = false))
  case atStart => exact ⟨0, rfl, by omega, rfl, Lib.hid (Upd.refl _ _), Lib.hid (fun m h => by omega)⟩
  case round =>
    obtain ⟨j, rfl, hj, rfl, HV, HP⟩ := hrel
    have HW : Hid (Upd [] w wr) := Lib.hid (HU3.out.trans HV.out)
    have d2 : wr.cell? ⟨s, 2, none⟩ = some (.map (some L.ms)) := (HW.out.cell (p := ⟨s, 2, none⟩) H.out.box.lt (by simp)).trans c2
    by_cases hlt : j < N
    · obtain ⟨p, c', l, hp, hpn, hat⟩ := HMEM.out j (by rw [HN.out]; exact hlt)
      obtain ⟨hc', hll⟩ := HLL.out p c' l hat
      obtain ⟨b, off, rfl, hb, ce⟩ := (Reads.upd (k := .i64) HI.out HV.out (by simp)).at HN.out hlt
      rw [hp] at ce
      have HSP := Lib.hid (H.out.upd0 HW.out)
      have HPG := Lib.hid (HSP.out.page p c' l hat)
      have hf : smallF L S.pg p = some (.pointer (some ⟨(L.lay p).1, 0, none⟩)) := by rw [smallF_at, hat]; rfl
      have HF := Lib.hid hf
      have HAT := Lib.hid hat
      have HPP := Lib.hid hp
      have hp64 : ok64 (p : Int) := by have := H.out.wf.n2; unfold ok64; omega
      have HP64 := Lib.hid hp64
      clear hf hat hp hp64
      generalize hq : (L.lay p).1 = q at *
      generalize (L.lay p).2.1 = bb at *
      generalize (L.lay p).2.2 = g at *
      have hstep : ∀ W, Upd [] wr W → isOpen c (atP S.pg p) = false → Hid (Upd [] w3 W) ∧ Hid (∀ m, m < j + 1 → ∀ p : Nat, ks.getD m 0 = p → isOpen c (atP S.pg p) = false) := fun W hu hno =>
        ⟨Lib.hid (HV.out.trans hu), Lib.hid (fun m hm p' hp' => by
          rcases Nat.eq_or_lt_of_le (show m ≤ j by omega) with rfl | h3
          · have e : p' = p := by have := HPP.out; omega
            rw [e]; exact hno
          · exact HP.out m h3 p' hp')⟩
      have HSTEP := Lib.hid hstep
      clear hstep hq
      by_cases hcc : c' = c
      · subst hcc
        have hw : ((wordsOf c' : Int) == (wordsOf c' : Int)) = true := by simp
        by_cases hfull : countB l = l.length
        · have HFU := Lib.hid (show decide (countB l = l.length) = true by rw [hfull]; simp)
          have HNO : Hid (isOpen c' (atP S.pg p) = false) := Lib.hid (by rw [HAT.out]; simp [isOpen, hfull])
          clear hfull
          go_wp2_with (at_lookup; refine wpList_look_mapv rfl _ _ 99 124 rfl Try.underlying99 HSP.out.small (ptrZero _) rdV_nil rfl (p : Int) HP64.out rfl ?_)
          rw [HF.out]
          go_wp2_with fail
          refine (words_any q bb g (wordsOf c') l _ HPG.out).mono ?_
          rintro e w' ⟨rfl, rfl⟩
          go_wp2_with fail
          have hq := full_any q bb g (wordsOf c') l _ HPG.out hll
          rw [HFU.out] at hq
          refine hq.mono ?_
          clear hq
          rintro e w4 ⟨rfl, nq, rfl⟩
          go_wp2_with fail
          go_roundg (N - (j + 1))
          case measure => omega
          case rel =>
            obtain ⟨h1, h2⟩ := HSTEP.out _ ((Upd.refl [] wr).drewN nq) HNO.out
            exact ⟨j + 1, rfl, by omega, by go_num, h1, h2⟩
        · have HFU := Lib.hid (show decide (countB l = l.length) = false by simp [hfull])
          have HYES : Hid (openZ S.pg c' = p) := Lib.hid (by
            refine openZ_hit (by rw [HAT.out]; simp [isOpen, hfull]) fun i hi => ?_
            cases hx : atP S.pg i <;> try rfl
            rename_i c'' l''
            obtain ⟨m, hm, e⟩ := HALL.out i c'' l'' hx
            rw [← hx]
            refine HP.out m ?_ i e
            rcases Nat.lt_or_ge m j with h1 | h1
            · exact h1
            · exfalso
              rcases Nat.eq_or_lt_of_le h1 with rfl | h2
              · have := HPP.out; omega
              · have := HSORT.out j m h2 hm
                rw [e, HPP.out] at this
                omega)
          clear hfull
          go_wp2_with (at_lookup; refine wpList_look_mapv rfl _ _ 99 124 rfl Try.underlying99 HSP.out.small (ptrZero _) rdV_nil rfl (p : Int) HP64.out rfl ?_)
          rw [HF.out]
          go_wp2_with fail
          refine (words_any q bb g (wordsOf c') l _ HPG.out).mono ?_
          rintro e w' ⟨rfl, rfl⟩
          go_wp2_with fail
          have hq := full_any q bb g (wordsOf c') l _ HPG.out hll
          rw [HFU.out] at hq
          refine hq.mono ?_
          clear hq
          rintro e w4 ⟨rfl, nq, rfl⟩
          go_wp2_with fail
          go_ret2
          exact ⟨.inl ⟨p, HYES.out, rfl⟩, HW.out.drewN nq⟩
      · have hw : ((wordsOf c' : Int) == (wordsOf c : Int)) = false := by
          have : wordsOf c' ≠ wordsOf c := fun e => hcc (words_inj hc' hc e)
          simp; omega
        have HNO : Hid (isOpen c (atP S.pg p) = false) := Lib.hid (by rw [HAT.out]; simp [isOpen, hcc])
        clear hcc
        go_wp2_with (at_lookup; refine wpList_look_mapv rfl _ _ 99 124 rfl Try.underlying99 HSP.out.small (ptrZero _) rdV_nil rfl (p : Int) HP64.out rfl ?_)
        rw [HF.out]
        go_wp2_with fail
        refine (words_any q bb g (wordsOf c') l _ HPG.out).mono ?_
        rintro e w' ⟨rfl, rfl⟩
        go_wp2_with fail
        go_roundg (N - (j + 1))
        case measure => omega
        case rel =>
          obtain ⟨h1, h2⟩ := HSTEP.out _ (Upd.refl [] wr) HNO.out
          exact ⟨j + 1, rfl, by omega, by go_num, h1, h2⟩
    · obtain rfl : j = N := by omega
      have HNONE : Hid (openZ S.pg c = -1) := Lib.hid (by
        refine openZ_miss fun i hi => ?_
        cases hx : atP S.pg i <;> try rfl
        rename_i c'' l''
        obtain ⟨m, hm, e⟩ := HALL.out i c'' l'' hx
        rw [← hx]
        exact HP.out m (by have := HN.out; omega) i e)
      go_wp2_with fail
      go_ret2
      exact ⟨.inr ⟨HNONE.out, rfl⟩, HW.out⟩
end Go.Proofs.Ytendjhobemlhoaa
