/- The contract of Pend. -/
import Derived.Test.YtendjhobemlhoaaFin2
namespace Go.Proofs.Ytendjhobemlhoaa
open Go Go.RowKit

/-- One that waits is pending then. -/
def pend1 (s : List Int × List Int) (x : Int) : List Int × List Int := if x ∈ s.1 then (s.1.erase x, s.2 ++ [x]) else s
def pendZ (s : List Int × List Int) (xs : List Int) : List Int × List Int := xs.foldl pend1 s
theorem pendZ_snoc (s : List Int × List Int) (xs : List Int) (x : Int) : pendZ s (xs ++ [x]) = pend1 (pendZ s xs) x := by unfold pendZ; rw [List.foldl_append]; rfl
theorem pend1_len (s : List Int × List Int) (x : Int) : (pend1 s x).1.length + (pend1 s x).2.length = s.1.length + s.2.length := by
  unfold pend1
  split
  · rename_i h
    have := List.length_erase_of_mem h
    have := List.length_pos_of_mem h
    simp only [List.length_append, List.length_cons, List.length_nil]
    omega
  · rfl
theorem pendZ_len (s : List Int × List Int) (xs : List Int) : (pendZ s xs).1.length + (pendZ s xs).2.length = s.1.length + s.2.length := by
  induction xs generalizing s with
  | nil => rfl
  | cons x t ih => exact (ih _).trans (pend1_len s x)
theorem idx_first {xs : List Int} {x : Int} (h : x ∈ xs) : xs.idxOf x < xs.length ∧ xs.getD (xs.idxOf x) 0 = x ∧ (∀ j, j < xs.idxOf x → xs.getD j 0 ≠ x) ∧ xs.eraseIdx (xs.idxOf x) = xs.erase x := by
  induction xs with
  | nil => cases h
  | cons y t ih =>
    by_cases e : y = x
    · subst e
      simp
    · have hb : (y == x) = false := by simpa using e
      have ht : x ∈ t := by
        rcases List.mem_cons.1 h with h1 | h1
        · exact absurd h1.symm e
        · exact h1
      obtain ⟨h1, h2, h3, h4⟩ := ih ht
      have hi : (y :: t).idxOf x = t.idxOf x + 1 := by rw [List.idxOf_cons, hb]; rfl
      rw [hi]
      refine ⟨by simpa using h1, by simpa using h2, fun j hj => ?_, ?_⟩
      · cases j with
        | zero => simpa using e
        | succ j => simpa using h3 j (by omega)
      · rw [List.eraseIdx_cons_succ, h4, List.erase_cons, hb]; rfl

theorem pend_nil (A : Option Addr) (n c : Nat) (w : World) : Calls Try.prog 21 #[.pointer none, .slice A n c] w fun e w' => e = .returned (.tuple #[]) ∧ w = w' := by
  go_enter Try.func21, Try.ntmps21
  go_wp2_with fail
  (try simp only [Exit.inBlock, Exit.then])
  refine bodyPost_ret (results_none rfl _ _ _) rfl ?_
  exact ⟨rfl, rfl⟩
section
variable {O Oh : Nat → Prop} {l : List Int} {F : Int → Ob} {ws ps : List Int}
set_option maxRecDepth 100000 in
set_option maxHeartbeats 3200000 in
theorem pend_yes (f h np : Nat) (A : Option Addr) (xs : List Int) (M cap : Nat) (w : World) (H : FinO w f h np l F ws ps O) (hA : ReadsO w A xs O) (hM : xs.length = M) (hn : ws.length + ps.length ≤ 100000) (hl : M ≤ 4294967296) :
    Calls Try.prog 21 #[.pointer (some ⟨f, 0, none⟩), .slice A M cap] w fun e w' => e = .returned (.tuple #[]) ∧ ∃ O', FinO w' f h np l F (pendZ (ws, ps) xs).1 (pendZ (ws, ps) xs).2 O' ∧ StepO O w O' w' := by
  have HTK : Hid (∀ k, k < M → pendZ (ws, ps) (xs.take (k + 1)) = pend1 (pendZ (ws, ps) (xs.take k)) (xs.getD k 0)) := Lib.hid fun k hk => by
    rw [← pendZ_snoc, List.take_succ_eq_append_getElem (by omega : k < xs.length), List.getD_eq_getElem?_getD, List.getElem?_eq_getElem (by omega : k < xs.length)]; rfl
  have HLEN : Hid (∀ k, (pendZ (ws, ps) (xs.take k)).1.length + (pendZ (ws, ps) (xs.take k)).2.length ≤ 100000) := Lib.hid fun k => by rw [pendZ_len]; exact hn
  have HR := Lib.hid H
  have HA := Lib.hid hA
  have HM := Lib.hid hM
  clear H hA hM hn
  go_enter Try.func21, Try.ntmps21
  go_wp2_with fail
  go_loopg [11] M (fun gk i wr => ∃ (k : Nat) (O' : Nat → Prop), gk = M - k ∧ k ≤ M ∧ i = .int .i64 k ∧ Hid (FinO wr f h np l F (pendZ (ws, ps) (xs.take k)).1 (pendZ (ws, ps) (xs.take k)).2 O') ∧ Hid (StepO O w O' wr))
  case atStart => exact ⟨0, O, rfl, by omega, rfl, HR, Lib.hid (StepO.refl _ _)⟩
  case round =>
    obtain ⟨k, O', rfl, hk, rfl, HF, HS⟩ := hrel
    by_cases hlt : k < M
    · obtain ⟨b, off, rfl, hb, hc⟩ := (HA.out.step HS.out).at HM.out hlt
      have HT := Lib.hid (HTK.out k hlt)
      have HN := Lib.hid (HLEN.out k)
      generalize xs.getD k 0 = x at *
      generalize pendZ (ws, ps) (xs.take k) = s at *
      obtain ⟨ws1, ps1⟩ := s
      obtain ⟨vw, vp, Oh, hF, rfl⟩ := HF.out
      obtain ⟨c0, c1, c2, c3, c4⟩ := hF.cells
      by_cases hx : x ∈ ws1
      · obtain ⟨i1, i2, i3, i4⟩ := idx_first hx
        have HP : Hid (pend1 (ws1, ps1) x = (ws1.erase x, ps1 ++ [x])) := Lib.hid (if_pos hx)
        obtain ⟨j, hj⟩ : ∃ j, ws1.idxOf x = j := ⟨_, rfl⟩
        rw [hj] at i1 i2 i3 i4
        have HQ := Lib.hid (index_hit 0 vw ws1 x j wr hF.waits i1 i2 i3 (by have := HN.out; first | omega | (simp only at this; omega)))
        have HD := Lib.hid (delete_own 0 vw ws1 j ((j : Int) + 1) j wr hF.waits rfl rfl i1 (by have := HN.out; first | omega | (simp only at this; omega)))
        rw [i4] at HD
        have hj2 : j ≤ 100000 := by have := HN.out; first | omega | (simp only at this; omega)
        have HL := Lib.hid hF
        clear hF i1 i2 i3 i4 hj hx
        go_wp2_with fail
        refine (HQ.out).mono ?_
        rintro e w' ⟨rfl, rfl⟩
        go_wp2_with fail
        refine (HD.out).mono ?_
        rintro e w2 ⟨v', rfl, ho, hv, hu⟩
        obtain ⟨hF, hS, e1, e2, e3, e4⟩ := HL.out.setW ho hu (by simp) (fun g hg => .inl (hv ▸ hg))
        have HL2 := Lib.hid hF
        have HS2 := Lib.hid (HS.out.trans hS)
        obtain ⟨A', n', cap', rfl⟩ := ho.slice
        clear hF hS ho hu hv c0 c1 c2 c3 c4
        go_wp2_with (at_builtin; refine wpList_pushA rfl _ _ rfl 0 vp ps1 rfl (HL2.out.pends.alloc _) w2.heap.size x rfl (Blk.newAt _ _ _ _ (by simp [World.setCell])) (by have := HN.out; first | omega | (simp only at this; omega)) (Nat.zero_le _) ?_)
        intro v3 w3 ho hu hv
        obtain ⟨hF, hS, g1, g2⟩ := (HL2.out.upd0 ((Upd.refl [] _).alloc (.cells #[.int .i64 x] 3))).setP ho hu (by simp) (fun g hg => by
          rcases hv with h1 | h1
          · exact .inl (h1 ▸ hg)
          · rw [hg] at h1; simp only [Option.some.injEq] at h1; exact .inr (by simp at h1 ⊢; omega))
        have HF3 := Lib.hid hF
        have HS3 := Lib.hid (HS2.out.trans (StepO.behind ((Upd.refl [] _).alloc (.cells #[.int .i64 x] 3)) hS))
        obtain ⟨A3, n3, cap3, rfl⟩ := ho.slice
        clear hF hS ho hu hv e1 e2 e3 e4
        go_wp2_with fail
        go_roundg (M - (k + 1))
        case measure => omega
        case rel => exact ⟨k + 1, _, rfl, by omega, by go_num, Lib.hid ⟨_, _, _, by rw [HT.out, HP.out]; exact HF3.out, rfl⟩, HS3⟩
      · have HP : Hid (pend1 (ws1, ps1) x = (ws1, ps1)) := Lib.hid (if_neg hx)
        have HQ := Lib.hid (index_miss 0 vw ws1 x wr hF.waits hx (by have := HN.out; first | omega | (simp only at this; omega)))
        clear hF hx
        go_wp2_with fail
        refine (HQ.out).mono ?_
        rintro e w' ⟨rfl, rfl⟩
        go_wp2_with fail
        go_roundg (M - (k + 1))
        case measure => omega
        case rel => exact ⟨k + 1, _, rfl, by omega, by go_num, Lib.hid (by rw [HT.out, HP.out]; exact HF.out), HS⟩
    · obtain rfl : k = M := by omega
      have hR := HF.out
      rw [List.take_of_length_le (by rw [HM.out]; exact Nat.le_refl _)] at hR
      have HR3 := Lib.hid hR
      clear hR
      go_wp2_with fail
      go_end0
      exact ⟨rfl, O', HR3.out, HS.out⟩
end
end Go.Proofs.Ytendjhobemlhoaa
