/- An object is made, where there is room or not. No program in sight. -/
import Derived.Test.YtpkbdmieelgdlaaGreatObjP
namespace Go.Proofs.YtpkbdmieelgdlaaGreat
open Go Go.RowKit

section
variable {S : Sp} {l : List Int} {F : Int → Ob} {a : Int}
theorem Objs.made (h : Objs S l F) (hw : S.WF) {S1 : Sp} {o : Ob} {n : Nat} (hmay : o.may) (hz : o.ws = List.replicate n 0) (hn : n ≤ 31) (hmd : Made S S1 a (blockZ ((n : Int) + 1))) :
    64 ≤ a ∧ a < S1.W.length ∧ a ∉ l ∧ Objs ⟨S1.W.set a.toNat o.word, S1.pg⟩ (l ++ [a]) (fset F a o) ∧ S1.pg.length = S.pg.length := by
  have hc : ¬ classZ ((n : Int) + 1) < 0 := by unfold classZ; (repeat' split) <;> omega
  obtain ⟨c, hcc, hc5, hbw⟩ := class_small hc
  have hwp := words_pos hc5
  have hb : blockZ ((n : Int) + 1) ≠ 0 := by omega
  have hbd := block_bd hb
  have hlen := hw.len
  rw [hbw] at hmd hbd
  have hl1 : S1.W.length = S.W.length := by rw [hmd.wf.len, hmd.pg, hlen]
  have hlo := hmd.lo
  have hhi := hmd.hi
  have hal' : a ∉ l := fun ha => by
    obtain ⟨m, hm, _⟩ := h.ob a ha
    have := hmd.was a (by omega) (by omega)
    rw [hm] at this; cases this
  have hf : ∀ z, (Sp.mk (S1.W.set a.toNat o.word) S1.pg).find z = S1.find z := fun z => find_same (by simp) rfl fun _ _ => rfl
  have hW1 : ∀ j, S1.W.getD j 0 = if a.toNat ≤ j ∧ j < a.toNat + ((wordsOf c : Nat) : Int).toNat then 0 else S.W.getD j 0 := fun j => by
    rw [hmd.W, filledAt_get _ _ _ _ (by omega)]
  have how : (o.ws.length : Int) = n := by rw [hz]; simp
  refine ⟨hlo, by omega, hal', ⟨fun p c' l' hp => hmd.ne h.ne p c' l' hp, fun b m hb => ?_, fun b hb => ?_, ?_⟩, hmd.pg⟩
  · rw [hf, hmd.find] at hb
    split at hb
    · simp only [Prod.mk.injEq, and_true] at hb
      simp [hb.1]
    · exact List.mem_append_left _ (h.dom b m hb)
  · by_cases e : b = a
    · subst e
      refine ⟨(wordsOf c : Nat), by rw [hf, hmd.find, if_pos (by omega)], ?_⟩
      rw [fset_same]
      refine ⟨by omega, by omega, hmay, ?_, fun i hi => ?_⟩
      · show (S1.W.set _ _).getD _ 0 = _
        rw [getD_setW, if_pos ⟨rfl, by omega⟩]
      · show (S1.W.set _ _).getD _ 0 = _
        rw [getD_setW, if_neg (by omega), hW1, if_pos (by omega), hz]
        simp [List.getD_eq_getElem?_getD, List.getElem?_replicate]
        split <;> rfl
    · have hbl : b ∈ l := by
        rcases List.mem_append.1 hb with hb | hb
        · exact hb
        · exact absurd (List.mem_singleton.1 hb) e
      obtain ⟨m, hm, hs⟩ := h.ob b hbl
      have f2 := find_block hw hm
      have hap : a + (wordsOf c : Nat) ≤ b ∨ b + m ≤ a := by
        by_cases h3 : a + (wordsOf c : Nat) ≤ b
        · exact .inl h3
        · by_cases h4 : b + m ≤ a
          · exact .inr h4
          · exfalso
            by_cases h5 : a ≤ b
            · have := hmd.was b h5 (by omega)
              rw [hm] at this; cases this
            · have := hmd.was a (by omega) (by omega)
              rw [f2.2.2.2.2 a (by omega) (by omega)] at this; cases this
      refine ⟨m, by rw [hf, hmd.find, if_neg (by omega)]; exact hm, ?_⟩
      rw [fset_ne _ e]
      have hr := hs.room
      refine ⟨hs.small, hs.room, hs.may, ?_, fun i hi => ?_⟩
      · show (S1.W.set _ _).getD _ 0 = _
        rw [getD_setW, if_neg (by omega), hW1, if_neg (by omega)]; exact hs.word
      · show (S1.W.set _ _).getD _ 0 = _
        rw [getD_setW, if_neg (by omega), hW1, if_neg (by omega)]; exact hs.field i hi
  · rw [List.nodup_append]
    refine ⟨h.nodup, by simp, fun x hx y hy => ?_⟩
    rintro rfl
    rw [List.mem_singleton.1 hy] at hx
    exact hal' hx
end
/-- What a block's making does to the pages, where the block is, and the error: by the pages alone. -/
def makeP (pg : List Pst) (m : Int) : List Pst × Int × Int := (((Sp.mk [] pg).alloc m).1.pg, ((Sp.mk [] pg).alloc m).2)
theorem makeP_any (S : Sp) (m : Int) : makeP S.pg m = ((S.alloc m).1.pg, (S.alloc m).2) := by
  unfold makeP Sp.alloc
  (repeat' split) <;> rfl
theorem makeP_alloc (pg : List Pst) (m : Int) : allocP pg m = ((makeP pg m).1, (makeP pg m).2.1) := rfl
/-- An object of n words 0 is made, or there is no room: what is behind it. -/
def MadeAs (np : List Pst) (l : List Int) (F : Int → Ob) (o : Ob) (pg : List Pst) (l' : List Int) (F' : Int → Ob) (a r : Int) : Prop :=
  makeP np ((o.ws.length : Int) + 1) = (pg, a, r) ∧ ((r = 0 ∧ l' = l ++ [a] ∧ F' = fset F a o ∧ 64 ≤ a ∧ a ≤ 16384 ∧ a ∉ l ∧ pg.length = np.length) ∨ (r = 3 ∧ a = 0 ∧ l' = l ∧ F' = F ∧ pg = np))
theorem MadeAs.unique {np : List Pst} {l : List Int} {F : Int → Ob} {o : Ob} {pg pg' : List Pst} {l1 l2 : List Int} {F1 F2 : Int → Ob} {a a' r r' : Int} (h : MadeAs np l F o pg l1 F1 a r) (k : MadeAs np l F o pg' l2 F2 a' r') : pg' = pg ∧ l2 = l1 ∧ F2 = F1 ∧ a' = a ∧ r' = r := by
  obtain ⟨h1, h2⟩ := h
  obtain ⟨k1, k2⟩ := k
  rw [h1] at k1
  simp only [Prod.mk.injEq] at k1
  obtain ⟨rfl, rfl, rfl⟩ := k1
  rcases h2 with ⟨e, h3, h4, _⟩ | ⟨e, _, h3, h4, _⟩
  · rcases k2 with ⟨_, k3, k4, _⟩ | ⟨e2, _⟩
    · exact ⟨rfl, by rw [h3, k3], by rw [h4, k4], rfl, rfl⟩
    · omega
  · rcases k2 with ⟨e2, _⟩ | ⟨_, _, k3, k4, _⟩
    · omega
    · exact ⟨rfl, by rw [h3, k3], by rw [h4, k4], rfl, rfl⟩
theorem Objs.make_any {S : Sp} {l : List Int} {F : Int → Ob} (h : Objs S l F) (hw : S.WF) {o : Ob} {n : Nat} (hmay : o.may) (hz : o.ws = List.replicate n 0) (hn : n ≤ 31) :
    (S.alloc ((n : Int) + 1) = (S, 0, 3) ∧ MadeAs S.pg l F o S.pg l F 0 3) ∨
    ∃ S1 a, S.alloc ((n : Int) + 1) = (S1, a, 0) ∧ 64 ≤ a ∧ a < S1.W.length ∧ Objs ⟨S1.W.set a.toNat o.word, S1.pg⟩ (l ++ [a]) (fset F a o) ∧ MadeAs S.pg l F o S1.pg (l ++ [a]) (fset F a o) a 0 := by
  have hc : ¬ classZ ((n : Int) + 1) < 0 := by unfold classZ; (repeat' split) <;> omega
  obtain ⟨c, hcc, hc5, hbw⟩ := class_small hc
  have hwp := words_pos hc5
  have hlw : (o.ws.length : Int) = n := by rw [hz]; simp
  rcases alloc_cases hw ((n : Int) + 1) with ⟨h1, _⟩ | ⟨_, h2⟩ | ⟨hb, S1, a, h3, hmd⟩
  · omega
  · exact .inl ⟨h2, by rw [hlw, makeP_any, h2], .inr ⟨rfl, rfl, rfl, rfl, rfl⟩⟩
  · obtain ⟨m1, m2, m3, m4, m5⟩ := h.made hw hmay hz hn hmd
    have hlen := hmd.wf.len
    have hn2 := hmd.wf.n2
    exact .inr ⟨S1, a, h3, m1, m2, m4, by rw [hlw, makeP_any, h3], .inl ⟨rfl, rfl, rfl, m1, by omega, m3, m5⟩⟩
end Go.Proofs.YtpkbdmieelgdlaaGreat
