/- Objects in a space: where they are, their heads, their fields. No program in sight. -/
import Derived.Test.YtpkbdmieelgdlaaGreatP2
import Derived.Test.YtpkbdmieelgdlaaGreatP1
namespace Go.Proofs.YtpkbdmieelgdlaaGreat
open Go Go.RowKit

/-- An object: its kind, its class, whether it has a finalizer, its fields. -/
structure Ob where
  k : Int
  c : Int
  f : Bool
  ws : List Int
def putZ (k c l : Int) (f : Bool) : Int := k + 16 * c + 65536 * l + if f then 8 else 0
def Ob.word (o : Ob) : Int := putZ o.k o.c o.ws.length o.f
def Ob.may (o : Ob) : Prop := mayB o.k o.c o.ws.length o.f = true
def Ob.head (o : Ob) : Value := .agg #[.int .i64 o.k, .int .i64 o.c, .int .i64 o.ws.length, .bool o.f]
theorem may_bd {k c l : Int} {f : Bool} (h : mayB k c l f = true) : 0 ≤ l ∧ l ≤ 1023 ∧ 1 ≤ k ∧ k ≤ 4 ∧ 0 ≤ c ∧ c ≤ 256 := by
  rcases may_cases k c l f with ⟨_, h1⟩ | ⟨_, _, h1⟩ | ⟨h1, h2, h3⟩
  · rw [h1] at h; cases h
  · rw [h1] at h; cases h
  · rcases h3 with ⟨h4, h5⟩ | ⟨h4, h5⟩ | ⟨h4, h5⟩ | ⟨h4, h5⟩ | ⟨_, _, _, _, h5⟩
    · rcases h5 with ⟨_, h6⟩ | ⟨_, _, h6⟩ | ⟨_, _, _⟩
      · rw [h6] at h; cases h
      · rw [h6] at h; cases h
      · omega
    · rcases h5 with ⟨_, h6⟩ | ⟨_, _, h6⟩ | ⟨_, _⟩
      · rw [h6] at h; cases h
      · rw [h6] at h; cases h
      · omega
    · rcases h5 with ⟨_, h6⟩ | ⟨_, _, h6⟩ | ⟨_, _⟩
      · rw [h6] at h; cases h
      · rw [h6] at h; cases h
      · omega
    · rcases h5 with ⟨_, h6⟩ | ⟨_, _, h6⟩ | ⟨_, _, _, h6⟩ | ⟨_, _, _, _, h6⟩ | ⟨_, _, _, _, _⟩
      · rw [h6] at h; cases h
      · rw [h6] at h; cases h
      · rw [h6] at h; cases h
      · rw [h6] at h; cases h
      · omega
    · rw [h5] at h; cases h

theorem getD_setW (l : List Int) (i j : Nat) (x : Int) : (l.set i x).getD j 0 = if i = j ∧ j < l.length then x else l.getD j 0 := by
  rw [List.getD_eq_getElem?_getD, List.getD_eq_getElem?_getD, List.getElem?_set]
  by_cases h : i = j
  · subst h
    by_cases h2 : i < l.length
    · rw [if_pos rfl, if_pos h2, if_pos ⟨rfl, h2⟩]; rfl
    · rw [if_pos rfl, if_neg h2, if_neg (fun e => h2 e.2), List.getElem?_eq_none (by omega)]
  · rw [if_neg h, if_neg (fun e => h e.1)]

/-- Object o stands in a block of m words at a. -/
structure Stored (W : List Int) (a m : Int) (o : Ob) : Prop where
  small : m ≤ 32
  room : (o.ws.length : Int) + 1 ≤ m
  may : o.may
  word : W.getD a.toNat 0 = o.word
  field : ∀ i, i < o.ws.length → W.getD (a.toNat + 1 + i) 0 = o.ws.getD i 0
/-- The objects of a space: they are at the places of l. -/
structure Objs (S : Sp) (l : List Int) (F : Int → Ob) : Prop where
  ne : S.NE
  dom : ∀ a m, S.find a = (a, m, true) → a ∈ l
  ob : ∀ a ∈ l, ∃ m, S.find a = (a, m, true) ∧ Stored S.W a m (F a)
  nodup : l.Nodup
def fset (F : Int → Ob) (a : Int) (o : Ob) : Int → Ob := fun x => if x = a then o else F x
theorem fset_same (F : Int → Ob) (a : Int) (o : Ob) : fset F a o a = o := if_pos rfl
theorem fset_ne {F : Int → Ob} {a x : Int} (o : Ob) (h : x ≠ a) : fset F a o x = F x := if_neg h

section
variable {S : Sp} {l : List Int} {F : Int → Ob} {a : Int}
theorem Objs.new {n : Nat} (h1 : 1 ≤ n) (F : Int → Ob) : Objs (newSp n) [] F :=
  ⟨newSp_ne n h1, fun a m h => (by rw [eta_find h1 rfl] at h; cases h), by simp, by simp⟩
theorem Objs.none (h : Objs S l F) (ha : a ∉ l) : (S.find a).2.2 = false ∨ (S.find a).1 ≠ a := by
  rcases hx : S.find a with ⟨x, m, b⟩
  cases b
  · exact .inl rfl
  · by_cases e : x = a
    · subst e; exact absurd (h.dom x m hx) ha
    · exact .inr e
/-- Two blocks are apart. -/
theorem blocks_apart (hw : S.WF) {a m b k : Int} (h1 : S.find a = (a, m, true)) (h2 : S.find b = (b, k, true)) (hne : a ≠ b) : a + m ≤ b ∨ b + k ≤ a := by
  have f1 := find_block hw h1
  have f2 := find_block hw h2
  by_cases h3 : a + m ≤ b
  · exact .inl h3
  · by_cases h4 : b + k ≤ a
    · exact .inr h4
    · exfalso
      by_cases h5 : a ≤ b
      · have := f1.2.2.2.2 b h5 (by omega)
        rw [h2] at this
        simp only [Prod.mk.injEq] at this
        omega
      · have := f2.2.2.2.2 a (by omega) (by omega)
        rw [h1] at this
        simp only [Prod.mk.injEq] at this
        omega
/-- What is stored within an object's block turns that object alone. -/
theorem Objs.put (h : Objs S l F) (hw : S.WF) (ha : a ∈ l) {m : Int} (hm : S.find a = (a, m, true)) {W : List Int} {o : Ob} (hl : W.length = S.W.length) (hsame : ∀ j, ¬ (a.toNat ≤ j ∧ (j : Int) < a + m) → W.getD j 0 = S.W.getD j 0) (hst : Stored W a m o) :
    Objs ⟨W, S.pg⟩ l (fset F a o) := by
  have hf : ∀ z, (Sp.mk W S.pg).find z = S.find z := fun z => find_same hl rfl fun _ _ => rfl
  refine ⟨h.ne, fun b k hb => h.dom b k (by rw [hf] at hb; exact hb), fun b hb => ?_, h.nodup⟩
  by_cases e : b = a
  · subst e
    exact ⟨m, by rw [hf]; exact hm, by rw [fset_same]; exact hst⟩
  · obtain ⟨k, hk, hs⟩ := h.ob b hb
    refine ⟨k, by rw [hf]; exact hk, ?_⟩
    rw [fset_ne _ e]
    have hap := blocks_apart hw hm hk (Ne.symm e)
    have f1 := find_block hw hm
    have f2 := find_block hw hk
    have hr := hs.room
    refine ⟨hs.small, hs.room, hs.may, ?_, fun i hi => ?_⟩
    · show W.getD _ 0 = _
      rw [hsame _ (by omega)]; exact hs.word
    · show W.getD _ 0 = _
      rw [hsame _ (by omega)]; exact hs.field i hi
/-- A field is stored. -/
theorem Objs.field (h : Objs S l F) (hw : S.WF) (ha : a ∈ l) {i : Nat} (hi : i < (F a).ws.length) (x : Int) :
    Objs ⟨S.W.set (a.toNat + 1 + i) x, S.pg⟩ l (fset F a { F a with ws := (F a).ws.set i x }) := by
  obtain ⟨m, hm, hs⟩ := h.ob a ha
  have f1 := find_block hw hm
  have hr := hs.room
  refine h.put hw ha hm (by simp) (fun j hj => ?_) ⟨hs.small, by simpa using hs.room, by have := hs.may; unfold Ob.may at this ⊢; simpa using this, ?_, fun k hk => ?_⟩
  · rw [getD_setW, if_neg (by omega)]
  · rw [getD_setW, if_neg (by omega), hs.word]; unfold Ob.word; simp
  · simp only [List.length_set] at hk
    rw [getD_setW, getD_setW, hs.field k hk]
    by_cases e : i = k
    · subst e; rw [if_pos ⟨rfl, by omega⟩, if_pos ⟨rfl, hk⟩]
    · rw [if_neg (by omega), if_neg (fun e2 => e e2.1)]
/-- A head is stored. -/
theorem Objs.final (h : Objs S l F) (hw : S.WF) (ha : a ∈ l) (hmay : mayB (F a).k (F a).c (F a).ws.length true = true) :
    Objs ⟨S.W.set a.toNat (putZ (F a).k (F a).c (F a).ws.length true), S.pg⟩ l (fset F a { F a with f := true }) := by
  obtain ⟨m, hm, hs⟩ := h.ob a ha
  have f1 := find_block hw hm
  have hr := hs.room
  refine h.put hw ha hm (by simp) (fun j hj => ?_) ⟨hs.small, hs.room, hmay, ?_, fun k hk => ?_⟩
  · rw [getD_setW, if_neg (by omega)]
  · rw [getD_setW, if_pos ⟨rfl, by omega⟩]; rfl
  · rw [getD_setW, if_neg (by omega)]; exact hs.field k hk

theorem nodup_sub : ∀ (l1 l2 : List Int), l1.Nodup → (∀ x ∈ l1, x ∈ l2) → l1.length ≤ l2.length
  | [], _, _, _ => by simp
  | x :: t, l2, hn, hs => by
    obtain ⟨h1, h2⟩ := List.nodup_cons.1 hn
    have hx := hs x (by simp)
    have := nodup_sub t (l2.erase x) h2 fun y hy => (List.mem_erase_of_ne (by rintro rfl; exact h1 hy)).2 (hs y (by simp [hy]))
    rw [List.length_erase_of_mem hx] at this
    have hp := List.length_pos_of_mem hx
    simp only [List.length_cons]
    omega
theorem each_many {S : Sp} (h : ∀ j, 1 ≤ j → j < S.pg.length → startsOf j (atP S.pg j) ≠ []) : S.pg.length ≤ S.each.length + 1 := by
  unfold Sp.each
  have : ∀ k, k ≤ S.pg.length → k ≤ ((List.range k).flatMap fun p => startsOf p (atP S.pg p)).length + 1 := fun k => by
    induction k with
    | zero => intro _; omega
    | succ k ih =>
      intro hk
      rw [List.range_succ, List.flatMap_append, List.length_append]
      have h1 := ih (by omega)
      by_cases h0 : k = 0
      · omega
      · have h2 := List.length_pos_iff.2 (h k (by omega) (by omega))
        simp only [List.flatMap_cons, List.flatMap_nil, List.append_nil]
        omega
  exact this _ (Nat.le_refl _)
/-- Where a page is free there is room for a small block. -/
theorem alloc_small_room (hw : S.WF) (n : Int) (hb : blockZ n ≠ 0) (hc : ¬ classZ n < 0) (hj : ∃ j, j < S.pg.length ∧ atP S.pg j = .free) : ∃ S' a, S.alloc n = (S', a, 0) ∧ Made S S' a (blockZ n) := by
  rcases alloc_cases hw n with ⟨h1, _⟩ | ⟨_, h2⟩ | ⟨_, h3⟩
  · exact absurd h1 hb
  · exfalso
    obtain ⟨j, hj1, hj2⟩ := hj
    have hrun : runZ (bitsOf S.pg) 0 1 ≠ -1 := fun e => by
      rcases isRun_runZ (bitsOf S.pg) 0 1 (by omega) with ⟨_, h5⟩ | ⟨p, h5, _⟩
      · obtain ⟨i, h6, h7, h8⟩ := h5 j (by simp) (by rw [bits_length]; show j + 1 ≤ _; omega)
        obtain rfl : i = j := by have : (1 : Int).toNat = 1 := rfl; omega
        rw [bits_get, hj2] at h8
        cases h8
      · omega
    unfold Sp.alloc at h2
    rw [if_neg hb, if_neg hc] at h2
    split at h2
    · have := congrArg (·.2.2) h2
      cases this
    · rcases run_nat (l := bitsOf S.pg) (i := 0) (k := 1) with e | ⟨p, e⟩
      · exact hrun e
      · rw [e, if_neg (by omega)] at h2
        have := congrArg (·.2.2) h2
        cases this
  · exact h3
/-- A new object, where there are fewer than pages. -/
theorem Objs.make (h : Objs S l F) (hw : S.WF) {o : Ob} {n : Nat} (hmay : o.may) (hz : o.ws = List.replicate n 0) (hn : n ≤ 31) (hroom : l.length + 1 < S.pg.length) :
    ∃ S1 a, S.alloc ((n : Int) + 1) = (S1, a, 0) ∧ 64 ≤ a ∧ a < S1.W.length ∧ a ∉ l ∧ Objs ⟨S1.W.set a.toNat o.word, S1.pg⟩ (l ++ [a]) (fset F a o) ∧ S1.pg.length = S.pg.length := by
  have hc : ¬ classZ ((n : Int) + 1) < 0 := by unfold classZ; (repeat' split) <;> omega
  obtain ⟨c, hcc, hc5, hbw⟩ := class_small hc
  have hwp := words_pos hc5
  have hb : blockZ ((n : Int) + 1) ≠ 0 := by omega
  have hbd := block_bd hb
  have hlen := hw.len
  have hfree : ∃ j, j < S.pg.length ∧ atP S.pg j = .free := by
    refine Classical.byContradiction fun hno => ?_
    have hstart : ∀ j, 1 ≤ j → j < S.pg.length → startsOf j (atP S.pg j) ≠ [] := fun j h1 h2 => by
      cases hx : atP S.pg j
      case zero => exact absurd ((hw.zero j).1 hx) (by omega)
      case free => exact absurd ⟨j, h2, hx⟩ hno
      case small c' l' =>
        have hpos := h.ne j c' l' hx
        unfold countB at hpos
        obtain ⟨i, hi, e⟩ := List.mem_iff_getElem.1 (List.count_pos_iff.1 hpos)
        unfold startsOf
        intro e2
        have : i ∈ (List.range l'.length).filter (fun i => l'.getD i false) := List.mem_filter.2 ⟨List.mem_range.2 hi, by rw [List.getD_eq_getElem?_getD, List.getElem?_eq_getElem hi, e]; rfl⟩
        rw [List.map_eq_nil_iff.1 e2] at this
        cases this
      case first k => simp [startsOf]
      case rest f =>
        exfalso
        obtain ⟨_, k, hk, hlt⟩ := hw.rest j f hx
        have g := hw.first f k hk
        have hff : S.find ((f : Int) * 64) = ((f : Int) * 64, (k : Int) * 64, true) := by
          rw [find_in (by omega) (by omega), show ((f : Int) * 64 / 64).toNat = f from by omega, hk]
          simp only [findIn]
          rw [show (f : Int) * 64 / 64 * 64 = (f : Int) * 64 from by omega]
        obtain ⟨m, hm, hs⟩ := h.ob _ (h.dom _ _ hff)
        rw [hff] at hm
        simp only [Prod.mk.injEq, and_true, true_and] at hm
        have := hs.small
        have := g.1
        omega
    have h1 := each_many hstart
    have h2 := nodup_sub S.each l ((each_sorted hw).imp fun h => by omega) fun x hx => by
      obtain ⟨m, hm⟩ := (each_iff hw).1 hx
      exact h.dom x m hm
    omega
  obtain ⟨S1, a, hal, hmd⟩ := alloc_small_room hw _ hb hc hfree
  rw [hbw] at hmd hbd
  have hl1 : S1.W.length = S.W.length := by rw [hmd.wf.len, hmd.pg, hlen]
  have hlo := hmd.lo
  have hhi := hmd.hi
  have hal' : a ∉ l := fun ha => by
    obtain ⟨m, hm, _⟩ := h.ob a ha
    have := hmd.was a (by omega) (by omega)
    rw [hm] at this; cases this
  have hf : ∀ z, (Sp.mk (S1.W.set a.toNat o.word) S1.pg).find z = S1.find z := fun z => find_same (by simp) rfl fun _ _ => rfl
  have hW1 : ∀ j, S1.W.getD j 0 = if a.toNat ≤ j ∧ j < a.toNat + ((wordsOf c : Nat) : Int).toNat then 0 else S.W.getD j 0 := fun j => by
    rw [hmd.W, filledAt_get _ _ _ _ (by omega)]
  have how : (o.ws.length : Int) = n := by rw [hz]; simp
  refine ⟨S1, a, hal, hlo, by omega, hal', ⟨fun p c' l' hp => hmd.ne h.ne p c' l' hp, fun b m hb => ?_, fun b hb => ?_, ?_⟩, hmd.pg⟩
  · rw [hf, hmd.find] at hb
    split at hb
    · simp only [Prod.mk.injEq, and_true] at hb
      simp [hb.1]
    · exact List.mem_append_left _ (h.dom b m hb)
  · by_cases e : b = a
    · subst e
      refine ⟨(wordsOf c : Nat), by rw [hf, hmd.find, if_pos (by omega)], ?_⟩
      rw [fset_same]
      refine ⟨by omega, by omega, hmay, ?_, fun i hi => ?_⟩
      · show (S1.W.set _ _).getD _ 0 = _
        rw [getD_setW, if_pos ⟨rfl, by omega⟩]
      · show (S1.W.set _ _).getD _ 0 = _
        rw [getD_setW, if_neg (by omega), hW1, if_pos (by omega), hz]
        simp [List.getD_eq_getElem?_getD, List.getElem?_replicate]
        split <;> rfl
    · have hbl : b ∈ l := by
        rcases List.mem_append.1 hb with hb | hb
        · exact hb
        · exact absurd (List.mem_singleton.1 hb) e
      obtain ⟨m, hm, hs⟩ := h.ob b hbl
      have f2 := find_block hw hm
      have hap : a + (wordsOf c : Nat) ≤ b ∨ b + m ≤ a := by
        by_cases h3 : a + (wordsOf c : Nat) ≤ b
        · exact .inl h3
        · by_cases h4 : b + m ≤ a
          · exact .inr h4
          · exfalso
            by_cases h5 : a ≤ b
            · have := hmd.was b h5 (by omega)
              rw [hm] at this; cases this
            · have := hmd.was a (by omega) (by omega)
              rw [f2.2.2.2.2 a (by omega) (by omega)] at this; cases this
      refine ⟨m, by rw [hf, hmd.find, if_neg (by omega)]; exact hm, ?_⟩
      rw [fset_ne _ e]
      have hr := hs.room
      refine ⟨hs.small, hs.room, hs.may, ?_, fun i hi => ?_⟩
      · show (S1.W.set _ _).getD _ 0 = _
        rw [getD_setW, if_neg (by omega), hW1, if_neg (by omega)]; exact hs.word
      · show (S1.W.set _ _).getD _ 0 = _
        rw [getD_setW, if_neg (by omega), hW1, if_neg (by omega)]; exact hs.field i hi
  · rw [List.nodup_append]
    refine ⟨h.nodup, by simp, fun x hx y hy => ?_⟩
    rintro rfl
    rw [List.mem_singleton.1 hy] at hx
    exact hal' hx
end
end Go.Proofs.YtpkbdmieelgdlaaGreat
