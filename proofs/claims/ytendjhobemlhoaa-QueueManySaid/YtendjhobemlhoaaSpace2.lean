/- What becomes of a space in memory, step by step: words that are filled, a block that is taken or given, a page that is new or given up. -/
import Derived.Test.YtendjhobemlhoaaSpace
namespace Go.Proofs.Ytendjhobemlhoaa
open Go Go.RowKit

def gOf (L : Lay) (p : Nat) : Pst → List Nat
  | .small _ _ => [(L.lay p).2.2]
  | _ => []
/-- The blocks of a space that a step may turn. -/
def Foot (L : Lay) (S : Sp) : List Nat := [L.ga, L.g0, L.ms, L.ml] ++ (List.range S.pg.length).flatMap fun p => gOf L p (atP S.pg p)
theorem mem_foot {L : Lay} {S : Sp} {k : Nat} : k ∈ Foot L S ↔ k = L.ga ∨ k = L.g0 ∨ k = L.ms ∨ k = L.ml ∨ ∃ p c l, atP S.pg p = .small c l ∧ k = (L.lay p).2.2 := by
  unfold Foot
  simp only [List.mem_append, List.mem_cons, List.not_mem_nil, or_false, List.mem_flatMap, List.mem_range]
  constructor
  · rintro ((h | h | h | h) | ⟨p, hp, hk⟩)
    · exact .inl h
    · exact .inr (.inl h)
    · exact .inr (.inr (.inl h))
    · exact .inr (.inr (.inr (.inl h)))
    · cases hx : atP S.pg p <;> rw [hx] at hk <;> simp [gOf] at hk
      exact .inr (.inr (.inr (.inr ⟨p, _, _, hx, hk⟩)))
  · rintro (h | h | h | h | ⟨p, c, l, hx, hk⟩)
    · exact .inl (.inl h)
    · exact .inl (.inr (.inl h))
    · exact .inl (.inr (.inr (.inl h)))
    · exact .inl (.inr (.inr (.inr h)))
    · exact .inr ⟨p, atP_in hx (by simp), by rw [hx]; simp [gOf, hk]⟩
theorem foot_owns {s : Nat} {L : Lay} {S : Sp} {k : Nat} (h : k ∈ Foot L S) : Owns s L S k := by
  unfold Owns
  rcases mem_foot.1 h with h | h | h | h | ⟨p, c, l, hx, hk⟩
  · simp [h]
  · simp [h]
  · simp [h]
  · simp [h]
  · exact .inr (.inr (.inr (.inr (.inr (.inr (.inr (.inr ⟨p, c, l, hx, .inr (.inr hk)⟩)))))))

/-- Behind a step that turns S to S'. -/
def After (s : Nat) (L : Lay) (S S' : Sp) (w w' : World) : Prop :=
  ∃ L', IsSpace w' s L' S' ∧ Upd (Foot L S) w w' ∧ (∀ k ∈ Foot L' S', k ∈ Foot L S ∨ w.heap.size ≤ k) ∧ ∀ k, Owns s L' S' k → Owns s L S k ∨ w.heap.size ≤ k

section
variable {w w' w1 w2 : World} {s : Nat} {L L' : Lay} {S S' S1 S2 : Sp} {E : List Nat}
theorem After.same (h : IsSpace w s L S) (hu : Upd [] w w') : After s L S S w w' := ⟨L, h.upd0 hu, hu.mono (by simp), fun k hk => .inl hk, fun k hk => .inl hk⟩
theorem After.trans (h : After s L S S1 w w1) (k : ∀ L1, IsSpace w1 s L1 S1 → After s L1 S1 S2 w1 w2) : After s L S S2 w w2 := by
  obtain ⟨L1, h1, h2, h3, h4⟩ := h
  obtain ⟨L2, k1, k2, k3, k4⟩ := k L1 h1
  have hz := h2.size
  refine ⟨L2, k1, h2.step k2 h3, fun i hi => ?_, fun i hi => ?_⟩
  · rcases k3 i hi with h | h
    · exact h3 i h
    · exact .inr (by omega)
  · rcases k4 i hi with h | h
    · exact h4 i h
    · exact .inr (by omega)
theorem After.step (h : IsSpace w1 s L' S1 ∧ Upd (Foot L S) w w1 ∧ (∀ k ∈ Foot L' S1, k ∈ Foot L S ∨ w.heap.size ≤ k) ∧ ∀ k, Owns s L' S1 k → Owns s L S k ∨ w.heap.size ≤ k) (k : After s L' S1 S2 w1 w2) : After s L S S2 w w2 := by
  obtain ⟨h1, h2, h3, h4⟩ := h
  obtain ⟨L2, k1, k2, k3, k4⟩ := k
  have hz := h2.size
  refine ⟨L2, k1, h2.step k2 h3, fun i hi => ?_, fun i hi => ?_⟩
  · rcases k3 i hi with h | h
    · exact h3 i h
    · exact .inr (by omega)
  · rcases k4 i hi with h | h
    · exact h4 i h
    · exact .inr (by omega)
theorem After.upd0 (h : After s L S S1 w w1) (hu : Upd [] w1 w2) : After s L S S1 w w2 := h.trans fun _ h1 => .same h1 hu
theorem After.behind (hu : Upd [] w w1) (h : After s L S S1 w1 w2) : After s L S S1 w w2 := by
  obtain ⟨L1, h1, h2, h3, h4⟩ := h
  have hz := hu.size
  refine ⟨L1, h1, (hu.mono (by simp)).trans h2, fun i hi => ?_, fun i hi => ?_⟩
  · rcases h3 i hi with h | h
    · exact .inl h
    · exact .inr (by omega)
  · rcases h4 i hi with h | h
    · exact .inl h
    · exact .inr (by omega)

theorem Blk.ne_map {g b n : Nat} {t : TypeId} {cs : Array Value} {f : Int → Option Value} (h : Blk w g t cs) (hm : MapV w b n f) : g ≠ b := by
  rintro rfl
  obtain ⟨D, ⟨es, clock, hb, _⟩, _⟩ := hm
  unfold Blk at h
  rw [h] at hb
  cases hb

/-- Words are filled or stored. -/
theorem IsSpace.words {W : List Int} (h : IsSpace w s L S) (ha : IsArena w' L.pa L.ga W) (hl : W.length = S.W.length) (hu : Upd [L.ga] w w') : After s L S ⟨W, S.pg⟩ w w' := by
  have ng : ∀ {g t cs}, Blk w g t cs → t ≠ 3 → g ∉ [L.ga] := fun hb hne => by simpa using hb.ne_ h.arena.2 hne
  refine ⟨L, ⟨h.box.upd hu (ng h.box (by decide)), ha, h.pages.upd hu (ng h.pages.1 (by decide)) (ng h.pages.2.1 (by decide)) (ng h.pages.2.2 (by decide)), h.small.upd hu (by simpa using (h.arena.2.ne_map h.small).symm), h.large.upd hu (by simpa using (h.arena.2.ne_map h.large).symm),
    fun p c l hp => (h.page p c l hp).upd hu (ng (h.page p c l hp).1 (by decide)) (ng (h.page p c l hp).2.1 (by decide)) (ng (h.page p c l hp).2.2 (by decide)), h.apart, h.apart0, h.apart1, ?_⟩, hu.mono (fun i hi => mem_foot.2 (.inl (by simpa using hi))), fun k hk => .inl hk, fun k hk => .inl hk⟩
  exact ⟨h.wf.n1, h.wf.n2, by rw [hl]; exact h.wf.len, h.wf.zero, h.wf.small, h.wf.first, h.wf.rest⟩

/-- The blocks of a page that are taken turn. -/
theorem IsSpace.bits {p c : Nat} {l l' : List Bool} (h : IsSpace w s L S) (hp : atP S.pg p = .small c l) (hP : IsPage w' (L.lay p).1 (L.lay p).2.1 (L.lay p).2.2 (wordsOf c) l') (hl : l'.length = l.length) (hu : Upd [(L.lay p).2.2] w w') :
    After s L S ⟨S.W, S.pg.set p (.small c l')⟩ w w' := by
  have hb := (h.page p c l hp).2.2
  have hlt := atP_in hp (by simp)
  have ng : ∀ {g t cs}, Blk w g t cs → t ≠ 4 → g ∉ [(L.lay p).2.2] := fun hb' hne => by simpa using hb'.ne_ hb hne
  have hA : ∀ j, atP (S.pg.set p (.small c l')) j = if j = p then .small c l' else atP S.pg j := fun j => atP_set _ hlt
  have hsm : ∀ j c' k, atP (S.pg.set p (.small c l')) j = .small c' k → ∃ k', atP S.pg j = .small c' k' := fun j c' k hj => by
    rw [hA] at hj
    split at hj
    · rename_i e; cases hj; subst e; exact ⟨l, hp⟩
    · exact ⟨k, hj⟩
  have hbs : bitsOf (S.pg.set p (.small c l')) = bitsOf S.pg := by
    rw [bits_set]
    refine ext_getD (by simp) fun j hj => ?_
    rw [getD_set]
    split
    · rename_i e; obtain ⟨rfl, _⟩ := e; rw [bits_get, hp]; rfl
    · rfl
  refine ⟨L, ⟨h.box.upd hu (ng h.box (by decide)), h.arena.upd hu (ng h.arena.1 (by decide)) (ng h.arena.2 (by decide)), ?_, ?_, ?_, fun j c' k hj => ?_, h.apart, fun j c' k hj => ?_, fun j c' k j' c'' k' hj hj' e => ?_, ?_⟩,
    hu.mono (fun i hi => mem_foot.2 (.inr (.inr (.inr (.inr ⟨p, c, l, hp, by simpa using hi⟩))))), fun k hk => .inl ?_, fun k hk => .inl ?_⟩
  · show IsPages w' _ _ _ (bitsOf (S.pg.set p _))
    rw [hbs]
    exact h.pages.upd hu (ng h.pages.1 (by decide)) (ng h.pages.2.1 (by decide)) (by simpa using (h.apart0 p c l hp).symm)
  · refine (h.small.upd hu (by simpa using (hb.ne_map h.small).symm)).congr fun x => ?_
    unfold smallF
    split
    · rfl
    · show _ = smallP L x.toNat (atP (S.pg.set p _) x.toNat)
      rw [hA]
      split
      · rename_i e; rw [e, hp]; rfl
      · rfl
  · refine (h.large.upd hu (by simpa using (hb.ne_map h.large).symm)).congr fun x => ?_
    unfold largeF
    split
    · rfl
    · show _ = largeP (atP (S.pg.set p _) x.toNat)
      rw [hA]
      split
      · rename_i e; rw [e, hp]; rfl
      · rfl
  · have hj : atP (S.pg.set p (.small c l')) j = .small c' k := hj
    rw [hA] at hj
    split at hj
    · rename_i e; cases hj; subst e; exact hP
    · rename_i e
      have := h.page j c' k hj
      exact this.upd hu (ng this.1 (by decide)) (ng this.2.1 (by decide)) (by simp; exact fun e2 => e (h.apart1 _ _ _ _ _ _ hj hp e2))
  · obtain ⟨k', hk'⟩ := hsm j c' k hj
    exact h.apart0 j c' k' hk'
  · obtain ⟨k1, hk1⟩ := hsm j c' k hj
    obtain ⟨k2, hk2⟩ := hsm j' c'' k' hj'
    exact h.apart1 _ _ _ _ _ _ hk1 hk2 e
  · exact h.wf.set_small hlt (.inr ⟨c, l, hp⟩) (h.wf.small p c l hp).1 (by rw [hl]; exact (h.wf.small p c l hp).2) rfl
  · rcases mem_foot.1 hk with h1 | h1 | h1 | h1 | ⟨j, c', m, hj, h1⟩
    · exact mem_foot.2 (.inl h1)
    · exact mem_foot.2 (.inr (.inl h1))
    · exact mem_foot.2 (.inr (.inr (.inl h1)))
    · exact mem_foot.2 (.inr (.inr (.inr (.inl h1))))
    · obtain ⟨m', hm'⟩ := hsm j c' m hj
      exact mem_foot.2 (.inr (.inr (.inr (.inr ⟨j, c', m', hm', h1⟩))))
  · unfold Owns at hk ⊢
    rcases hk with h1 | h1 | h1 | h1 | h1 | h1 | h1 | h1 | ⟨j, c', m, hj, h1⟩
    · simp [h1]
    · simp [h1]
    · simp [h1]
    · simp [h1]
    · simp [h1]
    · simp [h1]
    · simp [h1]
    · simp [h1]
    · obtain ⟨m', hm'⟩ := hsm j c' m hj
      exact .inr (.inr (.inr (.inr (.inr (.inr (.inr (.inr ⟨j, c', m', hm', h1⟩)))))))

/-- A page of blocks is new. -/
theorem IsSpace.newSmall {p c q b g : Nat} {l : List Bool} (h : IsSpace w s L S) (hp : atP S.pg p = .free) (hlt : p < S.pg.length) (hc : c < 5) (hl : l.length = roomOf c) (hP : IsPages w' L.q0 L.b0 L.g0 ((bitsOf S.pg).set p true))
    (hN : IsPage w' q b g (wordsOf c) l) (hq : w.heap.size ≤ q) (hb : w.heap.size ≤ b) (hg : w.heap.size ≤ g) (hM : MapV w' L.ms 257 (setF (smallF L S.pg) p (some (.pointer (some ⟨q, 0, none⟩))))) (hu : Upd [L.g0, L.ms] w w') :
    After s L S ⟨S.W, S.pg.set p (.small c l)⟩ w w' := by
  have hgb := h.pages.2.2
  have ng : ∀ {g t cs}, Blk w g t cs → t ≠ 4 → g ∉ [L.g0, L.ms] := fun hb' hne => by
    have h1 := hb'.ne_ hgb hne
    have h2 := hb'.ne_map h.small
    simp [h1, h2]
  have hA : ∀ j, atP (S.pg.set p (.small c l)) j = if j = p then .small c l else atP S.pg j := fun j => atP_set _ hlt
  have hold : ∀ j c' k, atP S.pg j = .small c' k → j ≠ p := fun j c' k hj e => by subst e; rw [hp] at hj; cases hj
  refine ⟨{ L with lay := fun x => if x = p then (q, b, g) else L.lay x }, ⟨h.box.upd hu (ng h.box (by decide)), h.arena.upd hu (ng h.arena.1 (by decide)) (ng h.arena.2 (by decide)), ?_, ?_, ?_, fun j c' k hj => ?_, h.apart, fun j c' k hj => ?_, fun j c' k j' c'' k' hj hj' e => ?_, ?_⟩,
    hu.mono (fun i hi => ?_), fun k hk => ?_, fun k hk => ?_⟩
  · show IsPages w' _ _ _ (bitsOf (S.pg.set p _))
    rw [bits_set]
    exact hP
  · refine (hM.tight (m := 256) fun x hx => ?_).congr fun x => ?_
    · have := h.wf.n2
      unfold setF at hx
      split at hx
      · rename_i e; subst e; omega
      · obtain ⟨p', _, _, rfl, h1, _⟩ := smallF_in hx; omega
    · unfold setF
      by_cases e : x = p
      · subst e; rw [if_pos rfl, smallF_at, hA, if_pos rfl]; simp [smallP]
      · rw [if_neg e]
        unfold smallF
        split
        · rfl
        · have e2 : x.toNat ≠ p := by omega
          show _ = smallP _ x.toNat (atP (S.pg.set p _) x.toNat)
          rw [hA, if_neg e2]
          cases atP S.pg x.toNat <;> simp [smallP, e2]
  · refine (h.large.upd hu (by have h1 := (hgb.ne_map h.large).symm; have h2 := h.apart.symm; simp [h1, h2])).congr fun x => ?_
    unfold largeF
    split
    · rfl
    · show _ = largeP (atP (S.pg.set p _) x.toNat)
      rw [hA]
      split
      · rename_i e; rw [e, hp]; rfl
      · rfl
  · have hj : atP (S.pg.set p (.small c l)) j = .small c' k := hj
    rw [hA] at hj
    split at hj
    · rename_i e; cases hj; subst e; simpa using hN
    · rename_i e
      have := h.page j c' k hj
      simp only [if_neg e]
      have h1 := h.apart0 j c' k hj
      have h2 := this.2.2.ne_map h.small
      exact this.upd hu (ng this.1 (by decide)) (ng this.2.1 (by decide)) (by simp [h1, h2])
  · have hj : atP (S.pg.set p (.small c l)) j = .small c' k := hj
    rw [hA] at hj
    split at hj
    · rename_i e
      have := hgb.lt
      simp only [if_pos e]
      omega
    · rename_i e
      simp only [if_neg e]
      exact h.apart0 j c' k hj
  · have hj : atP (S.pg.set p (.small c l)) j = .small c' k := hj
    have hj' : atP (S.pg.set p (.small c l)) j' = .small c'' k' := hj'
    rw [hA] at hj hj'
    by_cases e1 : j = p
    · by_cases e2 : j' = p
      · omega
      · rw [if_neg e2] at hj'
        simp only [if_pos e1, if_neg e2] at e
        have := (h.page j' c'' k' hj').2.2.lt
        omega
    · rw [if_neg e1] at hj
      by_cases e2 : j' = p
      · simp only [if_neg e1, if_pos e2] at e
        have := (h.page j c' k hj).2.2.lt
        omega
      · rw [if_neg e2] at hj'
        simp only [if_neg e1, if_neg e2] at e
        exact h.apart1 _ _ _ _ _ _ hj hj' e
  · exact h.wf.set_small hlt (.inl hp) hc hl rfl
  · simp only [List.mem_cons, List.not_mem_nil, or_false] at hi
    rcases hi with rfl | rfl
    · exact mem_foot.2 (.inr (.inl rfl))
    · exact mem_foot.2 (.inr (.inr (.inl rfl)))
  · rcases mem_foot.1 hk with h1 | h1 | h1 | h1 | ⟨j, c', m, hj, h1⟩
    · exact .inl (mem_foot.2 (.inl h1))
    · exact .inl (mem_foot.2 (.inr (.inl h1)))
    · exact .inl (mem_foot.2 (.inr (.inr (.inl h1))))
    · exact .inl (mem_foot.2 (.inr (.inr (.inr (.inl h1)))))
    · have hj : atP (S.pg.set p (.small c l)) j = .small c' m := hj
      rw [hA] at hj
      by_cases e : j = p
      · simp only [if_pos e] at h1; exact .inr (by omega)
      · rw [if_neg e] at hj
        simp only [if_neg e] at h1
        exact .inl (mem_foot.2 (.inr (.inr (.inr (.inr ⟨j, c', m, hj, h1⟩)))))
  · unfold Owns at hk ⊢
    rcases hk with h1 | h1 | h1 | h1 | h1 | h1 | h1 | h1 | ⟨j, c', m, hj, h1⟩
    · simp [h1]
    · simp [h1]
    · simp [h1]
    · simp [h1]
    · simp [h1]
    · simp [h1]
    · simp [h1]
    · simp [h1]
    · have hj : atP (S.pg.set p (.small c l)) j = .small c' m := hj
      rw [hA] at hj
      by_cases e : j = p
      · simp only [if_pos e] at h1
        exact .inr (by rcases h1 with h1 | h1 | h1 <;> omega)
      · rw [if_neg e] at hj
        simp only [if_neg e] at h1
        exact .inl (.inr (.inr (.inr (.inr (.inr (.inr (.inr (.inr ⟨j, c', m, hj, h1⟩))))))))

/-- Pages turn that are of no blocks, behind it as ahead of it. -/
theorem IsSpace.turn {pg : List Pst} {E : List Nat} (h : IsSpace w s L S) (hwf : (Sp.mk S.W pg).WF) (hsm : ∀ j c l, atP pg j = .small c l → atP S.pg j = .small c l) (hE : ∀ k ∈ E, k = L.g0 ∨ k = L.ms ∨ k = L.ml ∨ ∃ p c l, atP S.pg p = .small c l ∧ k = (L.lay p).2.2 ∧ ∀ c' l', atP pg p ≠ .small c' l')
    (hu : Upd E w w') (hP : IsPages w' L.q0 L.b0 L.g0 (bitsOf pg)) (hM : MapV w' L.ms 256 (smallF L pg)) (hN : MapV w' L.ml 256 (largeF pg)) : After s L S ⟨S.W, pg⟩ w w' := by
  have hgb := h.pages.2.2
  have ng : ∀ {g t cs}, Blk w g t cs → t ≠ 4 → g ∉ E := fun {g t cs} hb' hne hm => by
    rcases hE _ hm with e | e | e | ⟨p, c, l, hp, e, _⟩
    · exact hb'.ne_ hgb hne e
    · exact hb'.ne_map h.small e
    · exact hb'.ne_map h.large e
    · exact hb'.ne_ (h.page p c l hp).2.2 hne e
  refine ⟨L, ⟨h.box.upd hu (ng h.box (by decide)), h.arena.upd hu (ng h.arena.1 (by decide)) (ng h.arena.2 (by decide)), hP, hM, hN, fun j c' k hj => ?_, h.apart, fun j c' k hj => ?_, fun j c' k j' c'' k' hj hj' e => ?_, hwf⟩, hu.mono (fun i hi => ?_), fun k hk => .inl ?_, fun k hk => .inl ?_⟩
  · have hj0 := hsm j c' k hj
    have := h.page j c' k hj0
    refine this.upd hu (ng this.1 (by decide)) (ng this.2.1 (by decide)) fun hm => ?_
    rcases hE _ hm with e | e | e | ⟨p, c, l, hp, e, hno⟩
    · exact h.apart0 j c' k hj0 e
    · exact this.2.2.ne_map h.small e
    · exact this.2.2.ne_map h.large e
    · have := h.apart1 _ _ _ _ _ _ hj0 hp e
      subst this
      exact hno _ _ hj
  · exact h.apart0 j c' k (hsm j c' k hj)
  · exact h.apart1 _ _ _ _ _ _ (hsm _ _ _ hj) (hsm _ _ _ hj') e
  · rcases hE i hi with e | e | e | ⟨p, c, l, hp, e, _⟩
    · exact mem_foot.2 (.inr (.inl e))
    · exact mem_foot.2 (.inr (.inr (.inl e)))
    · exact mem_foot.2 (.inr (.inr (.inr (.inl e))))
    · exact mem_foot.2 (.inr (.inr (.inr (.inr ⟨p, c, l, hp, e⟩))))
  · rcases mem_foot.1 hk with h1 | h1 | h1 | h1 | ⟨j, c', m, hj, h1⟩
    · exact mem_foot.2 (.inl h1)
    · exact mem_foot.2 (.inr (.inl h1))
    · exact mem_foot.2 (.inr (.inr (.inl h1)))
    · exact mem_foot.2 (.inr (.inr (.inr (.inl h1))))
    · exact mem_foot.2 (.inr (.inr (.inr (.inr ⟨j, c', m, hsm _ _ _ hj, h1⟩))))
  · unfold Owns at hk ⊢
    rcases hk with h1 | h1 | h1 | h1 | h1 | h1 | h1 | h1 | ⟨j, c', m, hj, h1⟩
    · simp [h1]
    · simp [h1]
    · simp [h1]
    · simp [h1]
    · simp [h1]
    · simp [h1]
    · simp [h1]
    · simp [h1]
    · exact .inr (.inr (.inr (.inr (.inr (.inr (.inr (.inr ⟨j, c', m, hsm _ _ _ hj, h1⟩)))))))
end
end Go.Proofs.Ytendjhobemlhoaa
