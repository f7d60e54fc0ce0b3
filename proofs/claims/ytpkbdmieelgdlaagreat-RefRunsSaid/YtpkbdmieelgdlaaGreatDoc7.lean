/- The document's space: Free. -/
import Derived.Test.YtpkbdmieelgdlaaGreatDoc6
import Derived.Deep.RegionLaw
namespace Go.Proofs.YtpkbdmieelgdlaaGreat
open Go Go.RowKit

section
variable {w0 w w' : World} {r m n : Nat} {D : DLay} {S : Sp} {O : Nat → Prop}
theorem owns_clear {W W' : List Int} {pg : List Pst} {p k : Nat} (hpk : p + k ≤ pg.length) (hf : atP pg p = .first k) (hr : ∀ j, p < j → j < p + k → atP pg j = .rest p) : OwnsD m D ⟨W, clearPg pg p k⟩ = OwnsD m D ⟨W', pg⟩ := by
  funext q
  apply propext
  unfold OwnsD
  have : (∃ q' c' l2, atP (clearPg pg p k) q' = .small c' l2 ∧ q = D.tk q') ↔ ∃ q' c' l2, atP pg q' = .small c' l2 ∧ q = D.tk q' := by
    constructor
    · rintro ⟨q', c', l2, e, h2⟩
      rw [atP_clear hpk] at e
      split at e
      · cases e
      · exact ⟨q', c', l2, e, h2⟩
    · rintro ⟨q', c', l2, e, h2⟩
      refine ⟨q', c', l2, ?_, h2⟩
      rw [atP_clear hpk, if_neg]
      · exact e
      · rintro ⟨a, b⟩
        rcases Nat.eq_or_lt_of_le a with rfl | a
        · rw [hf] at e; cases e
        · rw [hr q' a b] at e; cases e
  simp only [this]
theorem DBits.clear {pg : List Pst} {p k : Nat} (h : DBits w D pg) (hpk : p + k ≤ pg.length) : DBits w D (clearPg pg p k) := by
  have hx : ∀ q c l, atP (clearPg pg p k) q = .small c l → atP pg q = .small c l := fun q c l e => by
    rw [atP_clear hpk] at e
    split at e
    · cases e
    · exact e
  exact ⟨fun q c l e => h.bits q c l (hx _ _ _ e), fun q c l q' c' l' e e' => h.apart q c l q' c' l' (hx _ _ _ e) (hx _ _ _ e')⟩
theorem owns_free {W W' : List Int} {pg : List Pst} {p c k : Nat} {l : List Bool} (h : atP pg p = .small c l) (hk : OwnsD m D ⟨W, pg.set p .free⟩ k) : OwnsD m D ⟨W', pg⟩ k := by
  rcases hk with e | e | e | e | e | ⟨q, c', l', e, rfl⟩
  · exact .inl e
  · exact .inr (.inl e)
  · exact .inr (.inr (.inl e))
  · exact .inr (.inr (.inr (.inl e)))
  · exact .inr (.inr (.inr (.inr (.inl e))))
  · dsimp only at e
    rw [atP_set _ (atP_in h (by simp))] at e
    split at e
    · cases e
    · exact .inr (.inr (.inr (.inr (.inr ⟨q, c', l', e, rfl⟩))))
theorem DBits.setFree {pg : List Pst} {p c : Nat} {l : List Bool} (h : DBits w D pg) (hat : atP pg p = .small c l) : DBits w D (pg.set p .free) := by
  have hx : ∀ q c l, atP (pg.set p .free) q = .small c l → atP pg q = .small c l := fun q c' l' e => by
    rw [atP_set _ (atP_in hat (by simp))] at e
    split at e
    · cases e
    · exact e
  exact ⟨fun q c l e => h.bits q c l (hx _ _ _ e), fun q c l q' c' l' e e' => h.apart q c l q' c' l' (hx _ _ _ e) (hx _ _ _ e')⟩
end
end Go.Proofs.YtpkbdmieelgdlaaGreat
