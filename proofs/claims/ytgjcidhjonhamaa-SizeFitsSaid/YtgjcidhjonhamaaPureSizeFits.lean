/- The pure statement of SizeFits: for every uint16 the printed function of the law answers true. No condition beyond those in the statement. -/
import Derived.Test.YtgjcidhjonhamaaPSizeFitsx2
import Derived.OpenShut
namespace Go.Proofs.Ytgjcidhjonhamaa.Pure
open Go.RowKit Go.Proofs.Ytgjcidhjonhamaa.PSizeFits Go.Proofs.YtgjcidhjonhamaaW.PrintWords Go.Proofs.YtgjcidhjonhamaaW.PrintLast


theorem all_fit : ∀ n : Fin 1024, gloaminglaw4_SizeFits.f 20 (n.val : Int) = some true := by decide +kernel

theorem SizeFits : gloaminglaw4_SizeFits.Pure := by
  intro a0 h
  have hb := bounds_u16 h
  refine ⟨20, ?_⟩
  have e : Int.tmod (wrap64 a0) 1024 = Int.tmod (wrap64 (a0 % 1024)) 1024 := by
    have e1 : wrap64 a0 = a0 := by unfold wrap64; omega
    have e2 : wrap64 (a0 % 1024) = a0 % 1024 := by unfold wrap64; omega
    rw [e1, e2, Int.tmod_eq_emod_of_nonneg (by omega), Int.tmod_eq_emod_of_nonneg (by omega)]
    omega
  have hk : gloaminglaw4_SizeFits.f 20 a0 = gloaminglaw4_SizeFits.f 20 (a0 % 1024) := by
    unfold gloaminglaw4_SizeFits.f
    rw [e]
  rw [hk]
  have := all_fit ⟨(a0 % 1024).toNat, by omega⟩
  rw [show ((a0 % 1024).toNat : Int) = a0 % 1024 from by omega] at this
  exact this

end Go.Proofs.Ytgjcidhjonhamaa.Pure
