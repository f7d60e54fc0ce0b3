/- The pure statement of HeadKnown: for every uint8 the printed function of the law answers true. No condition beyond those in the statement. -/
import Derived.Test.YtgjcidhjonhamaaPHeadKnownx3
import Derived.OpenShut
namespace Go.Proofs.Ytgjcidhjonhamaa.Pure
open Go.RowKit Go.Proofs.Ytgjcidhjonhamaa.PHeadKnown Go.Proofs.YtgjcidhjonhamaaW.PrintWords Go.Proofs.YtgjcidhjonhamaaW.PrintLast


theorem all_HeadKnown : ∀ n : Fin 256, gloaminglaw8_HeadKnown.f 20 (n.val : Int) = some true := by decide +kernel

theorem HeadKnown : gloaminglaw8_HeadKnown.Pure := by
  intro a0 h
  have hb := bounds_u8 h
  refine ⟨20, ?_⟩
  have := all_HeadKnown ⟨a0.toNat, by omega⟩
  rw [show (a0.toNat : Int) = a0 from by omega] at this
  exact this

end Go.Proofs.Ytgjcidhjonhamaa.Pure
