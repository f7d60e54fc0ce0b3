/- The example of layer 12's laws. -/
import Derived.Test.YtpkbdmieelgdlaaGreatMd12
namespace Go.Proofs.YtpkbdmieelgdlaaGreat
open Go Go.RowKit

set_option maxRecDepth 100000 in
theorem awake12 (w : World) : Calls Tryz.prog 35 #[] w fun e w' => e = .returned (.bool true) ∧ Upd [] w w' := by
  go_enter Tryz.func35, Tryz.ntmps35
  go_wp2_with fail
  refine (heap12 0 _ (by omega)).mono ?_
  rintro e w1 ⟨h, v, O, rfl, hh, ho, he, hr⟩
  have HH := Lib.hid hh
  have HE := Lib.hid he
  clear hh ho he hr
  go_wp2_with fail
  refine (queue_new h _ _ HH.out).mono ?_
  rintro e w2 ⟨q, O2, rfl, hq, hs⟩
  have HQ := Lib.hid hq
  have HE2 := Lib.hid (HE.out.step hs)
  clear hq hs
  go_wp2_with fail
  refine (qopen_yes q h _ _ HQ.out (by simp)).mono ?_
  rintro e w3 ⟨rfl, O3, hq, hs⟩
  have HQ3 := Lib.hid hq
  have HE3 := Lib.hid (HE2.out.step hs)
  clear hq hs
  go_wp2_with fail
  refine (poll_empty q h _ _ 0 _ HQ3.out rfl (by simp) rfl).mono ?_
  rintro e w' ⟨rfl, rfl⟩
  go_wp2_with fail
  refine (err_calls 0 _ (by omega)).mono ?_
  rintro e w' ⟨rfl, rfl⟩
  go_wp2_with fail
  refine (err_calls 0 _ (by omega)).mono ?_
  rintro e w' ⟨rfl, rfl⟩
  go_wp2_with fail
  refine (queue_new_nil _).mono ?_
  rintro e w' ⟨rfl, rfl⟩
  go_wp2_with fail
  go_ret
  exact ⟨by first | rfl | (simp; done), HE3.out.upd⟩
end Go.Proofs.YtpkbdmieelgdlaaGreat
