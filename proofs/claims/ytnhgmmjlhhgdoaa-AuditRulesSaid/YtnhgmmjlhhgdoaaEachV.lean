/- 'each' of the program's audit, over any closure. -/
import Derived.Test.YtnhgmmjlhhgdoaaCheck20
namespace Go.Proofs.Ytnhgmmjlhhgdoaa
open Go Go.RowKit

/-- What a round of 'each' comes to. -/
def Rounds (I : Nat → World → Prop) (N : World → Prop) (i : Nat) (e : Ending) (w' : World) : Prop := (e = .returned (.bool true) ∧ I i w') ∨ (e = .returned (.bool false) ∧ N w')
set_option maxRecDepth 100000 in
set_option maxHeartbeats 1600000 in
theorem each_walk (K : Nat) (cap : Array Value) (oa : Option Addr) (oc n : Nat) (os : List Ob) (sh : Nat) (a0 w : World) (E : List Nat) (I : Nat → World → Prop) (N : World → Prop) (hn : os.length = n) (hl : n ≤ 9223372036854775807)
    (hE : ∀ i ∈ E, a0.heap.size ≤ i) (HO : Obs a0 oa os) (hs : w.cell? ⟨sh, 0, none⟩ = some (.slice oa n oc)) (hI : I 0 w) (hU : ∀ i W, I i W → Upd E a0 W)
    (hA : ∀ i W W', I i W → Upd [] W W' → I i W') (hshw : sh < w.heap.size) (hK : ∀ (xs : Array Value) (W : World), (callFunc K xs).run Try.prog W = .ok (.enter K xs) W)
    (hstep : ∀ i W, i < n → I i W → Calls Try.prog K (#[.int .i64 (i : Int), (os.getD i ob0).val] ++ cap) W (Rounds I N (i + 1))) :
    Calls Try.prog 53 #[.agg #[.pointer (some ⟨sh, 0, none⟩)], .func (.func K) #[] cap] w (Rounds I N n) := by
  have HN := Lib.hid hn
  have HE := Lib.hid hE
  have HOB := Lib.hid HO
  have HU := Lib.hid hU
  have HA := Lib.hid hA
  have HS := Lib.hid hstep
  have HI : Hid (∀ W, Upd [] w W → I 0 W) := Lib.hid (fun W u => hA 0 w W hI u)
  clear hn hE HO hU hA hI hstep
  go_enter Try.func53, Try.ntmps53
  go_upto_region 1 with fail
  generalize hW : World.alloc w (Obj.cells _ 62) = w1
  have HB : Hid (Blk w1 w.heap.size 62 _) := Lib.hid (by rw [← hW]; exact Blk.new _ _ _)
  have hs1 : w1.cell? ⟨sh, 0, none⟩ = some (.slice oa n oc) := by rw [← hW]; exact ((Upd.refl [] w).alloc _ |>.cell (p := ⟨sh, 0, none⟩) hshw (by simp)).trans hs
  have HI1 : Hid (I 0 w1) := Lib.hid (HI.out _ (by rw [← hW]; exact (Upd.refl [] w).alloc _))
  clear hW hs
  generalize w.heap.size = q at *
  have r0 : w1.cell? ⟨q, 0, none⟩ = some (.pointer (some ⟨sh, 0, none⟩)) := vw_cells HB.out (Upd.refl _ _) rfl
  go_wp2_with fail
  go_loopg [14] n (fun gk i wr => ∃ j : Nat, gk = n - j ∧ j ≤ n ∧ i = .int .i64 j ∧ Hid (I j wr))
  case atStart => exact ⟨0, rfl, by omega, rfl, HI1⟩
  case round =>
    obtain ⟨j, rfl, hj, rfl, HJ⟩ := hrel
    by_cases hlt : j < n
    · obtain ⟨b, off, rfl, hb, ⟨c0, c1, c2, c3, c4, c5⟩, -⟩ := (HOB.out.upd (HU.out _ _ HJ.out) HE.out).at HN.out hlt
      have HSJ : Hid (∀ W, I j W → Calls Try.prog K (#[.int .i64 (j : Int), .agg #[.int .i64 (os.getD j ob0).adr, .int .i64 (os.getD j ob0).kind, .int .i64 (os.getD j ob0).cls, .int .i64 (os.getD j ob0).len, .bool (os.getD j ob0).fin, .slice (os.getD j ob0).wa (os.getD j ob0).ws.length (os.getD j ob0).wc]] ++ cap) W (Rounds I N (j + 1))) := Lib.hid (fun W h => HS.out j W hlt h)
      generalize (os.getD j ob0).adr = ad at *
      generalize (os.getD j ob0).kind = kd at *
      generalize (os.getD j ob0).cls = cl at *
      generalize (os.getD j ob0).len = ln at *
      generalize (os.getD j ob0).fin = fi at *
      generalize (os.getD j ob0).wa = wa at *
      generalize (os.getD j ob0).wc = wc at *
      generalize (os.getD j ob0).ws.length = zz at *
      go_upto_region 4 with fail
      generalize hW : World.alloc wr (Obj.cells _ 37) = wo
      have HBO : Hid (Blk wo wr.heap.size 37 _) := Lib.hid (by rw [← hW]; exact Blk.new _ _ _)
      have HJO : Hid (I j wo) := Lib.hid (HA.out j _ _ HJ.out (by rw [← hW]; exact (Upd.refl [] wr).alloc _))
      clear hW c0 c1 c2 c3 c4 c5 r0 hs1
      generalize wr.heap.size = g at *
      have e0 : wo.cell? ⟨g, 0, none⟩ = some (.int .i64 ad) := vw_cells HBO.out (Upd.refl _ _) rfl
      have e1 : wo.cell? ⟨g, 1, none⟩ = some (.int .i64 kd) := vw_cells HBO.out (Upd.refl _ _) rfl
      have e2 : wo.cell? ⟨g, 2, none⟩ = some (.int .i64 cl) := vw_cells HBO.out (Upd.refl _ _) rfl
      have e3 : wo.cell? ⟨g, 3, none⟩ = some (.int .i64 ln) := vw_cells HBO.out (Upd.refl _ _) rfl
      have e4 : wo.cell? ⟨g, 4, none⟩ = some (.bool fi) := vw_cells HBO.out (Upd.refl _ _) rfl
      have e5 : wo.cell? ⟨g, 5, none⟩ = some (.slice wa zz wc) := vw_cells HBO.out (Upd.refl _ _) rfl
      go_wp2_with fail
      refine (HSJ.out wo HJO.out).mono ?_
      rintro e w5 (⟨rfl, hi⟩ | ⟨rfl, hi⟩)
      · have HI5 := Lib.hid hi
        clear hi e0 e1 e2 e3 e4 e5
        go_wp2_with fail
        go_roundg (n - (j + 1))
        case measure => omega
        case rel => exact ⟨j + 1, rfl, by omega, by go_num, HI5⟩
      · have HI5 := Lib.hid hi
        clear hi e0 e1 e2 e3 e4 e5
        go_wp2_with fail
        go_ret
        exact .inr ⟨rfl, HI5.out⟩
    · obtain rfl : j = n := by omega
      go_wp2_with fail
      go_ret
      exact .inl ⟨rfl, HJ.out⟩
theorem enters54 (xs : Array Value) (W : World) : (callFunc 54 xs).run Try.prog W = .ok (.enter 54 xs) W := by kernel_rfl
theorem enters56 (xs : Array Value) (W : World) : (callFunc 56 xs).run Try.prog W = .ok (.enter 56 xs) W := by kernel_rfl
theorem enters59 (xs : Array Value) (W : World) : (callFunc 59 xs).run Try.prog W = .ok (.enter 59 xs) W := by kernel_rfl
theorem enters61 (xs : Array Value) (W : World) : (callFunc 61 xs).run Try.prog W = .ok (.enter 61 xs) W := by kernel_rfl
end Go.Proofs.Ytnhgmmjlhhgdoaa
