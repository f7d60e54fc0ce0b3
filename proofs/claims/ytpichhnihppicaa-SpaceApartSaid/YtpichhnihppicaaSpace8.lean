/- The contracts of Each and Used as functions of the space's state. -/
import Derived.Test.YtpichhnihppicaaSpace7
import Derived.Test.YtpichhnihppicaaSort
import Derived.Test.YtpichhnihppicaaEach
namespace Go.Proofs.Ytpichhnihppicaa
open Go Go.RowKit

theorem each_nil (w : World) : Calls Try.prog 21 #[.pointer none] w fun e w' => e = .returned (.slice none 0 0) ∧ w = w' := by
  go_enter Try.func21, Try.ntmps21
  go_wp2_with fail
  go_ret
  exact ⟨rfl, rfl⟩

def isSm : Pst → Bool
  | .small _ _ => true
  | _ => false
def isFi : Pst → Bool
  | .first _ => true
  | _ => false
/-- Pages of blocks that were gone through; larger blocks, too. -/
def k1 (pg : List Pst) (left : Int → Bool) (p : Nat) : Bool := isSm (atP pg p) && !left p
def k2 (pg : List Pst) (left : Int → Bool) (p : Nat) : Bool := isSm (atP pg p) || (isFi (atP pg p) && !left p)

set_option maxRecDepth 100000 in
set_option maxHeartbeats 1600000 in
theorem each_calls (s : Nat) (L : Lay) (S : Sp) (w : World) (h : IsSpace w s L S) :
    Calls Try.prog 21 #[.pointer (some ⟨s, 0, none⟩)] w fun e w' => ∃ v, e = .returned v ∧ Own w' w.heap.size v S.each ∧ Upd [] w w' := by
  have c2 : w.cell? ⟨s, 2, none⟩ = some (.map (some L.ms)) := h.box.cell 2
  have hn2 := h.wf.n2
  have H := Lib.hid h
  obtain ⟨B, hB⟩ : ∃ B, w.heap.size = B := ⟨_, rfl⟩
  have HB := Lib.hid hB
  have HDL : Hid (∀ out : List Int, (∃ k, out.Perm (Done S.pg k)) → out.length ≤ 16384) := Lib.hid fun out ⟨k, hk⟩ => by
    have h1 := each_length H.out.wf
    have h2 := done_le S k
    rw [hk.length_eq]; omega
  rw [hB]
  clear h hB
  go_enter Try.func21, Try.ntmps21
  go_wp2_with (at_range; refine wpList_range_mapv rfl _ 28 73 rfl Try.underlying28 H.out.small rfl ?_; intro w1 cnt hit hu hsz)
  have HIT := Lib.hid hit
  have HU := Lib.hid hu
  clear hit hu hsz
  go_frame
  rw [HB.out] at HIT ⊢
  go_loopg [3] cnt (fun gk v wr => ∃ left out, Hid (MapIt wr L.ms B 256 (smallF L S.pg) left gk) ∧ Hid (Own wr B v out) ∧ Hid (∀ k, v.ownBlock = some k → k ≠ B) ∧ Hid (Upd [] w wr) ∧ Hid (B < wr.heap.size) ∧ Hid (out.Perm (Done S.pg (k1 S.pg left))))
  case atStart =>
    refine ⟨_, [], HIT, Lib.hid (Own.nil _ _), Lib.hid (fun k hk => by cases hk), HU, Lib.hid HIT.out.lt, Lib.hid ?_⟩
    rw [done_none]
    intro p
    unfold k1
    dsimp only
    rw [smallF_at]
    cases atP S.pg p <;> rfl
  case round =>
    obtain ⟨left, out, HI, HO, HNB, HW, HLT, HP⟩ := hrel
    go_wp2_with (at_next; refine wpList_next_mapv rfl _ rfl B left _ rfl HI.out ?_ ?_)
    · intro _ hleft
      have HLEFT := Lib.hid hleft
      have c3 : wr.cell? ⟨s, 3, none⟩ = some (.map (some L.ml)) := (HW.out.cell (p := ⟨s, 3, none⟩) H.out.box.lt (by simp)).trans (H.out.box.cell 3)
      have HSP := Lib.hid (H.out.upd0 HW.out)
      clear hleft
      go_wp2_with (at_range; refine wpList_range_mapv rfl _ 29 3 rfl Try.underlying29 HSP.out.large rfl ?_; intro w2 cnt2 hit hu hsz)
      have HIT2 := Lib.hid hit
      have HU2 := Lib.hid hu
      have HSZ2 := Lib.hid hsz
      clear hit hu hsz
      go_frame
      obtain ⟨r, hr⟩ : ∃ r, wr.heap.size = r := ⟨_, rfl⟩
      rw [hr] at HIT2 ⊢
      have HRR := Lib.hid hr
      clear hr
      have HP0 : Hid (out.Perm (Done S.pg (k2 S.pg fun x => (largeF S.pg x).isSome))) := Lib.hid (by
        have e : Done S.pg (k2 S.pg fun x => (largeF S.pg x).isSome) = Done S.pg (k1 S.pg left) := done_congr fun p => by
          unfold k1 k2
          dsimp only
          rw [largeF_at, HLEFT.out p]
          cases atP S.pg p <;> rfl
        rw [e]; exact HP.out)
      go_loopg [3] cnt2 (fun gk v wx => ∃ left out, Hid (MapIt wx L.ml r 256 (largeF S.pg) left gk) ∧ Hid (Own wx B v out) ∧ Hid (∀ k, v.ownBlock = some k → k ≠ r) ∧ Hid (Upd [] w wx) ∧ Hid (r < wx.heap.size) ∧ Hid (out.Perm (Done S.pg (k2 S.pg left))))
      case atStart =>
        exact ⟨_, out, HIT2, Lib.hid (HO.out.updN HU2.out (by simp)), Lib.hid (fun k hk => by have := (HO.out.block hk).2; have := HRR.out; omega), Lib.hid (HW.out.trans HU2.out), Lib.hid HIT2.out.lt, HP0⟩
      case round =>
        obtain ⟨left2, out2, HI2, HO2, HNB2, HW2, HLT2, HP2⟩ := hrel
        go_wp2_with (at_next; refine wpList_next_mapv rfl _ rfl r left2 _ rfl HI2.out ?_ ?_)
        · intro _ hleft2
          have HPE : Hid (out2.Perm S.each) := Lib.hid (by
            have e : Done S.pg (k2 S.pg left2) = S.each := done_all fun p hp => by
              unfold k2 at hp
              rw [hleft2] at hp
              cases hx : atP S.pg p <;> rw [hx] at hp <;> simp [isSm, isFi] at hp <;> rfl
            rw [← e]; exact HP2.out)
          clear hleft2
          go_wp2_with fail
          refine (sort_any _ B out2 _ HO2.out (by have := HDL.out out2 ⟨_, HP2.out⟩; omega)).mono ?_
          rintro e w3 ⟨rfl, hO, hU⟩
          have HO3 : Hid (Own w3 B _ S.each) := Lib.hid (by rw [← sort_each H.out.wf HPE.out]; exact hO)
          have HU3 : Hid (Upd [] w w3) := Lib.hid (hU w HW2.out (by rw [HB.out]; exact Nat.le_refl _))
          clear hO hU
          go_wp2_with fail
          go_ret
          exact ⟨_, rfl, HO3.out, HU3.out⟩
        · intro x v w3 cnt3 hlx hfx hok hit3 hlt hu3 hs3 hen
          obtain ⟨p, k, rfl, hpn, hat⟩ := largeF_in (by rw [hfx]; simp)
          have hp256 : p ≤ 256 := by omega
          have HSTEP : Hid ((out2 ++ [((p * 64 : Nat) : Int)]).Perm (Done S.pg (k2 S.pg fun z => left2 z && !decide (z = (p : Int))))) := Lib.hid (by
            refine ((HP2.out.append_right _).trans ?_)
            have hst : startsOf p (atP S.pg p) = [((p * 64 : Nat) : Int)] := by rw [hat]; rfl
            rw [← hst]
            refine (done_step hpn (by unfold k2; rw [hat, hlx]; rfl) fun z => ?_).symm
            unfold k2
            by_cases e : z = p
            · subst e; rw [hat]; simp [isSm, isFi]
            · have : ¬ (z : Int) = p := by omega
              simp [e, this])
          have HIT3 := Lib.hid hit3
          have HU3 := Lib.hid hu3
          have HS3 := Lib.hid hs3
          have HLEN : Hid (out2.length ≤ 16384) := Lib.hid (HDL.out out2 ⟨_, HP2.out⟩)
          have HO3 : Hid (Own w3 B u3 out2) := Lib.hid (HO2.out.updN hu3 (fun k hk => by simpa using HNB2.out k hk))
          have HBW : Hid (B ≤ w3.heap.size) := Lib.hid (by have := HW2.out.size; have := HB.out; omega)
          have hcast : ((p * 64 : Nat) : Int) = (p : Int) * 64 := by rw [Int.natCast_mul]; rfl
          clear hlx hfx hok hit3 hu3 hs3 hat
          go_wp2_with (at_builtin; refine wpList_pushN rfl _ _ rfl B _ out2 rfl (HO3.out.alloc _) w3.heap.size ((p : Int) * 64) rfl (Blk.new _ _ _) (by have := HLEN.out; omega) (by have := HBW.out; simp; omega) ?_; intro v' w4 hO4 hN4 hU4)
          have HO4 : Hid (Own w4 B v' (out2 ++ [((p * 64 : Nat) : Int)])) := Lib.hid (by rw [hcast]; exact hO4)
          have HU4 := Lib.hid hU4
          have HN4 := Lib.hid hN4
          clear hO4 hU4 hN4 hcast
          go_wp2_with fail
          go_roundg cnt3
          case measure => omega
          case rel =>
            have hE : ∀ k ∈ u3.ownBlock.toList, B ≤ k ∧ k ≠ r := fun k hk => by
              have hk : u3.ownBlock = some k := Option.mem_toList.1 hk
              exact ⟨(HO3.out.block hk).1, HNB2.out k hk⟩
            have hs : w.heap.size = B := HB.out
            have hml : L.ml < B := by rw [← hs]; exact H.out.large.lt
            refine ⟨_, _, Lib.hid ((HIT3.out.upd ((Upd.refl [] w3).alloc _) (by simp) (by simp)).upd HU4.out (fun hm => by have := (hE _ hm).1; omega) (fun hm => (hE _ hm).2 rfl)), HO4, Lib.hid (fun k hk => ?_), Lib.hid ?_, Lib.hid ?_, HSTEP⟩
            · rcases HN4.out k hk with h1 | h1
              · exact (hE k (Option.mem_toList.2 h1)).2
              · simp at h1; have := HIT3.out.lt; omega
            · exact ((HW2.out.step HU3.out (by intro i hi; simp at hi; subst hi; right; rw [hs]; have := HRR.out; have := HW.out.size; omega)).alloc _).step HU4.out (fun i hi => .inr (by rw [hs]; exact (hE i hi).1))
            · have h4 := HU4.out.size; simp at h4; have := HIT3.out.lt; omega
    · intro x v w2 cnt2 hlx hfx hok hit2 hlt hu2 hs2 hen
      obtain ⟨p, c, l, rfl, hpn, hat⟩ := smallF_in (by rw [hfx]; simp)
      have hp256 : p ≤ 256 := by omega
      have hv : v = .pointer (some ⟨(L.lay p).1, 0, none⟩) := by rw [smallF_at, hat] at hfx; exact (Option.some.inj hfx).symm
      subst hv
      obtain ⟨hc5, hll⟩ := H.out.wf.small p c l hat
      have hwp := words_pos hc5
      have hrm := room_pos hc5
      have hl32 : l.length ≤ 32 := by omega
      have HSTEP : Hid ((out ++ startsOf p (.small c l)).Perm (Done S.pg (k1 S.pg fun z => left z && !decide (z = (p : Int))))) := Lib.hid (by
        refine ((HP.out.append_right _).trans ?_)
        rw [← hat]
        refine (done_step hpn (by unfold k1; rw [hat, hlx]; rfl) fun z => ?_).symm
        unfold k1
        by_cases e : z = p
        · subst e; rw [hat]; simp [isSm]
        · have : ¬ (z : Int) = p := by omega
          simp [e, this])
      have HU2 := Lib.hid hu2
      have HIT2 := Lib.hid hit2
      have HS2 := Lib.hid hs2
      have hs : Hid (w.heap.size = B) := HB
      have HW2 : Hid (Upd [] w w2) := Lib.hid (HW.out.step hu2 (by intro i hi; simp at hi; subst hi; right; rw [hs.out]; exact Nat.le_refl _))
      have HPG := Lib.hid (H.out.page p c l hat)
      have HO2 : Hid (Own w2 B u3 out) := Lib.hid (HO.out.updN hu2 (fun k hk => by simpa using HNB.out k hk))
      have HLEN : Hid (out.length ≤ 16384) := Lib.hid (HDL.out out ⟨_, HP.out⟩)
      have HL := Lib.hid (show l.length ≤ 16384 by omega)
      have HRM : Hid (∀ i, i < l.length → i * wordsOf c + wordsOf c ≤ 64) := Lib.hid (fun i hi => block_fits hc5 (by omega))
      have HST0 : Hid (∀ j : Nat, nextZ l true j = -1 → j ≤ l.length → stU p c l j = startsOf p (.small c l)) := Lib.hid (fun j => stU_done)
      have HST1 : Hid (∀ j m : Nat, nextZ l true j = m → stU p c l (m + 1) = stU p c l j ++ [((p * 64 + m * wordsOf c : Nat) : Int)] ∧ j ≤ m ∧ m < l.length) := Lib.hid (fun j m => stU_next)
      have HSTL : Hid (∀ j, (stU p c l j).length ≤ j) := Lib.hid (stU_length p c l)
      clear hlx hfx hok hit2 hu2 hs2 hat hc5 hll hrm
      generalize hm : wordsOf c = m at *
      have hm2 := hwp.1
      have hm3 := hwp.2
      clear hwp hm
      generalize (L.lay p).1 = q at *
      generalize (L.lay p).2.1 = bb at *
      generalize (L.lay p).2.2 = g at *
      have HPG2 : Hid (∀ W, Upd [] w W → IsPage W q bb g m l) := Lib.hid (fun W hW => HPG.out.upd hW (by simp) (by simp) (by simp))
      have d0 : w2.cell? ⟨q, 0, none⟩ = some (.pointer (some ⟨bb, 0, none⟩)) := (HPG2.out w2 HW2.out).1.cell 0
      go_wp2_with fail
      refine (next_any bb g l 0 true _ (HPG2.out w2 HW2.out).2 (by omega) HL.out).mono ?_
      rintro e w' ⟨rfl, rfl⟩
      go_wp2_with fail
      obtain ⟨wo, rfl⟩ : ∃ wo : World, wo = w2 := ⟨_, rfl⟩
      go_loopg [3, 6] (l.length + 1) (fun gk v i wr => ∃ (j : Nat), gk = l.length + 1 - j ∧ j ≤ l.length ∧ i = .int .i64 (nextZ l true j) ∧ Hid (MapIt wr L.ms B 256 (smallF L S.pg) (fun z => left z && !decide (z = (p : Int))) cnt2) ∧ Hid (Own wr B v (out ++ stU p c l j)) ∧ Hid (∀ k, v.ownBlock = some k → k ≠ B) ∧ Hid (Upd [] w wr) ∧ Hid (B < wr.heap.size))
      case atStart =>
        exact ⟨0, by omega, by omega, rfl, HIT2, by rw [stU_zero, List.append_nil]; exact HO2, HNB, HW2, Lib.hid HIT2.out.lt⟩
      case round =>
        obtain ⟨j, rfl, hj, rfl, HIx, HOx, HNBx, HWx, HLTx⟩ := hrel
        have hnr := nextZ_range l true j
        obtain ⟨z, hz⟩ : ∃ z, nextZ l true j = z := ⟨_, rfl⟩
        rw [hz] at hnr ⊢
        have HZ := Lib.hid hz
        clear hz
        by_cases hneg : z < 0
        · obtain rfl : z = -1 := by omega
          have HOE : Hid (Own wr B u3 (out ++ startsOf p (.small c l))) := Lib.hid (by rw [← HST0.out j HZ.out hj]; exact HOx.out)
          clear hneg hnr
          go_wp2_with fail
          go_roundg cnt2
          case measure => omega
          case rel => exact ⟨_, _, HIx, HOE, HNBx, HWx, HLTx, HSTEP⟩
        · obtain ⟨i, rfl⟩ := Int.eq_ofNat_of_zero_le (show 0 ≤ z by omega)
          have hst := HST1.out j i HZ.out
          have HST := Lib.hid hst.1
          have hji := hst.2.1
          have hil := hst.2.2
          have hfit := HRM.out i hil
          clear hst hneg hnr
          have hiw0 : 0 ≤ (i : Int) * (m : Int) := by rw [← Int.natCast_mul]; omega
          have hiw' : (i : Int) * (m : Int) ≤ 64 := by rw [← Int.natCast_mul]; omega
          have hcast : Hid (((p * 64 + i * m : Nat) : Int) = (p : Int) * 64 + (i : Int) * (m : Int)) := Lib.hid (by rw [Int.natCast_add, Int.natCast_mul, Int.natCast_mul]; rfl)
          clear hfit
          have HBW : Hid (B ≤ wr.heap.size) := Lib.hid (by have := HLTx.out; omega)
          have HLENx : Hid ((out ++ stU p c l j).length ≤ 4294967296) := Lib.hid (by have := HLEN.out; have := HSTL.out j; rw [List.length_append]; omega)
          have hml : Hid (L.ms < B) := Lib.hid (by rw [← hs.out]; exact H.out.small.lt)
          go_wp2_with fail
          refine (words_any q bb g m l _ (HPG2.out wr HWx.out)).mono ?_
          rintro e w' ⟨rfl, rfl⟩
          go_wp2_with (at_builtin; refine wpList_pushN rfl _ _ rfl B _ (out ++ stU p c l j) rfl (HOx.out.alloc _) wr.heap.size ((p : Int) * 64 + (i : Int) * (m : Int)) rfl (Blk.new _ _ _) HLENx.out (by have := HBW.out; simp; omega) ?_; intro v' w4 hO4 hN4 hU4
                       have HO4 : Hid (Own w4 B v' (out ++ stU p c l (i + 1))) := Lib.hid (by rw [HST.out, ← List.append_assoc, hcast.out]; exact hO4)
                       have hE : ∀ k ∈ u3.ownBlock.toList, B < k := fun k hk => (by
                         have hk : u3.ownBlock = some k := Option.mem_toList.1 hk
                         have := (HOx.out.block hk).1; have := HNBx.out k hk; omega)
                       have HW4 : Hid (Upd [] w w4) := Lib.hid ((HWx.out.alloc _).step hU4 (fun i hi => .inr (by rw [hs.out]; have := hE i hi; omega)))
                       have HIT4 := Lib.hid ((HIx.out.upd ((Upd.refl [] wr).alloc _) (by simp) (by simp)).upd hU4 (fun hm => by have := hE _ hm; have := hml.out; omega) (fun hm => by have := hE _ hm; omega))
                       have HNB4 : Hid (∀ k, v'.ownBlock = some k → k ≠ B) := Lib.hid (fun k hk => (by
                         rcases hN4 k hk with h1 | h1
                         · exact HNBx.out k h1
                         · simp at h1; have := HLTx.out; omega))
                       have HLT4 : Hid (B < w4.heap.size) := Lib.hid (by have h4 := hU4.size; simp at h4; have := HLTx.out; omega)
                       have e0 : w4.cell? ⟨q, 0, none⟩ = some (.pointer (some ⟨bb, 0, none⟩)) := (HPG2.out w4 HW4.out).1.cell 0
                       clear hO4 hN4 hU4 hE)
          refine (next_any bb g l ((i : Int) + 1) true _ (HPG2.out w4 HW4.out).2 (by omega) HL.out).mono ?_
          rintro e w' ⟨rfl, rfl⟩
          go_wp2_with fail
          go_roundg (l.length + 1 - (i + 1))
          case measure => omega
          case rel => exact ⟨i + 1, rfl, by omega, by rw [Int.natCast_add]; rfl, HIT4, HO4, HNB4, HW4, HLT4⟩
end Go.Proofs.Ytpichhnihppicaa
