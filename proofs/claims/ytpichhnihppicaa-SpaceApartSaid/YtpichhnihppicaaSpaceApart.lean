/- The walk of SpaceApart: at every input the law returns true, and nothing that was there has turned. -/
import Derived.Test.YtpichhnihppicaaSpaceApart0
import Derived.IntWalk
namespace Go.Proofs.Ytpichhnihppicaa
open Go Go.RowKit

def fsts (bs : List (Int × Int)) : List Int := bs.map (·.1)
def snds (bs : List (Int × Int)) : List Int := bs.map (·.2)
theorem fsts_length (bs : List (Int × Int)) : (fsts bs).length = bs.length := by simp [fsts]
theorem snds_length (bs : List (Int × Int)) : (snds bs).length = bs.length := by simp [snds]
theorem fsts_get {bs : List (Int × Int)} {k : Nat} (hk : k < bs.length) : (fsts bs).getD k 0 = (bs[k]).1 := by
  unfold fsts
  rw [List.getD_eq_getElem?_getD, List.getElem?_map, List.getElem?_eq_getElem hk]; rfl
theorem snds_get {bs : List (Int × Int)} {k : Nat} (hk : k < bs.length) : (snds bs).getD k 0 = (bs[k]).2 := by
  unfold snds
  rw [List.getD_eq_getElem?_getD, List.getElem?_map, List.getElem?_eq_getElem hk]; rfl
/-- The blocks that are left when i of them were given up. -/
def leftOver (back : Bool) (bs : List (Int × Int)) (i : Nat) : List (Int × Int) := if back then bs.take (bs.length - i) else bs.drop i
theorem nodup_ne {bs : List (Int × Int)} (h : (bs.map (·.1)).Nodup) {i j : Nat} (hi : i < bs.length) (hj : j < bs.length) (hij : i ≠ j) : (bs[i]).1 ≠ (bs[j]).1 := by
  intro e
  have hp := List.pairwise_iff_getElem.1 h
  rcases Nat.lt_or_gt_of_ne hij with h1 | h1
  · exact hp i j (by simpa using hi) (by simpa using hj) h1 (by simpa using e)
  · exact hp j i (by simpa using hj) (by simpa using hi) h1 (by simpa using e.symm)
theorem left_step {back : Bool} {bs : List (Int × Int)} (h : (bs.map (·.1)).Nodup) {i : Nat} (hi : i < bs.length) :
    let k := if back then bs.length - 1 - i else i
    ∃ hk : k < bs.length, bs[k] ∈ leftOver back bs i ∧ (∀ e, e ∈ leftOver back bs (i + 1) ↔ e ∈ leftOver back bs i ∧ e.1 ≠ (bs[k]).1) ∧ ((leftOver back bs (i + 1)).map (·.1)).Nodup := by
  cases back
  · simp only [Bool.false_eq_true, if_false, leftOver]
    refine ⟨hi, ?_, fun e => ?_, ?_⟩
    · rw [List.drop_eq_getElem_cons hi]; exact List.mem_cons_self
    · constructor
      · intro he
        obtain ⟨j, hj, rfl⟩ := List.mem_iff_getElem.1 he
        rw [List.getElem_drop]
        refine ⟨?_, ?_⟩
        · rw [List.drop_eq_getElem_cons hi]
          exact List.mem_cons_of_mem _ (List.mem_iff_getElem.2 ⟨j, hj, by rw [List.getElem_drop]⟩)
        · exact nodup_ne h _ hi (by omega)
      · rintro ⟨he, hne⟩
        rw [List.drop_eq_getElem_cons hi] at he
        rcases List.mem_cons.1 he with rfl | he
        · exact absurd rfl hne
        · exact he
    · exact (h.sublist ((List.drop_sublist _ _).map _))
  · simp only [if_true, leftOver]
    have hk : bs.length - 1 - i < bs.length := by omega
    have e1 : bs.length - i = (bs.length - 1 - i) + 1 := by omega
    have e2 : bs.length - (i + 1) = bs.length - 1 - i := by omega
    rw [e1, e2, List.take_succ_eq_append_getElem hk]
    refine ⟨hk, List.mem_append_right _ (List.mem_singleton.2 rfl), fun e => ?_, (h.sublist ((List.take_sublist _ _).map _))⟩
    constructor
    · intro he
      refine ⟨List.mem_append_left _ he, ?_⟩
      obtain ⟨j, hj, rfl⟩ := List.mem_iff_getElem.1 he
      rw [List.getElem_take]
      rw [List.length_take] at hj
      exact nodup_ne h (by omega) hk (by omega)
    · rintro ⟨he, hne⟩
      rcases List.mem_append.1 he with he | he
      · exact he
      · rw [List.mem_singleton.1 he] at hne; exact absurd rfl hne
theorem left_all (back : Bool) (bs : List (Int × Int)) : leftOver back bs bs.length = [] := by
  cases back <;> simp [leftOver]
theorem left_none (back : Bool) (bs : List (Int × Int)) : leftOver back bs 0 = bs := by
  cases back <;> simp [leftOver]

theorem last_facts : ((putLarge (newSp 32).pg 1 16).length : Int) - countB (bitsOf (putLarge (newSp 32).pg 1 16)) = 15 := by decide +kernel
theorem last_block {S : Sp} (hw : S.WF) (hb : Bl S []) (hl : S.pg.length = 32) : ∃ S5, S.alloc 1000 = (S5, 64, 0) ∧ S5.used = 1024 ∧ (S5.pg.length : Int) - countB (bitsOf S5.pg) = 15 := by
  have hpg := hb.empty hw
  rw [hl] at hpg
  have hat : ∀ j, atP S.pg j = if j = 0 then .zero else .free := fun j => by rw [hpg, new_at _ _ (by omega)]
  have hm := made_large hw (p := 1) (k := 16) (by omega) (by omega) (fun j h1 h2 => by rw [hat, if_neg (by omega)])
  refine ⟨_, alloc_large_at (S := S) (n := 1000) (p := 1) (k := 16) (by omega) (by omega) (by omega) (by omega) (by omega) (by omega) (fun j h1 h2 => by rw [hat, if_neg (by omega)]) (fun b hb => ⟨0, by omega, by omega, by rw [hat, if_pos rfl]; simp⟩), ?_, ?_⟩
  · rw [(hb.made hw hm).used hm.wf]; rfl
  · show ((putLarge S.pg 1 16).length : Int) - countB (bitsOf (putLarge S.pg 1 16)) = 15
    rw [hpg]
    exact last_facts
/-- One block more is given up, and told to be none the second time. -/
theorem left_drop {back : Bool} {bs : List (Int × Int)} {S : Sp} {i : Nat} (hw : S.WF) (hn : (bs.map (·.1)).Nodup) (hb : Bl S (leftOver back bs i)) (hi : i < bs.length) : ∃ S' : Sp, S.drop ((fsts bs).getD (if back then bs.length - 1 - i else i) 0) = (S', 0) ∧ S'.drop ((fsts bs).getD (if back then bs.length - 1 - i else i) 0) = (S', 2) ∧ Bl S' (leftOver back bs (i + 1)) ∧ S'.pg.length = S.pg.length := by
  obtain ⟨hk, h1, h2, h3⟩ := left_step (back := back) hn hi
  rw [fsts_get hk]
  have hm : ((bs[if back then bs.length - 1 - i else i]).1, (bs[if back then bs.length - 1 - i else i]).2) ∈ leftOver back bs i := h1
  have hf := (hb.1 _ _).2 hm
  obtain ⟨S', hd, hg⟩ := drop_some hw hf
  refine ⟨S', hd, drop_none (.inl ?_), hb.gone hw hm hg h2 h3, hg.pg⟩
  have := find_block hw hf
  rw [hg.find, if_pos (by omega)]

set_option maxRecDepth 100000 in
set_option maxHeartbeats 12800000 in
theorem apart6_walk (A : Option Addr) (cap : Nat) (xs : List Int) (back : Bool) (w : World) (hl : xs.length ≤ 9223372036854775807) (hR : Reads w .u16 A xs) (hxs : ∀ x ∈ xs, 0 ≤ x ∧ x ≤ 65535) :
    Calls Try.prog 8 #[.slice A xs.length cap, .bool back] w fun e w' => e = .returned (.bool true) ∧ Below w.heap.size w w' := by
  obtain ⟨N, hN⟩ : ∃ N, xs.length = N := ⟨_, rfl⟩
  rw [hN] at hl ⊢
  have HN := Lib.hid hN
  have HR := Lib.hid hR
  have HXS := Lib.hid hxs
  clear hN hR hxs
  go_enter Try.func8, Try.ntmps8
  go_wp2_with fail
  refine (mine_new 32 w _ (by omega) (by omega) (Upd.refl [] w)).mono ?_
  rintro e w1 ⟨s, rfl, hm⟩
  obtain ⟨L, hm⟩ := hm
  have HB0 : Hid (BesideE w w1 s (newSp 32) (.slice none 0 0) (fsts []) (.slice none 0 0) (snds [])) := Lib.hid ⟨L, hm, Own.nil _ _, Own.nil _ _, Apart.none _ _ _, by simp [Value.ownBlock]⟩
  have c0 := hm.c0
  have c1 := hm.c1
  clear hm
  go_wp2_with fail
  refine (err0 _).mono ?_
  rintro e w' ⟨rfl, rfl⟩
  go_wp2_with fail
  clear c0 c1
  go_loopg [7, 8, 9, 10] (40 - 0) (fun gk v1 v2 u i wr => ∃ (j : Nat) (bs : List (Int × Int)) (S : Sp) (U : Int), gk = 40 - j ∧ j ≤ 40 ∧ j ≤ N ∧ i = .int .i64 j ∧ u = .int .i64 U ∧ 0 ≤ U ∧ U ≤ 1024 * j ∧ bs.length ≤ j ∧ Hid (BesideE w wr s S v1 (fsts bs) v2 (snds bs)) ∧ Hid (Bl S bs ∧ S.pg.length = 32 ∧ U = (snds bs).sum))
  case atStart => exact ⟨0, [], newSp 32, 0, rfl, by omega, by omega, rfl, rfl, by omega, by omega, by simp, HB0, Lib.hid ⟨Bl.new (by omega), newSp_len 32, rfl⟩⟩
  case round =>
    obtain ⟨j, bs, S, U, rfl, hj, hjN, rfl, rfl, hU0, hU1, hbl, HB, HS⟩ := hrel
    by_cases hlt : j < N ∧ j < 40
    · obtain ⟨h1, h2⟩ := hlt
      obtain ⟨b, off, rfl, hb, ce⟩ := (HR.out.upd HB.out.world (by simp)).at HN.out h1
      have hxb := HXS.out (xs.getD j 0) (by have := HN.out; rw [List.getD_eq_getElem?_getD, List.getElem?_eq_getElem (by omega)]; exact List.getElem_mem _)
      obtain ⟨x, hx⟩ : ∃ x : Nat, xs.getD j 0 = x := ⟨(xs.getD j 0).toNat, by omega⟩
      rw [hx] at hxb ce
      have HXJ := Lib.hid hx
      clear hx
      obtain ⟨p, hp⟩ : ∃ p : Nat, (x : Int) % 300 = p := ⟨x % 300, by omega⟩
      have hp2 : p < 300 := by omega
      have HPX := Lib.hid hp
      clear hp
      obtain ⟨M, hM, hMb, hM2, hM3⟩ := block_nat (n := 1 + (p : Int)) (by omega) (by omega)
      have hB1 := fun w => block1_walk (1 + (p : Int)) w
      rw [hM] at hB1
      have HB1 := Lib.hid hB1
      clear hB1
      rcases alloc_cases HB.out.wf (1 + (p : Int)) with ⟨h3, _⟩ | ⟨_, hal⟩ | ⟨_, S', a, hal, hmd⟩
      · exact absurd h3 hMb
      · have HAL := Lib.hid hal
        clear hal hMb hM
        go_wp2_with fail
        simp only [HPX.out]
        refine (beside_alloc w s S S _ _ _ _ _ 0 3 _ HB.out HAL.out).mono ?_
        rintro e w2 ⟨rfl, hm⟩
        have HB2 := Lib.hid hm
        clear hm
        go_wp2_with fail
        refine (err3 _).mono ?_
        rintro e w' ⟨rfl, rfl⟩
        go_wp2_with fail
        go_roundg (40 - (j + 1))
        case measure => omega
        case rel => exact ⟨j + 1, bs, S, U, rfl, by omega, by omega, by go_num, rfl, hU0, by omega, by omega, HB2, HS⟩
      · rw [hM] at hmd
        have hlen := HB.out.wf.len
        have hlo := hmd.lo
        have hhi : a + (M : Int) ≤ 2048 := by have h4 := hmd.hi; have h5 := HS.out.2.1; omega
        have HAL := Lib.hid hal
        have HAP : Hid (∀ k, k < bs.length → ((fsts bs).getD k 0 + (snds bs).getD k 0 ≤ a ∨ a + (M : Int) ≤ (fsts bs).getD k 0) ∧ 0 ≤ (fsts bs).getD k 0 ∧ (fsts bs).getD k 0 ≤ 2048 ∧ 0 ≤ (snds bs).getD k 0 ∧ (snds bs).getD k 0 ≤ 2048) := Lib.hid fun k hk => by
          rw [fsts_get hk, snds_get hk]
          have hm : ((bs[k]).1, (bs[k]).2) ∈ bs := List.getElem_mem hk
          have h6 := HS.out.1.apart HB.out.wf hmd hm
          have h7 := HS.out.1.bd HB.out.wf hm
          have h5 := HS.out.2.1
          omega
        have HBL' : Hid (Bl S' (bs ++ [(a, (M : Int))]) ∧ S'.pg.length = 32 ∧ U + M = (snds (bs ++ [(a, (M : Int))])).sum) := Lib.hid ⟨HS.out.1.made HB.out.wf hmd, by rw [hmd.pg]; exact HS.out.2.1, by unfold snds; rw [List.map_append]; show _ = (_ ++ [_]).sum; rw [sum_snoc, HS.out.2.2]; rfl⟩
        have HFI : Hid (∀ z, a ≤ z → z < a + (M : Int) → S'.find z = (a, (M : Int), true)) := Lib.hid fun z z1 z2 => by rw [hmd.find, if_pos ⟨z1, z2⟩]
        obtain ⟨r, hr⟩ : ∃ r : Nat, (x : Int) % (M : Int) = r := ⟨x % M, by omega⟩
        have hrM : r < M := by have := Int.emod_lt_of_pos (x : Int) (show (0 : Int) < (M : Int) by omega); omega
        have HRM := Lib.hid hr
        clear hal hmd hlen hMb hM hr
        go_wp2_with fail
        simp only [HPX.out]
        refine (beside_alloc w s S S' _ _ _ _ _ a 0 _ HB.out HAL.out).mono ?_
        rintro e w2 ⟨rfl, hm⟩
        have HB2 := Lib.hid hm
        clear hm
        go_wp2_with fail
        refine (err0 _).mono ?_
        rintro e w' ⟨rfl, rfl⟩
        go_wp2_with fail
        refine (HB1.out _).mono ?_
        rintro e w3 ⟨rfl, hb⟩
        have HB3 : Hid (BesideE w w3 s S' _ _ _ _) := Lib.hid (HB2.out.upd (Upd.of_below hb))
        clear hb
        go_wp2_with fail
        refine (err0 _).mono ?_
        rintro e w' ⟨rfl, rfl⟩
        obtain ⟨A1, p1, hv1, _, _⟩ := HB3.out.own1.form
        obtain ⟨A2, p2, hv2, _, _⟩ := HB3.out.own2.form
        rw [fsts_length] at hv1
        rw [snds_length] at hv2
        subst hv1
        subst hv2
        obtain ⟨Q, hQ⟩ : ∃ Q, bs.length = Q := ⟨_, rfl⟩
        have HQ := Lib.hid hQ
        rw [hQ] at HB3 hbl ⊢
        have hQ40 : Q ≤ 40 := by omega
        clear hQ
        go_wp2_with fail
        obtain ⟨wo, rfl⟩ : ∃ wo : World, wo = w3 := ⟨_, rfl⟩
        go_loopg [15] Q (fun gk i wr => ∃ k : Nat, gk = Q - k ∧ k ≤ Q ∧ i = .int .i64 k ∧ Hid (BesideE w wr s S' (.slice A1 Q p1) (fsts bs) (.slice A2 Q p2) (snds bs)))
        case atStart => exact ⟨0, rfl, by omega, rfl, HB3⟩
        case round =>
          obtain ⟨k, rfl, hk, rfl, HBk⟩ := hrel
          by_cases hkl : k < Q
          · obtain ⟨hap, hf0, hf1, hs0, hs1⟩ := HAP.out k (by rw [HQ.out]; exact hkl)
            obtain ⟨b1, o1, rfl, _, e1⟩ := (show Reads _ .i64 A1 (fsts bs) from HBk.out.own1.ints.2).at (by rw [fsts_length]; exact HQ.out) hkl
            obtain ⟨b2, o2, rfl, _, e2⟩ := (show Reads _ .i64 A2 (snds bs) from HBk.out.own2.ints.2).at (by rw [snds_length]; exact HQ.out) hkl
            generalize (fsts bs).getD k 0 = f at *
            generalize (snds bs).getD k 0 = g at *
            have w1 : IntKind.i64.wrap (f + g) = f + g := IntWalk.i64_in _ (by omega)
            have w2 : IntKind.i64.wrap (a + (M : Int)) = a + (M : Int) := IntWalk.i64_in _ (by omega)
            rcases hap with h3 | h3
            · have d1 : decide (a < f + g) = false := by simp; omega
              go_wp2_with fail
              go_quiet (fail)
              go_wp2_with fail
              go_roundg (Q - (k + 1))
              case measure => omega
              case rel => exact ⟨k + 1, rfl, by omega, by go_num, Lib.hid (HBk.out.upd ((Upd.refl [] _).drewN nq))⟩
            · have d1 : decide (a < f + g) = true := by simp; omega
              have d2 : decide (f < a + (M : Int)) = false := by simp; omega
              go_wp2_with fail
              go_quiet (fail)
              go_wp2_with fail
              go_roundg (Q - (k + 1))
              case measure => omega
              case rel => exact ⟨k + 1, rfl, by omega, by go_num, Lib.hid (HBk.out.upd ((Upd.refl [] _).drewN nq))⟩
          · obtain rfl : k = Q := by omega
            obtain ⟨b', off', he, _, ce2⟩ := (HR.out.upd HBk.out.world (by simp)).at HN.out h1
            simp only [Option.some.injEq, Addr.mk.injEq, and_true] at he
            obtain ⟨rfl, rfl⟩ := he
            rw [HXJ.out] at ce2
            have hrm := HRM.out
            have HAR : Hid (S'.find (a + (r : Int)) = (a, (M : Int), true)) := Lib.hid (HFI.out _ (by omega) (by omega))
            go_wp2_with fail
            refine (beside_find w s S' _ _ _ _ _ a (M : Int) true _ HBk.out (by exact HAR.out)).mono ?_
            rintro e w5 ⟨rfl, hm⟩
            have HB5 := Lib.hid hm
            clear hm hrm ce2
            have tok1 : True := trivial
            have tok2 : True := trivial
            have hQL : Hid ((fsts bs).length ≤ 4294967296 ∧ (snds bs).length ≤ 4294967296) := Lib.hid (by rw [fsts_length, snds_length, HQ.out]; omega)
            go_wp2_with (first
              | (at_builtin; have _t := tok1; refine wpList_pushN rfl _ _ rfl w.heap.size (.slice A1 k p1) (fsts bs) rfl (HB5.out.upd ((Upd.refl [] _).alloc _)).own1 w5.heap.size a rfl (Blk.new _ _ _) hQL.out.1 (HB5.out.upd ((Upd.refl [] _).alloc _)).world.size ?_; intro v1' w6 hO6 hN6 hU6
                 have HB6 : Hid (BesideE w w6 s S' v1' (fsts bs ++ [a]) (.slice A2 k p2) (snds bs)) := Lib.hid ((HB5.out.upd ((Upd.refl [] _).alloc _)).push hO6 hN6 hU6)
                 clear hO6 hN6 hU6 tok1 _t)
              | (at_builtin; have _t := tok2; refine wpList_pushN rfl _ _ rfl w.heap.size (.slice A2 k p2) (snds bs) rfl (HB6.out.upd ((Upd.refl [] _).alloc _)).own2 w6.heap.size (M : Int) rfl (Blk.new _ _ _) hQL.out.2 (HB6.out.upd ((Upd.refl [] _).alloc _)).world.size ?_; intro v2' w7 hO7 hN7 hU7
                 have HB7 : Hid (BesideE w w7 s S' v1' (fsts bs ++ [a]) v2' (snds bs ++ [(M : Int)])) := Lib.hid ((HB6.out.upd ((Upd.refl [] _).alloc _)).flip.push hO7 hN7 hU7).flip
                 clear hO7 hN7 hU7 tok2 _t))
            go_roundg (40 - (j + 1))
            case measure => omega
            case rel =>
              refine ⟨j + 1, bs ++ [(a, (M : Int))], S', U + M, rfl, by omega, by omega, by go_num, rfl, by omega, by omega, by rw [List.length_append, HQ.out]; simp; omega, ?_, HBL'⟩
              have e1 : fsts (bs ++ [(a, (M : Int))]) = fsts bs ++ [a] := by simp [fsts]
              have e2 : snds (bs ++ [(a, (M : Int))]) = snds bs ++ [(M : Int)] := by simp [snds]
              rw [e1, e2]
              exact HB7
    · have hcs : N ≤ j ∨ (j < N ∧ 40 ≤ j) := by omega
      obtain ⟨A1, p1, hv1, _, _⟩ := HB.out.own1.form
      rw [fsts_length] at hv1
      subst hv1
      obtain ⟨Q, hQ⟩ : ∃ Q, bs.length = Q := ⟨_, rfl⟩
      have HQ := Lib.hid hQ
      rw [hQ] at HB hbl ⊢
      have hQ40 : Q ≤ 40 := by omega
      have HUS : Hid (S.used = U) := Lib.hid (by rw [HS.out.1.used HB.out.wf, HS.out.2.2]; rfl)
      clear hQ hlt
      have hbk : back = true ∨ back = false := by cases back <;> simp
      rcases hbk with rfl | rfl <;> rcases hcs with h1 | ⟨h1, h2⟩
      · go_wp2_with fail
        refine (beside_used w s S _ _ _ _ U _ HB.out HUS.out).mono ?_
        rintro e w2 ⟨rfl, hm⟩
        have HB2 := Lib.hid hm
        clear hm
        go_wp2_with fail
        go_loopg [19] Q (fun gk v wr => ∃ (i : Nat) (S : Sp), gk = Q - i ∧ i ≤ Q ∧ v = .int .i64 i ∧ Hid (BesideE w wr s S (.slice A1 Q p1) (fsts bs) u8 (snds bs)) ∧ Hid (Bl S (leftOver true bs i) ∧ S.pg.length = 32))
        case atStart => exact ⟨0, S, rfl, by omega, rfl, HB2, Lib.hid ⟨by rw [left_none]; exact HS.out.1, HS.out.2.1⟩⟩
        case round =>
          obtain ⟨i, T, rfl, hi, rfl, HT, HTB⟩ := hrel
          by_cases hil : i < Q
          · obtain ⟨T', hd1, hd2, hbl', hl'⟩ := left_drop HT.out.wf HS.out.1.2.1 HTB.out.1 (by rw [HQ.out]; exact hil)
            simp only [if_true, HQ.out] at hd1 hd2
            obtain ⟨k, hk⟩ : ∃ k : Nat, (Q : Int) - 1 - (i : Int) = k := ⟨Q - 1 - i, by omega⟩
            have hkk : Q - 1 - i = k := by omega
            have hkl : k < Q := by omega
            rw [hkk] at hd1 hd2
            obtain ⟨b1, o1, rfl, _, e1⟩ := (show Reads _ .i64 A1 (fsts bs) from HT.out.own1.ints.2).at (by rw [fsts_length]; exact HQ.out) hkl
            obtain ⟨y, hy⟩ : ∃ y, (fsts bs).getD k 0 = y := ⟨_, rfl⟩
            rw [hy] at hd1 hd2 e1
            have HD1 := Lib.hid hd1
            have HD2 := Lib.hid hd2
            have HTB' := Lib.hid (And.intro hbl' (hl'.trans HTB.out.2))
            have HAGAIN : Hid (∀ W, BesideE w W s T' (.slice (some ⟨b1, o1, none⟩) Q p1) (fsts bs) u8 (snds bs) → W.cell? ⟨b1, o1 + k, none⟩ = some (.int .i64 y)) := Lib.hid fun W hW => by
              obtain ⟨b', o', he, _, e2⟩ := (show Reads _ .i64 (some ⟨b1, o1, none⟩) (fsts bs) from hW.own1.ints.2).at (by rw [fsts_length]; exact HQ.out) hkl
              simp only [Option.some.injEq, Addr.mk.injEq, and_true] at he
              obtain ⟨rfl, rfl⟩ := he
              rw [e2, hy]
            clear hd1 hd2 hbl' hl' hy hkk
            go_wp2_with fail
            refine (beside_free w s T T' _ _ _ _ y 0 _ HT.out HD1.out).mono ?_
            rintro e w3 ⟨rfl, hm⟩
            have HT3 := Lib.hid hm
            have e3 := HAGAIN.out _ hm
            clear hm
            go_wp2_with fail
            refine (err0 _).mono ?_
            rintro e w' ⟨rfl, rfl⟩
            go_wp2_with fail
            refine (beside_free w s T' T' _ _ _ _ y 2 _ HT3.out HD2.out).mono ?_
            rintro e w4 ⟨rfl, hm⟩
            have HT4 := Lib.hid hm
            clear hm
            go_wp2_with fail
            refine (err2 _).mono ?_
            rintro e w' ⟨rfl, rfl⟩
            go_wp2_with fail
            go_roundg (Q - (i + 1))
            case measure => omega
            case rel => exact ⟨i + 1, T', rfl, by omega, by go_num, HT4, HTB'⟩
          · obtain rfl : i = Q := by omega
            have HTE : Hid (Bl T [] ∧ T.pg.length = 32) := Lib.hid ⟨by have := HTB.out.1; rw [← HQ.out, left_all] at this; exact this, HTB.out.2⟩
            have HTM : Hid (Mine w wr s T) := Lib.hid HT.out.mine
            skip
            obtain ⟨S5, hal5, hus5, hlf5⟩ := last_block HTM.out.wf HTE.out.1 HTE.out.2
            have HAL5 := Lib.hid hal5
            have HUS5 := Lib.hid hus5
            have HLF5 := Lib.hid hlf5
            clear hal5 hus5 hlf5
            go_wp2_with fail
            refine (alloc_nil 1 _).mono ?_
            rintro e w5 ⟨rfl, hu⟩
            have HM5 : Hid (Mine w w5 s T) := Lib.hid (HTM.out.upd hu)
            clear hu
            have hfn := fun w => find_nil 64 w
            unfold FindVal at hfn
            have HFN := Lib.hid hfn
            clear hfn
            go_wp2_with fail
            refine (HFN.out _).mono ?_
            rintro e w' ⟨rfl, rfl⟩
            go_wp2_with fail
            refine (mine_alloc w s T S5 1000 64 0 _ HM5.out HAL5.out).mono ?_
            rintro e w6 ⟨rfl, hm⟩
            have HM6 := Lib.hid hm
            clear hm
            go_wp2_with fail
            refine (mine_used w s S5 1024 _ HM6.out HUS5.out).mono ?_
            rintro e w7 ⟨rfl, hm⟩
            obtain ⟨L7, hm⟩ := hm
            have f1 := hm.c1
            have HM7 := Lib.hid hm
            clear hm
            go_wp2_with fail
            refine (err0 _).mono ?_
            rintro e w' ⟨rfl, rfl⟩
            have hlf := mine_left w s L7 S5 w7 HM7.out
            rw [HLF5.out] at hlf
            have HLF := Lib.hid hlf
            clear hlf
            go_wp2_with fail
            refine HLF.out.mono ?_
            rintro e w8 ⟨rfl, hm⟩
            have HM8 : Hid (Upd [] w w8) := Lib.hid hm.2.2
            clear hm
            go_wp2_with fail
            refine (err2 _).mono ?_
            rintro e w' ⟨rfl, rfl⟩
            go_wp2_with fail
            refine (free_nil 64 _).mono ?_
            rintro e w' ⟨rfl, rfl⟩
            go_wp2_with fail
            refine (err2 _).mono ?_
            rintro e w' ⟨rfl, rfl⟩
            go_wp2_with fail
            refine (used_nil _).mono ?_
            rintro e w' ⟨rfl, rfl⟩
            go_wp2_with fail
            refine (cap_nil _).mono ?_
            rintro e w' ⟨rfl, rfl⟩
            go_wp2_with fail
            refine (each_nil _).mono ?_
            rintro e w' ⟨rfl, rfl⟩
            go_wp2_with fail
            refine (awake6_calls _).mono ?_
            rintro e w9 ⟨rfl, hb⟩
            have HM9 : Hid (Upd [] w w9) := Lib.hid (HM8.out.step (Upd.of_below hb : Upd [] _ _) (by simp))
            clear hb
            go_wp2_with fail
            go_ret
            exact ⟨rfl, HM9.out.below⟩
      · go_wp2_with fail
        refine (beside_used w s S _ _ _ _ U _ HB.out HUS.out).mono ?_
        rintro e w2 ⟨rfl, hm⟩
        have HB2 := Lib.hid hm
        clear hm
        go_wp2_with fail
        go_loopg [19] Q (fun gk v wr => ∃ (i : Nat) (S : Sp), gk = Q - i ∧ i ≤ Q ∧ v = .int .i64 i ∧ Hid (BesideE w wr s S (.slice A1 Q p1) (fsts bs) u8 (snds bs)) ∧ Hid (Bl S (leftOver true bs i) ∧ S.pg.length = 32))
        case atStart => exact ⟨0, S, rfl, by omega, rfl, HB2, Lib.hid ⟨by rw [left_none]; exact HS.out.1, HS.out.2.1⟩⟩
        case round =>
          obtain ⟨i, T, rfl, hi, rfl, HT, HTB⟩ := hrel
          by_cases hil : i < Q
          · obtain ⟨T', hd1, hd2, hbl', hl'⟩ := left_drop HT.out.wf HS.out.1.2.1 HTB.out.1 (by rw [HQ.out]; exact hil)
            simp only [if_true, HQ.out] at hd1 hd2
            obtain ⟨k, hk⟩ : ∃ k : Nat, (Q : Int) - 1 - (i : Int) = k := ⟨Q - 1 - i, by omega⟩
            have hkk : Q - 1 - i = k := by omega
            have hkl : k < Q := by omega
            rw [hkk] at hd1 hd2
            obtain ⟨b1, o1, rfl, _, e1⟩ := (show Reads _ .i64 A1 (fsts bs) from HT.out.own1.ints.2).at (by rw [fsts_length]; exact HQ.out) hkl
            obtain ⟨y, hy⟩ : ∃ y, (fsts bs).getD k 0 = y := ⟨_, rfl⟩
            rw [hy] at hd1 hd2 e1
            have HD1 := Lib.hid hd1
            have HD2 := Lib.hid hd2
            have HTB' := Lib.hid (And.intro hbl' (hl'.trans HTB.out.2))
            have HAGAIN : Hid (∀ W, BesideE w W s T' (.slice (some ⟨b1, o1, none⟩) Q p1) (fsts bs) u8 (snds bs) → W.cell? ⟨b1, o1 + k, none⟩ = some (.int .i64 y)) := Lib.hid fun W hW => by
              obtain ⟨b', o', he, _, e2⟩ := (show Reads _ .i64 (some ⟨b1, o1, none⟩) (fsts bs) from hW.own1.ints.2).at (by rw [fsts_length]; exact HQ.out) hkl
              simp only [Option.some.injEq, Addr.mk.injEq, and_true] at he
              obtain ⟨rfl, rfl⟩ := he
              rw [e2, hy]
            clear hd1 hd2 hbl' hl' hy hkk
            go_wp2_with fail
            refine (beside_free w s T T' _ _ _ _ y 0 _ HT.out HD1.out).mono ?_
            rintro e w3 ⟨rfl, hm⟩
            have HT3 := Lib.hid hm
            have e3 := HAGAIN.out _ hm
            clear hm
            go_wp2_with fail
            refine (err0 _).mono ?_
            rintro e w' ⟨rfl, rfl⟩
            go_wp2_with fail
            refine (beside_free w s T' T' _ _ _ _ y 2 _ HT3.out HD2.out).mono ?_
            rintro e w4 ⟨rfl, hm⟩
            have HT4 := Lib.hid hm
            clear hm
            go_wp2_with fail
            refine (err2 _).mono ?_
            rintro e w' ⟨rfl, rfl⟩
            go_wp2_with fail
            go_roundg (Q - (i + 1))
            case measure => omega
            case rel => exact ⟨i + 1, T', rfl, by omega, by go_num, HT4, HTB'⟩
          · obtain rfl : i = Q := by omega
            have HTE : Hid (Bl T [] ∧ T.pg.length = 32) := Lib.hid ⟨by have := HTB.out.1; rw [← HQ.out, left_all] at this; exact this, HTB.out.2⟩
            have HTM : Hid (Mine w wr s T) := Lib.hid HT.out.mine
            skip
            obtain ⟨S5, hal5, hus5, hlf5⟩ := last_block HTM.out.wf HTE.out.1 HTE.out.2
            have HAL5 := Lib.hid hal5
            have HUS5 := Lib.hid hus5
            have HLF5 := Lib.hid hlf5
            clear hal5 hus5 hlf5
            go_wp2_with fail
            refine (alloc_nil 1 _).mono ?_
            rintro e w5 ⟨rfl, hu⟩
            have HM5 : Hid (Mine w w5 s T) := Lib.hid (HTM.out.upd hu)
            clear hu
            have hfn := fun w => find_nil 64 w
            unfold FindVal at hfn
            have HFN := Lib.hid hfn
            clear hfn
            go_wp2_with fail
            refine (HFN.out _).mono ?_
            rintro e w' ⟨rfl, rfl⟩
            go_wp2_with fail
            refine (mine_alloc w s T S5 1000 64 0 _ HM5.out HAL5.out).mono ?_
            rintro e w6 ⟨rfl, hm⟩
            have HM6 := Lib.hid hm
            clear hm
            go_wp2_with fail
            refine (mine_used w s S5 1024 _ HM6.out HUS5.out).mono ?_
            rintro e w7 ⟨rfl, hm⟩
            obtain ⟨L7, hm⟩ := hm
            have f1 := hm.c1
            have HM7 := Lib.hid hm
            clear hm
            go_wp2_with fail
            refine (err0 _).mono ?_
            rintro e w' ⟨rfl, rfl⟩
            have hlf := mine_left w s L7 S5 w7 HM7.out
            rw [HLF5.out] at hlf
            have HLF := Lib.hid hlf
            clear hlf
            go_wp2_with fail
            refine HLF.out.mono ?_
            rintro e w8 ⟨rfl, hm⟩
            have HM8 : Hid (Upd [] w w8) := Lib.hid hm.2.2
            clear hm
            go_wp2_with fail
            refine (err2 _).mono ?_
            rintro e w' ⟨rfl, rfl⟩
            go_wp2_with fail
            refine (free_nil 64 _).mono ?_
            rintro e w' ⟨rfl, rfl⟩
            go_wp2_with fail
            refine (err2 _).mono ?_
            rintro e w' ⟨rfl, rfl⟩
            go_wp2_with fail
            refine (used_nil _).mono ?_
            rintro e w' ⟨rfl, rfl⟩
            go_wp2_with fail
            refine (cap_nil _).mono ?_
            rintro e w' ⟨rfl, rfl⟩
            go_wp2_with fail
            refine (each_nil _).mono ?_
            rintro e w' ⟨rfl, rfl⟩
            go_wp2_with fail
            refine (awake6_calls _).mono ?_
            rintro e w9 ⟨rfl, hb⟩
            have HM9 : Hid (Upd [] w w9) := Lib.hid (HM8.out.step (Upd.of_below hb : Upd [] _ _) (by simp))
            clear hb
            go_wp2_with fail
            go_ret
            exact ⟨rfl, HM9.out.below⟩
      · go_wp2_with fail
        refine (beside_used w s S _ _ _ _ U _ HB.out HUS.out).mono ?_
        rintro e w2 ⟨rfl, hm⟩
        have HB2 := Lib.hid hm
        clear hm
        go_wp2_with fail
        go_loopg [19] Q (fun gk v wr => ∃ (i : Nat) (S : Sp), gk = Q - i ∧ i ≤ Q ∧ v = .int .i64 i ∧ Hid (BesideE w wr s S (.slice A1 Q p1) (fsts bs) u8 (snds bs)) ∧ Hid (Bl S (leftOver false bs i) ∧ S.pg.length = 32))
        case atStart => exact ⟨0, S, rfl, by omega, rfl, HB2, Lib.hid ⟨by rw [left_none]; exact HS.out.1, HS.out.2.1⟩⟩
        case round =>
          obtain ⟨i, T, rfl, hi, rfl, HT, HTB⟩ := hrel
          by_cases hil : i < Q
          · obtain ⟨T', hd1, hd2, hbl', hl'⟩ := left_drop HT.out.wf HS.out.1.2.1 HTB.out.1 (by rw [HQ.out]; exact hil)
            simp only [Bool.false_eq_true, if_false] at hd1 hd2
            obtain ⟨b1, o1, rfl, _, e1⟩ := (show Reads _ .i64 A1 (fsts bs) from HT.out.own1.ints.2).at (by rw [fsts_length]; exact HQ.out) hil
            obtain ⟨y, hy⟩ : ∃ y, (fsts bs).getD i 0 = y := ⟨_, rfl⟩
            rw [hy] at hd1 hd2 e1
            have HD1 := Lib.hid hd1
            have HD2 := Lib.hid hd2
            have HTB' := Lib.hid (And.intro hbl' (hl'.trans HTB.out.2))
            have HAGAIN : Hid (∀ W, BesideE w W s T' (.slice (some ⟨b1, o1, none⟩) Q p1) (fsts bs) u8 (snds bs) → W.cell? ⟨b1, o1 + i, none⟩ = some (.int .i64 y)) := Lib.hid fun W hW => by
              obtain ⟨b', o', he, _, e2⟩ := (show Reads _ .i64 (some ⟨b1, o1, none⟩) (fsts bs) from hW.own1.ints.2).at (by rw [fsts_length]; exact HQ.out) hil
              simp only [Option.some.injEq, Addr.mk.injEq, and_true] at he
              obtain ⟨rfl, rfl⟩ := he
              rw [e2, hy]
            clear hd1 hd2 hbl' hl' hy
            go_wp2_with fail
            refine (beside_free w s T T' _ _ _ _ y 0 _ HT.out HD1.out).mono ?_
            rintro e w3 ⟨rfl, hm⟩
            have HT3 := Lib.hid hm
            have e3 := HAGAIN.out _ hm
            clear hm
            go_wp2_with fail
            refine (err0 _).mono ?_
            rintro e w' ⟨rfl, rfl⟩
            go_wp2_with fail
            refine (beside_free w s T' T' _ _ _ _ y 2 _ HT3.out HD2.out).mono ?_
            rintro e w4 ⟨rfl, hm⟩
            have HT4 := Lib.hid hm
            clear hm
            go_wp2_with fail
            refine (err2 _).mono ?_
            rintro e w' ⟨rfl, rfl⟩
            go_wp2_with fail
            go_roundg (Q - (i + 1))
            case measure => omega
            case rel => exact ⟨i + 1, T', rfl, by omega, by go_num, HT4, HTB'⟩
          · obtain rfl : i = Q := by omega
            have HTE : Hid (Bl T [] ∧ T.pg.length = 32) := Lib.hid ⟨by have := HTB.out.1; rw [← HQ.out, left_all] at this; exact this, HTB.out.2⟩
            have HTM : Hid (Mine w wr s T) := Lib.hid HT.out.mine
            skip
            obtain ⟨S5, hal5, hus5, hlf5⟩ := last_block HTM.out.wf HTE.out.1 HTE.out.2
            have HAL5 := Lib.hid hal5
            have HUS5 := Lib.hid hus5
            have HLF5 := Lib.hid hlf5
            clear hal5 hus5 hlf5
            go_wp2_with fail
            refine (alloc_nil 1 _).mono ?_
            rintro e w5 ⟨rfl, hu⟩
            have HM5 : Hid (Mine w w5 s T) := Lib.hid (HTM.out.upd hu)
            clear hu
            have hfn := fun w => find_nil 64 w
            unfold FindVal at hfn
            have HFN := Lib.hid hfn
            clear hfn
            go_wp2_with fail
            refine (HFN.out _).mono ?_
            rintro e w' ⟨rfl, rfl⟩
            go_wp2_with fail
            refine (mine_alloc w s T S5 1000 64 0 _ HM5.out HAL5.out).mono ?_
            rintro e w6 ⟨rfl, hm⟩
            have HM6 := Lib.hid hm
            clear hm
            go_wp2_with fail
            refine (mine_used w s S5 1024 _ HM6.out HUS5.out).mono ?_
            rintro e w7 ⟨rfl, hm⟩
            obtain ⟨L7, hm⟩ := hm
            have f1 := hm.c1
            have HM7 := Lib.hid hm
            clear hm
            go_wp2_with fail
            refine (err0 _).mono ?_
            rintro e w' ⟨rfl, rfl⟩
            have hlf := mine_left w s L7 S5 w7 HM7.out
            rw [HLF5.out] at hlf
            have HLF := Lib.hid hlf
            clear hlf
            go_wp2_with fail
            refine HLF.out.mono ?_
            rintro e w8 ⟨rfl, hm⟩
            have HM8 : Hid (Upd [] w w8) := Lib.hid hm.2.2
            clear hm
            go_wp2_with fail
            refine (err2 _).mono ?_
            rintro e w' ⟨rfl, rfl⟩
            go_wp2_with fail
            refine (free_nil 64 _).mono ?_
            rintro e w' ⟨rfl, rfl⟩
            go_wp2_with fail
            refine (err2 _).mono ?_
            rintro e w' ⟨rfl, rfl⟩
            go_wp2_with fail
            refine (used_nil _).mono ?_
            rintro e w' ⟨rfl, rfl⟩
            go_wp2_with fail
            refine (cap_nil _).mono ?_
            rintro e w' ⟨rfl, rfl⟩
            go_wp2_with fail
            refine (each_nil _).mono ?_
            rintro e w' ⟨rfl, rfl⟩
            go_wp2_with fail
            refine (awake6_calls _).mono ?_
            rintro e w9 ⟨rfl, hb⟩
            have HM9 : Hid (Upd [] w w9) := Lib.hid (HM8.out.step (Upd.of_below hb : Upd [] _ _) (by simp))
            clear hb
            go_wp2_with fail
            go_ret
            exact ⟨rfl, HM9.out.below⟩
      · go_wp2_with fail
        refine (beside_used w s S _ _ _ _ U _ HB.out HUS.out).mono ?_
        rintro e w2 ⟨rfl, hm⟩
        have HB2 := Lib.hid hm
        clear hm
        go_wp2_with fail
        go_loopg [19] Q (fun gk v wr => ∃ (i : Nat) (S : Sp), gk = Q - i ∧ i ≤ Q ∧ v = .int .i64 i ∧ Hid (BesideE w wr s S (.slice A1 Q p1) (fsts bs) u8 (snds bs)) ∧ Hid (Bl S (leftOver false bs i) ∧ S.pg.length = 32))
        case atStart => exact ⟨0, S, rfl, by omega, rfl, HB2, Lib.hid ⟨by rw [left_none]; exact HS.out.1, HS.out.2.1⟩⟩
        case round =>
          obtain ⟨i, T, rfl, hi, rfl, HT, HTB⟩ := hrel
          by_cases hil : i < Q
          · obtain ⟨T', hd1, hd2, hbl', hl'⟩ := left_drop HT.out.wf HS.out.1.2.1 HTB.out.1 (by rw [HQ.out]; exact hil)
            simp only [Bool.false_eq_true, if_false] at hd1 hd2
            obtain ⟨b1, o1, rfl, _, e1⟩ := (show Reads _ .i64 A1 (fsts bs) from HT.out.own1.ints.2).at (by rw [fsts_length]; exact HQ.out) hil
            obtain ⟨y, hy⟩ : ∃ y, (fsts bs).getD i 0 = y := ⟨_, rfl⟩
            rw [hy] at hd1 hd2 e1
            have HD1 := Lib.hid hd1
            have HD2 := Lib.hid hd2
            have HTB' := Lib.hid (And.intro hbl' (hl'.trans HTB.out.2))
            have HAGAIN : Hid (∀ W, BesideE w W s T' (.slice (some ⟨b1, o1, none⟩) Q p1) (fsts bs) u8 (snds bs) → W.cell? ⟨b1, o1 + i, none⟩ = some (.int .i64 y)) := Lib.hid fun W hW => by
              obtain ⟨b', o', he, _, e2⟩ := (show Reads _ .i64 (some ⟨b1, o1, none⟩) (fsts bs) from hW.own1.ints.2).at (by rw [fsts_length]; exact HQ.out) hil
              simp only [Option.some.injEq, Addr.mk.injEq, and_true] at he
              obtain ⟨rfl, rfl⟩ := he
              rw [e2, hy]
            clear hd1 hd2 hbl' hl' hy
            go_wp2_with fail
            refine (beside_free w s T T' _ _ _ _ y 0 _ HT.out HD1.out).mono ?_
            rintro e w3 ⟨rfl, hm⟩
            have HT3 := Lib.hid hm
            have e3 := HAGAIN.out _ hm
            clear hm
            go_wp2_with fail
            refine (err0 _).mono ?_
            rintro e w' ⟨rfl, rfl⟩
            go_wp2_with fail
            refine (beside_free w s T' T' _ _ _ _ y 2 _ HT3.out HD2.out).mono ?_
            rintro e w4 ⟨rfl, hm⟩
            have HT4 := Lib.hid hm
            clear hm
            go_wp2_with fail
            refine (err2 _).mono ?_
            rintro e w' ⟨rfl, rfl⟩
            go_wp2_with fail
            go_roundg (Q - (i + 1))
            case measure => omega
            case rel => exact ⟨i + 1, T', rfl, by omega, by go_num, HT4, HTB'⟩
          · obtain rfl : i = Q := by omega
            have HTE : Hid (Bl T [] ∧ T.pg.length = 32) := Lib.hid ⟨by have := HTB.out.1; rw [← HQ.out, left_all] at this; exact this, HTB.out.2⟩
            have HTM : Hid (Mine w wr s T) := Lib.hid HT.out.mine
            skip
            obtain ⟨S5, hal5, hus5, hlf5⟩ := last_block HTM.out.wf HTE.out.1 HTE.out.2
            have HAL5 := Lib.hid hal5
            have HUS5 := Lib.hid hus5
            have HLF5 := Lib.hid hlf5
            clear hal5 hus5 hlf5
            go_wp2_with fail
            refine (alloc_nil 1 _).mono ?_
            rintro e w5 ⟨rfl, hu⟩
            have HM5 : Hid (Mine w w5 s T) := Lib.hid (HTM.out.upd hu)
            clear hu
            have hfn := fun w => find_nil 64 w
            unfold FindVal at hfn
            have HFN := Lib.hid hfn
            clear hfn
            go_wp2_with fail
            refine (HFN.out _).mono ?_
            rintro e w' ⟨rfl, rfl⟩
            go_wp2_with fail
            refine (mine_alloc w s T S5 1000 64 0 _ HM5.out HAL5.out).mono ?_
            rintro e w6 ⟨rfl, hm⟩
            have HM6 := Lib.hid hm
            clear hm
            go_wp2_with fail
            refine (mine_used w s S5 1024 _ HM6.out HUS5.out).mono ?_
            rintro e w7 ⟨rfl, hm⟩
            obtain ⟨L7, hm⟩ := hm
            have f1 := hm.c1
            have HM7 := Lib.hid hm
            clear hm
            go_wp2_with fail
            refine (err0 _).mono ?_
            rintro e w' ⟨rfl, rfl⟩
            have hlf := mine_left w s L7 S5 w7 HM7.out
            rw [HLF5.out] at hlf
            have HLF := Lib.hid hlf
            clear hlf
            go_wp2_with fail
            refine HLF.out.mono ?_
            rintro e w8 ⟨rfl, hm⟩
            have HM8 : Hid (Upd [] w w8) := Lib.hid hm.2.2
            clear hm
            go_wp2_with fail
            refine (err2 _).mono ?_
            rintro e w' ⟨rfl, rfl⟩
            go_wp2_with fail
            refine (free_nil 64 _).mono ?_
            rintro e w' ⟨rfl, rfl⟩
            go_wp2_with fail
            refine (err2 _).mono ?_
            rintro e w' ⟨rfl, rfl⟩
            go_wp2_with fail
            refine (used_nil _).mono ?_
            rintro e w' ⟨rfl, rfl⟩
            go_wp2_with fail
            refine (cap_nil _).mono ?_
            rintro e w' ⟨rfl, rfl⟩
            go_wp2_with fail
            refine (each_nil _).mono ?_
            rintro e w' ⟨rfl, rfl⟩
            go_wp2_with fail
            refine (awake6_calls _).mono ?_
            rintro e w9 ⟨rfl, hb⟩
            have HM9 : Hid (Upd [] w w9) := Lib.hid (HM8.out.step (Upd.of_below hb : Upd [] _ _) (by simp))
            clear hb
            go_wp2_with fail
            go_ret
            exact ⟨rfl, HM9.out.below⟩
end Go.Proofs.Ytpichhnihppicaa
