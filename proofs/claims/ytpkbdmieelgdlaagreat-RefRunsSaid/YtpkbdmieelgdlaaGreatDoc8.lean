/- The document's space: Each, Used. -/
import Derived.Test.YtpkbdmieelgdlaaGreatDoc7
import Derived.Deep.RegionHeld3
import Derived.Deep.AppendLies
namespace Go.Proofs.YtpkbdmieelgdlaaGreat
open Go Go.RowKit

/-- 'append' of one number, in a region that draws its order. -/
theorem step_pushN {w : World} {ops : Array Oper} {o : Oper} {a : Act} {K : Act → World → Prop} {Q : Exit → Act → World → Prop} {E : Prop} (hgd : o.guard = none) (s x : Operand)
    (ho : o.op = .call { callee := .builtin .append, args := #[s, x], argTypes := #[23, 23] })
    (B : Nat) (v : Value) (xs : List Int) (hs : a.eval s = v) (hown : Own w B v xs) (b : Nat) (y : Int) (hx : a.eval x = .slice (some ⟨b, 0, none⟩) 1 1) (hb : Blk w b 3 #[.int .i64 y])
    (hl : xs.length ≤ 4294967296) (hBw : B ≤ w.heap.size)
    (h : ∀ v' w', Own w' B v' (xs ++ [y]) → Upd v.ownBlock.toList w w' → K (a.put o.dst v') w') : if Region.wanted o (yielded ops a.tmps) = true then Oper.wp Tryz.prog o a w K Q else E := by
  obtain ⟨i0, hi, hz0, hz1, hz2⟩ := info_parts int_info
  refine step_append_lies _ hgd s x 23 ho B 3 i0 (.int .i64 0) 1 8 Tryz.underlying23 hi hz0 hz1 hz2 rfl (by decide) v xs.length (xs.map (Value.int .i64)) hs hown ⟨b, 0, none⟩ 1 1 [.int .i64 y] hx rfl ?_ ?_ (by decide) (by unfold maxLen; omega) (by omega) hBw _ rfl ?_
  · intro j u hj
    match j, hj with
    | 0, hj => simp at hj; subst hj; simpa [Addr.add] using hb.one
  · intro u hu; simp at hu; subst hu; rfl
  · intro g cap w' h1 h2 h3 h4
    refine h _ w' ?_ ⟨h2.os, h2.tape, h2.output, h2.size, fun k hk hn => h2.block k hk (fun e => hn (by rw [← e]; simp))⟩
    unfold Own
    rw [List.length_append, List.map_append]
    exact h1
set_option maxRecDepth 100000 in
/-- A call of Sizes, in a region that draws its order. -/
theorem step_sizes {w : World} {ops : Array Oper} {o : Oper} {a : Act} {K : Act → World → Prop} {Q : Exit → Act → World → Prop} {E : Prop} (hgd : o.guard = none)
    (ho : o.op = .call { callee := .value (.func 97), args := #[], argTypes := #[] })
    (h : ∀ g w', Blk w' g 3 (ints sizesL) → Upd [] w w' → K (a.put o.dst (.slice (some ⟨g, 0, none⟩) 5 5)) w') : if Region.wanted o (yielded ops a.tmps) = true then Oper.wp Tryz.prog o a w K Q else E := by
  have hw : Region.wanted o (yielded ops a.tmps) = true := by simp [Region.wanted, hgd]
  rw [if_pos hw]
  unfold Oper.wp
  simp [execOp, ho, resolve, invoke, Act.eval, Result.andThen]
  refine (sizes1_walk w).mono ?_
  rintro e w' ⟨g, rfl, hb, _, hu⟩
  exact h g w' hb (Upd.of_below hu)
theorem le_alloc {B : Nat} {w W : World} {o : Obj} (hB : w.heap.size = B) (hu : Upd [] w W) : B ≤ (W.alloc o).heap.size := by have := hu.size; simp; omega
theorem own_step {B : Nat} {w W w4 : World} {o : Obj} {v : Value} {xs : List Int} (hB : w.heap.size = B) (hu : Upd [] w W) (ho : Own W B v xs) (k : Upd v.ownBlock.toList (W.alloc o) w4) : Upd [] w w4 :=
  (hu.alloc _).step k (fun i hi => .inr (by rw [hB]; exact (ho.block (Option.mem_toList.1 hi)).1))
theorem sizes_cell {w2 : World} {h c wo : Nat} (hb : Blk w2 h 3 (ints sizesL)) (hc : c < 5) (hz : sizesL.getD c 0 = (wo : Nat)) : w2.cell? ⟨h, c, none⟩ = some (.int .i64 (wo : Int)) := by
  rw [← hz]; exact hb.int c (by show c < 5; exact hc)
theorem Own.cast {w : World} {B : Nat} {v : Value} {xs ys : List Int} (h : Own w B v xs) (e : ys = xs) : Own w B v ys := e ▸ h
def doneL (pg : List Pst) (p : Nat) : List Int := (List.range p).flatMap fun p => startsOf p (atP pg p)
def partI (p wo : Nat) (l : List Bool) (i : Nat) : List Int := ((List.range i).filter (fun i => l.getD i false)).map fun i => ((p * 64 + i * wo : Nat) : Int)
theorem doneL_zero (pg : List Pst) : doneL pg 0 = [] := rfl
theorem doneL_succ (pg : List Pst) (p : Nat) : doneL pg (p + 1) = doneL pg p ++ startsOf p (atP pg p) := by
  unfold doneL
  rw [List.range_succ, List.flatMap_append]
  simp
theorem partI_succ (p wo : Nat) (l : List Bool) (i : Nat) : partI p wo l (i + 1) = partI p wo l i ++ (if l.getD i false then [((p * 64 + i * wo : Nat) : Int)] else []) := by
  unfold partI
  rw [List.range_succ, List.filter_append, List.map_append]
  congr 1
  simp only [List.filter_cons, List.filter_nil]
  split <;> rfl
theorem partI_length (p wo : Nat) (l : List Bool) (i : Nat) : (partI p wo l i).length ≤ i := by
  unfold partI
  rw [List.length_map]
  have := List.length_filter_le (fun i => l.getD i false) (List.range i)
  simpa using this
theorem doneL_length {S : Sp} (h : S.WF) (p : Nat) : (doneL S.pg p).length ≤ p * 32 := by
  induction p with
  | zero => simp [doneL]
  | succ p ih =>
    rw [doneL_succ, List.length_append]
    have : (startsOf p (atP S.pg p)).length ≤ 32 := by
      cases hx : atP S.pg p <;> simp only [startsOf, List.length_nil, List.length_cons] <;> try omega
      rename_i c l
      obtain ⟨hc, hl⟩ := h.small p c l hx
      have hr := room_pos hc
      have := partI_length p (wordsOf c) l l.length
      unfold partI at this
      omega
    omega
section
variable {w w' : World} {m n : Nat} {D : DLay} {S : Sp} {O : Nat → Prop}
set_option maxRecDepth 100000 in
set_option maxHeartbeats 6400000 in
theorem doc_each (m : Nat) (S : Sp) (w : World) (H : DocO w m S O) :
    Calls Tryz.prog 65 #[.pointer (some ⟨m, 0, none⟩)] w fun e w' => ∃ v, e = .returned v ∧ Own w' w.heap.size v S.each ∧ Upd [] w w' := by
  obtain ⟨D, H, rfl⟩ := H
  have hwf := H.wf
  have hn2 := hwf.n2
  obtain ⟨B, hB⟩ : ∃ B, w.heap.size = B := ⟨_, rfl⟩
  have HEACH : Hid (doneL S.pg S.pg.length = S.each) := Lib.hid rfl
  have HDL : Hid (∀ p, p ≤ S.pg.length → (doneL S.pg p).length ≤ 8192) := Lib.hid fun p hp => by have := doneL_length hwf p; omega
  have HAT : Hid (∀ p, p < S.pg.length → (∃ z : Int, z ≠ 6 ∧ startsOf p (atP S.pg p) = [] ∧ ∀ W, Upd [] w W → W.cell? ⟨D.gk, p, none⟩ = some (.int .i64 z) ∧ W.cell? ⟨D.gt, p, none⟩ = some (.slice none 0 0)) ∨
      (startsOf p (atP S.pg p) = [((p * 64 : Nat) : Int)] ∧ ∀ W, Upd [] w W → W.cell? ⟨D.gk, p, none⟩ = some (.int .i64 6) ∧ W.cell? ⟨D.gt, p, none⟩ = some (.slice none 0 0)) ∨
      ∃ c l, startsOf p (atP S.pg p) = partI p (wordsOf c) l l.length ∧ atP S.pg p = .small c l ∧ ∀ W, Upd [] w W → W.cell? ⟨D.gk, p, none⟩ = some (.int .i64 ((c : Int) + 1)) ∧ W.cell? ⟨D.gt, p, none⟩ = some (.slice (some ⟨D.tk p, 0, none⟩) l.length l.length)) := Lib.hid fun p hp => by
    have h1 : ∀ W, Upd [] w W → W.cell? ⟨D.gk, p, none⟩ = some (.int .i64 (kindZ (atP S.pg p))) ∧ W.cell? ⟨D.gt, p, none⟩ = some (takenV (D.tk p) (atP S.pg p)) := fun W hu => ⟨((H.upd0 hu).kindAt hp).1, ((H.upd0 hu).takenAt hp).1⟩
    cases hx : atP S.pg p with
    | small c l => rw [hx] at h1; exact .inr (.inr ⟨c, l, rfl, rfl, h1⟩)
    | first k => rw [hx] at h1; exact .inr (.inl ⟨rfl, h1⟩)
    | zero => rw [hx] at h1; exact .inl ⟨-1, by decide, rfl, h1⟩
    | free => rw [hx] at h1; exact .inl ⟨0, by decide, rfl, h1⟩
    | rest f => rw [hx] at h1; exact .inl ⟨7, by decide, rfl, h1⟩
  have HC : Hid (∀ W, Upd [] w W → W.cell? ⟨m, 1, none⟩ = some (.slice (some ⟨D.gk, 0, none⟩) S.pg.length S.pg.length) ∧ W.cell? ⟨m, 3, none⟩ = some (.slice (some ⟨D.gt, 0, none⟩) S.pg.length S.pg.length)) := Lib.hid fun W hu => ⟨(H.upd0 hu).cells.2.1, (H.upd0 hu).cells.2.2.2⟩
  have HBIT : Hid (∀ W, Upd [] w W → ∀ p c l, atP S.pg p = .small c l → Blk W (D.tk p) 4 (bools l)) := Lib.hid fun W hu p c l e => (H.upd0 hu).bits p c l e
  have HSM : Hid (∀ p c l, atP S.pg p = .small c l → c < 5 ∧ l.length ≤ 32 ∧ wordsOf c ≤ 32 ∧ (∀ i, i < l.length → i * wordsOf c + wordsOf c ≤ 64) ∧ sizesL.getD c 0 = (wordsOf c : Nat)) := Lib.hid fun p c l e => by
    obtain ⟨hc, hl⟩ := hwf.small p c l e
    have hr := room_pos hc
    exact ⟨hc, by omega, (words_pos hc).2, fun i hi => block_fits hc (by omega), sizes_at hc⟩
  have HLT : Hid (m < w.heap.size ∧ D.gk < w.heap.size ∧ D.gt < w.heap.size) := Lib.hid ⟨H.box.lt, H.kind.lt, H.taken.lt⟩
  obtain ⟨np, hnp⟩ : ∃ np, S.pg.length = np := ⟨_, rfl⟩
  rw [hnp] at HEACH HDL HAT HC hn2
  have HB := Lib.hid hB
  rw [hB] at HLT ⊢
  clear hwf H hnp hB
  go_enter Tryz.func65, Tryz.ntmps65
  go_wp2_with fail
  go_loopg [3, 4] np (fun gk v i wr => ∃ p : Nat, gk = np - p ∧ p ≤ np ∧ i = .int .i64 p ∧ Hid (Own wr B v (doneL S.pg p)) ∧ Hid (Upd [] w wr))
  case atStart => exact ⟨0, rfl, by omega, rfl, Lib.hid (Own.nil _ _), Lib.hid (Upd.refl _ _)⟩
  case round =>
    obtain ⟨p, rfl, hp, rfl, HO, HU⟩ := hrel
    obtain ⟨c1, c3⟩ := HC.out _ HU.out
    by_cases hlt : p < np
    · have hsucc := doneL_succ S.pg p
      rcases HAT.out p hlt with ⟨z, hz, hst, hcell⟩ | ⟨hst, hcell⟩ | ⟨c, l, hst, hat, hcell⟩
      · obtain ⟨c4, c5⟩ := hcell _ HU.out
        rw [hst, List.append_nil] at hsucc
        have HN : Hid (Own wr B u3 (doneL S.pg (p + 1))) := Lib.hid (by rw [hsucc]; exact HO.out)
        have h1 : (z != 6) = true := by simp [hz]
        have h2 : (z == 6) = false := by simp [hz]
        clear hst hcell hsucc
        go_wp2_with fail
        go_loopg [3, 5] 0 (fun gk v i wx => v = u3 ∧ i = .int .i64 0 ∧ wx = wr)
        case atStart => exact ⟨rfl, rfl, rfl⟩
        case round =>
          obtain ⟨rfl, rfl, rfl⟩ := hrel
          go_wp2_with fail
          go_roundg (np - (p + 1))
          case measure => omega
          case rel => exact ⟨p + 1, rfl, by omega, by go_num, HN, HU⟩
      · obtain ⟨c4, c5⟩ := hcell _ HU.out
        rw [hst] at hsucc
        have hd := HDL.out p hp
        have HLEN : Hid ((doneL S.pg p).length ≤ 8192) := Lib.hid hd
        have HSS := Lib.hid hsucc
        have hcast : ((p * 64 : Nat) : Int) = (p : Int) * 64 := by rw [Int.natCast_mul]; rfl
        have HCAST := Lib.hid hcast
        have HBW : Hid (B ≤ wr.heap.size) := Lib.hid (by have := HU.out.size; have := HB.out; omega)
        clear hst hsucc hd hcast
        go_wp2_with (at_builtin; refine wpList_pushN rfl _ _ rfl B _ (doneL S.pg p) rfl (HO.out.alloc _) wr.heap.size ((p : Int) * 64) rfl (Blk.new _ _ _) (by have := HLEN.out; omega) (by have := HBW.out; simp; omega) ?_; intro v' w4 hO4 hN4 hU4)
        have HO4 : Hid (Own w4 B v' (doneL S.pg (p + 1))) := Lib.hid (by rw [HSS.out, HCAST.out]; exact hO4)
        have HU4 : Hid (Upd [] w w4) := Lib.hid ((HU.out.alloc _).step hU4 (fun i hi => .inr (by rw [HB.out]; exact (HO.out.block (Option.mem_toList.1 hi)).1)))
        obtain ⟨c4, c5⟩ := hcell _ HU4.out
        obtain ⟨c1, c3⟩ := HC.out _ HU4.out
        clear hO4 hN4 hU4 hcell
        go_wp2_with fail
        go_loopg [3, 5] 0 (fun gk v i wx => v = v' ∧ i = .int .i64 0 ∧ wx = w4)
        case atStart => exact ⟨rfl, rfl, rfl⟩
        case round =>
          obtain ⟨rfl, rfl, rfl⟩ := hrel
          go_wp2_with fail
          go_roundg (np - (p + 1))
          case measure => omega
          case rel => exact ⟨p + 1, rfl, by omega, by go_num, HO4, HU4⟩
      · obtain ⟨c4, c5⟩ := hcell _ HU.out
        rw [hst] at hsucc
        have hd := HDL.out p hp
        have HLEN : Hid ((doneL S.pg p).length ≤ 8192) := Lib.hid hd
        have HSS := Lib.hid hsucc
        have HCELL := Lib.hid hcell
        have HAP := Lib.hid hat
        obtain ⟨hc5, hl32, hwo32, hfit, hz⟩ := HSM.out p c l hat
        have HFIT := Lib.hid hfit
        have HZ := Lib.hid hz
        have h61 : ((c : Int) + 1 == 6) = false := by simp; omega
        have HO0 : Hid (Own wr B u3 (doneL S.pg p ++ partI p (wordsOf c) l 0)) := Lib.hid (by rw [show partI p (wordsOf c) l 0 = [] from rfl, List.append_nil]; exact HO.out)
        clear hst hsucc hd hcell hat hfit hz
        obtain ⟨wo, hwo⟩ : ∃ wo, wordsOf c = wo := ⟨_, rfl⟩
        rw [hwo] at HSS hwo32 HFIT HZ HO0
        clear hwo
        go_wp2_with fail
        go_loopg [3, 5] l.length (fun gk v i wx => ∃ j : Nat, gk = l.length - j ∧ j ≤ l.length ∧ i = .int .i64 j ∧ Hid (Own wx B v (doneL S.pg p ++ partI p wo l j)) ∧ Hid (Upd [] w wx))
        case atStart => exact ⟨0, rfl, by omega, rfl, HO0, HU⟩
        case round =>
          clear HO HU HO0 c1 c3 c4 c5
          obtain ⟨j, rfl, hj, rfl, HO, HU⟩ := hrel
          obtain ⟨c4, c5⟩ := HCELL.out _ HU.out
          obtain ⟨c1, c3⟩ := HC.out _ HU.out
          by_cases hjl : j < l.length
          · have c6 := (HBIT.out _ HU.out p c l HAP.out).bool j hjl
            have hsj := partI_succ p wo l j
            obtain ⟨b, hb⟩ : ∃ b, l.getD j false = b := ⟨_, rfl⟩
            rw [hb] at c6 hsj
            clear hb
            cases b with
            | false =>
              rw [if_neg (by decide), List.append_nil] at hsj
              rw [← hsj] at HO
              clear hsj
              go_wp2_with fail
              go_roundg (l.length - (j + 1))
              case measure => omega
              case rel => exact ⟨j + 1, rfl, by omega, by go_num, HO, HU⟩
            | true =>
              rw [if_pos rfl] at hsj
              have hjw := HFIT.out j hjl
              have hcast : ((p * 64 + j * wo : Nat) : Int) = (p : Int) * 64 + (j : Int) * (wo : Int) := by rw [Int.natCast_add, Int.natCast_mul, Int.natCast_mul]; rfl
              have HJ : Hid (doneL S.pg p ++ partI p wo l (j + 1) = (doneL S.pg p ++ partI p wo l j) ++ [(p : Int) * 64 + (j : Int) * (wo : Int)]) := Lib.hid (by rw [hsj, hcast, List.append_assoc])
              have hiw' : (j : Int) * (wo : Int) ≤ 64 := by rw [← Int.natCast_mul]; omega
              have hiw0 : 0 ≤ (j : Int) * (wo : Int) := by rw [← Int.natCast_mul]; omega
              have HLENx : Hid ((doneL S.pg p ++ partI p wo l j).length ≤ 4294967296) := Lib.hid (by have := HLEN.out; have := partI_length p wo l j; rw [List.length_append]; omega)
              have HE : Hid (∀ k, k < B → k ∉ u3.ownBlock.toList) := Lib.hid (fun k hk hm => by have := (HO.out.block (Option.mem_toList.1 hm)).1; omega)
              have hd1 : wr.drew.cell? ⟨m, 1, none⟩ = some (.slice (some ⟨D.gk, 0, none⟩) np np) := c1
              have hd4 : wr.drew.cell? ⟨D.gk, p, none⟩ = some (.int .i64 ((c : Int) + 1)) := c4
              have HOD : Hid (Own wr.drew B u3 (doneL S.pg p ++ partI p wo l j)) := Lib.hid HO.out.drew
              have HUD : Hid (Upd [] w wr.drew) := Lib.hid HU.out.drew
              have hcw : (c : Int) + 1 - 1 = c := by omega
              have hcwr : IntKind.i64.wrap ((c : Int) + 1 - 1) = c := by rw [hcw]; exact IntWalk.i64_in _ (by omega)
              have hcwr2 : IntKind.i64.wrap (c : Int) = c := IntWalk.i64_in _ (by omega)
              have hwp1 : IntKind.i64.wrap ((p : Int) * 64) = (p : Int) * 64 := IntWalk.i64_in _ (by omega)
              have hwp2 : IntKind.i64.wrap ((j : Int) * (wo : Int)) = (j : Int) * (wo : Int) := IntWalk.i64_in _ (by omega)
              have hwp3 : IntKind.i64.wrap ((p : Int) * 64 + (j : Int) * (wo : Int)) = (p : Int) * 64 + (j : Int) * (wo : Int) := IntWalk.i64_in _ (by omega)
              have hc50 : (c : Int) < 5 := by omega
              have hc00 : (0 : Int) ≤ c := by omega
              clear hsj hjw hcast
              go_upto_region 11 with fail
              go_region_law
                (first
                  | (refine step_sizes rfl rfl ?_; intro h w2 hb2 hu2
                     have HU2 := Lib.hid (HUD.out.trans hu2)
                     have e1 := (HC.out _ HU2.out).1
                     have e4 := (HCELL.out _ HU2.out).1
                     have e6 : w2.cell? ⟨h, c, none⟩ = some (.int .i64 (wo : Int)) := sizes_cell hb2 hc5 HZ.out
                     have HO2 : Hid (Own w2 B u3 (doneL S.pg p ++ partI p wo l j)) := Lib.hid (HOD.out.upd hu2 (fun _ h => absurd h List.not_mem_nil))
                     have f1 : (w2.alloc (.cells #[.int .i64 ((p : Int) * 64 + (j : Int) * (wo : Int))] 3)).cell? ⟨m, 1, none⟩ = some (.slice (some ⟨D.gk, 0, none⟩) np np) := (HC.out _ (HU2.out.alloc _)).1
                     have f4 : (w2.alloc (.cells #[.int .i64 ((p : Int) * 64 + (j : Int) * (wo : Int))] 3)).cell? ⟨D.gk, p, none⟩ = some (.int .i64 ((c : Int) + 1)) := (HCELL.out _ (HU2.out.alloc _)).1
                     clear hb2 hu2)
                  | (refine step_pushN rfl (.tmp 50) (.tmp 67) rfl B u3 (doneL S.pg p ++ partI p wo l j) rfl (HO2.out.alloc _) w2.heap.size ((p : Int) * 64 + (j : Int) * (wo : Int)) rfl (Blk.new _ _ _) HLENx.out (le_alloc HB.out HU2.out) ?_; intro v' w4 hO4 hU4
                     have HU4 : Hid (Upd [] w w4) := Lib.hid (own_step HB.out HU2.out HO2.out hU4)
                     have g1 := (HC.out _ HU4.out).1
                     have g4 := (HCELL.out _ HU4.out).1
                     have HO4 : Hid (Own w4 B v' (doneL S.pg p ++ partI p wo l (j + 1))) := Lib.hid (hO4.cast HJ.out)
                     clear hO4 hU4))
              all_goals
                go_wp2_with fail
                go_roundg (l.length - (j + 1))
                case measure => omega
                case rel => exact ⟨j + 1, rfl, by omega, by go_num, HO4, HU4⟩
          · obtain rfl : j = l.length := by omega
            rw [← HSS.out] at HO
            go_wp2_with fail
            go_roundg (np - (p + 1))
            case measure => omega
            case rel => exact ⟨p + 1, rfl, by omega, by go_num, HO, HU⟩
    · obtain rfl : p = np := by omega
      go_wp2_with fail
      go_ret
      exact ⟨_, rfl, by rw [← HEACH.out]; exact HO.out, HU.out⟩
end
end Go.Proofs.YtpkbdmieelgdlaaGreat
