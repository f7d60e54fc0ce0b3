/- The document's Merge: a number laid into a rising list. -/
import Derived.Test.YtnhgmmjlhhgdoaaRootTwo
import Derived.Deep.RegionLaw
namespace Go.Proofs.Ytnhgmmjlhhgdoaa
open Go Go.RowKit

/-- One step: append of numbers to a slice of the call's own. -/
theorem step_pushes {ops : Array Oper} {o : Oper} {a : Act} {w : World} {K : Act → World → Prop} {Q : Exit → Act → World → Prop} {E : Prop} (a0 : World) (hgd : o.guard = none) (s x : Operand)
    (ho : o.op = .call { callee := .builtin .append, args := #[s, x], argTypes := #[22, 22] })
    (B : Nat) (v : Value) (xs : List Int) (hs : a.eval s = v) (hown : Own w B v xs) (A : Option Addr) (c : Nat) (ys : List Int) (m : Nat) (hm : ys.length = m) (hx : a.eval x = .slice A m c) (hy : IsInts w A ys) (hn : A = none → ys.length = 0 ∧ c = 0)
    (hl : xs.length + ys.length ≤ 4294967296) (hB : a0.heap.size ≤ B) (hU : Upd [] a0 w) (hBw : B ≤ w.heap.size)
    (h : ∀ v' w', Own w' B v' (xs ++ ys) → Upd [] a0 w' → B ≤ w'.heap.size → Upd v.ownBlock.toList w w' → K (a.put o.dst v') w') :
    if Region.wanted o (yielded ops a.tmps) = true then Oper.wp Try.prog o a w K Q else E := by
  have hw : Region.wanted o (yielded ops a.tmps) = true := by simp [Region.wanted, hgd]
  rw [if_pos hw]
  subst hm
  obtain ⟨i0, hi, hz0, hz1, hz2⟩ := info_parts int_info
  cases A with
  | none =>
    obtain ⟨h1, rfl⟩ := hn rfl
    obtain rfl := List.eq_nil_of_length_eq_zero h1
    have hrun := run_append_owned_none (P := Try.prog) (w := w) B 22 o.type 3 i0 1 Try.underlying22 hi v xs.length (xs.map (Value.int .i64)) hown
    unfold Oper.wp
    simp [execOp, ho, resolve, invoke, builtin, hs, hx, hrun, Result.andThen]
    exact h v w (by simpa using hown) hU hBw (Upd.refl _ _)
  | some ad =>
    refine wp_append_own w s x 22 ho B 3 i0 (.int .i64 0) 1 8 Try.underlying22 hi hz0 hz1 hz2 rfl (by decide) v xs.length (xs.map (Value.int .i64)) hs hown ad ys.length c (ys.map (Value.int .i64)) hx (by simp) ?_ ?_ (by unfold maxLen; omega) (by omega) hBw ?_
    · intro j u hj
      rcases hy with rfl | ⟨b, off, h1, h2, h3⟩
      · simp at hj
      · simp only [Option.some.injEq] at h1
        subst h1
        have hjl : j < ys.length := by
          have := (List.getElem?_eq_some_iff.1 hj).1
          simpa using this
        rw [add_plain, h3 j hjl]
        rw [List.getElem?_map, List.getElem?_eq_getElem hjl] at hj
        rw [List.getD_eq_getElem?_getD, List.getElem?_eq_getElem hjl]
        exact hj
    · intro u hu
      obtain ⟨x, _, rfl⟩ := List.mem_map.1 hu
      rfl
    · intro v' w' h1 h2 _
      refine h v' w' ?_ (hU.grown h2 (fun k hk => .inr ?_)) (Nat.le_trans hBw h2.size) ⟨h2.os, h2.tape, h2.output, h2.size, fun k hk hn => h2.block k hk (fun e => hn (by rw [← e]; simp))⟩
      · unfold Own
        rw [List.length_append, List.map_append]
        exact h1
      · have := World.ownsRow.lt hown k hk
        omega

theorem with_spec {xs : List Int} {x : Int} {j : Nat} (hp : xs.Pairwise (· < ·)) (hj : j ≤ xs.length) (h1 : ∀ i, i < j → xs.getD i 0 < x) (h2 : j < xs.length → x < xs.getD j 0) :
    ((xs.take j ++ [x]) ++ xs.drop j).Pairwise (· < ·) ∧ ∀ y, y ∈ (xs.take j ++ [x]) ++ xs.drop j ↔ y ∈ xs ∨ y = x := by
  have hlt : ∀ y ∈ xs.take j, y < x := fun y hy => by
    obtain ⟨i, hi, rfl⟩ := List.getElem_of_mem hy
    rw [List.length_take] at hi
    have := h1 i (by omega)
    rw [List.getD_eq_getElem?_getD, List.getElem?_eq_getElem (show i < xs.length by omega)] at this
    rw [List.getElem_take]
    exact this
  have hgt : ∀ y ∈ xs.drop j, x < y := fun y hy => by
    obtain ⟨i, hi, rfl⟩ := List.getElem_of_mem hy
    rw [List.length_drop] at hi
    rw [List.getElem_drop]
    have h3 := h2 (by omega)
    rw [List.getD_eq_getElem?_getD, List.getElem?_eq_getElem (show j < xs.length by omega)] at h3
    rcases Nat.eq_zero_or_pos i with rfl | hp2
    · simpa using h3
    · have := List.pairwise_iff_getElem.1 hp j (j + i) (by omega) (by omega) (by omega)
      have h3 : x < xs[j] := h3
      omega
  refine ⟨?_, fun y => ?_⟩
  · rw [List.pairwise_append, List.pairwise_append]
    refine ⟨⟨hp.take, by simp, fun a ha b hb => ?_⟩, hp.drop, fun a ha b hb => ?_⟩
    · rw [List.mem_singleton] at hb
      subst hb
      exact hlt a ha
    · rcases List.mem_append.1 ha with ha | ha
      · have := hlt a ha
        have := hgt b hb
        omega
      · rw [List.mem_singleton] at ha
        subst ha
        exact hgt b hb
  · rw [List.mem_append, List.mem_append, List.mem_singleton]
    conv => rhs; rw [← List.take_append_drop j xs, List.mem_append]
    constructor
    · rintro ((h | h) | h)
      · exact .inl (.inl h)
      · exact .inr h
      · exact .inl (.inr h)
    · rintro ((h | h) | h)
      · exact .inl (.inl h)
      · exact .inr h
      · exact .inl (.inr h)
theorem take_ints {w : World} {A : Option Addr} {xs : List Int} (h : IsInts w A xs) (j : Nat) : IsInts w A (xs.take j) := by
  rcases h with rfl | ⟨b, off, h1, h2, h3⟩
  · exact .inl (by simp)
  · refine .inr ⟨b, off, h1, h2, fun i hi => ?_⟩
    rw [List.length_take] at hi
    rw [h3 i (by omega), List.getD_eq_getElem?_getD, List.getD_eq_getElem?_getD, List.getElem?_take_of_lt (by omega)]

theorem drop_ints {w : World} {A : Option Addr} {xs : List Int} {n c j : Nat} (h : IsInts w A xs) (hn : xs.length = n) (hj : j ≤ n) (hc : n ≤ c) : IsInts w (if c = j then A else Option.map (fun x => x.add j) A) (xs.drop j) := by
  by_cases hcj : c = j
  · exact .inl (List.eq_nil_of_length_eq_zero (by rw [List.length_drop]; omega))
  · rw [if_neg hcj]
    rcases h with rfl | ⟨b, off, rfl, h2, h3⟩
    · exact .inl (by simp)
    · refine .inr ⟨b, off + j, by rw [Option.map_some, add_plain], h2, fun i hi => ?_⟩
      rw [List.length_drop] at hi
      rw [Nat.add_assoc, h3 (j + i) (by omega), List.getD_eq_getElem?_getD, List.getD_eq_getElem?_getD, List.getElem?_drop]
theorem drop_none {A : Option Addr} {xs : List Int} {n c j : Nat} (hN : A = none → xs.length = 0 ∧ c = 0) (hn : xs.length = n) (hj : j ≤ n) (hc : n ≤ c) (h : (if c = j then A else Option.map (fun x => x.add j) A) = none) : (xs.drop j).length = 0 ∧ c - j = 0 := by
  rw [List.length_drop]
  by_cases hcj : c = j
  · omega
  · rw [if_neg hcj] at h
    have := hN (by simpa using h)
    omega
theorem Own.form2 {w : World} {B : Nat} {v : Value} {xs : List Int} (h : Own w B v xs) : ∃ A cap, v = .slice A xs.length cap ∧ IsInts w A xs ∧ (A = none → xs.length = 0 ∧ cap = 0) ∧ xs.length ≤ cap ∧ cap ≤ 9223372036854775807 := by
  obtain ⟨A, cap, h1, h2, h3⟩ := h.form
  refine ⟨A, cap, h1, h2, h3, ?_⟩
  rcases h.2 with ⟨h4, h5⟩ | ⟨g, cap', cur, h4, _, _, h5, h6, _⟩
  · rw [h1] at h4
    injection h4 with _ _ h4
    omega
  · rw [h1] at h4
    injection h4 with _ _ h4
    unfold maxLen at h6
    omega

set_option maxRecDepth 100000 in
set_option maxHeartbeats 8000000 in
theorem with_calls (A : Option Addr) (n c : Nat) (xs : List Int) (x : Int) (w : World) (hn : xs.length = n) (hA : IsInts w A xs) (hN : A = none → xs.length = 0 ∧ c = 0) (hp : xs.Pairwise (· < ·)) (hl : n ≤ 65536) (hc : n ≤ c) (hc2 : c ≤ 9223372036854775807) :
    Calls Try.prog 50 #[.slice A n c, .int .i64 x] w fun e w' => ∃ A' c' zs, e = .returned (.slice A' zs.length c') ∧ IsInts w' A' zs ∧ (A' = none → zs.length = 0 ∧ c' = 0) ∧ zs.length ≤ c' ∧ c' ≤ 9223372036854775807 ∧ zs.length ≤ n + 1 ∧ zs.Pairwise (· < ·) ∧ (∀ y, y ∈ zs ↔ y ∈ xs ∨ y = x) ∧ Upd [] w w' := by
  have HN := Lib.hid hn
  have HA := Lib.hid hA
  have HP := Lib.hid hp
  have HN0 := Lib.hid hN
  clear hn hA hp hN
  go_enter Try.func50, Try.ntmps50
  go_upto_block 0 with fail
  go_cut [5] (fun i wx => ∃ j : Nat, i = .int .i64 j ∧ j ≤ n ∧ w = wx ∧ Hid (∀ k, k < j → xs.getD k 0 < x) ∧ Hid (j < n → x ≤ xs.getD j 0))
  case first =>
    go_wp2_with fail
    go_loopg [5] n (fun gk i wr => ∃ j : Nat, gk = n - j ∧ j ≤ n ∧ i = .int .i64 j ∧ w = wr ∧ Hid (∀ k, k < j → xs.getD k 0 < x))
    case atStart => exact ⟨0, rfl, by omega, rfl, rfl, Lib.hid (fun k h => by omega)⟩
    case round =>
      obtain ⟨j, rfl, hj, rfl, rfl, HX⟩ := hrel
      by_cases hlt : j < n
      · obtain ⟨b1, o1, rfl, _, c1⟩ := Reads.at HA.out HN.out hlt
        obtain ⟨y, hy⟩ : ∃ y, xs.getD j 0 = y := ⟨_, rfl⟩
        rw [hy] at c1
        have HY := Lib.hid hy
        clear hy
        by_cases hyx : y < x
        · go_wp2_with fail
          go_roundg (n - (j + 1))
          case measure => omega
          case rel =>
            refine ⟨j + 1, rfl, by omega, by go_num, rfl, Lib.hid (fun k hk => ?_)⟩
            rcases Nat.eq_or_lt_of_le (show k ≤ j by omega) with rfl | h3
            · rw [HY.out]; exact hyx
            · exact HX.out k h3
        · go_wp2_with fail
          go_meet
          exact ⟨j, rfl, by omega, rfl, HX, Lib.hid (fun _ => by rw [HY.out]; omega)⟩
      · obtain rfl : j = n := by omega
        go_wp2_with fail
        go_meet
        exact ⟨j, rfl, by omega, rfl, HX, Lib.hid (fun h => by omega)⟩
  case rest =>
    obtain ⟨j, rfl, hj, rfl, HX, HG⟩ := hcut
    by_cases heq : j < n ∧ xs.getD j 0 = x
    · obtain ⟨hlt, hxj⟩ := heq
      obtain ⟨b1, o1, rfl, _, c1⟩ := Reads.at HA.out HN.out hlt
      rw [hxj] at c1
      have hm : x ∈ xs := by rw [← hxj]; exact getD_mem (by rw [HN.out]; exact hlt)
      have HM := Lib.hid hm
      clear hxj hm
      go_wp2_with fail
      go_ret
      refine ⟨_, c, xs, by rw [HN.out]; rfl, HA.out, HN0.out, by rw [HN.out]; exact hc, hc2, by rw [HN.out]; omega, HP.out, fun y => ?_, Upd.refl _ _⟩
      constructor
      · exact .inl
      · rintro (h | rfl)
        · exact h
        · exact HM.out
    · have hgt : j < xs.length → x < xs.getD j 0 := fun h => by
        rw [HN.out] at h
        have h1 := HG.out h
        have h2 : xs.getD j 0 ≠ x := fun e => heq ⟨h, e⟩
        omega
      have HSP := Lib.hid (with_spec HP.out (by rw [HN.out]; exact hj) HX.out hgt)
      go_upto_region 4 with fail
      go_cut [31] (fun t wx => t = .bool false ∧ w = wx)
      case first =>
        by_cases hlt : j < n
        · obtain ⟨b1, o1, rfl, _, c1⟩ := Reads.at HA.out HN.out hlt
          obtain ⟨y, hy⟩ : ∃ y, xs.getD j 0 = y := ⟨_, rfl⟩
          have hyx : ¬ y = x := fun e => heq ⟨hlt, by rw [hy, e]⟩
          rw [hy] at c1
          clear hy heq hgt
          go_wp2_with fail
          go_meet
          exact ⟨by first | rfl | simp [hyx], rfl⟩
        · obtain rfl : j = n := by omega
          clear heq hgt
          go_wp2_with fail
          go_meet
          exact ⟨rfl, rfl⟩
      case rest =>
        obtain ⟨rfl, rfl⟩ := hcut
        clear heq hgt HX HG
        go_upto_region 6 with fail
        have hjc : j ≤ c := by omega
        have hlt : (xs.take j).length = j := by rw [List.length_take, HN.out]; omega
        have hld : (xs.drop j).length = n - j := by rw [List.length_drop, HN.out]
        have hN1 : A = none → (xs.take j).length = 0 ∧ c = 0 := fun h => by have := HN0.out h; rw [List.length_take]; omega
        have s1 : (w.alloc (.cells #[] 3)).heap.size = w.heap.size + 1 := by simp
        have s2 : (w.alloc (.cells #[.int .i64 x] 3)).heap.size = w.heap.size + 1 := by simp
        have huA : Upd [] w (w.alloc (.cells #[] 3)).drew := ((Upd.refl [] w).alloc _).drew
        have huB : Upd [] w ((w.alloc (.cells #[] 3)).alloc (.cells #[.int .i64 x] 3)).drew := (((Upd.refl [] w).alloc _).alloc _).drew
        have huC : Upd [] w ((w.alloc (.cells #[.int .i64 x] 3)).alloc (.cells #[] 3)).drew := (((Upd.refl [] w).alloc _).alloc _).drew
        have hoA : Own (w.alloc (.cells #[] 3)).drew w.heap.size (.slice (some ⟨w.heap.size, 0, none⟩) 0 0) [] := Own.empty w (Nat.le_refl _)
        have hoB : Own ((w.alloc (.cells #[] 3)).alloc (.cells #[.int .i64 x] 3)).drew w.heap.size (.slice (some ⟨w.heap.size, 0, none⟩) 0 0) [] := (Own.empty w (Nat.le_refl _)).alloc _
        have hoC : Own ((w.alloc (.cells #[.int .i64 x] 3)).alloc (.cells #[] 3)).drew w.heap.size (.slice (some ⟨w.heap.size + 1, 0, none⟩) 0 0) [] := by
          have := Own.empty (B := w.heap.size) (w.alloc (.cells #[.int .i64 x] 3)) (by simp)
          rw [s2] at this
          exact this
        have hbB : Blk ((w.alloc (.cells #[] 3)).alloc (.cells #[.int .i64 x] 3)).drew (w.heap.size + 1) 3 (ints [x]) := by
          have := Blk.new (w.alloc (.cells #[] 3)) 3 (ints [x])
          rw [s1] at this
          exact this
        have hbC : Blk ((w.alloc (.cells #[.int .i64 x] 3)).alloc (.cells #[] 3)).drew w.heap.size 3 (ints [x]) := (Blk.new w 3 (ints [x])).alloc _
        have hiA := Reads.upd (take_ints HA.out j) huA (by simp)
        have hiB := Reads.upd (take_ints HA.out j) huB (by simp)
        have hiC := Reads.upd (take_ints HA.out j) huC (by simp)
        have HHA := Lib.hid (And.intro hoA (And.intro hiA huA))
        have HHB := Lib.hid (And.intro hoB (And.intro hiB (And.intro huB hbB)))
        have HHC := Lib.hid (And.intro hoC (And.intro hiC (And.intro huC hbC)))
        have HLT := Lib.hid hlt
        have HLD := Lib.hid hld
        have HN1 := Lib.hid hN1
        clear hoA hiA huA hoB hiB huB hbB hoC hiC huC hbC hlt hld hN1 s1 s2
        go_region_law (first
          | (refine step_pushes w rfl (.tmp 33) (.tmp 36) rfl w.heap.size _ [] rfl HHA.out.1 A c (xs.take j) j HLT.out rfl HHA.out.2.1 HN1.out (by rw [HLT.out]; simp; omega) (Nat.le_refl _) HHA.out.2.2 HHA.out.2.2.size ?_; intro v4 w4 ho4 hu4 hs4 hx4
             have HO4 := Lib.hid ho4
             have HU4 := Lib.hid hu4
             clear ho4 hu4 hx4)
          | (refine step_pushes w rfl (.tmp 33) (.tmp 36) rfl w.heap.size (.slice (some ⟨w.heap.size, 0, none⟩) 0 0) [] rfl HHB.out.1 A c (xs.take j) j HLT.out rfl HHB.out.2.1 HN1.out (by rw [HLT.out]; simp; omega) (Nat.le_refl _) HHB.out.2.2.1 HHB.out.2.2.1.size ?_; intro v4 w4 ho4 hu4 hs4 hx4
             have HO4 := Lib.hid ho4
             have HU4 := Lib.hid hu4
             have HBX : Hid (IsInts w4 (some ⟨w.heap.size + 1, 0, none⟩) [x]) := Lib.hid (isInts_blk (HHB.out.2.2.2.upd hx4 (by simp [Value.ownBlock])))
             clear ho4 hu4 hx4)
          | (refine step_pushes w rfl (.tmp 33) (.tmp 36) rfl w.heap.size (.slice (some ⟨w.heap.size + 1, 0, none⟩) 0 0) [] rfl HHC.out.1 A c (xs.take j) j HLT.out rfl HHC.out.2.1 HN1.out (by rw [HLT.out]; simp; omega) (Nat.le_refl _) HHC.out.2.2.1 HHC.out.2.2.1.size ?_; intro v4 w4 ho4 hu4 hs4 hx4
             have HO4 := Lib.hid ho4
             have HU4 := Lib.hid hu4
             have HBX : Hid (IsInts w4 (some ⟨w.heap.size, 0, none⟩) [x]) := Lib.hid (isInts_blk (HHC.out.2.2.2.upd hx4 (by simp [Value.ownBlock])))
             clear ho4 hu4 hx4)
          | (refine step_pushes w rfl (.tmp 37) (.tmp 39) rfl w.heap.size _ _ rfl (HO4.out.alloc _) (some ⟨w4.heap.size, 0, none⟩) 1 [x] 1 rfl rfl (isInts_blk (Blk.new w4 3 (ints [x]))) (fun h => by cases h) (by simp [HLT.out]; omega) (Nat.le_refl _) (HU4.out.alloc _) (by have := HU4.out.size; simp; omega) ?_; intro v7 w7 ho7 hu7 hs7 hx7
             have HO7 := Lib.hid ho7
             have HU7 := Lib.hid hu7
             clear ho7 hu7 hx7)
          | (refine step_pushes w rfl (.tmp 37) (.tmp 39) rfl w.heap.size _ _ rfl HO4.out _ 1 [x] 1 rfl rfl HBX.out (fun h => by cases h) (by simp [HLT.out]; omega) (Nat.le_refl _) HU4.out HU4.out.size ?_; intro v7 w7 ho7 hu7 hs7 hx7
             have HO7 := Lib.hid ho7
             have HU7 := Lib.hid hu7
             clear ho7 hu7 hx7)
          | (refine step_pushes w rfl (.tmp 40) (.tmp 43) rfl w.heap.size _ _ rfl HO7.out _ (c - j) (xs.drop j) (n - j) HLD.out rfl (Reads.upd (drop_ints HA.out HN.out hj hc) HU7.out (by simp)) (drop_none HN0.out HN.out hj hc) (by simp [HLT.out, HLD.out]; omega) (Nat.le_refl _) HU7.out HU7.out.size ?_; intro v11 w11 ho11 hu11 hs11 hx11
             have HO11 := Lib.hid ho11
             have HU11 := Lib.hid hu11
             clear ho11 hu11 hx11))
        all_goals (go_wp2_with fail)
        all_goals
          go_ret
          have ho11 := HO11.out
          rw [List.nil_append] at ho11
          obtain ⟨A', c', hv, hI', hN', hc', hc2'⟩ := ho11.form2
          subst hv
          refine ⟨A', c', _, rfl, hI', (fun h => ⟨by first | exact (hN' h).1 | exact List.eq_nil_of_length_eq_zero (hN' h).1, (hN' h).2⟩), hc', hc2', ?_, HSP.out.1, HSP.out.2, HU11.out⟩
          rw [List.length_append, List.length_append, HLT.out, HLD.out]
          simp
          omega

theorem mem_take_succ' {l : List Int} {d : Nat} {x : Int} (hd : d < l.length) : x ∈ l.take (d + 1) ↔ x ∈ l.take d ∨ l.getD d 0 = x := by
  rw [List.take_add_one, List.getElem?_eq_getElem hd, List.getD_eq_getElem?_getD, List.getElem?_eq_getElem hd, List.mem_append]
  simp [eq_comm]
theorem getD_mem_lists' {LS : List (List Int)} {k : Nat} (hk : k < LS.length) : LS.getD k [] ∈ LS := by
  rw [List.getD_eq_getElem?_getD, List.getElem?_eq_getElem hk]
  exact List.getElem_mem hk
theorem mem_flat_take {LS : List (List Int)} {k : Nat} {K : List Int} {d : Nat} {y : Int} : y ∈ (LS.take k).flatten ++ K.take d ↔ y ∈ (LS.take k).flatten ∨ y ∈ K.take d := List.mem_append
set_option maxRecDepth 100000 in
set_option maxHeartbeats 8000000 in
/-- The document's Merge: the list that rises and has just the numbers above 0. -/
theorem rmerge_calls (A : Option Addr) (n c : Nat) (LS : List (List Int)) (w : World) (hn : LS.length = n) (hA : Lists w A LS) (hS : total LS ≤ 4096) (hl : n ≤ 4096) (hb : ∀ l ∈ LS, ∀ x ∈ l, -9223372036854775808 ≤ x ∧ x ≤ 9223372036854775807) :
    Calls Try.prog 24 #[.slice A n c] w fun e w' => ∃ A' c', e = .returned (.slice A' (mergeZ LS.flatten).length c') ∧ IsInts w' A' (mergeZ LS.flatten) ∧ Upd [] w w' := by
  have HN := Lib.hid hn
  have HA := Lib.hid hA
  have HS := Lib.hid hS
  have HB := Lib.hid hb
  clear hn hA hS hb
  go_enter Try.func24, Try.ntmps24
  go_wp2_with fail
  go_loopg [3, 4] n (fun gk v i wr => ∃ (k m cz : Nat) (zs : List Int) (Az : Option Addr), gk = n - k ∧ k ≤ n ∧ i = .int .i64 k ∧ v = .slice Az m cz ∧ m ≤ cz ∧ cz ≤ 9223372036854775807 ∧ Hid (zs.length = m) ∧ Hid (m ≤ total (LS.take k)) ∧ Hid (IsInts wr Az zs) ∧ Hid (Az = none → zs.length = 0 ∧ cz = 0) ∧ Hid (zs.Pairwise (· < ·)) ∧ Hid (∀ y, y ∈ zs ↔ y ∈ (LS.take k).flatten ∧ 1 ≤ y) ∧ Hid (Upd [] w wr))
  case atStart => exact ⟨0, 0, 0, [], none, rfl, by omega, rfl, rfl, by omega, by omega, Lib.hid rfl, Lib.hid (Nat.zero_le _), Lib.hid (.inl rfl), Lib.hid (fun _ => ⟨rfl, rfl⟩), Lib.hid List.Pairwise.nil, Lib.hid (fun y => by simp), Lib.hid (Upd.refl _ _)⟩
  case round =>
    obtain ⟨k, m, cz, zs, Az, rfl, hk, rfl, rfl, hmc, hcz, HZ, HT, HI, HN0, HP, HM, HU⟩ := hrel
    by_cases hkn : k < n
    · obtain ⟨b, off, Ai, ci, rfl, hbw, c0, hIk, _⟩ := HA.out.at HN.out hkn
      have htk := total_take LS k (by rw [HN.out]; exact hkn)
      have htl := total_le LS (k + 1)
      have hbk := HB.out _ (getD_mem_lists' (by rw [HN.out]; exact hkn))
      obtain ⟨K, hK⟩ : ∃ K, LS.getD k [] = K := ⟨_, rfl⟩
      rw [hK] at c0 hIk hbk htk
      obtain ⟨z, hz⟩ : ∃ z, K.length = z := ⟨_, rfl⟩
      rw [hz] at c0 htk
      have HTK := Lib.hid htk
      have HZ2 := Lib.hid hz
      have HBK := Lib.hid hbk
      have HIK0 := Lib.hid hIk
      have HC0 := Lib.hid c0
      have c0 := (HU.out.cell (p := ⟨b, off + k, none⟩) hbw (by simp)).trans c0
      have hz4 : z ≤ 4096 := by have := HS.out; omega
      have HT4 : Hid (total (LS.take k) + z ≤ 4096) := Lib.hid (by have := HS.out; omega)
      have HBW := Lib.hid hbw
      clear hK hIk hz htk htl hbk hbw
      obtain ⟨w0, rfl⟩ : ∃ w0 : World, w0 = wr := ⟨_, rfl⟩
      go_wp2_with fail
      go_loopg [3, 5] z (fun gk v i wr => ∃ (d m cz : Nat) (zs : List Int) (Az : Option Addr), gk = z - d ∧ d ≤ z ∧ i = .int .i64 d ∧ v = .slice Az m cz ∧ m ≤ cz ∧ cz ≤ 9223372036854775807 ∧ Hid (zs.length = m) ∧ Hid (m ≤ total (LS.take k) + d) ∧ Hid (IsInts wr Az zs) ∧ Hid (Az = none → zs.length = 0 ∧ cz = 0) ∧ Hid (zs.Pairwise (· < ·)) ∧ Hid (∀ y, y ∈ zs ↔ (y ∈ (LS.take k).flatten ∨ y ∈ K.take d) ∧ 1 ≤ y) ∧ Hid (Upd [] w wr))
      case atStart => exact ⟨0, m, cz, zs, Az, rfl, by omega, rfl, rfl, hmc, hcz, HZ, Lib.hid (by have := HT.out; omega), HI, HN0, HP, Lib.hid (fun y => by rw [HM.out]; simp), HU⟩
      case round =>
        clear HZ HT HI HN0 HP HM hmc hcz
        obtain ⟨d, m, cz, zs, Az, rfl, hd, rfl, rfl, hmc, hcz, HZ, HT, HI, HN0, HP, HM, HU2⟩ := hrel
        have c1 := (HU2.out.cell (p := ⟨b, off + k, none⟩) HBW.out (by simp)).trans HC0.out
        have hIK2 : IsInts wr Ai K := Reads.upd HIK0.out HU2.out (by simp)
        by_cases hdz : d < z
        · obtain ⟨b3, o3, rfl, _, c3⟩ := Reads.at hIK2 HZ2.out hdz
          have hym : K.getD d 0 ∈ K := getD_mem (by rw [HZ2.out]; exact hdz)
          have hms := fun y => mem_take_succ' (l := K) (d := d) (x := y) (by rw [HZ2.out]; exact hdz)
          obtain ⟨y, hy⟩ : ∃ y, K.getD d 0 = y := ⟨_, rfl⟩
          rw [hy] at c3 hym
          have hms2 : ∀ x, x ∈ K.take (d + 1) ↔ x ∈ K.take d ∨ y = x := fun x => by rw [hms x, hy]
          have HMS := Lib.hid hms2
          obtain ⟨hyb1, hyb2⟩ := HBK.out y hym
          clear hy hym hms hms2 hIK2
          by_cases hy0 : 0 < y
          · have hm4 : m ≤ 65536 := by have := HT.out; have := HT4.out; omega
            go_wp2_with fail
            refine (with_calls Az m cz zs y wr HZ.out HI.out HN0.out HP.out hm4 hmc hcz).mono ?_
            rintro e w5 ⟨A', c', ys, rfl, hI', hN', hc', hc2', hlen, hP', hM', hu'⟩
            obtain ⟨m', hm'⟩ : ∃ m', ys.length = m' := ⟨_, rfl⟩
            rw [hm'] at hc' hlen ⊢
            have HZ' := Lib.hid hm'
            have HI' := Lib.hid hI'
            have HN' := Lib.hid hN'
            have HP' := Lib.hid hP'
            have HM' : Hid (∀ x, x ∈ ys ↔ (x ∈ (LS.take k).flatten ∨ x ∈ K.take (d + 1)) ∧ 1 ≤ x) := Lib.hid (fun x => by
              rw [hM', HM.out, HMS.out]
              constructor
              · rintro (⟨h1 | h1, h2⟩ | rfl)
                · exact ⟨.inl h1, h2⟩
                · exact ⟨.inr (.inl h1), h2⟩
                · exact ⟨.inr (.inr rfl), by omega⟩
              · rintro ⟨h1 | h1 | rfl, h2⟩
                · exact .inl ⟨.inl h1, h2⟩
                · exact .inl ⟨.inr h1, h2⟩
                · exact .inr rfl)
            have HU' := Lib.hid (HU2.out.step hu' (by simp))
            have HLN := Lib.hid hlen
            clear hI' hN' hP' hM' hu' hm' hlen
            go_wp2_with fail
            go_roundg (z - (d + 1))
            case measure => omega
            case rel => exact ⟨d + 1, m', c', ys, A', rfl, by omega, by go_num, rfl, hc', hc2', HZ', Lib.hid (by have := HLN.out; have := HT.out; omega), HI', HN', HP', HM', HU'⟩
          · go_wp2_with fail
            go_roundg (z - (d + 1))
            case measure => omega
            case rel => exact ⟨d + 1, m, cz, zs, Az, rfl, by omega, by go_num, rfl, hmc, hcz, HZ, Lib.hid (by have := HT.out; omega), HI, HN0, HP, Lib.hid (fun x => by
              rw [HM.out, HMS.out]
              constructor
              · rintro ⟨h1 | h1, h2⟩
                · exact ⟨.inl h1, h2⟩
                · exact ⟨.inr (.inl h1), h2⟩
              · rintro ⟨h1 | h1 | rfl, h2⟩
                · exact ⟨.inl h1, h2⟩
                · exact ⟨.inr h1, h2⟩
                · omega), HU2⟩
        · obtain rfl : d = z := by omega
          clear hIK2
          go_wp2_with fail
          go_roundg (n - (k + 1))
          case measure => omega
          case rel => exact ⟨k + 1, m, cz, zs, Az, rfl, by omega, by go_num, rfl, hmc, hcz, HZ, Lib.hid (by rw [HTK.out.1]; exact HT.out), HI, HN0, HP, Lib.hid (fun x => by
            rw [HM.out, HTK.out.2, List.mem_append, show K.take d = K from List.take_of_length_le (by rw [HZ2.out]; exact Nat.le_refl _)]), HU2⟩
    · obtain rfl : k = n := by omega
      have he : mergeZ LS.flatten = zs := mergeZ_eq HP.out (fun x => by
        rw [HM.out, show LS.take k = LS from List.take_of_length_le (by rw [HN.out]; exact Nat.le_refl _)])
      have HE := Lib.hid he
      clear he
      go_wp2_with fail
      go_ret
      refine ⟨Az, cz, ?_, ?_, HU.out⟩
      · rw [HE.out, HZ.out]; rfl
      · rw [HE.out]; exact HI.out
end Go.Proofs.Ytnhgmmjlhhgdoaa
