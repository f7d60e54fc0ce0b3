/- The contracts of slices.Concat at []int, and of root.Merge. -/
import Derived.Test.YtnhgmmjlhhgdoaaShelf
import Derived.Test.YtnhgmmjlhhgdoaaInts
import Derived.Test.YtnhgmmjlhhgdoaaRootMath
import Derived.Lib.OwnBridge
import Derived.Sort.OwnSortedInts
import Derived.Deep.LoopGhost
import Derived.Deep.CutBlock
import Derived.Deep.DeepCutAuto
namespace Go.Proofs.Ytnhgmmjlhhgdoaa
open Go Go.RowKit

/-- A slice of slices of numbers that can be read. -/
def Lists (w : World) (A : Option Addr) (LS : List (List Int)) : Prop := LS = [] ∨ ∃ b off, A = some ⟨b, off, none⟩ ∧ b < w.heap.size ∧ ∀ i, i < LS.length → ∃ Ai ci, w.cell? ⟨b, off + i, none⟩ = some (.slice Ai (LS.getD i []).length ci) ∧ IsInts w Ai (LS.getD i []) ∧ (Ai = none → (LS.getD i []).length = 0 ∧ ci = 0)
theorem Lists.upd {w w' : World} {A : Option Addr} {LS : List (List Int)} {E : List Nat} (h : Lists w A LS) (hu : Upd E w w') (hE : ∀ i ∈ E, w.heap.size ≤ i) : Lists w' A LS := by
  rcases h with h | ⟨b, off, h1, h2, h3⟩
  · exact .inl h
  · refine .inr ⟨b, off, h1, Nat.lt_of_lt_of_le h2 hu.size, fun i hi => ?_⟩
    obtain ⟨Ai, ci, h4, h5, h6⟩ := h3 i hi
    refine ⟨Ai, ci, (hu.cell (p := ⟨b, off + i, none⟩) h2 (fun hm => by have := hE _ hm; simp only at this; omega)).trans h4, Reads.upd h5 hu hE, h6⟩
theorem Lists.at {w : World} {A : Option Addr} {LS : List (List Int)} (h : Lists w A LS) {i n : Nat} (hn : LS.length = n) (hi : i < n) :
    ∃ b off Ai ci, A = some ⟨b, off, none⟩ ∧ b < w.heap.size ∧ w.cell? ⟨b, off + i, none⟩ = some (.slice Ai (LS.getD i []).length ci) ∧ IsInts w Ai (LS.getD i []) ∧ (Ai = none → (LS.getD i []).length = 0 ∧ ci = 0) := by
  rcases h with h | ⟨b, off, h1, h2, h3⟩
  · rw [h] at hn; simp at hn; omega
  · obtain ⟨Ai, ci, h4, h5, h6⟩ := h3 i (by omega)
    exact ⟨b, off, Ai, ci, h1, h2, h4, h5, h6⟩
/-- How many numbers all lists have. -/
def total (LS : List (List Int)) : Nat := LS.flatten.length
theorem total_take (LS : List (List Int)) (i : Nat) (hi : i < LS.length) : total (LS.take (i + 1)) = total (LS.take i) + (LS.getD i []).length ∧ (LS.take (i + 1)).flatten = (LS.take i).flatten ++ LS.getD i [] := by
  have h : LS.take (i + 1) = LS.take i ++ [LS.getD i []] := by
    rw [List.take_add_one, List.getElem?_eq_getElem hi, List.getD_eq_getElem?_getD, List.getElem?_eq_getElem hi]
    rfl
  have h2 : (LS.take (i + 1)).flatten = (LS.take i).flatten ++ LS.getD i [] := by rw [h, List.flatten_append]; simp
  exact ⟨by unfold total; rw [h2, List.length_append], h2⟩
theorem total_le (LS : List (List Int)) (i : Nat) : total (LS.take i) ≤ total LS := by
  unfold total
  conv => rhs; rw [← List.take_append_drop i LS, List.flatten_append, List.length_append]
  omega

theorem grow_calls (n : Nat) (w : World) (hn : n ≤ 4294967296) : Calls Try.prog 67 #[.slice none 0 0, .int .i64 n] w fun e w' => ∃ v, e = .returned v ∧ Own w' w.heap.size v [] ∧ Upd [] w w' := by
  obtain ⟨i0, hi, hz0, hz1, hz2⟩ := info_parts int_info
  rcases Nat.eq_zero_or_pos n with rfl | hpos
  · go_enter Try.func67, Try.ntmps67
    go_wp2_with fail
    go_ret
    exact ⟨_, rfl, Own.nil _ _, Upd.refl _ _⟩
  · have hcon := Any8.slices_Grow_grow Try.growI i0 (.int .i64 0) hi hz0 (by omega) none 0 0 n [] w (by omega) (by omega) (by rw [hz2]; omega) (by omega) (by simp) (by simp) (by simp)
    refine Calls.mono (f := 67) hcon ?_
    rintro e w' ⟨rfl, rfl⟩
    have h1 := grownCap_ge w (0 + n) 0 3
    have h2 := grownCap_le_maxLen w (0 + n) 0 3 (by unfold maxLen; omega)
    refine ⟨_, rfl, ?_, (Upd.refl [] w).drew.alloc _⟩
    refine World.ownsRow_made (base := w.heap.size) w.drew _ _ (Nat.le_refl _) h2 ?_
    have hz : ∀ k, (Builtin.zeroCells (Value.int .i64 0).cells k).size = k := fun k => by simp [Builtin.zeroCells, Value.cells]
    rw [Array.size_append, Array.size_append, hz, hz]
    show 0 + (0 + n - 0) + (grownCap w (0 + n) 0 3 - (0 + n)) = grownCap w (0 + n) 0 3 * 1
    omega

theorem concat_calls (A : Option Addr) (n c : Nat) (LS : List (List Int)) (w : World) (hn : LS.length = n) (hA : Lists w A LS) (hS : total LS ≤ 65536) (hl : n ≤ 65536) :
    Calls Try.prog 45 #[.slice A n c] w fun e w' => ∃ v, e = .returned v ∧ Own w' w.heap.size v LS.flatten ∧ Upd [] w w' := by
  have HN := Lib.hid hn
  have HA := Lib.hid hA
  have HS := Lib.hid hS
  clear hn hA hS
  go_enter Try.func45, Try.ntmps45
  go_upto_block 0 with fail
  go_cut [3] (fun v wx => v = .int .i64 (total LS) ∧ wx = w)
  case first =>
    go_wp2_with fail
    go_loopg [3, 11] n (fun gk v i wr => ∃ j : Nat, gk = n - j ∧ j ≤ n ∧ i = .int .i64 j ∧ v = .int .i64 (total (LS.take j)) ∧ w = wr)
    case atStart => exact ⟨0, rfl, by omega, rfl, rfl, rfl⟩
    case round =>
      obtain ⟨j, rfl, hj, rfl, rfl, rfl⟩ := hrel
      by_cases hlt : j < n
      · obtain ⟨b, off, Ai, ci, rfl, hb, c0, hI, hN⟩ := HA.out.at HN.out hlt
        obtain ⟨h1, h2⟩ := total_take LS j (by rw [HN.out]; exact hlt)
        obtain ⟨t, ht⟩ : ∃ t, total (LS.take j) = t := ⟨_, rfl⟩
        obtain ⟨x, hx⟩ : ∃ x, (LS.getD j []).length = x := ⟨_, rfl⟩
        have h3 := total_le LS (j + 1)
        rw [h1, ht, hx] at h3
        have h4 : t + x ≤ 65536 := Nat.le_trans h3 HS.out
        rw [ht, hx] at h1
        rw [hx] at c0
        rw [ht]
        have H1 := Lib.hid h1
        clear h1 h2 h3 ht hx hI hN hb
        go_wp2_with fail
        go_roundg (n - (j + 1))
        case measure => omega
        case rel => exact ⟨j + 1, rfl, by omega, by go_num, by rw [H1.out]; go_num, rfl⟩
      · obtain rfl : j = n := by omega
        rw [show LS.take j = LS from List.take_of_length_le (by rw [HN.out]; exact Nat.le_refl _)]
        go_wp2_with fail
        go_meet
        exact ⟨rfl, rfl⟩
  case rest =>
    obtain ⟨rfl, rfl⟩ := hcut
    go_wp2_with fail
    refine (grow_calls (total LS) _ (by have := HS.out; omega)).mono ?_
    rintro e w1 ⟨v0, rfl, hO, hU⟩
    have HO := Lib.hid hO
    have HU := Lib.hid hU
    clear hO hU
    go_wp2_with fail
    go_loopg [6, 27] n (fun gk v i wr => ∃ j : Nat, gk = n - j ∧ j ≤ n ∧ i = .int .i64 j ∧ Hid (Own wr wc.heap.size v (LS.take j).flatten) ∧ Hid (Upd [] wc wr))
    case atStart => exact ⟨0, rfl, by omega, rfl, HO, HU⟩
    case round =>
      clear HO HU
      obtain ⟨j, rfl, hj, rfl, HO, HU⟩ := hrel
      by_cases hlt : j < n
      · obtain ⟨b, off, Ai, ci, rfl, hb, c0, hI, hN0⟩ := HA.out.at HN.out hlt
        have c0 := (HU.out.cell (p := ⟨b, off + j, none⟩) hb (by simp)).trans c0
        have hI := Reads.upd hI HU.out (by simp)
        obtain ⟨h1, h2⟩ := total_take LS j (by rw [HN.out]; exact hlt)
        have h3 := total_le LS (j + 1)
        have hS := HS.out
        have h4 : (LS.take j).flatten.length + (LS.getD j []).length ≤ 65536 := by
          rw [h1] at h3
          exact Nat.le_trans h3 hS
        have H2 := Lib.hid h2
        have H4 := Lib.hid h4
        obtain ⟨x, hx⟩ : ∃ x, (LS.getD j []).length = x := ⟨_, rfl⟩
        have HX := Lib.hid hx
        have HI := Lib.hid hI
        have HN0 := Lib.hid hN0
        rw [hx] at c0
        clear h1 h2 h3 h4 hS hx hI hN0 hb
        go_wp2_with (at_builtin; refine wpList_pushes wc rfl _ _ rfl wc.heap.size _ _ rfl HO.out Ai ci (LS.getD j []) x HX.out rfl HI.out HN0.out (by have := H4.out; omega) (Nat.le_refl _) HU.out HU.out.size ?_)
        intro v' w2 hO2 hU2 hS2
        have HO2 : Hid (Own w2 wc.heap.size v' (LS.take (j + 1)).flatten) := Lib.hid (by rw [H2.out]; exact hO2)
        have HU2 := Lib.hid hU2
        clear hO2 hU2 hS2
        go_wp2_with fail
        go_roundg (n - (j + 1))
        case measure => omega
        case rel => exact ⟨j + 1, rfl, by omega, by go_num, HO2, HU2⟩
      · obtain rfl : j = n := by omega
        go_wp2_with fail
        go_ret
        refine ⟨_, rfl, ?_, HU.out⟩
        have := HO.out
        rw [show LS.take j = LS from List.take_of_length_le (by rw [HN.out]; exact Nat.le_refl _)] at this
        exact this

theorem sort_world {a0 w : World} {g q : Nat} {d : Array Int} {os : Array Obj} (h : Upd [] a0 w) (hg : a0.heap.size ≤ g) : Upd [] a0 (Go.Sort.grow (Go.Sort.putRow (Value.int .i64) (Go.Sort.ahead w q) g 0 d) os) := by
  refine ⟨h.os, h.tape, h.output, ?_, fun k hk hn => ?_⟩
  · have := h.size
    simp [Go.Sort.grow, Go.Sort.putRow, Go.Sort.mapBlock, Go.Sort.ahead]
    omega
  · rw [← h.block k hk hn]
    have hs := h.size
    have h1 : k < (Go.Sort.putRow (Value.int .i64) (Go.Sort.ahead w q) g 0 d).heap.size := by simp [Go.Sort.putRow, Go.Sort.mapBlock, Go.Sort.ahead]; omega
    show ((Go.Sort.putRow (Value.int .i64) (Go.Sort.ahead w q) g 0 d).heap ++ os)[k]? = _
    rw [Array.getElem?_append, if_pos h1]
    simp [Go.Sort.putRow, Go.Sort.mapBlock, Go.Sort.ahead, Array.getElem?_modify, show g ≠ k by omega]
theorem put_world {a0 w : World} {g q : Nat} {d : Array Int} (h : Upd [] a0 w) (hg : a0.heap.size ≤ g) : Upd [] a0 (Go.Sort.putRow (Value.int .i64) (Go.Sort.ahead w q) g 0 d) := by
  refine ⟨h.os, h.tape, h.output, ?_, fun k hk hn => ?_⟩
  · have := h.size
    simp [Go.Sort.putRow, Go.Sort.mapBlock, Go.Sort.ahead]
    omega
  · rw [← h.block k hk hn]
    have hs := h.size
    simp [Go.Sort.putRow, Go.Sort.mapBlock, Go.Sort.ahead, Array.getElem?_modify, show g ≠ k by omega]

theorem own_sorted {w : World} {B g n cap q : Nat} {os : Array Obj} {zs ts : List Int} (h : Own w B (.slice (some ⟨g, 0, none⟩) n cap) zs) (hn : zs.length = n) (hl : ts.length = n) :
    Own (Go.Sort.grow (Go.Sort.putRow (Value.int .i64) (Go.Sort.ahead w q) g 0 ts.toArray) os) B (.slice (some ⟨g, 0, none⟩) n cap) ts := by
  subst hn
  rcases h.2 with ⟨h0, _⟩ | ⟨g', cap', cur, h0, hb, hg, hnc, hcm, hcs, _⟩
  · cases h0
  · simp only [Value.slice.injEq, Option.some.injEq, Addr.mk.injEq, and_true, true_and] at h0
    obtain ⟨rfl, rfl⟩ := h0
    have := ownsRow_sortedI (os := os) (n := q) (e := 3) hl hb hg hnc hcm hcs
    unfold Own
    rw [hl]
    exact this

theorem closure_gives (x : Int) (W : World) : FnGives Try.prog 49 #[] #[.int .i64 x] (.bool (decide (x < 1))) W := by
  show Calls Try.prog 49 #[.int .i64 x] W _
  go_enter Try.func49, Try.ntmps49
  go_wp2
  all_goals (go_ret; exact ⟨by simp_all, 0, rfl⟩)

/-- DeleteFunc of what is empty, nil too. -/
theorem delete_empty (a : Option Addr) (c : Nat) (w : World) : Calls Try.prog 47 #[.slice a 0 c, .func (.func 49) #[] #[]] w fun e w' => e = .returned (.slice a 0 c) ∧ w = w' := by
  have hidx : ∀ w, Calls Try.prog 70 #[.slice a 0 c, .func (.func 49) #[] #[]] w fun e w' => e = .returned (.int .i64 (-1)) ∧ w = w' := fun w => by
    go_enter Try.func70, Try.ntmps70
    go_wp2_with fail
    refine wp_loop_rounds 1 ?_
    rw [rounds_succ]
    go_wp2_with fail
    go_ret
    exact ⟨rfl, rfl⟩
  have HIDX := Lib.hid hidx
  clear hidx
  go_enter Try.func47, Try.ntmps47
  go_wp2_with fail
  refine (HIDX.out _).mono ?_
  rintro e w' ⟨rfl, rfl⟩
  go_wp2_with fail
  go_ret
  exact ⟨rfl, rfl⟩

/-- Sort, Compact, DeleteFunc on a slice of the call's own, one by one. -/
theorem sort_own (v : Value) (B : Nat) (zs : List Int) (w : World) (h : Own w B v zs) (hne : zs ≠ []) (hl : zs.length ≤ 65536) : Calls Try.prog 46 #[v] w fun e w' => e = .returned (.tuple #[]) ∧ Own w' B v (sortL zs) ∧ ∀ a0 : World, Upd [] a0 w → a0.heap.size ≤ B → Upd [] a0 w' := by
  have hv : v ≠ .slice none 0 0 := by
    rintro rfl
    rcases h.2 with ⟨_, h0⟩ | ⟨g, cap, cur, h0, _⟩
    · exact hne (List.eq_nil_of_length_eq_zero h0)
    · cases h0
  obtain ⟨g, cap, rfl, hb, hg, hn, hm, _, hH⟩ := Lib.holds_of_ownsRow h hv
  refine (Try.slices_Sort_int g 0 cap zs w hH hg (by omega)).mono ?_
  rintro e w' ⟨rfl, q, os, rfl⟩
  exact ⟨rfl, own_sorted h rfl (by simp), fun a0 hU hB => sort_world hU (by omega)⟩
theorem compact_own (v : Value) (B n : Nat) (zs : List Int) (w : World) (h : Own w B v zs) (hn : zs.length = n) (hne : zs ≠ []) (hl : zs.length ≤ 65536) :
    Calls Try.prog 48 #[v] w fun e w' => ∃ v', e = .returned v' ∧ Own w' B v' (Lib.compact zs) ∧ ∀ a0 : World, Upd [] a0 w → a0.heap.size ≤ B → Upd [] a0 w' := by
  have hv : v ≠ .slice none 0 0 := by
    rintro rfl
    rcases h.2 with ⟨_, h0⟩ | ⟨g, cap, cur, h0, _⟩
    · exact hne (List.eq_nil_of_length_eq_zero h0)
    · cases h0
  obtain ⟨g, cap, rfl, hb, hg, hn, hm, _, hH⟩ := Lib.holds_of_ownsRow h hv
  have hcl := Lib.compact_length_le zs
  refine (Try.slices_Compact_int g 0 cap zs w hH (by omega) (by omega)).mono ?_
  rintro e w' ⟨rfl, q, rfl⟩
  refine ⟨_, rfl, ?_, fun a0 hU hB => put_world hU (by omega)⟩
  have := Lib.ownsRow_putRow (q := q) (k := (Lib.compact zs).length) (ys := Lib.compact zs ++ List.replicate (zs.length - (Lib.compact zs).length) 0) h (by simp; omega) hcl
  rw [List.take_left] at this
  exact this
theorem delete_own (v : Value) (B n : Nat) (zs : List Int) (w : World) (h : Own w B v zs) (hn : zs.length = n) (hne : zs ≠ []) (hl : zs.length ≤ 65536) :
    Calls Try.prog 47 #[v, .func (.func 49) #[] #[]] w fun e w' => ∃ v', e = .returned v' ∧ Own w' B v' (zs.filter fun x => !decide (x < 1)) ∧ ∀ a0 : World, Upd [] a0 w → a0.heap.size ≤ B → Upd [] a0 w' := by
  have hv : v ≠ .slice none 0 0 := by
    rintro rfl
    rcases h.2 with ⟨_, h0⟩ | ⟨g, cap, cur, h0, _⟩
    · exact hne (List.eq_nil_of_length_eq_zero h0)
    · cases h0
  obtain ⟨g, cap, rfl, hb, hg, hn, hm, _, hH⟩ := Lib.holds_of_ownsRow h hv
  have hfl : (zs.filter fun x => !decide (x < 1)).length ≤ zs.length := List.length_filter_le _ _
  have eg : ∀ args w, (callFunc 49 args).run Try.prog w = .ok (.enter 49 args) w := enters_of Try.func49 (by kernel_rfl) rfl
  have hcon := AnyE.slices_DeleteFunc Try.laysH10 (Value.int .i64) (fun _ => rfl) (fun x => decide (x < 1)) 49 #[] eg 0 Try.zeroValue3 g 0 cap zs.toArray w
    (fun W x _ => closure_gives x W) (fun n os dk x _ => closure_gives x _) hH (by simp; omega) (by simp; omega)
  simp only [List.size_toArray] at hcon
  refine Calls.mono (f := 47) hcon ?_
  rintro e w' ⟨rfl, q, rfl⟩
  refine ⟨_, rfl, ?_, fun a0 hU hB => put_world hU (by omega)⟩
  have := Lib.ownsRow_putRow (q := q) (k := (zs.filter fun x => !decide (x < 1)).length) (ys := (zs.filter fun x => !decide (x < 1)) ++ List.replicate (zs.length - (zs.filter fun x => !decide (x < 1)).length) 0) h (by simp; omega) hfl
  rw [List.take_left] at this
  exact this

theorem Own.empty_form {w : World} {B : Nat} {v : Value} (h : Own w B v []) : ∃ A c, v = .slice A 0 c := by
  obtain ⟨A, c, h1, _, _⟩ := h.form
  exact ⟨A, c, h1⟩
theorem sort_any (v : Value) (B : Nat) (zs : List Int) (w : World) (h : Own w B v zs) (hl : zs.length ≤ 65536) : Calls Try.prog 46 #[v] w fun e w' => e = .returned (.tuple #[]) ∧ Own w' B v (sortL zs) ∧ ∀ a0 : World, Upd [] a0 w → a0.heap.size ≤ B → Upd [] a0 w' := by
  by_cases hne : zs = []
  · subst hne
    obtain ⟨A, c, rfl⟩ := h.empty_form
    refine (Try.slices_Sort_int_none A c w).mono ?_
    rintro e w' ⟨rfl, rfl⟩
    exact ⟨rfl, by simpa [sortL] using h, fun a0 hU _ => hU⟩
  · exact sort_own v B zs w h hne hl
theorem compact_any (v : Value) (B : Nat) (zs : List Int) (w : World) (h : Own w B v zs) (hl : zs.length ≤ 65536) :
    Calls Try.prog 48 #[v] w fun e w' => ∃ v', e = .returned v' ∧ Own w' B v' (Lib.compact zs) ∧ ∀ a0 : World, Upd [] a0 w → a0.heap.size ≤ B → Upd [] a0 w' := by
  by_cases hne : zs = []
  · subst hne
    obtain ⟨A, c, rfl⟩ := h.empty_form
    refine (Try.slices_Compact_int_empty A c w).mono ?_
    rintro e w' ⟨rfl, rfl⟩
    exact ⟨_, rfl, h, fun a0 hU _ => hU⟩
  · exact compact_own v B _ zs w h rfl hne hl
theorem delete_any (v : Value) (B : Nat) (zs : List Int) (w : World) (h : Own w B v zs) (hl : zs.length ≤ 65536) :
    Calls Try.prog 47 #[v, .func (.func 49) #[] #[]] w fun e w' => ∃ v', e = .returned v' ∧ Own w' B v' (zs.filter fun x => !decide (x < 1)) ∧ ∀ a0 : World, Upd [] a0 w → a0.heap.size ≤ B → Upd [] a0 w' := by
  by_cases hne : zs = []
  · subst hne
    obtain ⟨A, c, rfl⟩ := h.empty_form
    refine (delete_empty A c w).mono ?_
    rintro e w' ⟨rfl, rfl⟩
    exact ⟨_, rfl, h, fun a0 hU _ => hU⟩
  · exact delete_own v B _ zs w h rfl hne hl

theorem merge_calls (A : Option Addr) (n c : Nat) (LS : List (List Int)) (w : World) (hn : LS.length = n) (hA : Lists w A LS) (hS : total LS ≤ 65536) (hl : n ≤ 65536) :
    Calls Try.prog 22 #[.slice A n c] w fun e w' => ∃ v, e = .returned v ∧ Own w' w.heap.size v (mergeZ LS.flatten) ∧ Upd [] w w' := by
  have h1 : (sortL LS.flatten).length ≤ 65536 := by unfold sortL; rw [List.length_mergeSort]; exact hS
  have h2 : (Lib.compact (sortL LS.flatten)).length ≤ 65536 := Nat.le_trans (Lib.compact_length_le _) h1
  have HC := Lib.hid (fun w' (h : w' = w) => h ▸ concat_calls A n c LS w hn hA hS hl)
  have HS := Lib.hid hS
  have H1 := Lib.hid h1
  have H2 := Lib.hid h2
  clear hS h1 h2 hA hn
  go_enter Try.func22, Try.ntmps22
  go_wp2_with fail
  refine (HC.out w rfl).mono ?_
  rintro e w1 ⟨v, rfl, hO, hU⟩
  have HO := Lib.hid hO
  have HU := Lib.hid hU
  clear hO hU
  go_wp2_with fail
  refine (sort_any v _ _ _ HO.out HS.out).mono ?_
  rintro e w2 ⟨rfl, hO, hU⟩
  have HO2 := Lib.hid hO
  have HU2 := Lib.hid (hU w HU.out (Nat.le_refl _))
  clear hO hU
  go_wp2_with fail
  refine (compact_any v _ _ _ HO2.out H1.out).mono ?_
  rintro e w3 ⟨v3, rfl, hO, hU⟩
  have HO3 := Lib.hid hO
  have HU3 := Lib.hid (hU w HU2.out (Nat.le_refl _))
  clear hO hU
  go_wp2_with fail
  refine (delete_any v3 _ _ _ HO3.out H2.out).mono ?_
  rintro e w4 ⟨v4, rfl, hO, hU⟩
  have HO4 := Lib.hid hO
  have HU4 := Lib.hid (hU w HU3.out (Nat.le_refl _))
  clear hO hU
  go_wp2_with fail
  go_ret
  exact ⟨_, rfl, HO4.out, HU4.out⟩
end Go.Proofs.Ytnhgmmjlhhgdoaa
