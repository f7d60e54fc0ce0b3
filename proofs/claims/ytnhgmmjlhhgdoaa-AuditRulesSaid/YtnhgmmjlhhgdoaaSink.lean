/- A region that draws its order and whose last operation waits for all others: the others are walked as a region of their own, the last one behind them. So what the others read may be what the last one writes. No program in sight. -/
import Derived.OrdersHeld
import Derived.Tactics
namespace Go.Proofs.Ytnhgmmjlhhgdoaa.Sink
open Go

/-- What is asked of the numbers: each operation waits for earlier ones alone, its guard is an earlier one, and the last one waits for all. -/
def headB (hd : List Oper) : Bool := (List.range hd.length).all fun i => match hd[i]? with
  | some x => (x.after.toList.all fun e => !Region.binds .any e || decide (e.on < i)) && (match x.guard with | some (g, _) => decide (g < i) | none => true)
  | none => true
def lastB (n : Nat) (o : Oper) : Bool := (List.range n).all (fun i => o.after.toList.any fun e => Region.binds .any e && e.on == i) && (o.after.toList.all fun e => !Region.binds .any e || decide (e.on < n))
/-- The last one, behind the others. -/
def Tail (P : Program) (l : List Oper) (o : Oper) (Q : Exit → Act → World → Prop) : Exit → Act → World → Prop
  | .normal, a, w => wpList P l.toArray Q [o] a w
  | e, a, w => Q e a w
section
variable {P : Program} {hd : List Oper} {o : Oper} {Q : Exit → Act → World → Prop}
theorem head_spec (h : headB hd = true) {i : Nat} {x : Oper} (hx : hd[i]? = some x) : (∀ e ∈ x.after, Region.binds .any e = true → e.on < i) ∧ ∀ g b, x.guard = some (g, b) → g < i := by
  have hi : i < hd.length := (List.getElem?_eq_some_iff.1 hx).1
  have h1 := List.all_eq_true.1 h i (List.mem_range.2 hi)
  rw [hx] at h1
  simp only [Bool.and_eq_true] at h1
  refine ⟨fun e he hb => ?_, fun g b hg => ?_⟩
  · have h2 := List.all_eq_true.1 h1.1 e (by simpa using he)
    rw [hb] at h2
    simpa using h2
  · have h2 := h1.2
    rw [hg] at h2
    simpa using h2
theorem last_spec (h : lastB hd.length o = true) : (∀ i, i < hd.length → ∃ e ∈ o.after, Region.binds .any e = true ∧ e.on = i) ∧ ∀ e ∈ o.after, Region.binds .any e = true → e.on < hd.length := by
  unfold lastB at h
  rw [Bool.and_eq_true] at h
  refine ⟨fun i hi => ?_, fun e he hb => ?_⟩
  · have h1 := List.all_eq_true.1 h.1 i (List.mem_range.2 hi)
    obtain ⟨e, he, h2⟩ := List.any_eq_true.1 h1
    rw [Bool.and_eq_true, beq_iff_eq] at h2
    exact ⟨e, by simpa using he, h2.1, h2.2⟩
  · have h2 := List.all_eq_true.1 h.2 e (by simpa using he)
    rw [hb] at h2
    simpa using h2
theorem push_low {listed : Array Bool} {i : Nat} (d : Bool) (hi : i < listed.size) : (listed.push false).getD i d = listed.getD i d := by
  rw [Array.getD_eq_getD_getElem?, Array.getD_eq_getD_getElem?, Array.getElem?_push, if_neg (by omega)]
theorem push_last {listed : Array Bool} (d : Bool) : (listed.push false).getD listed.size d = false := by
  rw [Array.getD_eq_getD_getElem?, Array.getElem?_push, if_pos rfl]; rfl
theorem low_both {listed : Array Bool} {i : Nat} (hi : i < listed.size) : listed.getD i true = listed.getD i false := by
  rw [Array.getD_eq_getD_getElem?, Array.getD_eq_getD_getElem?, Array.getElem?_eq_getElem hi]; rfl
theorem get_app {i : Nat} (hi : i < hd.length) : (hd ++ [o]).toArray[i]? = hd.toArray[i]? := by
  simp only [List.getElem?_toArray]
  rw [List.getElem?_append_left hi]
theorem get_last : (hd ++ [o]).toArray[hd.length]? = some o := by
  simp only [List.getElem?_toArray]
  rw [List.getElem?_append_right (Nat.le_refl _)]; simp
theorem mem_low {listed : Array Bool} (hh : headB hd = true) (hs : listed.size = hd.length) {i : Nat} (hi : i < hd.length) : i ∈ Region.ready .any (hd ++ [o]).toArray (listed.push false) ↔ i ∈ Region.ready .any hd.toArray listed := by
  rw [mem_ready, mem_ready, get_app hi, push_low true (by omega)]
  constructor
  · rintro ⟨h1, x, hx, h2⟩
    refine ⟨h1, x, hx, fun e he hb => ?_⟩
    have := (head_spec hh (by simpa using hx)).1 e he hb
    rw [← push_low false (by omega)]
    exact h2 e he hb
  · rintro ⟨h1, x, hx, h2⟩
    refine ⟨h1, x, hx, fun e he hb => ?_⟩
    have := (head_spec hh (by simpa using hx)).1 e he hb
    rw [push_low false (by omega)]
    exact h2 e he hb
/-- None is ready: all are listed. -/
theorem all_listed {listed : Array Bool} (hh : headB hd = true) (hs : listed.size = hd.length) (h : Region.ready .any hd.toArray listed = []) : ∀ i, i < hd.length → listed.getD i false = true := by
  intro i
  induction i using Nat.strongRecOn with
  | _ i ih =>
    intro hi
    cases hc : listed.getD i false with
    | true => rfl
    | false =>
      exfalso
      have hm : i ∈ Region.ready .any hd.toArray listed := by
        refine mem_ready.2 ⟨by rw [low_both (by omega)]; exact hc, hd[i], by simp [hi], fun e he hb => ?_⟩
        have := (head_spec hh (List.getElem?_eq_getElem hi)).1 e he hb
        exact ih e.on this (by omega)
      rw [h] at hm
      cases hm
theorem yielded_low (tmps : Array Value) {g : Nat} (hg : g < hd.length) : yielded (hd ++ [o]).toArray tmps g = yielded hd.toArray tmps g := by
  unfold yielded
  rw [get_app hg]
theorem op_tail {x : Oper} {a : Act} {w : World} {K K' : Act → World → Prop} {l : List Oper} (hk : ∀ a w, K a w → K' a w) (h : x.wp P a w K (Tail P l o Q)) : x.wp P a w K' Q := by
  unfold Oper.wp at h ⊢
  generalize (execOp a.eval x).run P w = res at h ⊢
  cases res with
  | ok n w1 =>
    cases n <;> simp only [Oper.upon] at h ⊢ <;> first
      | exact hk _ _ h
      | exact Calls.mono h (fun e w2 he => by
          cases e with
          | returned u => exact hk _ _ he
          | panicked c => exact he
          | outgrown => obtain ⟨b, w3, hb⟩ := he; exact ⟨b, w3, hb⟩)
      | exact Rows.mono h (fun _ _ he => hk _ _ he)
  | halt y w1 => cases y <;> simp only [Oper.upon] at h ⊢; exact h
theorem op_low {i : Nat} {a : Act} {w : World} {K K' : Act → World → Prop} (hh : headB hd = true) (hi : i < hd.length) (hk : ∀ a w, K a w → K' a w) (h : wpOp P hd.toArray (Tail P (hd ++ [o]) o Q) i K a w) : wpOp P (hd ++ [o]).toArray Q i K' a w := by
  have hx : hd.toArray[i]? = some hd[i] := by simp [hi]
  unfold wpOp at h ⊢
  rw [get_app hi, hx]
  rw [hx] at h
  have hw : Region.wanted hd[i] (yielded (hd ++ [o]).toArray a.tmps) = Region.wanted hd[i] (yielded hd.toArray a.tmps) := by
    unfold Region.wanted
    cases hg : hd[i].guard with
    | none => rfl
    | some p =>
      obtain ⟨g, b⟩ := p
      have := (head_spec hh (List.getElem?_eq_getElem hi)).2 g b hg
      simp only
      rw [yielded_low a.tmps (by omega)]
  simp only at h ⊢
  rw [hw]
  split
  · rename_i hc
    rw [if_pos hc] at h
    refine h.imp (op_tail hk) fun h => ⟨h.1, ?_⟩
    obtain ⟨b, w3, hb⟩ := h.2
    exact ⟨b, w3, hb⟩
  · rename_i hc
    rw [if_neg hc] at h
    exact hk _ _ h
theorem ready_done {listed : Array Bool} (hs : listed.size = hd.length) (ha : ∀ i, i < hd.length → listed.getD i false = true) : Region.ready .any (hd ++ [o]).toArray ((listed.push false).setIfInBounds hd.length true) = [] := by
  refine List.eq_nil_iff_forall_not_mem.2 fun j hj => ?_
  obtain ⟨h1, x, hx, _⟩ := mem_ready.1 hj
  have hlt : j < (hd ++ [o]).toArray.size := (Array.getElem?_eq_some_iff.1 hx).1
  have hlt : j < hd.length + 1 := by simpa using hlt
  rw [Array.getD_eq_getD_getElem?, Array.getElem?_setIfInBounds] at h1
  by_cases e : hd.length = j
  · rw [if_pos e, if_pos (by simp only [Array.size_push]; omega)] at h1; cases h1
  · rw [if_neg e, ← Array.getD_eq_getD_getElem?, push_low true (by omega), low_both (by omega), ha j (by omega)] at h1
    cases h1
/-- All others are listed: the last one. -/
theorem tail_step {listed : Array Bool} {a : Act} {w : World} (hl : lastB hd.length o = true) (hs : listed.size = hd.length) (ha : ∀ i, i < hd.length → listed.getD i false = true) (h : wpList P (hd ++ [o]).toArray Q [o] a w) :
    ∀ fuel, wpAny P .any (hd ++ [o]).toArray Q (fuel + 1) (listed.push false) a w := by
  intro fuel
  have hmem : hd.length ∈ Region.ready .any (hd ++ [o]).toArray (listed.push false) := by
    refine mem_ready.2 ⟨by rw [← hs]; exact push_last true, o, get_last, fun e he hb => ?_⟩
    have h1 := (last_spec hl).2 e he hb
    rw [push_low false (by omega)]
    exact ha _ h1
  refine ⟨fun e => (by rw [e] at hmem; cases hmem), fun i hi => ?_⟩
  have hin : i = hd.length := by
    obtain ⟨h1, x, hx, _⟩ := mem_ready.1 hi
    have hlt : i < (hd ++ [o]).toArray.size := (Array.getElem?_eq_some_iff.1 hx).1
    have hlt : i < hd.length + 1 := by simpa using hlt
    by_cases e : i < hd.length
    · rw [push_low true (by omega), low_both (by omega), ha i e] at h1; cases h1
    · omega
  subst hin
  unfold wpOp
  rw [get_last]
  unfold wpList at h
  simp only at h ⊢
  have hk : ∀ a' w', wpList P (hd ++ [o]).toArray Q [] a' w' → wpAny P .any (hd ++ [o]).toArray Q fuel ((listed.push false).setIfInBounds hd.length true) a' w' := fun a' w' hq => by
    have hr := ready_done (o := o) hs ha
    cases fuel with
    | zero => exact ⟨hr, hq⟩
    | succ f => exact ⟨fun _ => hq, by rw [hr]; simp⟩
  split
  · rename_i hc
    rw [if_pos hc] at h
    exact h.imp (Oper.wp_mono hk) id
  · rename_i hc
    rw [if_neg hc] at h
    exact hk _ _ h
theorem any_tail (hh : headB hd = true) (hl : lastB hd.length o = true) : ∀ (fuel : Nat) (listed : Array Bool) (a : Act) (w : World), listed.size = hd.length → wpAny P .any hd.toArray (Tail P (hd ++ [o]) o Q) fuel listed a w → wpAny P .any (hd ++ [o]).toArray Q (fuel + 1) (listed.push false) a w
  | 0, listed, a, w, hs, h => tail_step hl hs (all_listed hh hs h.1) h.2 0
  | fuel + 1, listed, a, w, hs, h => by
    by_cases he : Region.ready .any hd.toArray listed = []
    · exact tail_step hl hs (all_listed hh hs he) (h.1 he) (fuel + 1)
    · obtain ⟨i0, hi0⟩ := List.exists_mem_of_ne_nil _ he
      have h0 := mem_ready.1 hi0
      have hlt0 : i0 < hd.length := by
        obtain ⟨_, x, hx, _⟩ := h0
        have := (Array.getElem?_eq_some_iff.1 hx).1
        simpa using this
      refine ⟨fun e => ?_, fun i hi => ?_⟩
      · have := (mem_low (o := o) hh hs hlt0).2 hi0
        rw [e] at this; cases this
      · have hin : i < hd.length := by
          obtain ⟨_, x, hx, h2⟩ := mem_ready.1 hi
          have hlt : i < (hd ++ [o]).toArray.size := (Array.getElem?_eq_some_iff.1 hx).1
          have hlt : i < hd.length + 1 := by simpa using hlt
          by_cases e : i < hd.length
          · exact e
          · exfalso
            have e2 : i = hd.length := by omega
            subst e2
            rw [get_last] at hx
            simp only [Option.some.injEq] at hx
            subst hx
            obtain ⟨e, he2, hb, hon⟩ := (last_spec hl).1 i0 hlt0
            have h3 := h2 e he2 hb
            rw [hon, push_low false (by omega), ← low_both (by omega), h0.1] at h3
            cases h3
        have hr := (mem_low (o := o) hh hs hin).1 hi
        refine op_low hh hin (fun a' w' hk => ?_) (h.2 i hr)
        have hset : (listed.push false).setIfInBounds i true = (listed.setIfInBounds i true).push false := by
          apply Array.ext_getElem?
          intro j
          rw [Array.getElem?_setIfInBounds, Array.getElem?_push, Array.getElem?_push, Array.getElem?_setIfInBounds, Array.size_push, Array.size_setIfInBounds]
          by_cases e : i = j
          · rw [if_pos e, if_pos (by omega), if_neg (by omega), if_pos e, if_pos (by omega)]
          · rw [if_neg e, if_neg e]
        rw [hset]
        exact any_tail hh hl fuel _ a' w' (by simp [hs]) hk
/-- THE REGION, ITS LAST OPERATION BEHIND THE OTHERS. -/
theorem wp_sink {id : Nat} {a : Act} {w : World} (hm : P.follows .mixedOrders = true) (hh : headB hd = true) (hl : lastB hd.length o = true)
    (h : wpAny P .any hd.toArray (Tail P (hd ++ [o]) o Q) hd.length (Array.replicate hd.length false) a w.drew) : (Code.region id (hd ++ [o]).toArray true).wp P Q a w := by
  refine wp_region_any hm ?_
  have := any_tail hh hl _ _ a _ (by simp) h
  have hr : (Array.replicate hd.length false).push false = Array.replicate (hd ++ [o]).toArray.size false := by
    rw [show (hd ++ [o]).toArray.size = hd.length + 1 by simp, Array.replicate_succ]
  rw [hr] at this
  rw [show (hd ++ [o]).toArray.size = hd.length + 1 by simp] at this ⊢
  exact this
theorem app_last {l : List Oper} (ho : l.getLast? = some o) : l = l.dropLast ++ [o] := by
  have hne : l ≠ [] := fun e => by rw [e] at ho; cases ho
  rw [List.getLast?_eq_some_getLast hne] at ho
  simp only [Option.some.injEq] at ho
  rw [← ho]
  exact (List.dropLast_concat_getLast hne).symm
/-- The same, what the others read held fast by S. -/
theorem wp_sinkH {id : Nat} {a : Act} {w : World} {l : List Oper} (N : Nat) (S : World → Prop) (ho : l.getLast? = some o) (hN : l.dropLast.length = N) (hm : P.follows .mixedOrders = true) (hh : headB l.dropLast = true) (hl : lastB N o = true) (hS : S w.drew)
    (h : S w.drew → wpAnyH P .any l.dropLast.toArray (Tail P l o Q) S N (Array.replicate N false) a w.drew) : (Code.region id l.toArray true).wp P Q a w := by
  subst hN
  have e := app_last ho
  have h2 := wpAny_of_held _ _ _ _ (h hS)
  generalize hd2 : l.dropLast = hd at *
  subst e
  exact wp_sink hm hh hl h2
end
end Go.Proofs.Ytnhgmmjlhhgdoaa.Sink
