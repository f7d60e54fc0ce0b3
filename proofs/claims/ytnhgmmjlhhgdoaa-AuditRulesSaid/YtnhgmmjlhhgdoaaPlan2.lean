/- A region that draws its order, walked by a plan: the laws. (Plan: what leaves the world alone.) No program in sight. -/
import Derived.Test.YtnhgmmjlhhgdoaaPlan
namespace Go.Proofs.Ytnhgmmjlhhgdoaa.Plan
open Go

/-! ### What a list of operations does to the slots that it does not write -/
section
variable {P : Program} {ops : Array Oper}
/-- It ends as it must, in the state a'. -/
def Ends (a' : Act) : Exit → Act → World → Prop := fun e b _ => e = .normal ∧ b = a'
theorem ends_letsOut {a' : Act} : ¬ LetsOut (Ends a') := fun ⟨_, _, h, _⟩ => by cases h
def dsts (l : List Oper) : List Tmp := l.filterMap (·.dst)

theorem put_other (a : Act) (o : Oper) (v : Value) (t : Tmp) (h : o.dst ≠ some t) : (a.put o.dst v).tmps[t]? = a.tmps[t]? := by
  cases hd : o.dst with
  | none => rfl
  | some d => simp only [Act.put]; rw [Array.getElem?_setIfInBounds_ne (fun e => h (by rw [hd, e]))]
theorem put_size (a : Act) (d : Option Tmp) (v : Value) : (a.put d v).tmps.size = a.tmps.size := by
  cases d <;> simp [Act.put]

/-- The slots that are not written hold what they held; there are as many. -/
theorem ends_kept {a' : Act} : ∀ (l : List Oper) (a : Act) (w : World), wpList P ops (Ends a') l a w →
    a'.tmps.size = a.tmps.size ∧ ∀ t, t ∉ dsts l → a'.tmps[t]? = a.tmps[t]?
  | [], a, w, h => by
    obtain ⟨_, rfl⟩ := (h : Ends a' .normal a w)
    exact ⟨rfl, fun _ _ => rfl⟩
  | o :: l, a, w, h => by
    have step : ∀ (b : Act) (u : Value) (w1 : World), b.tmps = a.tmps → wpList P ops (Ends a') l (b.put o.dst u) w1 →
        a'.tmps.size = a.tmps.size ∧ ∀ t, t ∉ dsts (o :: l) → a'.tmps[t]? = a.tmps[t]? := by
      intro b u w1 hb h1
      obtain ⟨h2, h3⟩ := ends_kept l _ _ h1
      refine ⟨by rw [h2, put_size, hb], fun t ht => ?_⟩
      have h4 : t ∉ dsts l ∧ o.dst ≠ some t := by
        unfold dsts at ht ⊢
        rw [List.filterMap_cons] at ht
        cases hd : o.dst with
        | none => rw [hd] at ht; exact ⟨ht, fun e => by cases e⟩
        | some d =>
          rw [hd] at ht
          simp only [List.mem_cons, not_or] at ht
          exact ⟨ht.2, fun e => ht.1 (by injection e with e; exact e.symm)⟩
      rw [h3 t h4.1, put_other b o u t h4.2, hb]
    unfold wpList at h
    split at h
    · rcases h with h | ⟨_, h⟩
      · unfold Oper.wp at h
        generalize (execOp a.eval o).run P w = r at h
        cases r with
        | ok n w1 =>
          cases n <;> simp only [Oper.upon] at h
          case value u => exact step a u w1 rfl h
          case skip => exact step a undef w1 rfl h
          case defer d => exact step { a with defers := d :: a.defers } undef w1 rfl h
          case enter f args =>
            obtain ⟨e, w2, fr, hR, _⟩ := h []
            cases e with
            | returned u => exact step a u w2 rfl hR
            | panicked c => exact absurd hR.1 (by intro e; cases e)
            | outgrown => exact absurd hR ends_letsOut
          case row row args =>
            obtain ⟨u, w2, hR, _⟩ := h default []
            exact step a u w2 rfl hR
        | halt x w1 =>
          cases x <;> simp only [Oper.upon] at h
          case panic u => exact absurd h.1 (by intro e; cases e)
      · exact absurd h ends_letsOut
    · exact step a undef w rfl h

/-- The temporaries at whose values an operation's quietness is asked. -/
def asked (o : Oper) : List Tmp :=
  match o.op with
  | .nilCheck x => (match x with | .tmp t => [t] | _ => [])
  | .binOp _ _ x y _ => (match x with | .tmp t => [t] | _ => []) ++ (match y with | .tmp t => [t] | _ => [])
  | .convert _ _ x => (match x with | .tmp t => [t] | _ => [])
  | .call { callee := .builtin .max, args, .. } => args.toList.filterMap fun x => match x with | .tmp t => some t | _ => none
  | .call { callee := .builtin .min, args, .. } => args.toList.filterMap fun x => match x with | .tmp t => some t | _ => none
  | _ => []

theorem eval_same {a b : Act} {x : Operand} (h : ∀ t, x = .tmp t → a.tmps[t]? = b.tmps[t]?) : a.eval x = b.eval x := by
  cases x with
  | tmp t => simp only [Act.eval, Array.getD_eq_getD_getElem?]; rw [h t rfl]
  | _ => rfl

theorem all_same {f g : Operand → Value} : ∀ {l : List Operand}, (∀ x ∈ l, f x = g x) → (l.all fun x => isInt (f x)) = (l.all fun x => isInt (g x))
  | [], _ => rfl
  | x :: l, h => by
    rw [List.all_cons, List.all_cons, h x List.mem_cons_self, all_same (fun y hy => h y (List.mem_cons_of_mem _ hy))]
theorem quietB_same {o : Oper} {a b : Act} (h : ∀ t ∈ asked o, a.tmps[t]? = b.tmps[t]?) : quietB o a.eval = quietB o b.eval := by
  obtain ⟨dst, op, type, pos, after, guard⟩ := o
  cases op <;> simp only [quietB] <;> simp only [asked] at h
  case nilCheck x => rw [eval_same (a := a) (b := b) (fun t e => h t (by subst e; simp))]
  case binOp op t x y yt =>
    rw [eval_same (a := a) (b := b) (fun t e => h t (by subst e; simp)), eval_same (x := y) (a := a) (b := b) (fun t e => h t (by subst e; simp))]
  case convert s d x => rw [eval_same (a := a) (b := b) (fun t e => h t (by subst e; simp))]
  case call c =>
    obtain ⟨callee, args, argTypes⟩ := c
    cases callee with
    | builtin b' =>
      cases b' <;> first
        | rfl
        | (simp only at h ⊢
           have hh : ∀ x ∈ args.toList, a.eval x = b.eval x := fun x hx => eval_same (fun t e => h t (by subst e; exact List.mem_filterMap.2 ⟨_, hx, rfl⟩))
           exact all_same hh)
    | _ => rfl

/-- An operation of a block: it writes a slot that nothing behind it in the block writes, and nothing in it writes what its quietness is asked at. -/
def soloB (o : Oper) (l : List Oper) : Bool :=
  (match o.dst with | some d => !(dsts l).contains d | none => false) && (asked o).all fun t => !(dsts (o :: l)).contains t
def blockB : List Oper → Bool
  | [] => true
  | o :: l => soloB o l && blockB l
/-- What is asked at the end of a block: each operation was quiet, its slot is there. -/
def skipB (ops : Array Oper) (o : Oper) (l : List Oper) (a' : Act) : Bool :=
  match o.guard with
  | none => false
  | some (g, _) => !Region.wanted o (yielded ops a'.tmps) && (match (ops[g]?).bind (·.dst) with | some t => !(dsts (o :: l)).contains t | none => false)
def restB (ops : Array Oper) : List Oper → Act → Bool
  | [], _ => true
  | o :: l, a' => ((quietB o a'.eval || skipB ops o l a') && (match o.dst with | some d => decide (d < a'.tmps.size) | none => false)) && restB ops l a'
theorem skip_of {ops : Array Oper} {o : Oper} {l : List Oper} {a a' : Act} (hk : ∀ t, t ∉ dsts (o :: l) → a'.tmps[t]? = a.tmps[t]?) (h : skipB ops o l a' = true) : Region.wanted o (yielded ops a.tmps) = false := by
  unfold skipB at h
  split at h
  · cases h
  · rename_i g b hg
    rw [Bool.and_eq_true, Bool.not_eq_true'] at h
    obtain ⟨h1, h2⟩ := h
    unfold Region.wanted at h1 ⊢
    rw [hg] at h1 ⊢
    simp only at h1 ⊢
    split at h2
    · rename_i t ht
      have hn : t ∉ dsts (o :: l) := by simpa using h2
      have : yielded ops a'.tmps g = yielded ops a.tmps g := by
        unfold yielded
        rw [ht]
        simp only [Option.bind_some]
        rw [hk t hn]
      rw [← this]
      exact h1
    · cases h2

theorem block_head {S : World → Prop} {o : Oper} {l : List Oper} {a a' : Act} {w0 : World} (hS0 : S w0) (hb : soloB o l = true)
    (hr : restB ops (o :: l) a' = true) (h : ∀ w, S w → wpList P ops (Ends a') (o :: l) a w) :
    ∃ v, YieldsIf P ops S o v a ∧ ∀ w, S w → wpList P ops (Ends a') l (a.put o.dst v) w := by
  obtain ⟨hsz, hkeep⟩ := ends_kept _ _ _ (h w0 hS0)
  unfold restB at hr
  rw [Bool.and_eq_true, Bool.and_eq_true, Bool.or_eq_true] at hr
  obtain ⟨⟨hq, hd⟩, _⟩ := hr
  unfold soloB at hb
  rw [Bool.and_eq_true] at hb
  obtain ⟨hb1, hb2⟩ := hb
  have hy : Region.wanted o (yielded ops a.tmps) = true → Yields1 (execOp a.eval o) := fun hwan => by
    rcases hq with hq | hq
    · have hq' : quietB o a.eval = true := by
        rw [← hq]
        refine quietB_same (fun t ht => (hkeep t ?_).symm)
        have := List.all_eq_true.1 hb2 t ht
        simpa using this
      exact quiet_op hq'
    · rw [skip_of hkeep hq] at hwan
      cases hwan
  cases hdst : o.dst with
  | none => rw [hdst] at hd; cases hd
  | some d =>
    rw [hdst] at hd hb1
    have hd1 : d < a'.tmps.size := of_decide_eq_true hd
    have hdn : d ∉ dsts l := by simpa using hb1
    have fin : ∀ (u : Value) (w1 : World), wpList P ops (Ends a') l (a.put o.dst u) w1 → a'.tmps[d]? = some u := by
      intro u w1 h1
      rw [(ends_kept _ _ _ h1).2 d hdn, hdst]
      simp only [Act.put]
      rw [Array.getElem?_setIfInBounds_self_of_lt (by rw [← hsz]; exact hd1)]
    have one : ∀ w, S w → if Region.wanted o (yielded ops a.tmps) = true then ∃ u, (execOp a.eval o).run P w = .ok (.value u) w ∧ wpList P ops (Ends a') l (a.put o.dst u) w else wpList P ops (Ends a') l (a.put o.dst undef) w := by
      intro w hw
      have h1 := h w hw
      unfold wpList at h1
      split
      · rename_i hwan
        rw [if_pos hwan] at h1
        rcases h1 with h1 | ⟨_, h1⟩
        · unfold Oper.wp at h1
          generalize hrun : (execOp a.eval o).run P w = r at h1
          cases r with
          | ok n w1 =>
            obtain ⟨hw1, v, rfl⟩ := hy hwan P w w1 n hrun
            subst hw1
            exact ⟨v, rfl, h1⟩
          | halt x w1 =>
            cases x <;> simp only [Oper.upon] at h1
            case panic u => exact absurd h1.1 (by intro e; cases e)
        · exact absurd h1 ends_letsOut
      · rename_i hwan
        rw [if_neg hwan] at h1
        exact h1
    by_cases hwan : Region.wanted o (yielded ops a.tmps) = true
    · obtain ⟨v, hv, hl⟩ := (by simpa [hwan] using one w0 hS0 : ∃ u, (execOp a.eval o).run P w0 = .ok (.value u) w0 ∧ wpList P ops (Ends a') l (a.put o.dst u) w0)
      have e0 := fin v w0 hl
      refine ⟨v, .inl ⟨hwan, fun w hw => ?_⟩, fun w hw => ?_⟩
      all_goals
        obtain ⟨u, hu, hl'⟩ := (by simpa [hwan] using one w hw : ∃ u, (execOp a.eval o).run P w = .ok (.value u) w ∧ wpList P ops (Ends a') l (a.put o.dst u) w)
        have e1 := fin u w hl'
        rw [e0] at e1
        injection e1 with e1
        subst e1
      · exact hu
      · rw [← hdst]; exact hl'
    · refine ⟨undef, .inr ⟨by simpa using hwan, rfl⟩, fun w hw => ?_⟩
      have := one w hw
      rw [if_neg hwan] at this
      rw [← hdst]
      exact this

/-! ### A plan -/
/-- A step of a plan: a block of operations that leave the world alone; one operation that may act. -/
inductive Step where
  | blk (l : List Nat)
  | eff (i : Nat)

def bitsOf (l : List Nat) : Nat := l.foldr (fun t s => 2 ^ t ||| s) 0
theorem bitsOf_test (l : List Nat) (k : Nat) : (bitsOf l).testBit k = true ↔ k ∈ l := by
  induction l with
  | nil => simp [bitsOf]
  | cons x l ih =>
    have : bitsOf (x :: l) = 2 ^ x ||| bitsOf l := rfl
    rw [this, Nat.testBit_or, Bool.or_eq_true, ih, Nat.testBit_two_pow]
    simp [eq_comm]
theorem and_zero {x y k : Nat} (h : (x &&& y == 0) = true) (hx : x.testBit k = true) : y.testBit k = false := by
  have h1 : (x &&& y).testBit k = false := by rw [beq_iff_eq.1 h]; simp
  rw [Nat.testBit_and, hx, Bool.true_and] at h1
  exact h1
theorem and_sub {x y k : Nat} (h : (x &&& y == x) = true) (hx : x.testBit k = true) : y.testBit k = true := by
  have h1 : (x &&& y).testBit k = x.testBit k := by rw [beq_iff_eq.1 h]
  rw [Nat.testBit_and, hx, Bool.true_and] at h1
  exact h1

/-- An operation in numbers: what must come up ahead of it; the slot that it writes; the slots that it looks at. -/
structure Row where
  need : Nat
  dst : Nat
  looks : Nat
def needsOf (o : Oper) : List Nat := (o.after.toList.filter (fun e => Region.binds .any e)).map (·.on)
def rowOf (ops : Array Oper) (o : Oper) : Row := ⟨bitsOf (needsOf o), bitsOf o.dst.toList, bitsOf (o.looksAt ops)⟩
def apartB (x y : Row) : Bool := (x.dst &&& y.looks == 0) && (x.dst &&& y.dst == 0) && (y.dst &&& x.looks == 0)
theorem apart_of {ops : Array Oper} {x y : Oper} (h : apartB (rowOf ops x) (rowOf ops y) = true) : x.apart ops y = true := by
  unfold apartB rowOf at h
  simp only [Bool.and_eq_true] at h
  obtain ⟨⟨h1, h2⟩, h3⟩ := h
  unfold Oper.apart
  rw [Bool.and_eq_true]
  constructor
  · cases hx : x.dst with
    | none => rfl
    | some d =>
      have hb : (bitsOf x.dst.toList).testBit d = true := (bitsOf_test _ _).2 (by rw [hx]; simp)
      have e1 := and_zero h1 hb
      have e2 := and_zero h2 hb
      simp only [Bool.and_eq_true, Bool.not_eq_true', bne_iff_ne, ne_eq]
      refine ⟨?_, fun e => ?_⟩
      · rw [← Bool.not_eq_true, List.contains_iff_mem]
        intro hm
        rw [(bitsOf_test _ _).2 hm] at e1
        cases e1
      · have := (bitsOf_test y.dst.toList d).2 (by rw [e]; simp)
        rw [this] at e2
        cases e2
  · cases hy : y.dst with
    | none => rfl
    | some d =>
      have hb : (bitsOf y.dst.toList).testBit d = true := (bitsOf_test _ _).2 (by rw [hy]; simp)
      have e1 := and_zero h3 hb
      simp only [Bool.not_eq_true']
      rw [← Bool.not_eq_true, List.contains_iff_mem]
      intro hm
      rw [(bitsOf_test _ _).2 hm] at e1
      cases e1

def rowsOf (l : List Oper) : List Row := l.map (rowOf l.toArray)
def allFrom (f : Row → Nat → Bool) : List Row → Nat → Bool
  | [], _ => true
  | r :: rs, j => f r j && allFrom f rs (j + 1)
theorem allFrom_spec {f : Row → Nat → Bool} : ∀ (rs : List Row) (k : Nat), allFrom f rs k = true → ∀ j r, rs[j]? = some r → f r (k + j) = true
  | [], _, _, j, r, h => by simp at h
  | q :: rs, k, h, j, r, hj => by
    unfold allFrom at h
    rw [Bool.and_eq_true] at h
    cases j with
    | zero => simp at hj; subst hj; exact h.1
    | succ j =>
      simp at hj
      have := allFrom_spec rs (k + 1) h.2 j r hj
      rw [show k + (j + 1) = k + 1 + j from by omega]
      exact this
/-- May number i be taken first, with what m says already up? -/
def floatB (rows : List Row) (m i : Nat) : Bool :=
  match rows[i]? with
  | none => false
  | some r => !m.testBit i && (r.need &&& m == r.need) && allFrom (fun q j => j == i || m.testBit j || q.need.testBit i || apartB r q) rows 0
/-- Is number i the only one that may come up? -/
def loneB (rows : List Row) (m i : Nat) : Bool :=
  match rows[i]? with
  | none => false
  | some r => !m.testBit i && (r.need &&& m == r.need) && allFrom (fun q j => j == i || m.testBit j || !(q.need &&& m == q.need)) rows 0
def floats (rows : List Row) : List Nat → Nat → Option Nat
  | [], m => some m
  | i :: l, m => if floatB rows m i then floats rows l (m ||| 2 ^ i) else none
def planB (rows : List Row) : List Step → Nat → Bool
  | [], m => allFrom (fun _ j => m.testBit j) rows 0
  | .blk l :: r, m => match floats rows l m with
    | some m' => planB rows r m'
    | none => false
  | .eff i :: r, m => loneB rows m i && planB rows r (m ||| 2 ^ i)
def pick (lst : List Oper) (l : List Nat) : List Oper := l.map fun i => lst.getD i default
def stepsN : List Step → Nat
  | [] => 0
  | .blk l :: r => l.length + stepsN r
  | .eff _ :: r => 1 + stepsN r
def blocksB (lst : List Oper) : List Step → Bool
  | [] => true
  | .blk l :: r => blockB (pick lst l) && blocksB lst r
  | .eff _ :: r => blocksB lst r
/-- The whole check of a plan, by numbers. -/
def planOk (lst : List Oper) (plan : List Step) : Bool :=
  Region.noSelect lst.toArray && planB (rowsOf lst) plan 0 && blocksB lst plan && decide (stepsN plan ≤ lst.length)

/-- The walk of a plan: a block is walked in whatever world meets S, from the state at hand to one state; an operation that may act is walked in the world at hand, and S is shown behind it. -/
def wpPlan (P : Program) (lst : List Oper) (S : World → Prop) (Q : Exit → Act → World → Prop) : List Step → Act → World → Prop
  | [], a, w => Q .normal a w
  | .blk l :: r, a, w => ∃ a', (∀ w', S w' → wpList P lst.toArray (Ends a') (pick lst l) a w') ∧ restB lst.toArray (pick lst l) a' = true ∧ wpPlan P lst S Q r a' w
  | .eff i :: r, a, w => wpList P lst.toArray (fun e b w' => match e with
      | .normal => S w' ∧ wpPlan P lst S Q r b w'
      | e => Q e b w') (pick lst [i]) a w

section
variable {P : Program} {lst : List Oper} {S : World → Prop} {Q : Exit → Act → World → Prop}
/-- What has come up: an array of Bools, a number. -/
def Rel (listed : Array Bool) (m : Nat) (n : Nat) : Prop := listed.size = n ∧ ∀ j, m.testBit j = listed.getD j false
theorem Rel.set {listed : Array Bool} {m n i : Nat} (h : Rel listed m n) (hi : i < n) : Rel (listed.setIfInBounds i true) (m ||| 2 ^ i) n := by
  obtain ⟨h1, h2⟩ := h
  refine ⟨by simp [h1], fun j => ?_⟩
  rw [Nat.testBit_or, h2, Nat.testBit_two_pow]
  by_cases hij : i = j
  · subst hij
    simp only [decide_true, Bool.or_true]
    rw [Array.getD_eq_getD_getElem?, Array.getElem?_setIfInBounds_self_of_lt (by omega)]
    rfl
  · rw [getD_set_ne false hij]
    simp [hij]
theorem Rel.no {listed : Array Bool} {m n i : Nat} (h : Rel listed m n) (hi : i < n) : listed.getD i true = m.testBit i := by
  rw [h.2 i, Array.getD_eq_getD_getElem?, Array.getD_eq_getD_getElem?, Array.getElem?_eq_getElem (by rw [h.1]; exact hi)]
  rfl
theorem row_at {j : Nat} {o : Oper} (h : lst[j]? = some o) : (rowsOf lst)[j]? = some (rowOf lst.toArray o) := by
  unfold rowsOf
  rw [List.getElem?_map, h]
  rfl
theorem row_back {j : Nat} {r : Row} (h : (rowsOf lst)[j]? = some r) : ∃ o, lst[j]? = some o ∧ r = rowOf lst.toArray o := by
  unfold rowsOf at h
  rw [List.getElem?_map] at h
  cases ho : lst[j]? with
  | none => rw [ho] at h; cases h
  | some o => rw [ho] at h; injection h with h; exact ⟨o, rfl, h.symm⟩
theorem need_mem {o : Oper} {e : Edge} (he : e ∈ o.after) (hb : Region.binds .any e = true) : e.on ∈ needsOf o := by
  unfold needsOf
  exact List.mem_map.2 ⟨e, List.mem_filter.2 ⟨by simpa using he, hb⟩, rfl⟩
theorem ready_of {listed : Array Bool} {m i : Nat} {o : Oper} (hR : Rel listed m lst.length) (hi : lst[i]? = some o) (hm : m.testBit i = false)
    (hn : (bitsOf (needsOf o) &&& m == bitsOf (needsOf o)) = true) : i ∈ Region.ready .any lst.toArray listed := by
  have hlt : i < lst.length := (List.getElem?_eq_some_iff.1 hi).1
  refine mem_ready.2 ⟨by rw [hR.no hlt, hm], o, by simpa using hi, fun e he hb => ?_⟩
  rw [← hR.2]
  exact and_sub hn ((bitsOf_test _ _).2 (need_mem he hb))
theorem ready_back {listed : Array Bool} {m j : Nat} (hR : Rel listed m lst.length) (h : j ∈ Region.ready .any lst.toArray listed) :
    ∃ o, lst[j]? = some o ∧ m.testBit j = false ∧ (bitsOf (needsOf o) &&& m == bitsOf (needsOf o)) = true := by
  obtain ⟨h0, o, ho, hall⟩ := mem_ready.1 h
  have ho' : lst[j]? = some o := by simpa using ho
  have hlt : j < lst.length := (List.getElem?_eq_some_iff.1 ho').1
  refine ⟨o, ho', by rw [← hR.no hlt]; exact h0, ?_⟩
  rw [beq_iff_eq]
  refine Nat.eq_of_testBit_eq fun k => ?_
  rw [Nat.testBit_and]
  cases hk : (bitsOf (needsOf o)).testBit k with
  | false => rfl
  | true =>
    rw [Bool.true_and]
    have := (bitsOf_test _ _).1 hk
    unfold needsOf at this
    obtain ⟨e, he, rfl⟩ := List.mem_map.1 this
    obtain ⟨he, hb⟩ := List.mem_filter.1 he
    rw [hR.2]
    exact hall e (by simpa using he) hb
theorem pick_cons (i : Nat) (l : List Nat) (o : Oper) (h : lst[i]? = some o) : pick lst (i :: l) = o :: pick lst l := by
  unfold pick
  rw [List.map_cons, List.getD_eq_getElem?_getD, h]
  rfl

theorem plan_sound (hsel : Region.noSelect lst.toArray = true) (hQ : ∀ c a d v w, Q (.panic c) (Act.put a d v) w → Q (.panic c) a w) :
    ∀ (plan : List Step) (listed : Array Bool) (m fuel : Nat) (a : Act) (w : World), Rel listed m lst.length → planB (rowsOf lst) plan m = true → blocksB lst plan = true →
      stepsN plan ≤ fuel → S w → wpPlan P lst S Q plan a w → wpAnyH P .any lst.toArray Q S fuel listed a w
  | [], listed, m, fuel, a, w, hR, hp, _, _, _, h => by
    refine wpAnyH_done (List.eq_nil_iff_forall_not_mem.2 fun j hj => ?_) h fuel
    obtain ⟨o, ho, hm, _⟩ := ready_back hR hj
    have := allFrom_spec _ _ hp j _ (row_at ho)
    rw [Nat.zero_add, hm] at this
    cases this
  | .eff i :: r, listed, m, fuel, a, w, hR, hp, hbl, hf, hS, h => by
    obtain ⟨fuel, rfl⟩ : ∃ f, fuel = f + 1 := ⟨fuel - 1, by simp only [stepsN] at hf; omega⟩
    unfold planB at hp
    rw [Bool.and_eq_true] at hp
    obtain ⟨hl, hp⟩ := hp
    unfold loneB at hl
    split at hl
    · cases hl
    · rename_i row hrow
      obtain ⟨o, ho, rfl⟩ := row_back hrow
      simp only [Bool.and_eq_true, Bool.not_eq_true'] at hl
      obtain ⟨⟨hm, hn⟩, hall⟩ := hl
      have hi := ready_of hR ho hm hn
      have hlt : i < lst.length := (List.getElem?_eq_some_iff.1 ho).1
      refine ⟨fun e => (by rw [e] at hi; cases hi), fun j hj => ?_⟩
      have hji : j = i := by
        obtain ⟨q, hq, hqm, hqn⟩ := ready_back hR hj
        have := allFrom_spec _ _ hall j _ (row_at hq)
        rw [Nat.zero_add] at this
        simp only [Bool.or_eq_true, beq_iff_eq, Bool.not_eq_true'] at this
        rcases this with (h1 | h1) | h1
        · exact h1
        · rw [hqm] at h1; cases h1
        · have : (rowOf lst.toArray q).need = bitsOf (needsOf q) := rfl
          rw [this, hqn] at h1
          cases h1
      subst hji
      have hnext : ∀ b w', S w' ∧ wpPlan P lst S Q r b w' → S w' ∧ wpAnyH P .any lst.toArray Q S fuel (listed.setIfInBounds j true) b w' := fun b w' hh =>
        ⟨hh.1, plan_sound hsel hQ r _ _ fuel b w' (hR.set hlt) hp (by unfold blocksB at hbl; exact hbl) (by simp only [stepsN] at hf; omega) hh.1 hh.2⟩
      unfold wpPlan at h
      rw [pick_cons j [] o ho] at h
      have hpk : pick lst [] = [] := rfl
      rw [hpk] at h
      unfold wpList at h
      unfold wpOp
      simp only [show lst.toArray[j]? = some o by simpa using ho]
      split
      · rename_i hw
        rw [if_pos hw] at h
        refine h.imp (fun h => ?_) (fun h => ⟨h.1, ?_⟩)
        · unfold Oper.wp at h ⊢
          generalize (execOp a.eval o).run P w = res at h ⊢
          cases res with
          | ok n w1 =>
            cases n <;> simp only [Oper.upon] at h ⊢ <;> first
              | exact hnext _ _ h
              | exact Calls.mono h (fun e w2 he => by
                  cases e with
                  | returned u => exact hnext _ _ he
                  | panicked c => exact he
                  | outgrown => obtain ⟨b, w3, hb⟩ := he; exact ⟨b, w3, hb⟩)
              | exact Rows.mono h (fun _ _ he => hnext _ _ he)
          | halt x w1 => cases x <;> simp only [Oper.upon] at h ⊢; exact h
        · obtain ⟨b, w3, hb⟩ := h.2
          exact ⟨b, w3, hb⟩
      · rename_i hw
        rw [if_neg hw] at h
        exact hnext _ _ h
  | .blk l :: r, listed, m, fuel, a, w, hR, hp, hbl, hf, hS, h => by
    unfold wpPlan at h
    obtain ⟨a', h1, h2, h3⟩ := h
    unfold planB at hp
    unfold blocksB at hbl
    rw [Bool.and_eq_true] at hbl
    obtain ⟨hb, hbl⟩ := hbl
    simp only [stepsN] at hf
    cases hfl : floats (rowsOf lst) l m with
    | none => rw [hfl] at hp; cases hp
    | some m' =>
      rw [hfl] at hp
      simp only at hp
      have hr := fun (listed' : Array Bool) (f : Nat) (hR' : Rel listed' m' lst.length) (hf' : stepsN r ≤ f) => plan_sound hsel hQ r listed' m' f a' w hR' hp hbl hf' hS h3
      clear hp h3 hbl
      -- inner induction over the block
      induction l generalizing listed m fuel a with
      | nil =>
        unfold floats at hfl
        injection hfl with hfl
        subst hfl
        obtain ⟨_, rfl⟩ := (h1 w hS : Ends a' .normal a w)
        exact hr listed fuel hR (by simpa using hf)
      | cons i l ih =>
        obtain ⟨fuel, rfl⟩ : ∃ f, fuel = f + 1 := ⟨fuel - 1, by simp only [List.length_cons] at hf; omega⟩
        unfold floats at hfl
        split at hfl
        · rename_i hfb
          unfold floatB at hfb
          split at hfb
          · cases hfb
          · rename_i row hrow
            obtain ⟨o, ho, rfl⟩ := row_back hrow
            simp only [Bool.and_eq_true, Bool.not_eq_true'] at hfb
            obtain ⟨⟨hm, hn⟩, hall⟩ := hfb
            have hi := ready_of hR ho hm hn
            have hlt : i < lst.length := (List.getElem?_eq_some_iff.1 ho).1
            rw [pick_cons i l o ho] at h1 h2 hb
            unfold blockB at hb
            rw [Bool.and_eq_true] at hb
            obtain ⟨v, hy, hl⟩ := block_head hS hb.1 h2 h1
            have h2' : restB lst.toArray (pick lst l) a' = true := by
              unfold restB at h2
              rw [Bool.and_eq_true] at h2
              exact h2.2
            refine wpAnyH_first (by simpa using ho) (Region.noSelect_spec hsel) (fun c a w hh => hQ c a o.dst v w hh) fuel listed a w ?_ hi hy hS ?_
            · intro j oj hj hji hun hno
              have hj' : lst[j]? = some oj := by simpa using hj
              have hjlt : j < lst.length := (List.getElem?_eq_some_iff.1 hj').1
              have := allFrom_spec _ _ hall j _ (row_at hj')
              rw [Nat.zero_add] at this
              simp only [Bool.or_eq_true, beq_iff_eq] at this
              rcases this with ((h5 | h5) | h5) | h5
              · exact absurd h5 hji
              · rw [← hR.no hjlt, hun] at h5; cases h5
              · have h6 := (bitsOf_test _ _).1 h5
                unfold needsOf at h6
                obtain ⟨e, he, hei⟩ := List.mem_map.1 h6
                obtain ⟨he, hbd⟩ := List.mem_filter.1 he
                exact absurd hei (hno e (by simpa using he) hbd)
              · exact apart_of h5
            · exact ih (listed.setIfInBounds i true) (m ||| 2 ^ i) fuel (a.put o.dst v) (hR.set hlt) (by simp only [List.length_cons] at hf; omega) hl h2' hb.2 hfl
        · cases hfl

/-- THE REGION BY A PLAN. -/
theorem wp_plan {id : Nat} {a : Act} {w : World} (plan : List Step) (S : World → Prop) (hm : P.follows .mixedOrders = true) (hok : planOk lst plan = true)
    (hQ : ∀ c a d v w, Q (.panic c) (Act.put a d v) w → Q (.panic c) a w) (hS : S w.drew) (h : S w.drew → wpPlan P lst S Q plan a w.drew) : (Code.region id lst.toArray true).wp P Q a w := by
  unfold planOk at hok
  simp only [Bool.and_eq_true] at hok
  obtain ⟨⟨⟨h1, h2⟩, h3⟩, h4⟩ := hok
  refine wp_region_held (S := S) hm ?_
  refine plan_sound h1 hQ plan _ 0 _ a _ ⟨by simp, fun j => ?_⟩ h2 h3 (by simpa using of_decide_eq_true h4) hS (h hS)
  rw [Nat.zero_testBit, Array.getD_eq_getD_getElem?]
  cases hq : (Array.replicate lst.toArray.size false)[j]? with
  | none => rfl
  | some b =>
    have hb := Array.getElem?_eq_some_iff.1 hq
    obtain ⟨_, hb⟩ := hb
    simp at hb
    rw [hb]
    rfl
end
end
end Go.Proofs.Ytnhgmmjlhhgdoaa.Plan
