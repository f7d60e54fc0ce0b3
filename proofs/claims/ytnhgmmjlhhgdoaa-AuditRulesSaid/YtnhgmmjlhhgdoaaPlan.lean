/- A region that draws its order, walked in one order: a plan (blocks of operations that leave the world alone, and single operations that may act) is checked once, by numbers; what is read must be the same in every world that meets a condition S, which each acting operation keeps. No program in sight. -/
import Derived.OrdersHeld
import Derived.Tactics
import Derived.RowKit
namespace Go.Proofs.Ytnhgmmjlhhgdoaa.Plan
open Go

section Quiet
/-- A reckoning that, where it comes to an end, has left the world as it was. -/
def Quiet {α : Type} (m : Sem α) : Prop := ∀ (P : Program) (w w1 : World) (n : α), m.run P w = .ok n w1 → w1 = w
/-- A reckoning that never comes to an end of its own. -/
def Dead {α : Type} (m : Sem α) : Prop := ∀ (P : Program) (w w1 : World) (n : α), m.run P w ≠ .ok n w1

theorem run_bind_ok {α β : Type} {P : Program} {m : Sem α} {f : α → Sem β} {w w1 : World} {n : β} (h : (m >>= f).run P w = .ok n w1) :
    ∃ a w', m.run P w = .ok a w' ∧ (f a).run P w' = .ok n w1 := by
  rw [Sem.run_bind] at h
  cases hm : m.run P w with
  | ok a w' => rw [hm] at h; exact ⟨a, w', rfl, h⟩
  | halt x w' => rw [hm] at h; cases h

theorem Dead.quiet {α : Type} {m : Sem α} (h : Dead m) : Quiet m := fun P w w1 n e => absurd e (h P w w1 n)
theorem Quiet.bind {α β : Type} {m : Sem α} {f : α → Sem β} (h : Quiet m) (hf : ∀ a, Quiet (f a)) : Quiet (m >>= f) := fun P w w1 n e => by
  obtain ⟨a, w', h1, h2⟩ := run_bind_ok e
  have := h P w w' a h1
  subst this
  exact hf a P w' w1 n h2
theorem Dead.bind {α β : Type} {m : Sem α} {f : α → Sem β} (h : Dead m) : Dead (m >>= f) := fun P w w1 n e => by
  obtain ⟨a, w', h1, _⟩ := run_bind_ok e
  exact h P w w' a h1
theorem Dead.bind_right {α β : Type} {m : Sem α} {f : α → Sem β} (hf : ∀ a, Dead (f a)) : Dead (m >>= f) := fun P w w1 n e => by
  obtain ⟨a, w', _, h2⟩ := run_bind_ok e
  exact hf a P w' w1 n h2
theorem Quiet.pure {α : Type} (a : α) : Quiet (Pure.pure a : Sem α) := fun P w w1 n e => by
  rw [Sem.run_pure] at e
  injection e with _ e
  exact e.symm
theorem Dead.halt {α : Type} (h : Halt) : Dead (.halt h : Sem α) := fun P w w1 n e => by simp only [Sem.run] at e; cases e
theorem Dead.stuck {α : Type} (s : String) : Dead (Go.stuck s : Sem α) := Dead.halt _
theorem Quiet.stuck {α : Type} (s : String) : Quiet (Go.stuck s : Sem α) := (Dead.stuck s).quiet
theorem Quiet.ite {α : Type} {c : Prop} [Decidable c] {a b : Sem α} (h : Quiet a) (k : Quiet b) : Quiet (if c then a else b) := by split <;> assumption
theorem Dead.ite {α : Type} {c : Prop} [Decidable c] {a b : Sem α} (h : Dead a) (k : Dead b) : Dead (if c then a else b) := by split <;> assumption
theorem quiet_program : Quiet Go.program := fun P w w1 n e => by
  simp only [Go.program, Sem.run] at e
  injection e with _ e
  exact e.symm
theorem quiet_load (a : Addr) : Quiet (Go.load a) := fun P w w1 n e => by
  simp only [Go.load, Sem.run] at e
  split at e
  · injection e with _ e; exact e.symm
  · split at e
    · injection e with _ e; exact e.symm
    · cases e
theorem quiet_shape (r : Nat) : Quiet (Go.shape r) := fun P w w1 n e => by
  simp only [Go.shape, Sem.run] at e
  injection e with _ e
  exact e.symm
theorem quiet_getObj (r : Nat) : Quiet (Go.getObj r) := fun P w w1 n e => by
  simp only [Go.getObj, Sem.run] at e
  split at e
  · cases e
  · injection e with _ e; exact e.symm
  · cases e
theorem dead_bounds {α : Type} (x y : Int) (s : Bool) (c : BoundsCode) : Dead (Go.runtimePanic (.bounds x y s c) : Sem α) := by
  unfold Go.runtimePanic
  exact Dead.bind_right fun p => Dead.halt _
theorem dead_error {α : Type} (m : String) : Dead (Go.runtimePanic (.error m) : Sem α) := by
  unfold Go.runtimePanic
  exact Dead.bind_right fun p => Dead.halt _
theorem dead_nil {α : Type} : Dead (Go.runtimePanic .nilDeref : Sem α) := by
  unfold Go.runtimePanic
  exact Dead.bind_right fun p => Dead.halt _
theorem dead_boundsPanic {α : Type} (k : IntKind) (x y : Int) (c : BoundsCode) : Dead (Go.boundsPanic k x y c : Sem α) := by
  unfold Go.boundsPanic
  dsimp only
  split <;> exact Dead.bind_right fun s => dead_bounds _ _ _ _
theorem quiet_typeInfo (t : TypeId) : Quiet (Go.typeInfo t) := by
  unfold Go.typeInfo
  refine Quiet.bind quiet_program fun p => ?_
  split <;> first | exact Quiet.pure _ | exact Quiet.stuck _
theorem quiet_underlying (t : TypeId) : Quiet (Go.underlying t) := by
  unfold Go.underlying
  refine Quiet.bind quiet_program fun p => ?_
  split <;> first | exact Quiet.pure _ | exact Quiet.stuck _
theorem quiet_sizeOf (t : TypeId) : Quiet (Go.sizeOf t) := Quiet.bind (quiet_typeInfo t) fun _ => Quiet.pure _
theorem quiet_isAgg (t : TypeId) : Quiet (Go.isAgg t) := by
  unfold Go.isAgg
  refine Quiet.bind (quiet_underlying t) fun p => ?_
  split <;> exact Quiet.pure _
theorem quiet_loadCellsFrom (a : Addr) : ∀ (n i : Nat) (acc : Array Value), Quiet (Go.loadCellsFrom a i n acc)
  | 0, _, _ => Quiet.pure _
  | n + 1, i, acc => by
    unfold Go.loadCellsFrom
    exact Quiet.bind (quiet_load _) fun v => quiet_loadCellsFrom a n _ _
theorem quiet_loadVar (t : TypeId) (a : Addr) : Quiet (Go.loadVar t a) := by
  unfold Go.loadVar
  refine Quiet.bind (quiet_isAgg t) fun b => ?_
  cases b
  · exact quiet_load a
  · exact Quiet.bind (quiet_sizeOf t) fun n => Quiet.bind (quiet_loadCellsFrom a _ _ _) fun _ => Quiet.pure _
theorem quiet_sureAddr (v : Value) : Quiet (Go.Instr.sureAddr v) := by
  unfold Go.Instr.sureAddr
  split <;> first | exact Quiet.pure _ | exact Quiet.stuck _
theorem quiet_byteOf (a : Addr) : Quiet (Go.byteOf a) := by
  unfold Go.byteOf Go.noView Go.viewAt
  repeat (first | exact quiet_getObj _ | dsimp only | exact Quiet.pure _ | exact Quiet.stuck _ | exact quiet_program | exact quiet_shape _ | exact quiet_typeInfo _ | exact (Dead.halt _).quiet | refine Quiet.bind ?_ (fun _ => ?_) | split)
theorem quiet_fieldPlace (a : Addr) (f : Field) : Quiet (Go.fieldPlace a f) := by
  unfold Go.fieldPlace
  refine Quiet.bind (quiet_sizeOf _) fun n => Quiet.ite ?_ (Quiet.pure _)
  unfold Go.partAt
  refine Quiet.bind (quiet_byteOf _) fun n => Quiet.bind (quiet_byteOf _) fun _ => Quiet.pure _
theorem quiet_fieldAt (s : TypeId) (v : Value) (f : Nat) : Quiet (Go.Instr.fieldAt s v f) := by
  unfold Go.Instr.fieldAt
  refine Quiet.bind (quiet_underlying _) fun d => ?_
  split
  · split
    · exact Quiet.bind (quiet_sureAddr _) fun a => Quiet.bind (quiet_fieldPlace _ _) fun _ => Quiet.pure _
    · exact Quiet.stuck _
  · exact Quiet.stuck _
theorem quiet_asIntOf (v : Value) : Quiet (Go.asIntOf v) := by
  unfold Go.asIntOf
  split <;> first | exact Quiet.pure _ | exact Quiet.stuck _ | exact (Dead.halt _).quiet
theorem quiet_asBool (v : Value) : Quiet (Go.asBool v) := by
  unfold Go.asBool
  split <;> first | exact Quiet.pure _ | exact Quiet.stuck _ | exact (Dead.halt _).quiet
theorem quiet_asAgg (v : Value) : Quiet (Go.asAgg v) := by
  unfold Go.asAgg
  split <;> first | exact Quiet.pure _ | exact Quiet.stuck _ | exact (Dead.halt _).quiet
theorem quiet_part (t : TypeId) (cs : Array Value) (o : Nat) : Quiet (Go.part t cs o) := by
  unfold Go.part
  refine Quiet.bind (quiet_isAgg _) fun b => ?_
  cases b
  · show Quiet (match cs[o]? with | some v => Pure.pure v | none => Go.stuck _)
    split
    · exact Quiet.pure _
    · exact Quiet.stuck _
  · exact Quiet.bind (quiet_sizeOf t) fun n => Quiet.pure _
theorem quiet_indexAt (t : TypeId) (x ix : Value) : Quiet (Go.Instr.indexAt t x ix) := by
  unfold Go.Instr.indexAt
  refine Quiet.bind (quiet_asIntOf _) fun ki => ?_
  obtain ⟨k, i⟩ := ki
  refine Quiet.bind (quiet_underlying _) fun d => ?_
  dsimp only
  split
  all_goals repeat (first | exact Quiet.pure _ | exact Quiet.stuck _ | exact quiet_sureAddr _ | exact quiet_underlying _ | exact quiet_sizeOf _ | exact (Dead.halt _).quiet | exact (dead_boundsPanic _ _ _ _).quiet | refine Quiet.bind ?_ (fun _ => ?_) | refine Quiet.ite ?_ ?_ | split | dsimp only)
theorem quiet_index (t : TypeId) (x ix : Value) : Quiet (Go.Instr.index t x ix) := by
  unfold Go.Instr.index
  refine Quiet.bind (quiet_asIntOf _) fun ki => ?_
  obtain ⟨k, i⟩ := ki
  refine Quiet.bind (quiet_underlying _) fun d => ?_
  split
  · exact Quiet.ite (Quiet.bind (quiet_sizeOf _) fun _ => quiet_part _ _ _) (dead_boundsPanic _ _ _ _).quiet
  · split
    · exact Quiet.pure _
    · exact (dead_boundsPanic _ _ _ _).quiet
  · exact Quiet.stuck _
theorem quiet_field (t : TypeId) (x : Value) (f : Nat) : Quiet (Go.Instr.field t x f) := by
  unfold Go.Instr.field
  refine Quiet.bind (quiet_underlying _) fun d => ?_
  split
  · split
    · exact Quiet.bind (quiet_asAgg _) fun _ => quiet_part _ _ _
    · exact Quiet.stuck _
  · exact Quiet.stuck _
theorem quiet_extract (x : Value) (i : Nat) : Quiet (Go.Instr.extract x i) := by
  unfold Go.Instr.extract
  split
  · split
    · exact Quiet.pure _
    · exact Quiet.stuck _
  · exact Quiet.stuck _
theorem quiet_intArith (op : BinOp) (k : IntKind) (x y : Int) : Quiet (Go.Op.intArith op k x y) := by
  unfold Go.Op.intArith
  split <;> first | exact Quiet.pure _ | exact Quiet.stuck _
theorem quiet_intDiv (op : BinOp) (k : IntKind) (x y : Int) : Quiet (Go.Op.intDiv op k x y) := by
  unfold Go.Op.intDiv
  split
  · exact (dead_error _).quiet
  · split <;> first | exact Quiet.pure _ | exact Quiet.stuck _
theorem quiet_intCmp (op : BinOp) (x y : Int) : Quiet (Go.Op.intCmp op x y) := by
  unfold Go.Op.intCmp
  split <;> first | exact Quiet.pure _ | exact Quiet.stuck _
theorem quiet_intBits (op : BinOp) (k : IntKind) (x y : Int) : Quiet (Go.Op.intBits op k x y) := by
  unfold Go.Op.intBits
  split <;> first | exact Quiet.pure _ | exact Quiet.stuck _
theorem quiet_shift (op : BinOp) (k : IntKind) (x : Int) (yk : IntKind) (y : Int) : Quiet (Go.Op.shift op k x yk y) := by
  unfold Go.Op.shift
  split
  · exact (dead_error _).quiet
  · dsimp only
    split <;> first | exact Quiet.pure _ | exact Quiet.stuck _
theorem quiet_unary (op : UnOp) (x : Value) : Quiet (Go.Op.unary op x) := by
  unfold Go.Op.unary
  split <;> first | exact Quiet.pure _ | exact Quiet.stuck _ | exact quiet_intArith _ _ _ _ | exact quiet_intBits _ _ _ _ | exact (Dead.halt _).quiet

/-- Two operands whose comparison or sum reads no memory and draws nothing. -/
def plain2 : Value → Value → Bool
  | .int _ _, .int _ _ => true
  | .bool _, .bool _ => true
  | .pointer _, .pointer none => true
  | .slice _ _ _, .slice none _ _ => true
  | .map _, .map none => true
  | _, _ => false
theorem quiet_equal {x y : Value} (h : plain2 x y = true) (t : TypeId) : Quiet (Go.Op.equal t x y) := by
  unfold Go.Op.equal
  show Quiet (Go.Op.equalIn (9999 + 1) t x y)
  unfold Go.Op.equalIn
  refine Quiet.bind (quiet_underlying _) fun d => ?_
  cases x <;> cases y <;> simp only [plain2, Bool.false_eq_true] at h
  case int.int => cases d <;> first | exact Quiet.stuck _ | (dsimp only; exact Quiet.ite (Quiet.pure _) (Quiet.stuck _))
  case bool.bool => cases d <;> first | exact Quiet.stuck _ | exact Quiet.pure _
  case pointer.pointer a b =>
    cases b with
    | some b => simp at h
    | none => cases d <;> cases a <;> first | exact Quiet.stuck _ | exact Quiet.pure _ | exact (Dead.halt _).quiet
  case slice.slice a _ _ b _ _ =>
    cases b with
    | some b => simp at h
    | none => cases d <;> cases a <;> first | exact Quiet.stuck _ | exact Quiet.pure _
  case map.map a b =>
    cases b with
    | some b => simp at h
    | none => cases d <;> cases a <;> first | exact Quiet.stuck _ | exact Quiet.pure _

theorem quiet_binOp {x y : Value} (h : plain2 x y = true) (op : BinOp) (t : TypeId) : Quiet (Go.binOp op t x y) := by
  cases x <;> cases y <;> simp only [plain2, Bool.false_eq_true] at h
  case int.int k a k' b =>
    cases op <;> simp only [Go.binOp] <;> first
      | exact quiet_shift _ _ _ _ _
      | (refine Quiet.ite (Quiet.stuck _) ?_; first | exact quiet_intArith _ _ _ _ | exact quiet_intDiv _ _ _ _ | exact quiet_intBits _ _ _ _ | exact quiet_intCmp _ _ _)
  case bool.bool a b =>
    cases op <;> simp only [Go.binOp] <;> first | exact Quiet.stuck _ | exact Quiet.bind (quiet_equal (by rfl) t) fun _ => Quiet.pure _
  case pointer.pointer a b =>
    cases b with
    | some b => simp at h
    | none => cases op <;> simp only [Go.binOp] <;> first | exact Quiet.stuck _ | exact (Dead.halt _).quiet | exact Quiet.bind (quiet_equal (by rfl) t) fun _ => Quiet.pure _
  case slice.slice a _ _ b _ _ =>
    cases b with
    | some b => simp at h
    | none => cases op <;> simp only [Go.binOp] <;> first | exact Quiet.stuck _ | exact (Dead.halt _).quiet | exact Quiet.bind (quiet_equal (by rfl) t) fun _ => Quiet.pure _
  case map.map a b =>
    cases b with
    | some b => simp at h
    | none => cases op <;> simp only [Go.binOp] <;> first | exact Quiet.stuck _ | exact (Dead.halt _).quiet | exact Quiet.bind (quiet_equal (by rfl) t) fun _ => Quiet.pure _
theorem quiet_eqGuard {a b : Value} (h : plain2 a b = true) (op : BinOp) (t : TypeId) (x y : Operand) : Quiet (Go.eqGuard op t x y a b) := by
  unfold Go.eqGuard
  cases a <;> cases b <;> simp only [plain2, Bool.false_eq_true] at h
  all_goals repeat (first | exact Quiet.pure _ | refine Quiet.bind ?_ (fun _ => ?_) | refine Quiet.ite ?_ ?_ | split | dsimp only)
theorem quiet_convert (s d : TypeId) (k : IntKind) (n : Int) : Quiet (Go.convert s d (.int k n)) := by
  unfold Go.convert
  refine Quiet.bind (quiet_underlying _) fun ds => Quiet.bind (quiet_underlying _) fun dd => ?_
  cases dd <;> cases ds <;> first | exact Quiet.pure _ | exact Quiet.stuck _ | exact (Dead.halt _).quiet | skip
  all_goals
    dsimp only
    unfold Go.Conv.unsafePointer
    refine Quiet.bind (quiet_underlying _) fun d1 => Quiet.bind (quiet_underlying _) fun d2 => ?_
    cases d1 <;> cases d2 <;> first | exact Quiet.stuck _ | (dsimp only; split <;> first | exact (Dead.halt _).quiet | exact Quiet.stuck _ | (exfalso; simp_all))
theorem quiet_len (ts : Array TypeId) (t : TypeId) (xs : Array Value) : Quiet (Go.Builtin.len_ ts t xs) := by
  unfold Go.Builtin.len_
  split
  · refine Quiet.bind (quiet_underlying _) fun d => ?_
    split
    all_goals repeat (first | exact Quiet.pure _ | exact Quiet.stuck _ | exact quiet_underlying _ | exact quiet_getObj _ | refine Quiet.bind ?_ (fun _ => ?_) | split | dsimp only)
  · exact Quiet.stuck _

/-- Is a value a whole number? -/
def isInt : Value → Bool
  | .int _ _ => true
  | _ => false
theorem quiet_foldMax (l : List Value) : ∀ (x : Value), isInt x = true → l.all isInt = true → Quiet (l.foldlM Go.Builtin.max2 x) := by
  induction l with
  | nil => intro x _ _; exact Quiet.pure _
  | cons y l ih =>
    intro x hx hl
    simp only [List.all_cons, Bool.and_eq_true] at hl
    cases x <;> simp only [isInt, Bool.false_eq_true] at hx
    cases y <;> simp only [isInt, Bool.false_eq_true, false_and] at hl
    show Quiet (_ >>= _)
    intro P w w1 n e
    obtain ⟨a, w', h1, h2⟩ := run_bind_ok e
    simp only [Go.Builtin.max2, Sem.run_pure] at h1
    injection h1 with h1 h3
    subst h1; subst h3
    exact ih _ rfl hl.2 P w w1 n h2
theorem quiet_foldMin (l : List Value) : ∀ (x : Value), isInt x = true → l.all isInt = true → Quiet (l.foldlM Go.Builtin.min2 x) := by
  induction l with
  | nil => intro x _ _; exact Quiet.pure _
  | cons y l ih =>
    intro x hx hl
    simp only [List.all_cons, Bool.and_eq_true] at hl
    cases x <;> simp only [isInt, Bool.false_eq_true] at hx
    cases y <;> simp only [isInt, Bool.false_eq_true, false_and] at hl
    show Quiet (_ >>= _)
    intro P w w1 n e
    obtain ⟨a, w', h1, h2⟩ := run_bind_ok e
    simp only [Go.Builtin.min2, Sem.run_pure] at h1
    injection h1 with h1 h3
    subst h1; subst h3
    exact ih _ rfl hl.2 P w w1 n h2

/-- Does an operation, at these operands, leave the world alone and yield a value? -/
def quietB (o : Oper) (ev : Operand → Value) : Bool :=
  match o.op with
  | .move _ | .assign _ | .pick .. | .load .. | .fieldAddr .. | .field .. | .indexAddr .. | .index .. | .extract .. | .unOp .. => true
  | .nilCheck x => match ev x with
    | .func .. => false
    | _ => true
  | .binOp _ _ x y _ => plain2 (ev x) (ev y)
  | .convert _ _ x => isInt (ev x)
  | .call { callee := .builtin .len, .. } => true
  | .call { callee := .builtin .max, args, .. } => args.toList.all fun x => isInt (ev x)
  | .call { callee := .builtin .min, args, .. } => args.toList.all fun x => isInt (ev x)
  | _ => false

/-- It is one value, and the world is as it was. -/
def Yields1 (m : Sem Next) : Prop := ∀ (P : Program) (w w1 : World) (n : Next), m.run P w = .ok n w1 → w1 = w ∧ ∃ v, n = .value v
theorem yields1_of {m : Sem Value} (h : Quiet m) : Yields1 (do Pure.pure (Next.value (← m))) := fun P w w1 n e => by
  obtain ⟨a, w', h1, h2⟩ := run_bind_ok e
  have := h P w w' a h1
  subst this
  rw [Sem.run_pure] at h2
  injection h2 with h2 h3
  exact ⟨h3.symm, a, h2.symm⟩
theorem quiet_op {o : Oper} {ev : Operand → Value} (h : quietB o ev = true) : Yields1 (execOp ev o) := by
  obtain ⟨dst, op, type, pos, after, guard⟩ := o
  unfold execOp
  cases op <;> simp only [quietB, Bool.false_eq_true] at h
  case move x => exact fun P w w1 n e => by rw [Sem.run_pure] at e; injection e with e1 e2; exact ⟨e2.symm, _, e1.symm⟩
  case assign x => exact fun P w w1 n e => by rw [Sem.run_pure] at e; injection e with e1 e2; exact ⟨e2.symm, _, e1.symm⟩
  case pick c a b =>
    intro P w w1 n e
    obtain ⟨q, w', h1, h2⟩ := run_bind_ok e
    have := quiet_asBool _ P w w' q h1
    subst this
    rw [Sem.run_pure] at h2
    injection h2 with h2 h3
    exact ⟨h3.symm, _, h2.symm⟩
  case load t x => exact yields1_of (Quiet.bind (quiet_sureAddr _) fun a => quiet_loadVar t a)
  case fieldAddr s x f => exact yields1_of (quiet_fieldAt _ _ _)
  case field s x f => exact yields1_of (quiet_field _ _ _)
  case indexAddr s x f => exact yields1_of (quiet_indexAt _ _ _)
  case index s x f => exact yields1_of (quiet_index _ _ _)
  case extract x f => exact yields1_of (quiet_extract _ _)
  case unOp op t x => exact yields1_of (quiet_unary _ _)
  case binOp op t x y yt => exact yields1_of (Quiet.bind (quiet_eqGuard h _ _ _ _) fun _ => quiet_binOp h _ _)
  case convert s d x =>
    cases hx : ev x <;> rw [hx] at h <;> simp only [isInt, Bool.false_eq_true] at h
    dsimp only
    rw [hx]
    exact yields1_of (quiet_convert _ _ _ _)
  case nilCheck x =>
    intro P w w1 n e
    dsimp only at e
    cases hx : ev x <;> rw [hx] at h e <;> simp only [Bool.false_eq_true] at h <;> (try dsimp only at e)
    all_goals first
      | (rw [Sem.run_pure] at e; injection e with e1 e2; exact ⟨e2.symm, _, e1.symm⟩)
      | exact absurd e (dead_nil P w w1 n)
      | skip
    case pointer p => 
      cases p with
      | none => exact absurd e (dead_nil P w w1 n)
      | some a => rw [Sem.run_pure] at e; injection e with e1 e2; exact ⟨e2.symm, _, e1.symm⟩
  case call c =>
    obtain ⟨callee, args, argTypes⟩ := c
    cases callee with
    | value f => simp only [Bool.false_eq_true] at h
    | invoke r m => simp only [Bool.false_eq_true] at h
    | builtin b =>
      cases b <;> simp only [Bool.false_eq_true] at h
      case len =>
        show Yields1 (do let d ← resolve ev _ _; invoke d.target d.args)
        exact yields1_of (quiet_len _ _ _)
      case max =>
        refine yields1_of ?_
        unfold Go.Builtin.max_
        have hl : (args.map ev).toList.all isInt = true := by
          simp only [Array.toList_map, List.all_map]
          exact h
        split
        · exact Quiet.stuck _
        · rename_i x rest hx
          rw [hx, List.all_cons, Bool.and_eq_true] at hl
          exact quiet_foldMax rest x hl.1 hl.2
      case min =>
        refine yields1_of ?_
        unfold Go.Builtin.min_
        have hl : (args.map ev).toList.all isInt = true := by
          simp only [Array.toList_map, List.all_map]
          exact h
        split
        · exact Quiet.stuck _
        · rename_i x rest hx
          rw [hx, List.all_cons, Bool.and_eq_true] at hl
          exact quiet_foldMin rest x hl.1 hl.2
end Quiet
end Go.Proofs.Ytnhgmmjlhhgdoaa.Plan
