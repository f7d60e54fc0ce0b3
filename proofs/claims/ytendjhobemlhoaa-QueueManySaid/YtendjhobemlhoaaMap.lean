/- A map by int, as a function from its keys to its elements (pointers, numbers): made, looked up, stored into, deleted from, ranged over. -/
import Derived.Test.YtendjhobemlhoaaArena
import Derived.Maps.RangeWalk
import Derived.Maps.Own
import Derived.Maps.OwnSet
import Derived.Lib.SlKeysI
namespace Go.Proofs.Ytendjhobemlhoaa
open Go Go.RowKit

/-- How an element reads: a pointer by its block, a number by itself. -/
def rdV : Value → Option (DataW Unit × List MemPlace)
  | .pointer (some ⟨q, 0, none⟩) => some (.lit (.int .i64 q), [])
  | .pointer none => some (.lit (.bool false), [])
  | .int .i64 a => some (.lit (.int .i32 a), [])
  | _ => none
theorem rdV_ptr (q : Nat) : rdV (.pointer (some ⟨q, 0, none⟩)) = some (.lit (.int .i64 q), []) := rfl
theorem rdV_nil : rdV (.pointer none) = some (.lit (.bool false), []) := rfl
theorem rdV_int (a : Int) : rdV (.int .i64 a) = some (.lit (.int .i32 a), []) := rfl
theorem rdV_form {v : Value} {z : DataW Unit × List MemPlace} (h : rdV v = some z) : (∃ q : Nat, v = .pointer (some ⟨q, 0, none⟩) ∧ z = (.lit (.int .i64 q), [])) ∨ (v = .pointer none ∧ z = (.lit (.bool false), [])) ∨ ∃ a, v = .int .i64 a ∧ z = (.lit (.int .i32 a), []) := by
  unfold rdV at h
  split at h
  · rename_i q; injection h with h; exact .inl ⟨q, rfl, h.symm⟩
  · injection h with h; exact .inr (.inl ⟨rfl, h.symm⟩)
  · rename_i a; injection h with h; exact .inr (.inr ⟨a, rfl, h.symm⟩)
  · cases h
theorem rdV_inj {v v' : Value} {d : DataW Unit} {ps ps' : List MemPlace} (h : rdV v = some (d, ps)) (h' : rdV v' = some (d, ps')) : v = v' := by
  rcases rdV_form h with ⟨q, rfl, e⟩ | ⟨rfl, e⟩ | ⟨a, rfl, e⟩ <;> rcases rdV_form h' with ⟨q', rfl, e'⟩ | ⟨rfl, e'⟩ | ⟨a', rfl, e'⟩ <;>
    obtain ⟨e1, _⟩ := Prod.mk.inj e <;> obtain ⟨e2, _⟩ := Prod.mk.inj e' <;> rw [e1] at e2 <;> simp at e2 <;> first | rfl | rw [e2] | (have e3 := Int.ofNat.inj e2; rw [e3])

def ok64 (x : Int) : Prop := -9223372036854775808 ≤ x ∧ x ≤ 9223372036854775807
theorem wf64 {x : Int} : (Lit.int .i64 x).wf = true ↔ ok64 x := by
  unfold ok64
  have e : (Lit.int .i64 x).wf = (decide (-9223372036854775808 ≤ x) && decide (x ≤ 9223372036854775807)) := rfl
  rw [e]
  simp
abbrev keyI (x : Int) : Lit := .int .i64 x
theorem tInt : Try.prog.underlying 3 = some (.int .i64) := Try.underlying3
theorem intKeyed : Maps.Keyed Try.prog 3 := Maps.int_keyed tInt
theorem keyOk {x : Int} (h : ok64 x) : keyOf Try.prog 3 (.int .i64 x) = some (keyI x) := Maps.keyOf_int_mk tInt (wf64.2 h)
theorem isKey (x : Int) (h : ok64 x) : WideAt.IsKeyLit (keyI x) := intKeyed.key (keyOk h)

/-- The datum D holds what f holds. -/
def ViewV (D : DataW Unit) (f : Int → Option Value) : Prop := (∀ x, f x ≠ none → ok64 x) ∧ ∀ x, ok64 x → Maps.has D (keyI x) = (f x).isSome ∧ ∀ v, f x = some v → ∃ d, rdV v = some (d, []) ∧ ∀ z, D.atKey (keyI x) z = d
/-- Block b is a map by int of at most n entries; what it holds is f. -/
def MapV (w : World) (b n : Nat) (f : Int → Option Value) : Prop := ∃ D : DataW Unit, w.ownsMap Try.prog 3 rdV b n D ∧ ViewV D f

section
variable {w w' : World} {b n : Nat} {f : Int → Option Value} {E : List Nat}
theorem MapV.lt (h : MapV w b n f) : b < w.heap.size := by obtain ⟨D, h, _⟩ := h; exact h.lt
theorem MapV.new (w : World) : MapV (w.alloc (.map #[] 0)) w.heap.size 0 (fun _ => none) :=
  ⟨.map [], World.ownsMap_made _ _ _ _, fun x h => absurd rfl h, fun x _ => ⟨rfl, fun v h => by cases h⟩⟩
theorem MapV.newAt (w : World) (g : Nat) (h : w.heap.size = g) : MapV (w.alloc (.map #[] 0)) g 0 (fun _ => none) := by subst h; exact MapV.new w
theorem MapV.of_block (h : MapV w b n f) (hb : w'.heap[b]? = w.heap[b]?) : MapV w' b n f := by
  obtain ⟨D, ⟨es, clock, h1, h2⟩, h3⟩ := h
  exact ⟨D, ⟨es, clock, hb.trans h1, h2⟩, h3⟩
theorem MapV.upd (h : MapV w b n f) (hu : Upd E w w') (hE : b ∉ E) : MapV w' b n f := h.of_block (hu.block b h.lt hE)
theorem MapV.drew (h : MapV w b n f) : MapV w.drew b n f := h
theorem MapV.drewN (h : MapV w b n f) (m : Nat) : MapV (w.drewN m) b n f := h
theorem MapV.alloc (h : MapV w b n f) (o : Obj) : MapV (w.alloc o) b n f := h.upd ((Upd.refl [] w).alloc o) (by simp)
theorem MapV.mono {m : Nat} (h : MapV w b n f) (hn : n ≤ m) : MapV w b m f := by obtain ⟨D, h1, h2⟩ := h; exact ⟨D, h1.mono hn, h2⟩
theorem MapV.congr {f' : Int → Option Value} (h : MapV w b n f) (hf : ∀ x, f x = f' x) : MapV w b n f' := by
  obtain rfl : f = f' := funext hf
  exact h

theorem mem_has {es : List (Lit × DataW Unit)} {p : Lit × DataW Unit} (hp : p ∈ es) (hk : WideAt.IsKeyLit p.1) : Maps.has (.map es) p.1 = true :=
  List.any_eq_true.2 ⟨p, hp, WideAt.sameKey_self hk⟩
theorem int_lit {w : World} {D : DataW Unit} (h : w.ownsMap Try.prog 3 rdV b n D) : ∃ es, D = .map es ∧ es.Pairwise (fun p q => p.1 ≠ q.1) ∧ ∀ p ∈ es, ∃ x, p.1 = keyI x ∧ ok64 x := by
  obtain ⟨es, clock, _, F, _, rfl⟩ := h
  refine ⟨_, rfl, ((Go.WideShapes.sorted_perm _).pairwise_iff (fun {_ _} hne => Ne.symm hne)).2 (Maps.fit_apart intKeyed F), fun p hp => ?_⟩
  obtain ⟨x, hx, rfl⟩ := List.mem_map.1 (mem_sorted.1 hp)
  obtain ⟨y, hy⟩ := F.reads x hx
  rw [Go.WideElems.rg_of hy]
  obtain ⟨k, _, e, hw⟩ := Maps.keyOf_i64 tInt (Go.WideElems.rd_key hy)
  exact ⟨k, e, wf64.1 hw⟩

theorem nodup_length : ∀ (m : Nat) (l : List Nat), l.Nodup → (∀ x ∈ l, x < m) → l.length ≤ m
  | 0, l, _, h => by cases l with
    | nil => simp
    | cons x l => exact absurd (h x (by simp)) (by omega)
  | m + 1, l, hn, h => by
    have h1 := nodup_length m (l.filter (· ≠ m)) (hn.filter _) (fun x hx => by
      have := List.mem_filter.1 hx
      have h2 := h x this.1
      have h3 : x ≠ m := by simpa using this.2
      omega)
    have h2 : l.length ≤ (l.filter (· ≠ m)).length + 1 := by
      clear h h1
      induction l with
      | nil => simp
      | cons y l ih =>
        by_cases hy : y = m
        · subst hy
          have hnot : y ∉ l := (List.nodup_cons.1 hn).1
          have : l.filter (· ≠ y) = l := List.filter_eq_self.2 (fun x hx => by simp; rintro rfl; exact hnot hx)
          rw [List.filter_cons_of_neg (by simp), this]
          simp
        · have h3 := ih (List.nodup_cons.1 hn).2
          have hf : (y :: l).filter (· ≠ m) = y :: l.filter (· ≠ m) := List.filter_cons_of_pos (by simp [hy])
          rw [hf]
          simp only [List.length_cons]
          omega
    omega

/-- Where all keys lie in [0, m) there are no more than m entries. -/
theorem MapV.tight {m : Nat} (h : MapV w b n f) (hm : ∀ x, f x ≠ none → 0 ≤ x ∧ x < m) : MapV w b m f := by
  obtain ⟨D, h1, h2⟩ := h
  have hsz : Maps.size D ≤ m := by
    obtain ⟨es, rfl, hp, hk⟩ := int_lit h1
    have hx : ∀ p ∈ es, ∃ x : Nat, p.1 = keyI x ∧ x < m := fun p hp => by
      obtain ⟨x, e, ok⟩ := hk p hp
      have hh := mem_has hp (by rw [e]; exact isKey x ok)
      rw [e, (h2.2 x ok).1] at hh
      have := hm x (by intro hn; rw [hn] at hh; cases hh)
      exact ⟨x.toNat, by rw [e, Int.toNat_of_nonneg this.1], by omega⟩
    have hnd : (es.map (fun p => (Go.RowKit.intOf (.int .i64 (match p.1 with | .int _ a => a | _ => 0))).toNat)).Nodup := by
      refine List.pairwise_map.2 (hp.imp_of_mem fun {p q} hp hq hne e => hne ?_)
      obtain ⟨x, ex, _⟩ := hx p hp
      obtain ⟨y, ey, _⟩ := hx q hq
      rw [ex, ey] at e ⊢
      simp [Go.RowKit.intOf] at e
      rw [e]
    have := nodup_length m _ hnd (fun y hy => by
      obtain ⟨p, hp, rfl⟩ := List.mem_map.1 hy
      obtain ⟨x, ex, hlt⟩ := hx p hp
      rw [ex]
      simpa [Go.RowKit.intOf] using hlt)
    simpa [Maps.size] using this
  obtain ⟨es, clock, hb, F, hs, hD⟩ := h1
  refine ⟨D, ⟨es, clock, hb, F, ?_, hD⟩, h2⟩
  rw [hD] at hsz
  simpa [Maps.size, length_sorted] using hsz

theorem MapV.look_ok {t e : TypeId} {z : Value} (h : MapV w b n f) (ht : Try.prog.underlying t = some (.map 3 e)) (hz : (zeroValue e).run Try.prog w = .ok z w) {zd : DataW Unit} (hzd : rdV z = some (zd, [])) (x : Int) (hx : ok64 x) :
    (Instr.lookup t (.map (some b)) (.int .i64 x) true).run Try.prog w = .ok (.tuple #[(f x).getD z, .bool (f x).isSome]) w := by
  obtain ⟨D, h1, h2⟩ := h
  obtain ⟨v, ps, hrun, hv⟩ := h1.look_ok intKeyed ht hz hzd (keyOk hx)
  obtain ⟨g1, g2⟩ := h2.2 x hx
  rw [hrun, g1]
  cases hf : f x with
  | none =>
    have hd := Maps.atKey_of_not_has (by rw [g1, hf]; rfl) zd
    rw [hd] at hv
    rw [rdV_inj hv hzd]
    rfl
  | some u =>
    obtain ⟨d, hd, hat⟩ := g2 u hf
    rw [hat] at hv
    rw [rdV_inj hv hd]
    rfl
theorem MapV.look {t e : TypeId} {z : Value} (h : MapV w b n f) (ht : Try.prog.underlying t = some (.map 3 e)) (hz : (zeroValue e).run Try.prog w = .ok z w) {zd : DataW Unit} (hzd : rdV z = some (zd, [])) (x : Int) (hx : ok64 x) :
    (Instr.lookup t (.map (some b)) (.int .i64 x) false).run Try.prog w = .ok ((f x).getD z) w := by
  obtain ⟨D, h1, h2⟩ := h
  obtain ⟨v, ps, hrun, hv⟩ := h1.lookup intKeyed ht hz hzd (keyOk hx)
  obtain ⟨g1, g2⟩ := h2.2 x hx
  rw [hrun]
  cases hf : f x with
  | none =>
    have hd := Maps.atKey_of_not_has (by rw [g1, hf]; rfl) zd
    rw [hd] at hv
    rw [rdV_inj hv hzd]
    rfl
  | some u =>
    obtain ⟨d, hd, hat⟩ := g2 u hf
    rw [hat] at hv
    rw [rdV_inj hv hd]
    rfl

def setF (f : Int → Option Value) (x : Int) (v : Option Value) : Int → Option Value := fun y => if y = x then v else f y
theorem setF_same (f : Int → Option Value) (x : Int) (v : Option Value) : setF f x v x = v := if_pos rfl
theorem setF_ne {f : Int → Option Value} {x y : Int} (v : Option Value) (h : y ≠ x) : setF f x v y = f y := if_neg h

theorem ViewV.put {D : DataW Unit} (h : ViewV D f) (hm : Maps.IsMap D) {x : Int} (hx : ok64 x) {v : Value} {d : DataW Unit} (hv : rdV v = some (d, [])) : ViewV (D.put (keyI x) d) (setF f x (some v)) := by
  refine ⟨fun y hy => ?_, fun y hy => ?_⟩
  · by_cases e : y = x
    · subst e; exact hx
    · rw [setF_ne _ e] at hy; exact h.1 y hy
  · by_cases e : y = x
    · subst e
      rw [setF_same]
      exact ⟨by rw [Maps.has_put_same hm (isKey y hy)]; rfl, fun u hu => by injection hu with hu; subst hu; exact ⟨d, hv, fun z => Maps.atKey_put_same hm (isKey y hy) d z⟩⟩
    · have hne : keyI y ≠ keyI x := fun he => by injection he with _ he; exact e he
      rw [setF_ne _ e, Maps.has_put_other hne]
      refine ⟨(h.2 y hy).1, fun u hu => ?_⟩
      obtain ⟨d', h1, h2⟩ := (h.2 y hy).2 u hu
      exact ⟨d', h1, fun z => by rw [Maps.atKey_put_other hne]; exact h2 z⟩
theorem ViewV.del {D : DataW Unit} (h : ViewV D f) (x : Int) : ViewV (D.del (keyI x)) (setF f x none) := by
  refine ⟨fun y hy => ?_, fun y hy => ?_⟩
  · by_cases e : y = x
    · subst e; rw [setF_same] at hy; exact absurd rfl hy
    · rw [setF_ne _ e] at hy; exact h.1 y hy
  · by_cases e : y = x
    · subst e
      rw [setF_same]
      exact ⟨by rw [Maps.has_del_same]; rfl, fun u hu => by cases hu⟩
    · have hne : keyI y ≠ keyI x := fun he => by injection he with _ he; exact e he
      rw [setF_ne _ e, Maps.has_del_other hne]
      refine ⟨(h.2 y hy).1, fun u hu => ?_⟩
      obtain ⟨d', h1, h2⟩ := (h.2 y hy).2 u hu
      exact ⟨d', h1, fun z => by rw [Maps.atKey_del_other hne]; exact h2 z⟩
end

section
variable {w : World} {ops : Array Oper} {rest : List Oper} {o : Oper} {a : Act} {Q : Exit → Act → World → Prop} {b n : Nat} {f : Int → Option Value}
theorem wpList_put_mapv (hg : o.guard = none) (m x v : Operand) (t e : TypeId) (hop : o.op = Op.mapUpdate t m x v) (ht : Try.prog.underlying t = some (.map 3 e))
    (h : MapV w b n f) (hn : n ≤ 65536) (hm : a.eval m = .map (some b)) (key : Int) (hk : ok64 key) (val : Value) (hx : a.eval x = .int .i64 key) (hv : a.eval v = val) {d : DataW Unit} (hd : rdV val = some (d, []))
    (hK : ∀ w', MapV w' b (n + 1) (setF f key (some val)) → Upd [b] w w' → wpList Try.prog ops Q rest (a.put o.dst undef) w') : wpList Try.prog ops Q (o :: rest) a w := by
  obtain ⟨D, h1, h2⟩ := h
  exact wpList_mapUpdate_own w hg m x v t hop 3 e intKeyed ht rdV b n D hm h1 (by unfold maxLen; omega) _ _ _ hx hv (keyOk hk) _ _ hd
    (fun w' h3 hg => hK w' ⟨_, h3, h2.put h1.isMap hk hd⟩ ((Upd.refl [b] w).grown hg (fun k e => by cases e; exact .inl (by simp))))
theorem wpList_look_mapv (hg : o.guard = none) (m x : Operand) (t e : TypeId) (hop : o.op = Op.lookup t m x false) (ht : Try.prog.underlying t = some (.map 3 e))
    (h : MapV w b n f) {z : Value} (hz : (zeroValue e).run Try.prog w = .ok z w) {zd : DataW Unit} (hzd : rdV z = some (zd, [])) (hm : a.eval m = .map (some b)) (key : Int) (hk : ok64 key) (hx : a.eval x = .int .i64 key)
    (hK : wpList Try.prog ops Q rest (a.put o.dst ((f key).getD z)) w) : wpList Try.prog ops Q (o :: rest) a w := by
  refine wpList_plain hg fun K' hK' => ?_
  have hrun := h.look ht hz hzd key hk
  unfold Oper.wp
  simp [execOp, hop, hm, hx, hrun, Result.andThen]
  exact hK' _ _ hK
theorem wpList_look_mapv_ok (hg : o.guard = none) (m x : Operand) (t e : TypeId) (hop : o.op = Op.lookup t m x true) (ht : Try.prog.underlying t = some (.map 3 e))
    (h : MapV w b n f) {z : Value} (hz : (zeroValue e).run Try.prog w = .ok z w) {zd : DataW Unit} (hzd : rdV z = some (zd, [])) (hm : a.eval m = .map (some b)) (key : Int) (hk : ok64 key) (hx : a.eval x = .int .i64 key)
    (hK : wpList Try.prog ops Q rest (a.put o.dst (.tuple #[(f key).getD z, .bool (f key).isSome])) w) : wpList Try.prog ops Q (o :: rest) a w := by
  refine wpList_plain hg fun K' hK' => ?_
  have hrun := h.look_ok ht hz hzd key hk
  unfold Oper.wp
  simp [execOp, hop, hm, hx, hrun, Result.andThen]
  exact hK' _ _ hK
theorem wpList_hit_mapv (hg : o.guard = none) (m x : Operand) (t e : TypeId) (hop : o.op = Op.lookup t m x true) (ht : Try.prog.underlying t = some (.map 3 e))
    (h : MapV w b n f) {z : Value} (hz : (zeroValue e).run Try.prog w = .ok z w) {zd : DataW Unit} (hzd : rdV z = some (zd, [])) (hm : a.eval m = .map (some b)) (key : Int) (hk : ok64 key) (hx : a.eval x = .int .i64 key) (v : Value) (hf : f key = some v)
    (hK : wpList Try.prog ops Q rest (a.put o.dst (.tuple #[v, .bool true])) w) : wpList Try.prog ops Q (o :: rest) a w :=
  wpList_look_mapv_ok hg m x t e hop ht h hz hzd hm key hk hx (by rw [hf]; exact hK)
theorem wpList_miss_mapv (hg : o.guard = none) (m x : Operand) (t e : TypeId) (hop : o.op = Op.lookup t m x true) (ht : Try.prog.underlying t = some (.map 3 e))
    (h : MapV w b n f) {z : Value} (hz : (zeroValue e).run Try.prog w = .ok z w) {zd : DataW Unit} (hzd : rdV z = some (zd, [])) (hm : a.eval m = .map (some b)) (key : Int) (hk : ok64 key) (hx : a.eval x = .int .i64 key) (hf : f key = none)
    (hK : wpList Try.prog ops Q rest (a.put o.dst (.tuple #[z, .bool false])) w) : wpList Try.prog ops Q (o :: rest) a w :=
  wpList_look_mapv_ok hg m x t e hop ht h hz hzd hm key hk hx (by rw [hf]; exact hK)
theorem wpList_at_mapv (hg : o.guard = none) (m x : Operand) (t e : TypeId) (hop : o.op = Op.lookup t m x false) (ht : Try.prog.underlying t = some (.map 3 e))
    (h : MapV w b n f) {z : Value} (hz : (zeroValue e).run Try.prog w = .ok z w) {zd : DataW Unit} (hzd : rdV z = some (zd, [])) (hm : a.eval m = .map (some b)) (key : Int) (hk : ok64 key) (hx : a.eval x = .int .i64 key) (v : Value) (hf : f key = some v)
    (hK : wpList Try.prog ops Q rest (a.put o.dst v) w) : wpList Try.prog ops Q (o :: rest) a w :=
  wpList_look_mapv hg m x t e hop ht h hz hzd hm key hk hx (by rw [hf]; exact hK)
theorem wpList_del_mapv (hg : o.guard = none) (m x : Operand) (t e : TypeId) (hop : o.op = Op.call { callee := Callee.builtin Builtin.delete, args := #[m, x], argTypes := #[t, 3] }) (ht : Try.prog.underlying t = some (.map 3 e))
    (h : MapV w b n f) (hm : a.eval m = .map (some b)) (key : Int) (hk : ok64 key) (hx : a.eval x = .int .i64 key)
    (hK : ∀ w', MapV w' b n (setF f key none) → Upd [b] w w' → wpList Try.prog ops Q rest (a.put o.dst (.tuple #[])) w') : wpList Try.prog ops Q (o :: rest) a w := by
  obtain ⟨D, h1, h2⟩ := h
  exact wpList_delete_own w hg m x t 3 hop e intKeyed ht rdV b n D hm h1 _ _ hx (keyOk hk)
    (fun w' h3 hg => hK w' ⟨_, h3, h2.del key⟩ ((Upd.refl [b] w).grown hg.grown (fun k e => by cases e; exact .inl (by simp))))

/-- A loop over the map is under way: block r is its iterator, left says which keys are still to come. -/
def MapIt (w : World) (b r n : Nat) (f : Int → Option Value) (left : Int → Bool) (cnt : Nat) : Prop :=
  ∃ (D : DataW Unit) (L : Lit → Bool), w.ranges Try.prog 3 rdV b r n D L cnt ∧ ViewV D f ∧ (∀ x, ok64 x → L (keyI x) = left x) ∧ (∀ x, left x = true → ok64 x ∧ f x ≠ none)
theorem MapIt.owns {r : Nat} {left : Int → Bool} {cnt : Nat} (h : MapIt w b r n f left cnt) : MapV w b n f := by obtain ⟨D, L, h1, h2, _⟩ := h; exact ⟨D, h1.owns, h2⟩
theorem MapIt.lt {r : Nat} {left : Int → Bool} {cnt : Nat} (h : MapIt w b r n f left cnt) : r < w.heap.size := by obtain ⟨D, L, h1, h2, _⟩ := h; exact h1.lt
theorem MapIt.ne {r : Nat} {left : Int → Bool} {cnt : Nat} (h : MapIt w b r n f left cnt) : r ≠ b := by obtain ⟨D, L, h1, h2, _⟩ := h; exact h1.ne
theorem MapIt.upd {w' : World} {E : List Nat} {r : Nat} {left : Int → Bool} {cnt : Nat} (h : MapIt w b r n f left cnt) (hu : Upd E w w') (hb : b ∉ E) (hr : r ∉ E) : MapIt w' b r n f left cnt := by
  have h1 := h.owns.lt
  have h2 := h.lt
  obtain ⟨D, L, ⟨es, clock, since, seen, c0, k1, k2, k3, k4, k5, k6⟩, h3⟩ := h
  exact ⟨D, L, ⟨es, clock, since, seen, c0, (hu.block b h1 hb).trans k1, k2, k3, k4, (hu.block r h2 hr).trans k5, k6⟩, h3⟩
theorem MapIt.drew {r : Nat} {left : Int → Bool} {cnt : Nat} (h : MapIt w b r n f left cnt) : MapIt w.drew b r n f left cnt := h
theorem MapIt.drewN {r : Nat} {left : Int → Bool} {cnt : Nat} (h : MapIt w b r n f left cnt) (m : Nat) : MapIt (w.drewN m) b r n f left cnt := h

theorem wpList_range_mapv (hg : o.guard = none) (m : Operand) (t e : TypeId) (hop : o.op = Op.range t m) (ht : Try.prog.underlying t = some (.map 3 e)) (h : MapV w b n f) (hm : a.eval m = .map (some b))
    (hK : ∀ w' cnt, MapIt w' b w.heap.size n f (fun x => (f x).isSome) cnt → Upd [] w w' → w'.heap.size = w.heap.size + 1 → wpList Try.prog ops Q rest (a.put o.dst (.pointer (some ⟨w.heap.size, 0, none⟩))) w') : wpList Try.prog ops Q (o :: rest) a w := by
  obtain ⟨D, h1, h2⟩ := h
  exact wpList_range_own w hg m t hop 3 e intKeyed ht rdV b n D hm h1 (fun w' h3 hg hs => hK w' _ ⟨D, _, h3, h2, fun x hx => (h2.2 x hx).1, fun x hx => by
    have hne : f x ≠ none := fun e => by simp [e] at hx
    exact ⟨h2.1 x hne, hne⟩⟩ ((Upd.refl [] w).grown hg (fun k e => by cases e)) hs)
theorem wpList_next_mapv (hg : o.guard = none) (it : Operand) (hop : o.op = Op.next it false) (r : Nat) (left : Int → Bool) (cnt : Nat) (hit : a.eval it = .pointer (some ⟨r, 0, none⟩)) (h : MapIt w b r n f left cnt)
    (hDone : cnt = 0 → (∀ x, left x = false) → wpList Try.prog ops Q rest (a.put o.dst (.tuple #[.bool false])) w)
    (hMore : ∀ (x : Int) (v : Value) (w' : World) (cnt' : Nat), left x = true → f x = some v → ok64 x → MapIt w' b r n f (fun z => left z && !decide (z = x)) cnt' → cnt' < cnt → Upd [r] w w' → w'.heap.size = w.heap.size →
      (Instr.entry (.pointer (some ⟨r, 0, none⟩))).run Try.prog w' = .ok (.tuple #[.int .i64 x, v]) w' → wpList Try.prog ops Q rest (a.put o.dst (.tuple #[.bool true, .int .i64 x, v])) w') : wpList Try.prog ops Q (o :: rest) a w := by
  obtain ⟨D, L, h1, h2, h3, h4⟩ := h
  refine wpList_next_ranges w hg it hop 3 intKeyed rdV (Value.int .i64) id (fun key kl hkey => by obtain ⟨x, rfl, _⟩ := Maps.keyOf_int_inv tInt hkey; exact ⟨x, rfl⟩) (fun v y _ => ⟨v, rfl⟩) b r n D L cnt hit h1
    (fun h0 hl => hDone h0 fun x => by
      cases hx : left x with
      | false => rfl
      | true => exact absurd ((h3 x (h4 x hx).1).trans hx) (by rw [hl]; simp)) ?_
  intro x v kl y w' cnt' hkey hl hv hat hrg hlt hg hs hen
  obtain ⟨x', e, rfl, hw⟩ := Maps.keyOf_int_inv tInt hkey
  injection e with _ e
  subst e
  have hok := wf64.1 hw
  have hlx : left x = true := by rw [← h3 x hok]; exact hl
  obtain ⟨g1, g2⟩ := h2.2 x hok
  have hfx : f x = some v := by
    cases hf : f x with
    | none => exact absurd hf (h4 x hlx).2
    | some u =>
      obtain ⟨d, hd, hd2⟩ := g2 u hf
      have e1 : y.1 = d := by rw [← hd2 (.lit (.bool true))]; exact (hat _).symm
      have hv' : rdV v = some (d, y.2) := by rw [← e1]; exact hv
      rw [rdV_inj hd hv']
  refine hMore x v w' cnt' hlx hfx hok ⟨D, _, hrg, h2, fun z hz => ?_, fun z hz => ?_⟩ hlt ((Upd.refl [r] w).grown hg (fun k e => by cases e; exact .inl (by simp))) hs hen
  · have hk : (keyI z).sameKey (keyI x) = decide (z = x) := by
      by_cases e : z = x
      · subst e; rw [WideAt.sameKey_self (isKey z hz), decide_eq_true rfl]
      · rw [Maps.sameKey_ne (fun he => by injection he with _ he; exact e he), decide_eq_false e]
    rw [h3 z hz, hk]
  · simp only [Bool.and_eq_true] at hz
    exact h4 z hz.1
  done
end
end Go.Proofs.Ytendjhobemlhoaa
