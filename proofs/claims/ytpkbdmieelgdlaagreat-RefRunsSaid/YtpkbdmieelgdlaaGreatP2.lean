/- A space: what it is in memory, and the contracts of its calls; what is found behind them. No condition. -/
import Derived.Test.YtpkbdmieelgdlaaGreatP1
import Derived.Maps.AppendAt
import Derived.Maps.RangeWalk
import Derived.Maps.Own
import Derived.Maps.OwnSet
import Derived.Lib.SlKeysI
import Derived.Test.YtpkbdmieelgdlaaGreatShelf
import Derived.Shelf.SlIterI.Nil
import Derived.Deep.LoopGhost
import Derived.Deep.QuietTactic
import Derived.BigQuiet
import Derived.Lib.OwnBridge
import Derived.Sort.OwnSortedInts
namespace Go.Proofs.YtpkbdmieelgdlaaGreat
open Go Go.RowKit

/-- They lie in different blocks. -/
def Apart (v v' : Value) : Prop := ∀ b, v.ownBlock = some b → v'.ownBlock ≠ some b
theorem Apart.symm {v v' : Value} (h : Apart v v') : Apart v' v := fun b h1 h2 => h b h2 h1
theorem Apart.none (v : Value) (n c : Nat) : Apart (.slice none n c) v := fun b h => by cases h

theorem wpList_push2 {w : World} {ops : Array Oper} {rest : List Oper} {o : Oper} {a : Act} {Q : Exit → Act → World → Prop} (hgd : o.guard = none) (s x : Operand)
    (ho : o.op = .call { callee := .builtin .append, args := #[s, x], argTypes := #[23, 23] })
    (B : Nat) (v v2 : Value) (xs ys : List Int) (hs : a.eval s = v) (hown : Own w B v xs) (hown2 : Own w B v2 ys) (hap : Apart v v2) (b : Nat) (y : Int) (hx : a.eval x = .slice (some ⟨b, 0, none⟩) 1 1) (hb : Blk w b 3 #[.int .i64 y])
    (hl : xs.length ≤ 4294967296) (hBw : B ≤ w.heap.size)
    (h : ∀ v' w' E, Own w' B v' (xs ++ [y]) → Own w' B v2 ys → Apart v' v2 → (∀ i ∈ E, B ≤ i) → Upd E w w' → wpList Tryz.prog ops Q rest (a.put o.dst v') w') : wpList Tryz.prog ops Q (o :: rest) a w := by
  obtain ⟨i0, hi, hz0, hz1, hz2⟩ := info_parts int_info
  refine wpList_append_own_at _ hgd s x 23 ho B 3 i0 (.int .i64 0) 1 8 Tryz.underlying23 hi hz0 hz1 hz2 rfl (by decide) v xs.length (xs.map (Value.int .i64)) hs hown ⟨b, 0, none⟩ 1 1 [.int .i64 y] hx rfl ?_ ?_ (by unfold maxLen; omega) (by omega) hBw ?_
  · intro j u hj
    match j, hj with
    | 0, hj => simp at hj; subst hj; simpa [Addr.add] using hb.one
  · intro u hu; simp at hu; subst hu; rfl
  · intro v' w' h1 h2 _ h4
    have hE : ∀ i ∈ v.ownBlock.toList, B ≤ i := fun i hm => (World.ownsRow.lt hown i (by simpa using hm)).1
    refine h v' w' v.ownBlock.toList ?_ ?_ ?_ hE ⟨h2.os, h2.tape, h2.output, h2.size, fun k hk hn => h2.block k hk (fun e => hn (by rw [← e]; simp))⟩
    · unfold Own
      rw [List.length_append, List.map_append]
      exact h1
    · refine World.ownsRow.kept hown2 h2 ?_
      cases hv : v2.ownBlock with
      | none => exact .inl rfl
      | some r => exact .inr (fun e => hap r e.symm hv)
    · intro r hr hr2
      rcases h4 with h4 | h4
      · exact hap r (by rw [← h4]; exact hr) hr2
      · rw [hr] at h4
        simp only [Option.some.injEq] at h4
        have := (World.ownsRow.lt hown2 r hr2).2
        omega
end Go.Proofs.YtpkbdmieelgdlaaGreat
namespace Go.Proofs.YtpkbdmieelgdlaaGreat
open Go Go.RowKit

/-- How an element reads: a pointer by its block, a number by itself. -/
def rdV : Value → Option (DataW Unit × List MemPlace)
  | .pointer (some ⟨q, 0, none⟩) => some (.lit (.int .i64 q), [])
  | .pointer none => some (.lit (.bool false), [])
  | .int .i64 a => some (.lit (.int .i32 a), [])
  | _ => none
theorem rdV_ptr (q : Nat) : rdV (.pointer (some ⟨q, 0, none⟩)) = some (.lit (.int .i64 q), []) := rfl
theorem rdV_nil : rdV (.pointer none) = some (.lit (.bool false), []) := rfl
theorem rdV_int (a : Int) : rdV (.int .i64 a) = some (.lit (.int .i32 a), []) := rfl
theorem rdV_form {v : Value} {z : DataW Unit × List MemPlace} (h : rdV v = some z) : (∃ q : Nat, v = .pointer (some ⟨q, 0, none⟩) ∧ z = (.lit (.int .i64 q), [])) ∨ (v = .pointer none ∧ z = (.lit (.bool false), [])) ∨ ∃ a, v = .int .i64 a ∧ z = (.lit (.int .i32 a), []) := by
  unfold rdV at h
  split at h
  · rename_i q; injection h with h; exact .inl ⟨q, rfl, h.symm⟩
  · injection h with h; exact .inr (.inl ⟨rfl, h.symm⟩)
  · rename_i a; injection h with h; exact .inr (.inr ⟨a, rfl, h.symm⟩)
  · cases h
theorem rdV_inj {v v' : Value} {d : DataW Unit} {ps ps' : List MemPlace} (h : rdV v = some (d, ps)) (h' : rdV v' = some (d, ps')) : v = v' := by
  rcases rdV_form h with ⟨q, rfl, e⟩ | ⟨rfl, e⟩ | ⟨a, rfl, e⟩ <;> rcases rdV_form h' with ⟨q', rfl, e'⟩ | ⟨rfl, e'⟩ | ⟨a', rfl, e'⟩ <;>
    obtain ⟨e1, _⟩ := Prod.mk.inj e <;> obtain ⟨e2, _⟩ := Prod.mk.inj e' <;> rw [e1] at e2 <;> simp at e2 <;> first | rfl | rw [e2] | (have e3 := Int.ofNat.inj e2; rw [e3])

def ok64 (x : Int) : Prop := -9223372036854775808 ≤ x ∧ x ≤ 9223372036854775807
theorem wf64 {x : Int} : (Lit.int .i64 x).wf = true ↔ ok64 x := by
  unfold ok64
  have e : (Lit.int .i64 x).wf = (decide (-9223372036854775808 ≤ x) && decide (x ≤ 9223372036854775807)) := rfl
  rw [e]
  simp
abbrev keyI (x : Int) : Lit := .int .i64 x
theorem tInt : Tryz.prog.underlying 3 = some (.int .i64) := Tryz.underlying3
theorem intKeyed : Maps.Keyed Tryz.prog 3 := Maps.int_keyed tInt
theorem keyOk {x : Int} (h : ok64 x) : keyOf Tryz.prog 3 (.int .i64 x) = some (keyI x) := Maps.keyOf_int_mk tInt (wf64.2 h)
theorem isKey (x : Int) (h : ok64 x) : WideAt.IsKeyLit (keyI x) := intKeyed.key (keyOk h)

/-- The datum D holds what f holds. -/
def ViewV (D : DataW Unit) (f : Int → Option Value) : Prop := (∀ x, f x ≠ none → ok64 x) ∧ ∀ x, ok64 x → Maps.has D (keyI x) = (f x).isSome ∧ ∀ v, f x = some v → ∃ d, rdV v = some (d, []) ∧ ∀ z, D.atKey (keyI x) z = d
/-- Block b is a map by int of at most n entries; what it holds is f. -/
def MapV (w : World) (b n : Nat) (f : Int → Option Value) : Prop := ∃ D : DataW Unit, w.ownsMap Tryz.prog 3 rdV b n D ∧ ViewV D f

section
variable {w w' : World} {b n : Nat} {f : Int → Option Value} {E : List Nat}
theorem MapV.lt (h : MapV w b n f) : b < w.heap.size := by obtain ⟨D, h, _⟩ := h; exact h.lt
theorem MapV.new (w : World) : MapV (w.alloc (.map #[] 0)) w.heap.size 0 (fun _ => none) :=
  ⟨.map [], World.ownsMap_made _ _ _ _, fun x h => absurd rfl h, fun x _ => ⟨rfl, fun v h => by cases h⟩⟩
theorem MapV.newAt (w : World) (g : Nat) (h : w.heap.size = g) : MapV (w.alloc (.map #[] 0)) g 0 (fun _ => none) := by subst h; exact MapV.new w
theorem MapV.of_block (h : MapV w b n f) (hb : w'.heap[b]? = w.heap[b]?) : MapV w' b n f := by
  obtain ⟨D, ⟨es, clock, h1, h2⟩, h3⟩ := h
  exact ⟨D, ⟨es, clock, hb.trans h1, h2⟩, h3⟩
theorem MapV.upd (h : MapV w b n f) (hu : Upd E w w') (hE : b ∉ E) : MapV w' b n f := h.of_block (hu.block b h.lt hE)
theorem MapV.drew (h : MapV w b n f) : MapV w.drew b n f := h
theorem MapV.drewN (h : MapV w b n f) (m : Nat) : MapV (w.drewN m) b n f := h
theorem MapV.alloc (h : MapV w b n f) (o : Obj) : MapV (w.alloc o) b n f := h.upd ((Upd.refl [] w).alloc o) (by simp)
theorem MapV.mono {m : Nat} (h : MapV w b n f) (hn : n ≤ m) : MapV w b m f := by obtain ⟨D, h1, h2⟩ := h; exact ⟨D, h1.mono hn, h2⟩
theorem MapV.congr {f' : Int → Option Value} (h : MapV w b n f) (hf : ∀ x, f x = f' x) : MapV w b n f' := by
  obtain rfl : f = f' := funext hf
  exact h

theorem mem_has {es : List (Lit × DataW Unit)} {p : Lit × DataW Unit} (hp : p ∈ es) (hk : WideAt.IsKeyLit p.1) : Maps.has (.map es) p.1 = true :=
  List.any_eq_true.2 ⟨p, hp, WideAt.sameKey_self hk⟩
theorem int_lit {w : World} {D : DataW Unit} (h : w.ownsMap Tryz.prog 3 rdV b n D) : ∃ es, D = .map es ∧ es.Pairwise (fun p q => p.1 ≠ q.1) ∧ ∀ p ∈ es, ∃ x, p.1 = keyI x ∧ ok64 x := by
  obtain ⟨es, clock, _, F, _, rfl⟩ := h
  refine ⟨_, rfl, ((Go.WideShapes.sorted_perm _).pairwise_iff (fun {_ _} hne => Ne.symm hne)).2 (Maps.fit_apart intKeyed F), fun p hp => ?_⟩
  obtain ⟨x, hx, rfl⟩ := List.mem_map.1 (mem_sorted.1 hp)
  obtain ⟨y, hy⟩ := F.reads x hx
  rw [Go.WideElems.rg_of hy]
  obtain ⟨k, _, e, hw⟩ := Maps.keyOf_i64 tInt (Go.WideElems.rd_key hy)
  exact ⟨k, e, wf64.1 hw⟩

theorem nodup_length : ∀ (m : Nat) (l : List Nat), l.Nodup → (∀ x ∈ l, x < m) → l.length ≤ m
  | 0, l, _, h => by cases l with
    | nil => simp
    | cons x l => exact absurd (h x (by simp)) (by omega)
  | m + 1, l, hn, h => by
    have h1 := nodup_length m (l.filter (· ≠ m)) (hn.filter _) (fun x hx => by
      have := List.mem_filter.1 hx
      have h2 := h x this.1
      have h3 : x ≠ m := by simpa using this.2
      omega)
    have h2 : l.length ≤ (l.filter (· ≠ m)).length + 1 := by
      clear h h1
      induction l with
      | nil => simp
      | cons y l ih =>
        by_cases hy : y = m
        · subst hy
          have hnot : y ∉ l := (List.nodup_cons.1 hn).1
          have : l.filter (· ≠ y) = l := List.filter_eq_self.2 (fun x hx => by simp; rintro rfl; exact hnot hx)
          rw [List.filter_cons_of_neg (by simp), this]
          simp
        · have h3 := ih (List.nodup_cons.1 hn).2
          have hf : (y :: l).filter (· ≠ m) = y :: l.filter (· ≠ m) := List.filter_cons_of_pos (by simp [hy])
          rw [hf]
          simp only [List.length_cons]
          omega
    omega

/-- Where all keys lie in [0, m) there are no more than m entries. -/
theorem MapV.tight {m : Nat} (h : MapV w b n f) (hm : ∀ x, f x ≠ none → 0 ≤ x ∧ x < m) : MapV w b m f := by
  obtain ⟨D, h1, h2⟩ := h
  have hsz : Maps.size D ≤ m := by
    obtain ⟨es, rfl, hp, hk⟩ := int_lit h1
    have hx : ∀ p ∈ es, ∃ x : Nat, p.1 = keyI x ∧ x < m := fun p hp => by
      obtain ⟨x, e, ok⟩ := hk p hp
      have hh := mem_has hp (by rw [e]; exact isKey x ok)
      rw [e, (h2.2 x ok).1] at hh
      have := hm x (by intro hn; rw [hn] at hh; cases hh)
      exact ⟨x.toNat, by rw [e, Int.toNat_of_nonneg this.1], by omega⟩
    have hnd : (es.map (fun p => (Go.RowKit.intOf (.int .i64 (match p.1 with | .int _ a => a | _ => 0))).toNat)).Nodup := by
      refine List.pairwise_map.2 (hp.imp_of_mem fun {p q} hp hq hne e => hne ?_)
      obtain ⟨x, ex, _⟩ := hx p hp
      obtain ⟨y, ey, _⟩ := hx q hq
      rw [ex, ey] at e ⊢
      simp [Go.RowKit.intOf] at e
      rw [e]
    have := nodup_length m _ hnd (fun y hy => by
      obtain ⟨p, hp, rfl⟩ := List.mem_map.1 hy
      obtain ⟨x, ex, hlt⟩ := hx p hp
      rw [ex]
      simpa [Go.RowKit.intOf] using hlt)
    simpa [Maps.size] using this
  obtain ⟨es, clock, hb, F, hs, hD⟩ := h1
  refine ⟨D, ⟨es, clock, hb, F, ?_, hD⟩, h2⟩
  rw [hD] at hsz
  simpa [Maps.size, length_sorted] using hsz

theorem MapV.look_ok {t e : TypeId} {z : Value} (h : MapV w b n f) (ht : Tryz.prog.underlying t = some (.map 3 e)) (hz : (zeroValue e).run Tryz.prog w = .ok z w) {zd : DataW Unit} (hzd : rdV z = some (zd, [])) (x : Int) (hx : ok64 x) :
    (Instr.lookup t (.map (some b)) (.int .i64 x) true).run Tryz.prog w = .ok (.tuple #[(f x).getD z, .bool (f x).isSome]) w := by
  obtain ⟨D, h1, h2⟩ := h
  obtain ⟨v, ps, hrun, hv⟩ := h1.look_ok intKeyed ht hz hzd (keyOk hx)
  obtain ⟨g1, g2⟩ := h2.2 x hx
  rw [hrun, g1]
  cases hf : f x with
  | none =>
    have hd := Maps.atKey_of_not_has (by rw [g1, hf]; rfl) zd
    rw [hd] at hv
    rw [rdV_inj hv hzd]
    rfl
  | some u =>
    obtain ⟨d, hd, hat⟩ := g2 u hf
    rw [hat] at hv
    rw [rdV_inj hv hd]
    rfl
theorem MapV.look {t e : TypeId} {z : Value} (h : MapV w b n f) (ht : Tryz.prog.underlying t = some (.map 3 e)) (hz : (zeroValue e).run Tryz.prog w = .ok z w) {zd : DataW Unit} (hzd : rdV z = some (zd, [])) (x : Int) (hx : ok64 x) :
    (Instr.lookup t (.map (some b)) (.int .i64 x) false).run Tryz.prog w = .ok ((f x).getD z) w := by
  obtain ⟨D, h1, h2⟩ := h
  obtain ⟨v, ps, hrun, hv⟩ := h1.lookup intKeyed ht hz hzd (keyOk hx)
  obtain ⟨g1, g2⟩ := h2.2 x hx
  rw [hrun]
  cases hf : f x with
  | none =>
    have hd := Maps.atKey_of_not_has (by rw [g1, hf]; rfl) zd
    rw [hd] at hv
    rw [rdV_inj hv hzd]
    rfl
  | some u =>
    obtain ⟨d, hd, hat⟩ := g2 u hf
    rw [hat] at hv
    rw [rdV_inj hv hd]
    rfl

def setF (f : Int → Option Value) (x : Int) (v : Option Value) : Int → Option Value := fun y => if y = x then v else f y
theorem setF_same (f : Int → Option Value) (x : Int) (v : Option Value) : setF f x v x = v := if_pos rfl
theorem setF_ne {f : Int → Option Value} {x y : Int} (v : Option Value) (h : y ≠ x) : setF f x v y = f y := if_neg h

theorem ViewV.put {D : DataW Unit} (h : ViewV D f) (hm : Maps.IsMap D) {x : Int} (hx : ok64 x) {v : Value} {d : DataW Unit} (hv : rdV v = some (d, [])) : ViewV (D.put (keyI x) d) (setF f x (some v)) := by
  refine ⟨fun y hy => ?_, fun y hy => ?_⟩
  · by_cases e : y = x
    · subst e; exact hx
    · rw [setF_ne _ e] at hy; exact h.1 y hy
  · by_cases e : y = x
    · subst e
      rw [setF_same]
      exact ⟨by rw [Maps.has_put_same hm (isKey y hy)]; rfl, fun u hu => by injection hu with hu; subst hu; exact ⟨d, hv, fun z => Maps.atKey_put_same hm (isKey y hy) d z⟩⟩
    · have hne : keyI y ≠ keyI x := fun he => by injection he with _ he; exact e he
      rw [setF_ne _ e, Maps.has_put_other hne]
      refine ⟨(h.2 y hy).1, fun u hu => ?_⟩
      obtain ⟨d', h1, h2⟩ := (h.2 y hy).2 u hu
      exact ⟨d', h1, fun z => by rw [Maps.atKey_put_other hne]; exact h2 z⟩
theorem ViewV.del {D : DataW Unit} (h : ViewV D f) (x : Int) : ViewV (D.del (keyI x)) (setF f x none) := by
  refine ⟨fun y hy => ?_, fun y hy => ?_⟩
  · by_cases e : y = x
    · subst e; rw [setF_same] at hy; exact absurd rfl hy
    · rw [setF_ne _ e] at hy; exact h.1 y hy
  · by_cases e : y = x
    · subst e
      rw [setF_same]
      exact ⟨by rw [Maps.has_del_same]; rfl, fun u hu => by cases hu⟩
    · have hne : keyI y ≠ keyI x := fun he => by injection he with _ he; exact e he
      rw [setF_ne _ e, Maps.has_del_other hne]
      refine ⟨(h.2 y hy).1, fun u hu => ?_⟩
      obtain ⟨d', h1, h2⟩ := (h.2 y hy).2 u hu
      exact ⟨d', h1, fun z => by rw [Maps.atKey_del_other hne]; exact h2 z⟩
end

section
variable {w : World} {ops : Array Oper} {rest : List Oper} {o : Oper} {a : Act} {Q : Exit → Act → World → Prop} {b n : Nat} {f : Int → Option Value}
theorem wpList_put_mapv (hg : o.guard = none) (m x v : Operand) (t e : TypeId) (hop : o.op = Op.mapUpdate t m x v) (ht : Tryz.prog.underlying t = some (.map 3 e))
    (h : MapV w b n f) (hn : n ≤ 65536) (hm : a.eval m = .map (some b)) (key : Int) (hk : ok64 key) (val : Value) (hx : a.eval x = .int .i64 key) (hv : a.eval v = val) {d : DataW Unit} (hd : rdV val = some (d, []))
    (hK : ∀ w', MapV w' b (n + 1) (setF f key (some val)) → Upd [b] w w' → wpList Tryz.prog ops Q rest (a.put o.dst undef) w') : wpList Tryz.prog ops Q (o :: rest) a w := by
  obtain ⟨D, h1, h2⟩ := h
  exact wpList_mapUpdate_own w hg m x v t hop 3 e intKeyed ht rdV b n D hm h1 (by unfold maxLen; omega) _ _ _ hx hv (keyOk hk) _ _ hd
    (fun w' h3 hg => hK w' ⟨_, h3, h2.put h1.isMap hk hd⟩ ((Upd.refl [b] w).grown hg (fun k e => by cases e; exact .inl (by simp))))
theorem wpList_look_mapv (hg : o.guard = none) (m x : Operand) (t e : TypeId) (hop : o.op = Op.lookup t m x false) (ht : Tryz.prog.underlying t = some (.map 3 e))
    (h : MapV w b n f) {z : Value} (hz : (zeroValue e).run Tryz.prog w = .ok z w) {zd : DataW Unit} (hzd : rdV z = some (zd, [])) (hm : a.eval m = .map (some b)) (key : Int) (hk : ok64 key) (hx : a.eval x = .int .i64 key)
    (hK : wpList Tryz.prog ops Q rest (a.put o.dst ((f key).getD z)) w) : wpList Tryz.prog ops Q (o :: rest) a w := by
  refine wpList_plain hg fun K' hK' => ?_
  have hrun := h.look ht hz hzd key hk
  unfold Oper.wp
  simp [execOp, hop, hm, hx, hrun, Result.andThen]
  exact hK' _ _ hK
theorem wpList_look_mapv_ok (hg : o.guard = none) (m x : Operand) (t e : TypeId) (hop : o.op = Op.lookup t m x true) (ht : Tryz.prog.underlying t = some (.map 3 e))
    (h : MapV w b n f) {z : Value} (hz : (zeroValue e).run Tryz.prog w = .ok z w) {zd : DataW Unit} (hzd : rdV z = some (zd, [])) (hm : a.eval m = .map (some b)) (key : Int) (hk : ok64 key) (hx : a.eval x = .int .i64 key)
    (hK : wpList Tryz.prog ops Q rest (a.put o.dst (.tuple #[(f key).getD z, .bool (f key).isSome])) w) : wpList Tryz.prog ops Q (o :: rest) a w := by
  refine wpList_plain hg fun K' hK' => ?_
  have hrun := h.look_ok ht hz hzd key hk
  unfold Oper.wp
  simp [execOp, hop, hm, hx, hrun, Result.andThen]
  exact hK' _ _ hK
theorem wpList_hit_mapv (hg : o.guard = none) (m x : Operand) (t e : TypeId) (hop : o.op = Op.lookup t m x true) (ht : Tryz.prog.underlying t = some (.map 3 e))
    (h : MapV w b n f) {z : Value} (hz : (zeroValue e).run Tryz.prog w = .ok z w) {zd : DataW Unit} (hzd : rdV z = some (zd, [])) (hm : a.eval m = .map (some b)) (key : Int) (hk : ok64 key) (hx : a.eval x = .int .i64 key) (v : Value) (hf : f key = some v)
    (hK : wpList Tryz.prog ops Q rest (a.put o.dst (.tuple #[v, .bool true])) w) : wpList Tryz.prog ops Q (o :: rest) a w :=
  wpList_look_mapv_ok hg m x t e hop ht h hz hzd hm key hk hx (by rw [hf]; exact hK)
theorem wpList_miss_mapv (hg : o.guard = none) (m x : Operand) (t e : TypeId) (hop : o.op = Op.lookup t m x true) (ht : Tryz.prog.underlying t = some (.map 3 e))
    (h : MapV w b n f) {z : Value} (hz : (zeroValue e).run Tryz.prog w = .ok z w) {zd : DataW Unit} (hzd : rdV z = some (zd, [])) (hm : a.eval m = .map (some b)) (key : Int) (hk : ok64 key) (hx : a.eval x = .int .i64 key) (hf : f key = none)
    (hK : wpList Tryz.prog ops Q rest (a.put o.dst (.tuple #[z, .bool false])) w) : wpList Tryz.prog ops Q (o :: rest) a w :=
  wpList_look_mapv_ok hg m x t e hop ht h hz hzd hm key hk hx (by rw [hf]; exact hK)
theorem wpList_at_mapv (hg : o.guard = none) (m x : Operand) (t e : TypeId) (hop : o.op = Op.lookup t m x false) (ht : Tryz.prog.underlying t = some (.map 3 e))
    (h : MapV w b n f) {z : Value} (hz : (zeroValue e).run Tryz.prog w = .ok z w) {zd : DataW Unit} (hzd : rdV z = some (zd, [])) (hm : a.eval m = .map (some b)) (key : Int) (hk : ok64 key) (hx : a.eval x = .int .i64 key) (v : Value) (hf : f key = some v)
    (hK : wpList Tryz.prog ops Q rest (a.put o.dst v) w) : wpList Tryz.prog ops Q (o :: rest) a w :=
  wpList_look_mapv hg m x t e hop ht h hz hzd hm key hk hx (by rw [hf]; exact hK)
theorem wpList_del_mapv (hg : o.guard = none) (m x : Operand) (t e : TypeId) (hop : o.op = Op.call { callee := Callee.builtin Builtin.delete, args := #[m, x], argTypes := #[t, 3] }) (ht : Tryz.prog.underlying t = some (.map 3 e))
    (h : MapV w b n f) (hm : a.eval m = .map (some b)) (key : Int) (hk : ok64 key) (hx : a.eval x = .int .i64 key)
    (hK : ∀ w', MapV w' b n (setF f key none) → Upd [b] w w' → wpList Tryz.prog ops Q rest (a.put o.dst (.tuple #[])) w') : wpList Tryz.prog ops Q (o :: rest) a w := by
  obtain ⟨D, h1, h2⟩ := h
  exact wpList_delete_own w hg m x t 3 hop e intKeyed ht rdV b n D hm h1 _ _ hx (keyOk hk)
    (fun w' h3 hg => hK w' ⟨_, h3, h2.del key⟩ ((Upd.refl [b] w).grown hg.grown (fun k e => by cases e; exact .inl (by simp))))

/-- A loop over the map is under way: block r is its iterator, left says which keys are still to come. -/
def MapIt (w : World) (b r n : Nat) (f : Int → Option Value) (left : Int → Bool) (cnt : Nat) : Prop :=
  ∃ (D : DataW Unit) (L : Lit → Bool), w.ranges Tryz.prog 3 rdV b r n D L cnt ∧ ViewV D f ∧ (∀ x, ok64 x → L (keyI x) = left x) ∧ (∀ x, left x = true → ok64 x ∧ f x ≠ none)
theorem MapIt.owns {r : Nat} {left : Int → Bool} {cnt : Nat} (h : MapIt w b r n f left cnt) : MapV w b n f := by obtain ⟨D, L, h1, h2, _⟩ := h; exact ⟨D, h1.owns, h2⟩
theorem MapIt.lt {r : Nat} {left : Int → Bool} {cnt : Nat} (h : MapIt w b r n f left cnt) : r < w.heap.size := by obtain ⟨D, L, h1, h2, _⟩ := h; exact h1.lt
theorem MapIt.ne {r : Nat} {left : Int → Bool} {cnt : Nat} (h : MapIt w b r n f left cnt) : r ≠ b := by obtain ⟨D, L, h1, h2, _⟩ := h; exact h1.ne
theorem MapIt.upd {w' : World} {E : List Nat} {r : Nat} {left : Int → Bool} {cnt : Nat} (h : MapIt w b r n f left cnt) (hu : Upd E w w') (hb : b ∉ E) (hr : r ∉ E) : MapIt w' b r n f left cnt := by
  have h1 := h.owns.lt
  have h2 := h.lt
  obtain ⟨D, L, ⟨es, clock, since, seen, c0, k1, k2, k3, k4, k5, k6⟩, h3⟩ := h
  exact ⟨D, L, ⟨es, clock, since, seen, c0, (hu.block b h1 hb).trans k1, k2, k3, k4, (hu.block r h2 hr).trans k5, k6⟩, h3⟩
theorem MapIt.drew {r : Nat} {left : Int → Bool} {cnt : Nat} (h : MapIt w b r n f left cnt) : MapIt w.drew b r n f left cnt := h
theorem MapIt.drewN {r : Nat} {left : Int → Bool} {cnt : Nat} (h : MapIt w b r n f left cnt) (m : Nat) : MapIt (w.drewN m) b r n f left cnt := h

theorem wpList_range_mapv (hg : o.guard = none) (m : Operand) (t e : TypeId) (hop : o.op = Op.range t m) (ht : Tryz.prog.underlying t = some (.map 3 e)) (h : MapV w b n f) (hm : a.eval m = .map (some b))
    (hK : ∀ w' cnt, MapIt w' b w.heap.size n f (fun x => (f x).isSome) cnt → Upd [] w w' → w'.heap.size = w.heap.size + 1 → wpList Tryz.prog ops Q rest (a.put o.dst (.pointer (some ⟨w.heap.size, 0, none⟩))) w') : wpList Tryz.prog ops Q (o :: rest) a w := by
  obtain ⟨D, h1, h2⟩ := h
  exact wpList_range_own w hg m t hop 3 e intKeyed ht rdV b n D hm h1 (fun w' h3 hg hs => hK w' _ ⟨D, _, h3, h2, fun x hx => (h2.2 x hx).1, fun x hx => by
    have hne : f x ≠ none := fun e => by simp [e] at hx
    exact ⟨h2.1 x hne, hne⟩⟩ ((Upd.refl [] w).grown hg (fun k e => by cases e)) hs)
theorem wpList_next_mapv (hg : o.guard = none) (it : Operand) (hop : o.op = Op.next it false) (r : Nat) (left : Int → Bool) (cnt : Nat) (hit : a.eval it = .pointer (some ⟨r, 0, none⟩)) (h : MapIt w b r n f left cnt)
    (hDone : cnt = 0 → (∀ x, left x = false) → wpList Tryz.prog ops Q rest (a.put o.dst (.tuple #[.bool false])) w)
    (hMore : ∀ (x : Int) (v : Value) (w' : World) (cnt' : Nat), left x = true → f x = some v → ok64 x → MapIt w' b r n f (fun z => left z && !decide (z = x)) cnt' → cnt' < cnt → Upd [r] w w' → w'.heap.size = w.heap.size →
      (Instr.entry (.pointer (some ⟨r, 0, none⟩))).run Tryz.prog w' = .ok (.tuple #[.int .i64 x, v]) w' → wpList Tryz.prog ops Q rest (a.put o.dst (.tuple #[.bool true, .int .i64 x, v])) w') : wpList Tryz.prog ops Q (o :: rest) a w := by
  obtain ⟨D, L, h1, h2, h3, h4⟩ := h
  refine wpList_next_ranges w hg it hop 3 intKeyed rdV (Value.int .i64) id (fun key kl hkey => by obtain ⟨x, rfl, _⟩ := Maps.keyOf_int_inv tInt hkey; exact ⟨x, rfl⟩) (fun v y _ => ⟨v, rfl⟩) b r n D L cnt hit h1
    (fun h0 hl => hDone h0 fun x => by
      cases hx : left x with
      | false => rfl
      | true => exact absurd ((h3 x (h4 x hx).1).trans hx) (by rw [hl]; simp)) ?_
  intro x v kl y w' cnt' hkey hl hv hat hrg hlt hg hs hen
  obtain ⟨x', e, rfl, hw⟩ := Maps.keyOf_int_inv tInt hkey
  injection e with _ e
  subst e
  have hok := wf64.1 hw
  have hlx : left x = true := by rw [← h3 x hok]; exact hl
  obtain ⟨g1, g2⟩ := h2.2 x hok
  have hfx : f x = some v := by
    cases hf : f x with
    | none => exact absurd hf (h4 x hlx).2
    | some u =>
      obtain ⟨d, hd, hd2⟩ := g2 u hf
      have e1 : y.1 = d := by rw [← hd2 (.lit (.bool true))]; exact (hat _).symm
      have hv' : rdV v = some (d, y.2) := by rw [← e1]; exact hv
      rw [rdV_inj hd hv']
  refine hMore x v w' cnt' hlx hfx hok ⟨D, _, hrg, h2, fun z hz => ?_, fun z hz => ?_⟩ hlt ((Upd.refl [r] w).grown hg (fun k e => by cases e; exact .inl (by simp))) hs hen
  · have hk : (keyI z).sameKey (keyI x) = decide (z = x) := by
      by_cases e : z = x
      · subst e; rw [WideAt.sameKey_self (isKey z hz), decide_eq_true rfl]
      · rw [Maps.sameKey_ne (fun he => by injection he with _ he; exact e he), decide_eq_false e]
    rw [h3 z hz, hk]
  · simp only [Bool.and_eq_true] at hz
    exact h4 z hz.1
  done
end
end Go.Proofs.YtpkbdmieelgdlaaGreat
namespace Go.Proofs.YtpkbdmieelgdlaaGreat
open Go Go.RowKit

/-- What a page is: page 0; free; one of blocks of a class; the first one of a larger block of so many pages; another one of the block that begins at a page. -/
inductive Pst where
  | zero
  | free
  | small (c : Nat) (l : List Bool)
  | first (k : Nat)
  | rest (f : Nat)
structure Sp where
  W : List Int
  pg : List Pst
def Pst.taken : Pst → Bool
  | .free => false
  | _ => true
def isOpen (c : Nat) : Pst → Bool
  | .small c' l => decide (c' = c) && !decide (countB l = l.length)
  | _ => false
def bitsOf (pg : List Pst) : List Bool := pg.map Pst.taken
def openZ (pg : List Pst) (c : Nat) : Int := nextZ (pg.map (isOpen c)) true 0
abbrev atP (pg : List Pst) (p : Nat) : Pst := pg.getD p .free
def putLarge (pg : List Pst) (p k : Nat) : List Pst := (List.range pg.length).map fun j => if j = p then .first k else if p < j ∧ j < p + k then .rest p else atP pg j
def clearPg (pg : List Pst) (p k : Nat) : List Pst := (List.range pg.length).map fun j => if p ≤ j ∧ j < p + k then .free else atP pg j
def firstOne (n : Nat) : List Bool := (List.replicate n false).set 0 true

structure Sp.WF (S : Sp) : Prop where
  n1 : 1 ≤ S.pg.length
  n2 : S.pg.length ≤ 256
  len : S.W.length = S.pg.length * 64
  zero : ∀ p, atP S.pg p = .zero ↔ p = 0
  small : ∀ p c l, atP S.pg p = .small c l → c < 5 ∧ l.length = roomOf c
  first : ∀ p k, atP S.pg p = .first k → 1 ≤ k ∧ p + k ≤ S.pg.length ∧ ∀ j, p < j → j < p + k → atP S.pg j = .rest p
  rest : ∀ j f, atP S.pg j = .rest f → f < j ∧ ∃ k, atP S.pg f = .first k ∧ j < f + k

section
variable {pg : List Pst} {p k j : Nat}
theorem atP_out (h : pg.length ≤ p) : atP pg p = .free := by unfold atP; rw [List.getD_eq_getElem?_getD, List.getElem?_eq_none h]; rfl
theorem atP_in {x : Pst} (h : atP pg p = x) (hx : x ≠ .free) : p < pg.length := by
  rcases Nat.lt_or_ge p pg.length with h1 | h1
  · exact h1
  · rw [atP_out h1] at h; exact absurd h.symm hx
theorem atP_get {x : Pst} (h : atP pg p = x) (hx : x ≠ .free) : pg[p]? = some x := by
  have := atP_in h hx
  unfold atP at h
  rw [List.getD_eq_getElem?_getD, List.getElem?_eq_getElem this] at h
  rw [List.getElem?_eq_getElem this]
  exact congrArg some h
theorem atP_of {x : Pst} (h : pg[p]? = some x) : atP pg p = x := by unfold atP; rw [List.getD_eq_getElem?_getD, h]; rfl
theorem atP_set (x : Pst) (hp : p < pg.length) : atP (pg.set p x) j = if j = p then x else atP pg j := by
  unfold atP
  rw [List.getD_eq_getElem?_getD, List.getD_eq_getElem?_getD, List.getElem?_set]
  by_cases h : p = j
  · subst h; rw [if_pos rfl, if_pos hp, if_pos rfl]; rfl
  · rw [if_neg h, if_neg (Ne.symm h)]
theorem atP_map (n : Nat) (f : Nat → Pst) (h : ∀ j, n ≤ j → f j = .free) : atP ((List.range n).map f) j = f j := by
  unfold atP
  rw [List.getD_eq_getElem?_getD, List.getElem?_map]
  rcases Nat.lt_or_ge j n with h1 | h1
  · rw [List.getElem?_range h1]; rfl
  · rw [List.getElem?_eq_none (by simpa using h1), h j h1]; rfl
theorem atP_large (h : p + k ≤ pg.length) (hk : 1 ≤ k) : atP (putLarge pg p k) j = if j = p then .first k else if p < j ∧ j < p + k then .rest p else atP pg j := by
  unfold putLarge
  rw [atP_map]
  intro j hj
  rw [if_neg (by omega), if_neg (by omega), atP_out hj]
theorem atP_clear (h : p + k ≤ pg.length) : atP (clearPg pg p k) j = if p ≤ j ∧ j < p + k then .free else atP pg j := by
  unfold clearPg
  rw [atP_map]
  intro j hj
  rw [if_neg (by omega), atP_out hj]
theorem putLarge_length : (putLarge pg p k).length = pg.length := by simp [putLarge]
theorem clearPg_length : (clearPg pg p k).length = pg.length := by simp [clearPg]
theorem bits_length : (bitsOf pg).length = pg.length := by simp [bitsOf]
theorem bits_get : (bitsOf pg).getD j false = (atP pg j).taken := by
  unfold bitsOf atP
  rw [List.getD_eq_getElem?_getD, List.getD_eq_getElem?_getD, List.getElem?_map]
  cases pg[j]? <;> rfl
theorem bits_set (x : Pst) : bitsOf (pg.set p x) = (bitsOf pg).set p x.taken := by simp [bitsOf, List.map_set]
theorem bits_large (h : p + k ≤ pg.length) (hk : 1 ≤ k) : bitsOf (putLarge pg p k) = span (bitsOf pg) true p k := by
  refine ext_getD (by rw [bits_length, putLarge_length, span_length, bits_length]) fun j hj => ?_
  rw [bits_length, putLarge_length] at hj
  rw [bits_get, atP_large h hk, span_get _ _ _ _ _ (by rw [bits_length]; exact hj), bits_get]
  by_cases h1 : j = p
  · rw [if_pos h1, if_pos (by omega)]; rfl
  · rw [if_neg h1]
    by_cases h2 : p < j ∧ j < p + k
    · rw [if_pos h2, if_pos (by omega)]; rfl
    · rw [if_neg h2, if_neg (by omega)]
theorem bits_clear (h : p + k ≤ pg.length) : bitsOf (clearPg pg p k) = span (bitsOf pg) false p k := by
  refine ext_getD (by rw [bits_length, clearPg_length, span_length, bits_length]) fun j hj => ?_
  rw [bits_length, clearPg_length] at hj
  rw [bits_get, atP_clear h, span_get _ _ _ _ _ (by rw [bits_length]; exact hj), bits_get]
  by_cases h1 : p ≤ j ∧ j < p + k
  · rw [if_pos h1, if_pos h1]; rfl
  · rw [if_neg h1, if_neg h1]
theorem open_get (c : Nat) : (pg.map (isOpen c)).getD j false = isOpen c (atP pg j) := by
  unfold atP
  rw [List.getD_eq_getElem?_getD, List.getD_eq_getElem?_getD, List.getElem?_map]
  cases pg[j]? <;> rfl
end

/-- The class's first open page, by what it is. -/
theorem openZ_hit {pg : List Pst} {c p : Nat} (h : isOpen c (atP pg p) = true) (h0 : ∀ j, j < p → isOpen c (atP pg j) = false) : openZ pg c = p := by
  refine nextZ_eq (.inr ⟨p, rfl, by omega, ?_, by rw [open_get]; exact h, fun j _ hj => by rw [open_get, h0 j hj]; simp⟩)
  rw [List.length_map]
  rcases Nat.lt_or_ge p pg.length with h1 | h1
  · exact h1
  · rw [atP_out h1] at h; cases h
theorem openZ_miss {pg : List Pst} {c : Nat} (h0 : ∀ j, j < pg.length → isOpen c (atP pg j) = false) : openZ pg c = -1 :=
  nextZ_eq (.inl ⟨rfl, fun j _ hj => by rw [open_get, h0 j (by simpa using hj)]; simp⟩)
theorem openZ_cases (pg : List Pst) (c : Nat) : (openZ pg c = -1 ∧ ∀ j, isOpen c (atP pg j) = false) ∨ ∃ p : Nat, openZ pg c = p ∧ p < pg.length ∧ isOpen c (atP pg p) = true ∧ ∀ j, j < p → isOpen c (atP pg j) = false := by
  rcases isNext_nextZ (pg.map (isOpen c)) true 0 with ⟨h1, h2⟩ | ⟨p, h1, _, h3, h4, h5⟩
  · refine .inl ⟨h1, fun j => ?_⟩
    rcases Nat.lt_or_ge j pg.length with hj | hj
    · have := h2 j (Nat.zero_le _) (by simpa using hj)
      rw [open_get] at this
      simpa using this
    · rw [atP_out hj]; rfl
  · refine .inr ⟨p, h1, by simpa using h3, by rw [← open_get]; exact h4, fun j hj => ?_⟩
    have := h5 j (Nat.zero_le _) hj
    rw [open_get] at this
    simpa using this
theorem open_small {c : Nat} {x : Pst} (h : isOpen c x = true) : ∃ l, x = .small c l ∧ countB l ≠ l.length := by
  cases x <;> simp [isOpen] at h
  rename_i c' l
  obtain ⟨rfl, h⟩ := h
  exact ⟨l, rfl, h⟩

theorem next_of_count {l : List Bool} (h : countB l ≠ l.length) : ∃ i : Nat, nextZ l false 0 = i ∧ i < l.length ∧ l.getD i false = false := by
  rcases isNext_nextZ l false 0 with ⟨h1, h2⟩ | ⟨i, h1, _, h3, h4, _⟩
  · exfalso
    refine h (List.count_eq_length.2 fun b hb => ?_)
    obtain ⟨j, hj, rfl⟩ := List.mem_iff_getElem.1 hb
    have := h2 j (Nat.zero_le _) hj
    rw [List.getD_eq_getElem?_getD, List.getElem?_eq_getElem hj] at this
    simpa using this
  · exact ⟨i, h1, h3, h4⟩

/-! ### what is done -/
def listOf : Pst → List Bool
  | .small _ l => l
  | _ => []
def manyOf : Pst → Nat
  | .first k => k
  | _ => 0
/-- A block is made: the space behind it, the address, the error. -/
def Sp.alloc (S : Sp) (words : Int) : Sp × Int × Int :=
  if blockZ words = 0 then (S, 0, 1)
  else if classZ words < 0 then
    if runZ (bitsOf S.pg) 0 (pagesZ words) < 0 then (S, 0, 3)
    else (⟨filledAt S.W ((runZ (bitsOf S.pg) 0 (pagesZ words)).toNat * 64) ((pagesZ words).toNat * 64), putLarge S.pg (runZ (bitsOf S.pg) 0 (pagesZ words)).toNat (pagesZ words).toNat⟩, (runZ (bitsOf S.pg) 0 (pagesZ words)) * 64, 0)
  else if 0 ≤ openZ S.pg (classZ words).toNat then
    (⟨filledAt S.W ((openZ S.pg (classZ words).toNat).toNat * 64 + (nextZ (listOf (atP S.pg (openZ S.pg (classZ words).toNat).toNat)) false 0).toNat * wordsOf (classZ words).toNat) (wordsOf (classZ words).toNat),
      S.pg.set (openZ S.pg (classZ words).toNat).toNat (.small (classZ words).toNat ((listOf (atP S.pg (openZ S.pg (classZ words).toNat).toNat)).set (nextZ (listOf (atP S.pg (openZ S.pg (classZ words).toNat).toNat)) false 0).toNat true))⟩,
      (openZ S.pg (classZ words).toNat) * 64 + nextZ (listOf (atP S.pg (openZ S.pg (classZ words).toNat).toNat)) false 0 * wordsOf (classZ words).toNat, 0)
  else if runZ (bitsOf S.pg) 0 1 < 0 then (S, 0, 3)
  else (⟨filledAt S.W ((runZ (bitsOf S.pg) 0 1).toNat * 64) (wordsOf (classZ words).toNat), S.pg.set (runZ (bitsOf S.pg) 0 1).toNat (.small (classZ words).toNat (firstOne (roomOf (classZ words).toNat)))⟩, (runZ (bitsOf S.pg) 0 1) * 64, 0)

/-- The block in which an address lies: where it begins, its words, whether there is one. -/
def Sp.find (S : Sp) (a : Int) : Int × Int × Bool :=
  if a < 0 ∨ S.W.length ≤ a then (0, 0, false)
  else match atP S.pg (a / 64).toNat with
    | .small c l => if hasB l (a % 64 / wordsOf c) then (a / 64 * 64 + a % 64 / wordsOf c * wordsOf c, wordsOf c, true) else (0, 0, false)
    | .first k => (a / 64 * 64, k * 64, true)
    | .rest f => (f * 64, manyOf (atP S.pg f) * 64, true)
    | _ => (0, 0, false)

/-- A block is given up: the space behind it, the error. -/
def Sp.drop (S : Sp) (a : Int) : Sp × Int :=
  if (S.find a).2.2 = false ∨ (S.find a).1 ≠ a then (S, 2)
  else match atP S.pg (a / 64).toNat with
    | .small c l => if countB (l.set (a % 64 / wordsOf c).toNat false) = 0 then (⟨S.W, S.pg.set (a / 64).toNat .free⟩, 0) else (⟨S.W, S.pg.set (a / 64).toNat (.small c (l.set (a % 64 / wordsOf c).toNat false))⟩, 0)
    | .first k => (⟨S.W, clearPg S.pg (a / 64).toNat k⟩, 0)
    | _ => (S, 2)

/-- Where a page's blocks begin. -/
def startsOf (p : Nat) : Pst → List Int
  | .small c l => ((List.range l.length).filter (fun i => l.getD i false)).map fun i => ((p * 64 + i * wordsOf c : Nat) : Int)
  | .first _ => [((p * 64 : Nat) : Int)]
  | _ => []
def Sp.each (S : Sp) : List Int := (List.range S.pg.length).flatMap fun p => startsOf p (atP S.pg p)
def Sp.used (S : Sp) : Int := (S.each.map fun a => (S.find a).2.1).sum
def newSp (n : Nat) : Sp := ⟨List.replicate (n * 64) 0, (List.replicate n .free).set 0 .zero⟩

/-! ### what stays so -/
theorem firstOne_length (n : Nat) : (firstOne n).length = n := by simp [firstOne]
theorem words_room {c : Nat} (h : c < 5) : wordsOf c * roomOf c = 64 := by
  have : c = 0 ∨ c = 1 ∨ c = 2 ∨ c = 3 ∨ c = 4 := by omega
  rcases this with rfl | rfl | rfl | rfl | rfl <;> decide
theorem words_pos {c : Nat} (h : c < 5) : 2 ≤ wordsOf c ∧ wordsOf c ≤ 32 := by
  have : c = 0 ∨ c = 1 ∨ c = 2 ∨ c = 3 ∨ c = 4 := by omega
  rcases this with rfl | rfl | rfl | rfl | rfl <;> decide
theorem room_pos {c : Nat} (h : c < 5) : 2 ≤ roomOf c ∧ roomOf c ≤ 32 := by
  have : c = 0 ∨ c = 1 ∨ c = 2 ∨ c = 3 ∨ c = 4 := by omega
  rcases this with rfl | rfl | rfl | rfl | rfl <;> decide
theorem words_inj {c c' : Nat} (h : c < 5) (h' : c' < 5) (e : wordsOf c = wordsOf c') : c = c' := by
  have h1 : c = 0 ∨ c = 1 ∨ c = 2 ∨ c = 3 ∨ c = 4 := by omega
  have h2 : c' = 0 ∨ c' = 1 ∨ c' = 2 ∨ c' = 3 ∨ c' = 4 := by omega
  rcases h1 with rfl | rfl | rfl | rfl | rfl <;> rcases h2 with rfl | rfl | rfl | rfl | rfl <;> first | rfl | (exact absurd e (by decide))
theorem block_fits {c i : Nat} (h : c < 5) (hi : i < roomOf c) : i * wordsOf c + wordsOf c ≤ 64 := by
  have h1 : (i + 1) * wordsOf c ≤ roomOf c * wordsOf c := Nat.mul_le_mul_right _ hi
  have h2 := words_room h
  rw [Nat.mul_comm] at h2
  rw [Nat.add_mul] at h1
  omega

theorem newSp_wf {n : Nat} (h1 : 1 ≤ n) (h2 : n ≤ 256) : (newSp n).WF := by
  have hat : ∀ p, atP (newSp n).pg p = if p = 0 then .zero else .free := fun p => by
    unfold newSp
    rw [atP_set _ (by simp; omega)]
    by_cases h : p = 0
    · rw [if_pos h, if_pos h]
    · rw [if_neg h, if_neg h]
      unfold atP
      rw [List.getD_eq_getElem?_getD, List.getElem?_replicate]
      split <;> rfl
  have hl : (newSp n).pg.length = n := by simp [newSp]
  refine ⟨by omega, by omega, by rw [hl]; simp [newSp], fun p => ?_, fun p c l h => ?_, fun p k h => ?_, fun p f h => ?_⟩
  · rw [hat]
    by_cases h : p = 0
    · simp [h]
    · simp [h]
  all_goals
    rw [hat] at h
    split at h <;> cases h

/-- A page is turned to one of blocks. -/
theorem Sp.WF.set_small {S : Sp} (h : S.WF) {p c : Nat} {l : List Bool} {W : List Int} (hp : p < S.pg.length) (hat : atP S.pg p = .free ∨ ∃ c' l', atP S.pg p = .small c' l') (hc : c < 5) (hl : l.length = roomOf c) (hW : W.length = S.W.length) : (Sp.mk W (S.pg.set p (.small c l))).WF := by
  have h0 : p ≠ 0 := fun e => by
    have := (h.zero p).2 e
    rcases hat with h1 | ⟨_, _, h1⟩ <;> rw [this] at h1 <;> cases h1
  refine ⟨by simpa using h.n1, by simpa using h.n2, by simpa [hW] using h.len, fun q => ?_, fun q c' l' hq => ?_, fun q k hq => ?_, fun q f hq => ?_⟩
  · show atP (S.pg.set p _) q = _ ↔ _
    rw [atP_set _ hp]
    by_cases e : q = p
    · rw [if_pos e]; subst e; simp [h0]
    · rw [if_neg e]; exact h.zero q
  · have hq : atP (S.pg.set p (.small c l)) q = .small c' l' := hq
    rw [atP_set _ hp] at hq
    split at hq
    · cases hq; exact ⟨hc, hl⟩
    · exact h.small q c' l' hq
  · have hq : atP (S.pg.set p (.small c l)) q = .first k := hq
    rw [atP_set _ hp] at hq
    split at hq
    · cases hq
    · obtain ⟨g1, g2, g3⟩ := h.first q k hq
      refine ⟨g1, by simpa using g2, fun j hj1 hj2 => ?_⟩
      show atP (S.pg.set p _) j = _
      rw [atP_set _ hp]
      by_cases e : j = p
      · subst e
        have := g3 j hj1 hj2
        rcases hat with h1 | ⟨_, _, h1⟩ <;> rw [this] at h1 <;> cases h1
      · rw [if_neg e]; exact g3 j hj1 hj2
  · have hq : atP (S.pg.set p (.small c l)) q = .rest f := hq
    rw [atP_set _ hp] at hq
    split at hq
    · cases hq
    · obtain ⟨g1, k, g2, g3⟩ := h.rest q f hq
      refine ⟨g1, k, ?_, g3⟩
      show atP (S.pg.set p _) f = _
      rw [atP_set _ hp]
      by_cases e : f = p
      · subst e
        rcases hat with h1 | ⟨_, _, h1⟩ <;> rw [g2] at h1 <;> cases h1
      · rw [if_neg e]; exact g2
theorem Sp.WF.set_free {S : Sp} (h : S.WF) {p c : Nat} {l : List Bool} (hat : atP S.pg p = .small c l) : (Sp.mk S.W (S.pg.set p .free)).WF := by
  have hp := atP_in hat (by simp)
  have h0 : p ≠ 0 := fun e => by
    have := (h.zero p).2 e
    rw [this] at hat; cases hat
  refine ⟨by simpa using h.n1, by simpa using h.n2, by simpa using h.len, fun q => ?_, fun q c' l' hq => ?_, fun q k hq => ?_, fun q f hq => ?_⟩
  · show atP (S.pg.set p _) q = _ ↔ _
    rw [atP_set _ hp]
    by_cases e : q = p
    · rw [if_pos e]; subst e; simp [h0]
    · rw [if_neg e]; exact h.zero q
  · have hq : atP (S.pg.set p .free) q = .small c' l' := hq
    rw [atP_set _ hp] at hq
    split at hq
    · cases hq
    · exact h.small q c' l' hq
  · have hq : atP (S.pg.set p .free) q = .first k := hq
    rw [atP_set _ hp] at hq
    split at hq
    · cases hq
    · obtain ⟨g1, g2, g3⟩ := h.first q k hq
      refine ⟨g1, by simpa using g2, fun j hj1 hj2 => ?_⟩
      show atP (S.pg.set p _) j = _
      rw [atP_set _ hp]
      by_cases e : j = p
      · subst e
        have := g3 j hj1 hj2
        rw [this] at hat; cases hat
      · rw [if_neg e]; exact g3 j hj1 hj2
  · have hq : atP (S.pg.set p .free) q = .rest f := hq
    rw [atP_set _ hp] at hq
    split at hq
    · cases hq
    · obtain ⟨g1, k, g2, g3⟩ := h.rest q f hq
      refine ⟨g1, k, ?_, g3⟩
      show atP (S.pg.set p _) f = _
      rw [atP_set _ hp]
      by_cases e : f = p
      · subst e
        rw [g2] at hat; cases hat
      · rw [if_neg e]; exact g2
theorem Sp.WF.put_large {S : Sp} (h : S.WF) {p k : Nat} {W : List Int} (hpk : p + k ≤ S.pg.length) (hk : 1 ≤ k) (hat : ∀ j, p ≤ j → j < p + k → atP S.pg j = .free) (hW : W.length = S.W.length) : (Sp.mk W (putLarge S.pg p k)).WF := by
  have hA : ∀ j, atP (putLarge S.pg p k) j = if j = p then .first k else if p < j ∧ j < p + k then .rest p else atP S.pg j := fun j => atP_large hpk hk
  have h0 : p ≠ 0 := fun e => by
    have h1 := (h.zero p).2 e
    rw [hat p (by omega) (by omega)] at h1
    cases h1
  refine ⟨by simpa [putLarge_length] using h.n1, by simpa [putLarge_length] using h.n2, by simpa [putLarge_length, hW] using h.len, fun q => ?_, fun q c' l' hq => ?_, fun q k' hq => ?_, fun q f hq => ?_⟩
  · show atP (putLarge S.pg p k) q = _ ↔ _
    rw [hA]
    by_cases e : q = p
    · rw [if_pos e]; subst e; simp [h0]
    · rw [if_neg e]
      by_cases e2 : p < q ∧ q < p + k
      · rw [if_pos e2]; simp; omega
      · rw [if_neg e2]; exact h.zero q
  · have hq : atP (putLarge S.pg p k) q = .small c' l' := hq
    rw [hA] at hq
    split at hq
    · cases hq
    · split at hq
      · cases hq
      · exact h.small q c' l' hq
  · have hq : atP (putLarge S.pg p k) q = .first k' := hq
    show 1 ≤ k' ∧ q + k' ≤ (putLarge S.pg p k).length ∧ _
    rw [putLarge_length]
    rw [hA] at hq
    split at hq
    · rename_i e
      cases hq
      subst e
      refine ⟨hk, hpk, fun j hj1 hj2 => ?_⟩
      show atP (putLarge S.pg q k) j = _
      rw [hA, if_neg (by omega), if_pos ⟨hj1, hj2⟩]
    · split at hq
      · cases hq
      · rename_i e1 e2
        obtain ⟨g1, g2, g3⟩ := h.first q k' hq
        refine ⟨g1, g2, fun j hj1 hj2 => ?_⟩
        show atP (putLarge S.pg p k) j = _
        have hj := g3 j hj1 hj2
        rw [hA]
        by_cases e3 : p ≤ j ∧ j < p + k
        · rw [hat j e3.1 e3.2] at hj; cases hj
        · rw [if_neg (by omega), if_neg (by omega)]; exact hj
  · have hq : atP (putLarge S.pg p k) q = .rest f := hq
    rw [hA] at hq
    split at hq
    · cases hq
    · split at hq
      · rename_i e1 e2
        cases hq
        refine ⟨e2.1, k, ?_, e2.2⟩
        show atP (putLarge S.pg p k) p = _
        rw [hA, if_pos rfl]
      · obtain ⟨g1, k', g2, g3⟩ := h.rest q f hq
        refine ⟨g1, k', ?_, g3⟩
        show atP (putLarge S.pg p k) f = _
        rw [hA]
        by_cases e3 : p ≤ f ∧ f < p + k
        · rw [hat f e3.1 e3.2] at g2; cases g2
        · rw [if_neg (by omega), if_neg (by omega)]; exact g2
theorem Sp.WF.clear {S : Sp} (h : S.WF) {p k : Nat} (hat : atP S.pg p = .first k) : (Sp.mk S.W (clearPg S.pg p k)).WF := by
  obtain ⟨hk, hpk, hr⟩ := h.first p k hat
  have hA : ∀ j, atP (clearPg S.pg p k) j = if p ≤ j ∧ j < p + k then .free else atP S.pg j := fun j => atP_clear hpk
  have hin : ∀ j, p ≤ j → j < p + k → atP S.pg j = .first k ∧ j = p ∨ atP S.pg j = .rest p := fun j h1 h2 => by
    by_cases e : j = p
    · subst e; exact .inl ⟨hat, rfl⟩
    · exact .inr (hr j (by omega) h2)
  refine ⟨by simpa [clearPg_length] using h.n1, by simpa [clearPg_length] using h.n2, by simpa [clearPg_length] using h.len, fun q => ?_, fun q c' l' hq => ?_, fun q k' hq => ?_, fun q f hq => ?_⟩
  · show atP (clearPg S.pg p k) q = _ ↔ _
    rw [hA]
    by_cases e2 : p ≤ q ∧ q < p + k
    · rw [if_pos e2]
      constructor
      · intro e; cases e
      · intro e
        have := (h.zero q).2 e
        rcases hin q e2.1 e2.2 with ⟨h1, _⟩ | h1 <;> rw [this] at h1 <;> cases h1
    · rw [if_neg e2]; exact h.zero q
  · have hq : atP (clearPg S.pg p k) q = .small c' l' := hq
    rw [hA] at hq
    split at hq
    · cases hq
    · exact h.small q c' l' hq
  · have hq : atP (clearPg S.pg p k) q = .first k' := hq
    show 1 ≤ k' ∧ q + k' ≤ (clearPg S.pg p k).length ∧ _
    rw [clearPg_length]
    rw [hA] at hq
    split at hq
    · cases hq
    · rename_i e
      obtain ⟨g1, g2, g3⟩ := h.first q k' hq
      refine ⟨g1, g2, fun j hj1 hj2 => ?_⟩
      show atP (clearPg S.pg p k) j = _
      have hj := g3 j hj1 hj2
      rw [hA]
      by_cases e3 : p ≤ j ∧ j < p + k
      · rcases hin j e3.1 e3.2 with ⟨h1, _⟩ | h1
        · rw [hj] at h1; cases h1
        · rw [hj] at h1; injection h1 with h1; omega
      · rw [if_neg e3]; exact hj
  · have hq : atP (clearPg S.pg p k) q = .rest f := hq
    rw [hA] at hq
    split at hq
    · cases hq
    · rename_i e
      obtain ⟨g1, k', g2, g3⟩ := h.rest q f hq
      refine ⟨g1, k', ?_, g3⟩
      show atP (clearPg S.pg p k) f = _
      rw [hA]
      by_cases e3 : p ≤ f ∧ f < p + k
      · rcases hin f e3.1 e3.2 with ⟨h1, h2⟩ | h1
        · rw [g2] at h1; injection h1 with h1; subst h1; subst h2; omega
        · rw [g2] at h1; cases h1
      · rw [if_neg e3]; exact g2
end Go.Proofs.YtpkbdmieelgdlaaGreat
namespace Go.Proofs.YtpkbdmieelgdlaaGreat
open Go Go.RowKit Go.Maps Go.Sort Go.Shelf

/-- The keys in [0, m), in order. -/
def keysL (f : Int → Option Value) (m : Nat) : List Int := ((List.range m).filter (fun (p : Nat) => (f (p : Int)).isSome)).map (fun (p : Nat) => (p : Int))
theorem mem_keysL {f : Int → Option Value} {m : Nat} {x : Int} : x ∈ keysL f m ↔ ∃ p : Nat, x = p ∧ p < m ∧ f p ≠ none := by
  unfold keysL
  simp only [List.mem_map, List.mem_filter, List.mem_range]
  constructor
  · rintro ⟨p, ⟨h1, h2⟩, rfl⟩; exact ⟨p, rfl, h1, fun e => by simp [e] at h2⟩
  · rintro ⟨p, rfl, h1, h2⟩; exact ⟨p, ⟨h1, by cases h : f (p : Int) with
      | none => exact absurd h h2
      | some v => rfl⟩, rfl⟩
theorem keysL_sorted (f : Int → Option Value) (m : Nat) : (keysL f m).Pairwise (· < ·) := by
  unfold keysL
  refine List.pairwise_map.2 (((List.pairwise_lt_range).filter _).imp fun h => ?_)
  omega
theorem keysL_length (f : Int → Option Value) (m : Nat) : (keysL f m).length ≤ m := by
  unfold keysL
  rw [List.length_map]
  exact Nat.le_trans (List.length_filter_le _ _) (by simp)

theorem sorts (m : Nat) : AnyZI.SortsIn Tryz.prog Tryz.sortedZ_ren Fence.wide m :=
  ⟨fun blk off cap ss W hH hblk hsz => callsIn_wide.2 (Tryz.slices_Sort_int blk off cap ss W hH hblk hsz), fun p cap W => callsIn_wide.2 (Tryz.slices_Sort_int_none p cap W)⟩

theorem maps_keys (mb : Option Nat) (w : World) : Calls Tryz.prog 151 #[.map mb] w fun e w' => e = .returned (.func (.func 155) #[] #[.pointer (some ⟨w.heap.size, 0, none⟩)]) ∧ w' = w.alloc (.cells #[.map mb] 131) :=
  callsIn_wide.1 (AnyZI.keys_in Tryz.keysZ Fence.wide 5 trivial rfl mb w)

theorem sorted_keys (g b n m : Nat) (f : Int → Option Value) (w : World) (hg : w.cell? ⟨g, 0, none⟩ = some (.map (some b))) (hM : MapV w b n f) (hn : n ≤ 65536) (hm : ∀ x, f x ≠ none → 0 ≤ x ∧ x < m) :
    Calls Tryz.prog 150 #[.func (.func 155) #[] #[.pointer (some ⟨g, 0, none⟩)]] w fun e w' => ∃ v, e = .returned v ∧ Own w' w.heap.size v (keysL f m) ∧ Below w.heap.size w w' := by
  obtain ⟨D, h1, h2⟩ := hM
  have hgl : g < w.heap.size := by
    rcases Nat.lt_or_ge g w.heap.size with h | h
    · exact h
    · simp [World.cell?, Array.getElem?_eq_none h] at hg
  have hsz : Maps.size D ≤ n := h1.size_le
  have hseq : SeqGives Fence.wide 2 Tryz.prog 155 #[.pointer (some ⟨g, 0, none⟩)] encZ (fun ss => ss.Perm (intKeys D)) (Maps.size D) w :=
    AnyZI.keys_gives (ρ := Tryz.keysZ_ren) { Tryz.keysZ with } Fence.wide _ trivial rfl (by omega) g b n D _ hgl hg h1
  have hperm : (keysL f m).Perm (intKeys D) := by
    obtain ⟨es, rfl, hp, hk⟩ := int_lit h1
    refine perm_intKeys hp (fun p hp => ?_) ((keysL_sorted f m).imp fun h => by omega) fun x => ?_
    · obtain ⟨x, e, _⟩ := hk p hp
      exact ⟨x, e⟩
    · rw [mem_keysL]
      constructor
      · rintro ⟨p, rfl, hp, hf⟩
        rw [(h2.2 _ (h2.1 _ hf)).1]
        cases hfp : f (p : Int) with
        | none => exact absurd hfp hf
        | some v => rfl
      · intro hh
        have hx : f x ≠ none := fun e => by
          obtain ⟨p, hp, hs⟩ := List.any_eq_true.1 hh
          obtain ⟨y, ey, oky⟩ := hk p hp
          have : p.1 = keyI x := WideAt.sameKey_eq hs
          have hxy : y = x := by rw [ey] at this; injection this
          subst hxy
          rw [(h2.2 y oky).1, e] at hh
          cases hh
        have h3 := hm x hx
        exact ⟨x.toNat, by omega, by omega, by rw [Int.toNat_of_nonneg h3.1]; exact hx⟩
  have cS := AnyZI.sorted_in Tryz.sortedZ Fence.wide 5 trivial trivial trivial trivial rfl (by omega) (sorts _) (enters_of Tryz.func92 (by kernel_rfl) rfl) 155 #[.pointer (some ⟨g, 0, none⟩)] trivial (enters_of Tryz.func155 (by kernel_rfl) rfl) _ _ (by unfold maxLen; omega) (by omega) _ hseq
  change CallsIn _ _ Tryz.prog 150 _ _ _ at cS
  refine (callsIn_wide.1 cS).mono ?_
  rintro e w' ⟨v, ss, rfl, hS, hrow, _, hb⟩
  refine ⟨v, rfl, ?_, hb⟩
  have e1 : ss.mergeSort leI = keysL f m := by
    rw [mergeSort_of_perm_i (hS.trans hperm.symm)]
    refine List.mergeSort_of_pairwise ((keysL_sorted f m).imp fun h => ?_)
    simp only [leI, decide_eq_true_eq]
    omega
  have e2 : ss.length = (keysL f m).length := by rw [(hS.trans hperm.symm).length_eq]
  unfold Own
  rw [← e2, ← e1]
  exact hrow
end Go.Proofs.YtpkbdmieelgdlaaGreat
namespace Go.Proofs.YtpkbdmieelgdlaaGreat
open Go Go.RowKit

structure Lay where
  pa : Nat
  ga : Nat
  q0 : Nat
  b0 : Nat
  g0 : Nat
  ms : Nat
  ml : Nat
  lay : Nat → Nat × Nat × Nat
def smallP (L : Lay) (p : Nat) : Pst → Option Value
  | .small _ _ => some (.pointer (some ⟨(L.lay p).1, 0, none⟩))
  | _ => none
def largeP : Pst → Option Value
  | .first k => some (.int .i64 k)
  | _ => none
def smallF (L : Lay) (pg : List Pst) (x : Int) : Option Value := if x < 0 then none else smallP L x.toNat (atP pg x.toNat)
def largeF (pg : List Pst) (x : Int) : Option Value := if x < 0 then none else largeP (atP pg x.toNat)
theorem smallF_at (L : Lay) (pg : List Pst) (p : Nat) : smallF L pg p = smallP L p (atP pg p) := by unfold smallF; rw [if_neg (by omega), Int.toNat_natCast]
theorem largeF_at (pg : List Pst) (p : Nat) : largeF pg p = largeP (atP pg p) := by unfold largeF; rw [if_neg (by omega), Int.toNat_natCast]
theorem smallF_in {L : Lay} {pg : List Pst} {x : Int} (h : smallF L pg x ≠ none) : ∃ p c l, x = (p : Nat) ∧ p < pg.length ∧ atP pg p = .small c l := by
  unfold smallF at h
  split at h
  · exact absurd rfl h
  · rename_i h0
    cases hx : atP pg x.toNat <;> rw [hx] at h <;> try exact absurd rfl h
    rename_i c l
    exact ⟨x.toNat, c, l, by omega, atP_in hx (by simp), hx⟩
theorem largeF_in {pg : List Pst} {x : Int} (h : largeF pg x ≠ none) : ∃ p k, x = (p : Nat) ∧ p < pg.length ∧ atP pg p = .first k := by
  unfold largeF at h
  split at h
  · exact absurd rfl h
  · rename_i h0
    cases hx : atP pg x.toNat <;> rw [hx] at h <;> try exact absurd rfl h
    rename_i k
    exact ⟨x.toNat, k, by omega, atP_in hx (by simp), hx⟩

/-- The blocks of a space; those of them that a step may turn. -/
def Owns (s : Nat) (L : Lay) (S : Sp) (k : Nat) : Prop := k = s ∨ k = L.pa ∨ k = L.ga ∨ k = L.q0 ∨ k = L.b0 ∨ k = L.g0 ∨ k = L.ms ∨ k = L.ml ∨ ∃ p c l, atP S.pg p = .small c l ∧ (k = (L.lay p).1 ∨ k = (L.lay p).2.1 ∨ k = (L.lay p).2.2)

structure IsSpace (w : World) (s : Nat) (L : Lay) (S : Sp) : Prop where
  box : Blk w s 134 #[.pointer (some ⟨L.pa, 0, none⟩), .pointer (some ⟨L.q0, 0, none⟩), .map (some L.ms), .map (some L.ml)]
  arena : IsArena w L.pa L.ga S.W
  pages : IsPages w L.q0 L.b0 L.g0 (bitsOf S.pg)
  small : MapV w L.ms 256 (smallF L S.pg)
  large : MapV w L.ml 256 (largeF S.pg)
  page : ∀ p c l, atP S.pg p = .small c l → IsPage w (L.lay p).1 (L.lay p).2.1 (L.lay p).2.2 (wordsOf c) l
  apart : L.ms ≠ L.ml
  apart0 : ∀ p c l, atP S.pg p = .small c l → (L.lay p).2.2 ≠ L.g0
  apart1 : ∀ p c l p' c' l', atP S.pg p = .small c l → atP S.pg p' = .small c' l' → (L.lay p).2.2 = (L.lay p').2.2 → p = p'
  wf : S.WF

section
variable {w w' : World} {s : Nat} {L : Lay} {S : Sp} {E : List Nat}
theorem IsSpace.owned (h : IsSpace w s L S) {k : Nat} (hk : Owns s L S k) : k < w.heap.size := by
  rcases hk with rfl | rfl | rfl | rfl | rfl | rfl | rfl | rfl | ⟨p, c, l, hp, hk⟩
  · exact h.box.lt
  · exact h.arena.1.lt
  · exact h.arena.2.lt
  · exact h.pages.1.lt
  · exact h.pages.2.1.lt
  · exact h.pages.2.2.lt
  · exact h.small.lt
  · exact h.large.lt
  · have := h.page p c l hp
    rcases hk with rfl | rfl | rfl
    · exact this.1.lt
    · exact this.2.1.lt
    · exact this.2.2.lt
theorem Blk.moved {g : Nat} {t : TypeId} {cs : Array Value} (h : Blk w g t cs) (hb : w'.heap[g]? = w.heap[g]?) : Blk w' g t cs := hb.trans h
theorem IsSpace.moved (h : IsSpace w s L S) (hb : ∀ k, Owns s L S k → w'.heap[k]? = w.heap[k]?) : IsSpace w' s L S :=
  ⟨h.box.moved (hb _ (.inl rfl)), ⟨h.arena.1.moved (hb _ (.inr (.inl rfl))), h.arena.2.moved (hb _ (.inr (.inr (.inl rfl))))⟩,
    ⟨h.pages.1.moved (hb _ (.inr (.inr (.inr (.inl rfl))))), h.pages.2.1.moved (hb _ (.inr (.inr (.inr (.inr (.inl rfl)))))), h.pages.2.2.moved (hb _ (.inr (.inr (.inr (.inr (.inr (.inl rfl))))))) ⟩,
    h.small.of_block (hb _ (.inr (.inr (.inr (.inr (.inr (.inr (.inl rfl)))))))), h.large.of_block (hb _ (.inr (.inr (.inr (.inr (.inr (.inr (.inr (.inl rfl))))))))),
    fun p c l hp => by
      have hh := fun k hk => hb k (.inr (.inr (.inr (.inr (.inr (.inr (.inr (.inr ⟨p, c, l, hp, hk⟩))))))))
      have := h.page p c l hp
      exact ⟨this.1.moved (hh _ (.inl rfl)), this.2.1.moved (hh _ (.inr (.inl rfl))), this.2.2.moved (hh _ (.inr (.inr rfl)))⟩,
    h.apart, h.apart0, h.apart1, h.wf⟩
theorem IsSpace.upd (h : IsSpace w s L S) (hu : Upd E w w') (hE : ∀ k, Owns s L S k → k ∉ E) : IsSpace w' s L S := h.moved fun k hk => hu.block k (h.owned hk) (hE k hk)
theorem IsSpace.upd0 (h : IsSpace w s L S) (hu : Upd [] w w') : IsSpace w' s L S := h.upd hu (by simp)
theorem IsSpace.drew (h : IsSpace w s L S) : IsSpace w.drew s L S := h.upd0 (Upd.refl [] w).drew
theorem IsSpace.drewN (h : IsSpace w s L S) (n : Nat) : IsSpace (w.drewN n) s L S := h.upd0 ((Upd.refl [] w).drewN n)
theorem IsSpace.alloc (h : IsSpace w s L S) (o : Obj) : IsSpace (w.alloc o) s L S := h.upd0 ((Upd.refl [] w).alloc o)
theorem IsSpace.len (h : IsSpace w s L S) : S.W.length ≤ 16384 := by have := h.wf.n2; have := h.wf.len; omega
end

theorem sizes_at {c : Nat} (h : c < 5) : sizesL.getD c 0 = (wordsOf c : Nat) := by
  have : c = 0 ∨ c = 1 ∨ c = 2 ∨ c = 3 ∨ c = 4 := by omega
  rcases this with rfl | rfl | rfl | rfl | rfl <;> decide

theorem ptrZero (w : World) : (zeroValue 146).run Tryz.prog w = .ok (.pointer none) w := by kernel_rfl
theorem intZero (w : World) : (zeroValue 3).run Tryz.prog w = .ok (.int .i64 0) w := by kernel_rfl

/-- What 'open' answers. -/
def OpenSay (z : Int) (e : Ending) : Prop := (∃ p : Nat, z = p ∧ e = .returned (.tuple #[.int .i64 p, .bool true])) ∨ (z = -1 ∧ e = .returned (.tuple #[.int .i64 0, .bool false]))

set_option maxHeartbeats 800000 in
theorem open_calls (s : Nat) (L : Lay) (S : Sp) (c : Nat) (w : World) (h : IsSpace w s L S) (hc : c < 5) :
    Calls Tryz.prog 141 #[.pointer (some ⟨s, 0, none⟩), .int .i64 c] w fun e w' => OpenSay (openZ S.pg c) e ∧ Upd [] w w' := by
  have hks : ∀ x, smallF L S.pg x ≠ none → 0 ≤ x ∧ x < (S.pg.length : Nat) := fun x hx => by
    obtain ⟨p, c, l, rfl, hp, _⟩ := smallF_in hx
    omega
  obtain ⟨ks, hk⟩ : ∃ ks, keysL (smallF L S.pg) S.pg.length = ks := ⟨_, rfl⟩
  have hmem : ∀ j, j < ks.length → ∃ p c' l, ks.getD j 0 = (p : Nat) ∧ p < S.pg.length ∧ atP S.pg p = .small c' l := fun j hj => by
    have : ks.getD j 0 ∈ keysL (smallF L S.pg) S.pg.length := by rw [hk, List.getD_eq_getElem?_getD, List.getElem?_eq_getElem hj]; exact List.getElem_mem hj
    obtain ⟨p, e, hp, hf⟩ := mem_keysL.1 this
    obtain ⟨p', c', l, e', h1, h2⟩ := smallF_in hf
    obtain rfl : p = p' := by omega
    exact ⟨p, c', l, e, hp, h2⟩
  have hall : ∀ p c' l, atP S.pg p = .small c' l → ∃ j, j < ks.length ∧ ks.getD j 0 = (p : Nat) := fun p c' l hp => by
    have : (p : Int) ∈ ks := by rw [← hk, mem_keysL]; exact ⟨p, rfl, atP_in hp (by simp), by rw [smallF_at, hp]; simp [smallP]⟩
    obtain ⟨j, hj, e⟩ := List.mem_iff_getElem.1 this
    exact ⟨j, hj, by rw [List.getD_eq_getElem?_getD, List.getElem?_eq_getElem hj]; exact e⟩
  have hsort : ∀ i j, i < j → j < ks.length → ks.getD i 0 < ks.getD j 0 := fun i j hij hj => by
    have hs : ks.Pairwise (· < ·) := by rw [← hk]; exact keysL_sorted _ _
    have := List.pairwise_iff_getElem.1 hs i j (by omega) hj hij
    rw [List.getD_eq_getElem?_getD, List.getD_eq_getElem?_getD, List.getElem?_eq_getElem hj, List.getElem?_eq_getElem (show i < ks.length by omega)]
    exact this
  have hkl : ks.length ≤ 256 := by rw [← hk]; have := keysL_length (smallF L S.pg) S.pg.length; have := h.wf.n2; omega
  have hlenl : ∀ p c' l, atP S.pg p = .small c' l → c' < 5 ∧ l.length ≤ 16384 := fun p c' l hp => by
    have := h.wf.small p c' l hp
    have := room_pos this.1
    omega
  have c2 : w.cell? ⟨s, 2, none⟩ = some (.map (some L.ms)) := h.box.cell 2
  have H := Lib.hid h
  have HMEM := Lib.hid hmem
  have HALL := Lib.hid hall
  have HSORT := Lib.hid hsort
  have HLL := Lib.hid hlenl
  have HK := Lib.hid hk
  have HKS := Lib.hid hks
  have HSA := Lib.hid (sizes_at hc)
  clear h hmem hall hsort hlenl hk hks
  go_enter Tryz.func141, Tryz.ntmps141
  go_wp2_with fail
  refine (sizes_calls _).mono ?_
  rintro e w1 ⟨hz, rfl, hB, hh, hb⟩
  have cz : w1.cell? ⟨hz, c, none⟩ = some (.int .i64 (wordsOf c)) := by rw [← HSA.out]; exact hB.int c hc
  have HU1 : Hid (Upd [] w w1) := Lib.hid (Upd.of_below hb)
  have c21 : w1.cell? ⟨s, 2, none⟩ = some (.map (some L.ms)) := (HU1.out.cell (p := ⟨s, 2, none⟩) H.out.box.lt (by simp)).trans c2
  clear hb hB hh
  go_wp2_with fail
  refine (maps_keys _ _).mono ?_
  rintro e w2 ⟨rfl, rfl⟩
  go_wp2_with fail
  have hsk := sorted_keys w1.heap.size L.ms 256 S.pg.length (smallF L S.pg) (w1.alloc (.cells #[.map (some L.ms)] 131)) (by simp) ((H.out.upd0 HU1.out).small.alloc _) (by omega) HKS.out
  rw [HK.out] at hsk
  refine hsk.mono ?_
  clear hsk
  rintro e w3 ⟨v, rfl, hO, hb⟩
  obtain ⟨A, cap, hv, hI, _⟩ := hO.form
  subst hv
  have HU3 : Hid (Upd [] w w3) := Lib.hid ((HU1.out.alloc _).step (Upd.of_below hb : Upd [] _ _) (by simp))
  have HI := Lib.hid hI
  have c23 : w3.cell? ⟨s, 2, none⟩ = some (.map (some L.ms)) := (HU3.out.cell (p := ⟨s, 2, none⟩) H.out.box.lt (by simp)).trans c2
  clear hO hb hI c21 cz
  obtain ⟨N, hN⟩ : ∃ N, ks.length = N := ⟨_, rfl⟩
  rw [hN] at hkl ⊢
  have HN := Lib.hid hN
  clear hN
  go_wp2_with fail
  go_loopg [21] N (fun gk i wr => ∃ j : Nat, gk = N - j ∧ j ≤ N ∧ i = .int .i64 j ∧ Hid (Upd [] w3 wr) ∧ Hid (∀ m, m < j → ∀ p : Nat, ks.getD m 0 = p → isOpen c (atP S.pg p) = false))
  case atStart => exact ⟨0, rfl, by omega, rfl, Lib.hid (Upd.refl _ _), Lib.hid (fun m h => by omega)⟩
  case round =>
    obtain ⟨j, rfl, hj, rfl, HV, HP⟩ := hrel
    have HW : Hid (Upd [] w wr) := Lib.hid (HU3.out.trans HV.out)
    have d2 : wr.cell? ⟨s, 2, none⟩ = some (.map (some L.ms)) := (HW.out.cell (p := ⟨s, 2, none⟩) H.out.box.lt (by simp)).trans c2
    by_cases hlt : j < N
    · obtain ⟨p, c', l, hp, hpn, hat⟩ := HMEM.out j (by rw [HN.out]; exact hlt)
      obtain ⟨hc', hll⟩ := HLL.out p c' l hat
      obtain ⟨b, off, rfl, hb, ce⟩ := (Reads.upd (k := .i64) HI.out HV.out (by simp)).at HN.out hlt
      rw [hp] at ce
      have HSP := Lib.hid (H.out.upd0 HW.out)
      have HPG := Lib.hid (HSP.out.page p c' l hat)
      have hf : smallF L S.pg p = some (.pointer (some ⟨(L.lay p).1, 0, none⟩)) := by rw [smallF_at, hat]; rfl
      have HF := Lib.hid hf
      have HAT := Lib.hid hat
      have HPP := Lib.hid hp
      have hp64 : ok64 (p : Int) := by have := H.out.wf.n2; unfold ok64; omega
      have HP64 := Lib.hid hp64
      clear hf hat hp hp64
      generalize hq : (L.lay p).1 = q at *
      generalize (L.lay p).2.1 = bb at *
      generalize (L.lay p).2.2 = g at *
      have hstep : ∀ W, Upd [] wr W → isOpen c (atP S.pg p) = false → Hid (Upd [] w3 W) ∧ Hid (∀ m, m < j + 1 → ∀ p : Nat, ks.getD m 0 = p → isOpen c (atP S.pg p) = false) := fun W hu hno =>
        ⟨Lib.hid (HV.out.trans hu), Lib.hid (fun m hm p' hp' => by
          rcases Nat.eq_or_lt_of_le (show m ≤ j by omega) with rfl | h3
          · have e : p' = p := by have := HPP.out; omega
            rw [e]; exact hno
          · exact HP.out m h3 p' hp')⟩
      have HSTEP := Lib.hid hstep
      clear hstep hq
      by_cases hcc : c' = c
      · subst hcc
        have hw : ((wordsOf c' : Int) == (wordsOf c' : Int)) = true := by simp
        by_cases hfull : countB l = l.length
        · have HFU := Lib.hid (show decide (countB l = l.length) = true by rw [hfull]; simp)
          have HNO : Hid (isOpen c' (atP S.pg p) = false) := Lib.hid (by rw [HAT.out]; simp [isOpen, hfull])
          clear hfull
          go_wp2_with (at_lookup; refine wpList_look_mapv rfl _ _ 131 146 rfl Tryz.underlying131 HSP.out.small (ptrZero _) rdV_nil rfl (p : Int) HP64.out rfl ?_)
          rw [HF.out]
          go_wp2_with fail
          refine (words_any q bb g (wordsOf c') l _ HPG.out).mono ?_
          rintro e w' ⟨rfl, rfl⟩
          go_wp2_with fail
          have hq := full_any q bb g (wordsOf c') l _ HPG.out hll
          rw [HFU.out] at hq
          refine hq.mono ?_
          clear hq
          rintro e w4 ⟨rfl, nq, rfl⟩
          go_wp2_with fail
          go_roundg (N - (j + 1))
          case measure => omega
          case rel =>
            obtain ⟨h1, h2⟩ := HSTEP.out _ ((Upd.refl [] wr).drewN nq) HNO.out
            exact ⟨j + 1, rfl, by omega, by go_num, h1, h2⟩
        · have HFU := Lib.hid (show decide (countB l = l.length) = false by simp [hfull])
          have HYES : Hid (openZ S.pg c' = p) := Lib.hid (by
            refine openZ_hit (by rw [HAT.out]; simp [isOpen, hfull]) fun i hi => ?_
            cases hx : atP S.pg i <;> try rfl
            rename_i c'' l''
            obtain ⟨m, hm, e⟩ := HALL.out i c'' l'' hx
            rw [← hx]
            refine HP.out m ?_ i e
            rcases Nat.lt_or_ge m j with h1 | h1
            · exact h1
            · exfalso
              rcases Nat.eq_or_lt_of_le h1 with rfl | h2
              · have := HPP.out; omega
              · have := HSORT.out j m h2 hm
                rw [e, HPP.out] at this
                omega)
          clear hfull
          go_wp2_with (at_lookup; refine wpList_look_mapv rfl _ _ 131 146 rfl Tryz.underlying131 HSP.out.small (ptrZero _) rdV_nil rfl (p : Int) HP64.out rfl ?_)
          rw [HF.out]
          go_wp2_with fail
          refine (words_any q bb g (wordsOf c') l _ HPG.out).mono ?_
          rintro e w' ⟨rfl, rfl⟩
          go_wp2_with fail
          have hq := full_any q bb g (wordsOf c') l _ HPG.out hll
          rw [HFU.out] at hq
          refine hq.mono ?_
          clear hq
          rintro e w4 ⟨rfl, nq, rfl⟩
          go_wp2_with fail
          go_ret2
          exact ⟨.inl ⟨p, HYES.out, rfl⟩, HW.out.drewN nq⟩
      · have hw : ((wordsOf c' : Int) == (wordsOf c : Int)) = false := by
          have : wordsOf c' ≠ wordsOf c := fun e => hcc (words_inj hc' hc e)
          simp; omega
        have HNO : Hid (isOpen c (atP S.pg p) = false) := Lib.hid (by rw [HAT.out]; simp [isOpen, hcc])
        clear hcc
        go_wp2_with (at_lookup; refine wpList_look_mapv rfl _ _ 131 146 rfl Tryz.underlying131 HSP.out.small (ptrZero _) rdV_nil rfl (p : Int) HP64.out rfl ?_)
        rw [HF.out]
        go_wp2_with fail
        refine (words_any q bb g (wordsOf c') l _ HPG.out).mono ?_
        rintro e w' ⟨rfl, rfl⟩
        go_wp2_with fail
        go_roundg (N - (j + 1))
        case measure => omega
        case rel =>
          obtain ⟨h1, h2⟩ := HSTEP.out _ (Upd.refl [] wr) HNO.out
          exact ⟨j + 1, rfl, by omega, by go_num, h1, h2⟩
    · obtain rfl : j = N := by omega
      have HNONE : Hid (openZ S.pg c = -1) := Lib.hid (by
        refine openZ_miss fun i hi => ?_
        cases hx : atP S.pg i <;> try rfl
        rename_i c'' l''
        obtain ⟨m, hm, e⟩ := HALL.out i c'' l'' hx
        rw [← hx]
        exact HP.out m (by have := HN.out; omega) i e)
      go_wp2_with fail
      go_ret2
      exact ⟨.inr ⟨HNONE.out, rfl⟩, HW.out⟩
end Go.Proofs.YtpkbdmieelgdlaaGreat
namespace Go.Proofs.YtpkbdmieelgdlaaGreat
open Go Go.RowKit

def gOf (L : Lay) (p : Nat) : Pst → List Nat
  | .small _ _ => [(L.lay p).2.2]
  | _ => []
/-- The blocks of a space that a step may turn. -/
def Foot (L : Lay) (S : Sp) : List Nat := [L.ga, L.g0, L.ms, L.ml] ++ (List.range S.pg.length).flatMap fun p => gOf L p (atP S.pg p)
theorem mem_foot {L : Lay} {S : Sp} {k : Nat} : k ∈ Foot L S ↔ k = L.ga ∨ k = L.g0 ∨ k = L.ms ∨ k = L.ml ∨ ∃ p c l, atP S.pg p = .small c l ∧ k = (L.lay p).2.2 := by
  unfold Foot
  simp only [List.mem_append, List.mem_cons, List.not_mem_nil, or_false, List.mem_flatMap, List.mem_range]
  constructor
  · rintro ((h | h | h | h) | ⟨p, hp, hk⟩)
    · exact .inl h
    · exact .inr (.inl h)
    · exact .inr (.inr (.inl h))
    · exact .inr (.inr (.inr (.inl h)))
    · cases hx : atP S.pg p <;> rw [hx] at hk <;> simp [gOf] at hk
      exact .inr (.inr (.inr (.inr ⟨p, _, _, hx, hk⟩)))
  · rintro (h | h | h | h | ⟨p, c, l, hx, hk⟩)
    · exact .inl (.inl h)
    · exact .inl (.inr (.inl h))
    · exact .inl (.inr (.inr (.inl h)))
    · exact .inl (.inr (.inr (.inr h)))
    · exact .inr ⟨p, atP_in hx (by simp), by rw [hx]; simp [gOf, hk]⟩
theorem foot_owns {s : Nat} {L : Lay} {S : Sp} {k : Nat} (h : k ∈ Foot L S) : Owns s L S k := by
  unfold Owns
  rcases mem_foot.1 h with h | h | h | h | ⟨p, c, l, hx, hk⟩
  · simp [h]
  · simp [h]
  · simp [h]
  · simp [h]
  · exact .inr (.inr (.inr (.inr (.inr (.inr (.inr (.inr ⟨p, c, l, hx, .inr (.inr hk)⟩)))))))

/-- Behind a step that turns S to S'. -/
def After (s : Nat) (L : Lay) (S S' : Sp) (w w' : World) : Prop :=
  ∃ L', IsSpace w' s L' S' ∧ Upd (Foot L S) w w' ∧ (∀ k ∈ Foot L' S', k ∈ Foot L S ∨ w.heap.size ≤ k) ∧ ∀ k, Owns s L' S' k → Owns s L S k ∨ w.heap.size ≤ k

section
variable {w w' w1 w2 : World} {s : Nat} {L L' : Lay} {S S' S1 S2 : Sp} {E : List Nat}
theorem After.same (h : IsSpace w s L S) (hu : Upd [] w w') : After s L S S w w' := ⟨L, h.upd0 hu, hu.mono (by simp), fun k hk => .inl hk, fun k hk => .inl hk⟩
theorem After.trans (h : After s L S S1 w w1) (k : ∀ L1, IsSpace w1 s L1 S1 → After s L1 S1 S2 w1 w2) : After s L S S2 w w2 := by
  obtain ⟨L1, h1, h2, h3, h4⟩ := h
  obtain ⟨L2, k1, k2, k3, k4⟩ := k L1 h1
  have hz := h2.size
  refine ⟨L2, k1, h2.step k2 h3, fun i hi => ?_, fun i hi => ?_⟩
  · rcases k3 i hi with h | h
    · exact h3 i h
    · exact .inr (by omega)
  · rcases k4 i hi with h | h
    · exact h4 i h
    · exact .inr (by omega)
theorem After.step (h : IsSpace w1 s L' S1 ∧ Upd (Foot L S) w w1 ∧ (∀ k ∈ Foot L' S1, k ∈ Foot L S ∨ w.heap.size ≤ k) ∧ ∀ k, Owns s L' S1 k → Owns s L S k ∨ w.heap.size ≤ k) (k : After s L' S1 S2 w1 w2) : After s L S S2 w w2 := by
  obtain ⟨h1, h2, h3, h4⟩ := h
  obtain ⟨L2, k1, k2, k3, k4⟩ := k
  have hz := h2.size
  refine ⟨L2, k1, h2.step k2 h3, fun i hi => ?_, fun i hi => ?_⟩
  · rcases k3 i hi with h | h
    · exact h3 i h
    · exact .inr (by omega)
  · rcases k4 i hi with h | h
    · exact h4 i h
    · exact .inr (by omega)
theorem After.upd0 (h : After s L S S1 w w1) (hu : Upd [] w1 w2) : After s L S S1 w w2 := h.trans fun _ h1 => .same h1 hu
theorem After.behind (hu : Upd [] w w1) (h : After s L S S1 w1 w2) : After s L S S1 w w2 := by
  obtain ⟨L1, h1, h2, h3, h4⟩ := h
  have hz := hu.size
  refine ⟨L1, h1, (hu.mono (by simp)).trans h2, fun i hi => ?_, fun i hi => ?_⟩
  · rcases h3 i hi with h | h
    · exact .inl h
    · exact .inr (by omega)
  · rcases h4 i hi with h | h
    · exact .inl h
    · exact .inr (by omega)

theorem Blk.ne_map {g b n : Nat} {t : TypeId} {cs : Array Value} {f : Int → Option Value} (h : Blk w g t cs) (hm : MapV w b n f) : g ≠ b := by
  rintro rfl
  obtain ⟨D, ⟨es, clock, hb, _⟩, _⟩ := hm
  unfold Blk at h
  rw [h] at hb
  cases hb

/-- Words are filled or stored. -/
theorem IsSpace.words {W : List Int} (h : IsSpace w s L S) (ha : IsArena w' L.pa L.ga W) (hl : W.length = S.W.length) (hu : Upd [L.ga] w w') : After s L S ⟨W, S.pg⟩ w w' := by
  have ng : ∀ {g t cs}, Blk w g t cs → t ≠ 3 → g ∉ [L.ga] := fun hb hne => by simpa using hb.ne_ h.arena.2 hne
  refine ⟨L, ⟨h.box.upd hu (ng h.box (by decide)), ha, h.pages.upd hu (ng h.pages.1 (by decide)) (ng h.pages.2.1 (by decide)) (ng h.pages.2.2 (by decide)), h.small.upd hu (by simpa using (h.arena.2.ne_map h.small).symm), h.large.upd hu (by simpa using (h.arena.2.ne_map h.large).symm),
    fun p c l hp => (h.page p c l hp).upd hu (ng (h.page p c l hp).1 (by decide)) (ng (h.page p c l hp).2.1 (by decide)) (ng (h.page p c l hp).2.2 (by decide)), h.apart, h.apart0, h.apart1, ?_⟩, hu.mono (fun i hi => mem_foot.2 (.inl (by simpa using hi))), fun k hk => .inl hk, fun k hk => .inl hk⟩
  exact ⟨h.wf.n1, h.wf.n2, by rw [hl]; exact h.wf.len, h.wf.zero, h.wf.small, h.wf.first, h.wf.rest⟩

/-- The blocks of a page that are taken turn. -/
theorem IsSpace.bits {p c : Nat} {l l' : List Bool} (h : IsSpace w s L S) (hp : atP S.pg p = .small c l) (hP : IsPage w' (L.lay p).1 (L.lay p).2.1 (L.lay p).2.2 (wordsOf c) l') (hl : l'.length = l.length) (hu : Upd [(L.lay p).2.2] w w') :
    After s L S ⟨S.W, S.pg.set p (.small c l')⟩ w w' := by
  have hb := (h.page p c l hp).2.2
  have hlt := atP_in hp (by simp)
  have ng : ∀ {g t cs}, Blk w g t cs → t ≠ 4 → g ∉ [(L.lay p).2.2] := fun hb' hne => by simpa using hb'.ne_ hb hne
  have hA : ∀ j, atP (S.pg.set p (.small c l')) j = if j = p then .small c l' else atP S.pg j := fun j => atP_set _ hlt
  have hsm : ∀ j c' k, atP (S.pg.set p (.small c l')) j = .small c' k → ∃ k', atP S.pg j = .small c' k' := fun j c' k hj => by
    rw [hA] at hj
    split at hj
    · rename_i e; cases hj; subst e; exact ⟨l, hp⟩
    · exact ⟨k, hj⟩
  have hbs : bitsOf (S.pg.set p (.small c l')) = bitsOf S.pg := by
    rw [bits_set]
    refine ext_getD (by simp) fun j hj => ?_
    rw [getD_set]
    split
    · rename_i e; obtain ⟨rfl, _⟩ := e; rw [bits_get, hp]; rfl
    · rfl
  refine ⟨L, ⟨h.box.upd hu (ng h.box (by decide)), h.arena.upd hu (ng h.arena.1 (by decide)) (ng h.arena.2 (by decide)), ?_, ?_, ?_, fun j c' k hj => ?_, h.apart, fun j c' k hj => ?_, fun j c' k j' c'' k' hj hj' e => ?_, ?_⟩,
    hu.mono (fun i hi => mem_foot.2 (.inr (.inr (.inr (.inr ⟨p, c, l, hp, by simpa using hi⟩))))), fun k hk => .inl ?_, fun k hk => .inl ?_⟩
  · show IsPages w' _ _ _ (bitsOf (S.pg.set p _))
    rw [hbs]
    exact h.pages.upd hu (ng h.pages.1 (by decide)) (ng h.pages.2.1 (by decide)) (by simpa using (h.apart0 p c l hp).symm)
  · refine (h.small.upd hu (by simpa using (hb.ne_map h.small).symm)).congr fun x => ?_
    unfold smallF
    split
    · rfl
    · show _ = smallP L x.toNat (atP (S.pg.set p _) x.toNat)
      rw [hA]
      split
      · rename_i e; rw [e, hp]; rfl
      · rfl
  · refine (h.large.upd hu (by simpa using (hb.ne_map h.large).symm)).congr fun x => ?_
    unfold largeF
    split
    · rfl
    · show _ = largeP (atP (S.pg.set p _) x.toNat)
      rw [hA]
      split
      · rename_i e; rw [e, hp]; rfl
      · rfl
  · have hj : atP (S.pg.set p (.small c l')) j = .small c' k := hj
    rw [hA] at hj
    split at hj
    · rename_i e; cases hj; subst e; exact hP
    · rename_i e
      have := h.page j c' k hj
      exact this.upd hu (ng this.1 (by decide)) (ng this.2.1 (by decide)) (by simp; exact fun e2 => e (h.apart1 _ _ _ _ _ _ hj hp e2))
  · obtain ⟨k', hk'⟩ := hsm j c' k hj
    exact h.apart0 j c' k' hk'
  · obtain ⟨k1, hk1⟩ := hsm j c' k hj
    obtain ⟨k2, hk2⟩ := hsm j' c'' k' hj'
    exact h.apart1 _ _ _ _ _ _ hk1 hk2 e
  · exact h.wf.set_small hlt (.inr ⟨c, l, hp⟩) (h.wf.small p c l hp).1 (by rw [hl]; exact (h.wf.small p c l hp).2) rfl
  · rcases mem_foot.1 hk with h1 | h1 | h1 | h1 | ⟨j, c', m, hj, h1⟩
    · exact mem_foot.2 (.inl h1)
    · exact mem_foot.2 (.inr (.inl h1))
    · exact mem_foot.2 (.inr (.inr (.inl h1)))
    · exact mem_foot.2 (.inr (.inr (.inr (.inl h1))))
    · obtain ⟨m', hm'⟩ := hsm j c' m hj
      exact mem_foot.2 (.inr (.inr (.inr (.inr ⟨j, c', m', hm', h1⟩))))
  · unfold Owns at hk ⊢
    rcases hk with h1 | h1 | h1 | h1 | h1 | h1 | h1 | h1 | ⟨j, c', m, hj, h1⟩
    · simp [h1]
    · simp [h1]
    · simp [h1]
    · simp [h1]
    · simp [h1]
    · simp [h1]
    · simp [h1]
    · simp [h1]
    · obtain ⟨m', hm'⟩ := hsm j c' m hj
      exact .inr (.inr (.inr (.inr (.inr (.inr (.inr (.inr ⟨j, c', m', hm', h1⟩)))))))

/-- A page of blocks is new. -/
theorem IsSpace.newSmall {p c q b g : Nat} {l : List Bool} (h : IsSpace w s L S) (hp : atP S.pg p = .free) (hlt : p < S.pg.length) (hc : c < 5) (hl : l.length = roomOf c) (hP : IsPages w' L.q0 L.b0 L.g0 ((bitsOf S.pg).set p true))
    (hN : IsPage w' q b g (wordsOf c) l) (hq : w.heap.size ≤ q) (hb : w.heap.size ≤ b) (hg : w.heap.size ≤ g) (hM : MapV w' L.ms 257 (setF (smallF L S.pg) p (some (.pointer (some ⟨q, 0, none⟩))))) (hu : Upd [L.g0, L.ms] w w') :
    After s L S ⟨S.W, S.pg.set p (.small c l)⟩ w w' := by
  have hgb := h.pages.2.2
  have ng : ∀ {g t cs}, Blk w g t cs → t ≠ 4 → g ∉ [L.g0, L.ms] := fun hb' hne => by
    have h1 := hb'.ne_ hgb hne
    have h2 := hb'.ne_map h.small
    simp [h1, h2]
  have hA : ∀ j, atP (S.pg.set p (.small c l)) j = if j = p then .small c l else atP S.pg j := fun j => atP_set _ hlt
  have hold : ∀ j c' k, atP S.pg j = .small c' k → j ≠ p := fun j c' k hj e => by subst e; rw [hp] at hj; cases hj
  refine ⟨{ L with lay := fun x => if x = p then (q, b, g) else L.lay x }, ⟨h.box.upd hu (ng h.box (by decide)), h.arena.upd hu (ng h.arena.1 (by decide)) (ng h.arena.2 (by decide)), ?_, ?_, ?_, fun j c' k hj => ?_, h.apart, fun j c' k hj => ?_, fun j c' k j' c'' k' hj hj' e => ?_, ?_⟩,
    hu.mono (fun i hi => ?_), fun k hk => ?_, fun k hk => ?_⟩
  · show IsPages w' _ _ _ (bitsOf (S.pg.set p _))
    rw [bits_set]
    exact hP
  · refine (hM.tight (m := 256) fun x hx => ?_).congr fun x => ?_
    · have := h.wf.n2
      unfold setF at hx
      split at hx
      · rename_i e; subst e; omega
      · obtain ⟨p', _, _, rfl, h1, _⟩ := smallF_in hx; omega
    · unfold setF
      by_cases e : x = p
      · subst e; rw [if_pos rfl, smallF_at, hA, if_pos rfl]; simp [smallP]
      · rw [if_neg e]
        unfold smallF
        split
        · rfl
        · have e2 : x.toNat ≠ p := by omega
          show _ = smallP _ x.toNat (atP (S.pg.set p _) x.toNat)
          rw [hA, if_neg e2]
          cases atP S.pg x.toNat <;> simp [smallP, e2]
  · refine (h.large.upd hu (by have h1 := (hgb.ne_map h.large).symm; have h2 := h.apart.symm; simp [h1, h2])).congr fun x => ?_
    unfold largeF
    split
    · rfl
    · show _ = largeP (atP (S.pg.set p _) x.toNat)
      rw [hA]
      split
      · rename_i e; rw [e, hp]; rfl
      · rfl
  · have hj : atP (S.pg.set p (.small c l)) j = .small c' k := hj
    rw [hA] at hj
    split at hj
    · rename_i e; cases hj; subst e; simpa using hN
    · rename_i e
      have := h.page j c' k hj
      simp only [if_neg e]
      have h1 := h.apart0 j c' k hj
      have h2 := this.2.2.ne_map h.small
      exact this.upd hu (ng this.1 (by decide)) (ng this.2.1 (by decide)) (by simp [h1, h2])
  · have hj : atP (S.pg.set p (.small c l)) j = .small c' k := hj
    rw [hA] at hj
    split at hj
    · rename_i e
      have := hgb.lt
      simp only [if_pos e]
      omega
    · rename_i e
      simp only [if_neg e]
      exact h.apart0 j c' k hj
  · have hj : atP (S.pg.set p (.small c l)) j = .small c' k := hj
    have hj' : atP (S.pg.set p (.small c l)) j' = .small c'' k' := hj'
    rw [hA] at hj hj'
    by_cases e1 : j = p
    · by_cases e2 : j' = p
      · omega
      · rw [if_neg e2] at hj'
        simp only [if_pos e1, if_neg e2] at e
        have := (h.page j' c'' k' hj').2.2.lt
        omega
    · rw [if_neg e1] at hj
      by_cases e2 : j' = p
      · simp only [if_neg e1, if_pos e2] at e
        have := (h.page j c' k hj).2.2.lt
        omega
      · rw [if_neg e2] at hj'
        simp only [if_neg e1, if_neg e2] at e
        exact h.apart1 _ _ _ _ _ _ hj hj' e
  · exact h.wf.set_small hlt (.inl hp) hc hl rfl
  · simp only [List.mem_cons, List.not_mem_nil, or_false] at hi
    rcases hi with rfl | rfl
    · exact mem_foot.2 (.inr (.inl rfl))
    · exact mem_foot.2 (.inr (.inr (.inl rfl)))
  · rcases mem_foot.1 hk with h1 | h1 | h1 | h1 | ⟨j, c', m, hj, h1⟩
    · exact .inl (mem_foot.2 (.inl h1))
    · exact .inl (mem_foot.2 (.inr (.inl h1)))
    · exact .inl (mem_foot.2 (.inr (.inr (.inl h1))))
    · exact .inl (mem_foot.2 (.inr (.inr (.inr (.inl h1)))))
    · have hj : atP (S.pg.set p (.small c l)) j = .small c' m := hj
      rw [hA] at hj
      by_cases e : j = p
      · simp only [if_pos e] at h1; exact .inr (by omega)
      · rw [if_neg e] at hj
        simp only [if_neg e] at h1
        exact .inl (mem_foot.2 (.inr (.inr (.inr (.inr ⟨j, c', m, hj, h1⟩)))))
  · unfold Owns at hk ⊢
    rcases hk with h1 | h1 | h1 | h1 | h1 | h1 | h1 | h1 | ⟨j, c', m, hj, h1⟩
    · simp [h1]
    · simp [h1]
    · simp [h1]
    · simp [h1]
    · simp [h1]
    · simp [h1]
    · simp [h1]
    · simp [h1]
    · have hj : atP (S.pg.set p (.small c l)) j = .small c' m := hj
      rw [hA] at hj
      by_cases e : j = p
      · simp only [if_pos e] at h1
        exact .inr (by rcases h1 with h1 | h1 | h1 <;> omega)
      · rw [if_neg e] at hj
        simp only [if_neg e] at h1
        exact .inl (.inr (.inr (.inr (.inr (.inr (.inr (.inr (.inr ⟨j, c', m, hj, h1⟩))))))))

/-- Pages turn that are of no blocks, behind it as ahead of it. -/
theorem IsSpace.turn {pg : List Pst} {E : List Nat} (h : IsSpace w s L S) (hwf : (Sp.mk S.W pg).WF) (hsm : ∀ j c l, atP pg j = .small c l → atP S.pg j = .small c l) (hE : ∀ k ∈ E, k = L.g0 ∨ k = L.ms ∨ k = L.ml ∨ ∃ p c l, atP S.pg p = .small c l ∧ k = (L.lay p).2.2 ∧ ∀ c' l', atP pg p ≠ .small c' l')
    (hu : Upd E w w') (hP : IsPages w' L.q0 L.b0 L.g0 (bitsOf pg)) (hM : MapV w' L.ms 256 (smallF L pg)) (hN : MapV w' L.ml 256 (largeF pg)) : After s L S ⟨S.W, pg⟩ w w' := by
  have hgb := h.pages.2.2
  have ng : ∀ {g t cs}, Blk w g t cs → t ≠ 4 → g ∉ E := fun {g t cs} hb' hne hm => by
    rcases hE _ hm with e | e | e | ⟨p, c, l, hp, e, _⟩
    · exact hb'.ne_ hgb hne e
    · exact hb'.ne_map h.small e
    · exact hb'.ne_map h.large e
    · exact hb'.ne_ (h.page p c l hp).2.2 hne e
  refine ⟨L, ⟨h.box.upd hu (ng h.box (by decide)), h.arena.upd hu (ng h.arena.1 (by decide)) (ng h.arena.2 (by decide)), hP, hM, hN, fun j c' k hj => ?_, h.apart, fun j c' k hj => ?_, fun j c' k j' c'' k' hj hj' e => ?_, hwf⟩, hu.mono (fun i hi => ?_), fun k hk => .inl ?_, fun k hk => .inl ?_⟩
  · have hj0 := hsm j c' k hj
    have := h.page j c' k hj0
    refine this.upd hu (ng this.1 (by decide)) (ng this.2.1 (by decide)) fun hm => ?_
    rcases hE _ hm with e | e | e | ⟨p, c, l, hp, e, hno⟩
    · exact h.apart0 j c' k hj0 e
    · exact this.2.2.ne_map h.small e
    · exact this.2.2.ne_map h.large e
    · have := h.apart1 _ _ _ _ _ _ hj0 hp e
      subst this
      exact hno _ _ hj
  · exact h.apart0 j c' k (hsm j c' k hj)
  · exact h.apart1 _ _ _ _ _ _ (hsm _ _ _ hj) (hsm _ _ _ hj') e
  · rcases hE i hi with e | e | e | ⟨p, c, l, hp, e, _⟩
    · exact mem_foot.2 (.inr (.inl e))
    · exact mem_foot.2 (.inr (.inr (.inl e)))
    · exact mem_foot.2 (.inr (.inr (.inr (.inl e))))
    · exact mem_foot.2 (.inr (.inr (.inr (.inr ⟨p, c, l, hp, e⟩))))
  · rcases mem_foot.1 hk with h1 | h1 | h1 | h1 | ⟨j, c', m, hj, h1⟩
    · exact mem_foot.2 (.inl h1)
    · exact mem_foot.2 (.inr (.inl h1))
    · exact mem_foot.2 (.inr (.inr (.inl h1)))
    · exact mem_foot.2 (.inr (.inr (.inr (.inl h1))))
    · exact mem_foot.2 (.inr (.inr (.inr (.inr ⟨j, c', m, hsm _ _ _ hj, h1⟩))))
  · unfold Owns at hk ⊢
    rcases hk with h1 | h1 | h1 | h1 | h1 | h1 | h1 | h1 | ⟨j, c', m, hj, h1⟩
    · simp [h1]
    · simp [h1]
    · simp [h1]
    · simp [h1]
    · simp [h1]
    · simp [h1]
    · simp [h1]
    · simp [h1]
    · exact .inr (.inr (.inr (.inr (.inr (.inr (.inr (.inr ⟨j, c', m, hsm _ _ _ hj, h1⟩)))))))
end
end Go.Proofs.YtpkbdmieelgdlaaGreat
namespace Go.Proofs.YtpkbdmieelgdlaaGreat
open Go Go.RowKit

theorem open_yes (s : Nat) (L : Lay) (S : Sp) (c p : Nat) (w : World) (h : IsSpace w s L S) (hc : c < 5) (ho : openZ S.pg c = p) :
    Calls Tryz.prog 141 #[.pointer (some ⟨s, 0, none⟩), .int .i64 c] w fun e w' => e = .returned (.tuple #[.int .i64 p, .bool true]) ∧ Upd [] w w' :=
  (open_calls s L S c w h hc).mono fun e w' ⟨hs, hu⟩ => by
    rw [ho] at hs
    rcases hs with ⟨p', h1, h2⟩ | ⟨h1, _⟩
    · obtain rfl : p = p' := by omega
      exact ⟨h2, hu⟩
    · omega
theorem open_no (s : Nat) (L : Lay) (S : Sp) (c : Nat) (w : World) (h : IsSpace w s L S) (hc : c < 5) (ho : openZ S.pg c = -1) :
    Calls Tryz.prog 141 #[.pointer (some ⟨s, 0, none⟩), .int .i64 c] w fun e w' => e = .returned (.tuple #[.int .i64 0, .bool false]) ∧ Upd [] w w' :=
  (open_calls s L S c w h hc).mono fun e w' ⟨hs, hu⟩ => by
    rw [ho] at hs
    rcases hs with ⟨p', h1, h2⟩ | ⟨h1, h2⟩
    · omega
    · exact ⟨h2, hu⟩

theorem run_at {pg : List Pst} {k p : Nat} (hk : 1 ≤ k) (h : runZ (bitsOf pg) 0 k = p) : p + k ≤ pg.length ∧ ∀ j, p ≤ j → j < p + k → atP pg j = .free := by
  obtain ⟨h1, h2, _⟩ := run_free hk h
  rw [bits_length] at h1
  refine ⟨h1, fun j h3 h4 => ?_⟩
  have := freeB_true.1 h2 j h3 h4
  rw [bits_get] at this
  cases hx : atP pg j <;> rw [hx] at this <;> first | rfl | cases this

/-- The page in which a class's next block comes, and the space behind that. -/
def First (S : Sp) (c p : Nat) (l : List Bool) (S1 : Sp) : Prop := (openZ S.pg c = p ∧ S1 = S ∧ atP S.pg p = .small c l) ∨
  (openZ S.pg c = -1 ∧ runZ (bitsOf S.pg) 0 1 = p ∧ l = List.replicate (roomOf c) false ∧ S1 = ⟨S.W, S.pg.set p (.small c l)⟩)
theorem First.at {S S1 : Sp} {c p : Nat} {l : List Bool} (h : First S c p l S1) : atP S1.pg p = .small c l := by
  rcases h with ⟨_, rfl, h⟩ | ⟨_, h1, rfl, rfl⟩
  · exact h
  · have := (run_at (k := 1) (by omega) h1).1
    show atP (S.pg.set p _) p = _
    rw [atP_set _ (by omega), if_pos rfl]
theorem First.words {S S1 : Sp} {c p : Nat} {l : List Bool} (h : First S c p l S1) : S1.W = S.W := by
  rcases h with ⟨_, rfl, h⟩ | ⟨_, h1, rfl, rfl⟩ <;> rfl

theorem first_full (s : Nat) (L : Lay) (S : Sp) (c : Nat) (w : World) (h : IsSpace w s L S) (hc : c < 5) (ho : openZ S.pg c = -1) (hr : runZ (bitsOf S.pg) 0 1 = -1) :
    Calls Tryz.prog 123 #[.pointer (some ⟨s, 0, none⟩), .int .i64 c] w fun e w' => e = .returned (.tuple #[.int .i64 0, .int .i64 3]) ∧ Upd [] w w' := by
  have c1 : w.cell? ⟨s, 1, none⟩ = some (.pointer (some ⟨L.q0, 0, none⟩)) := h.box.cell 1
  have H := Lib.hid h
  have HO := Lib.hid ho
  have HR := Lib.hid hr
  clear h ho hr
  go_enter Tryz.func123, Tryz.ntmps123
  go_wp2_with fail
  refine (open_no s L S c _ H.out hc HO.out).mono ?_
  rintro e w1 ⟨rfl, hu⟩
  have HU := Lib.hid hu
  have d1 : w1.cell? ⟨s, 1, none⟩ = some (.pointer (some ⟨L.q0, 0, none⟩)) := (hu.cell (p := ⟨s, 1, none⟩) H.out.box.lt (by simp)).trans c1
  clear hu c1
  go_wp2_with fail
  refine (ptake_no L.q0 L.b0 L.g0 (bitsOf S.pg) 1 _ (H.out.upd0 HU.out).pages (by rw [bits_length]; exact H.out.wf.n2) (by omega) (by omega) HR.out).mono ?_
  rintro e w' ⟨rfl, rfl⟩
  go_wp2_with fail
  go_ret2
  exact ⟨rfl, HU.out⟩

theorem first_calls (s : Nat) (L : Lay) (S S1 : Sp) (c p : Nat) (l : List Bool) (w : World) (h : IsSpace w s L S) (hc : c < 5) (hf : First S c p l S1) :
    Calls Tryz.prog 123 #[.pointer (some ⟨s, 0, none⟩), .int .i64 c] w fun e w' => e = .returned (.tuple #[.int .i64 p, .int .i64 0]) ∧ After s L S S1 w w' := by
  rcases hf with ⟨ho, rfl, _⟩ | ⟨ho, hr, rfl, rfl⟩
  · have H := Lib.hid h
    have HO := Lib.hid ho
    clear h ho
    go_enter Tryz.func123, Tryz.ntmps123
    go_wp2_with fail
    refine (open_yes s L S1 c p _ H.out hc HO.out).mono ?_
    rintro e w1 ⟨rfl, hu⟩
    have HU := Lib.hid hu
    clear hu
    go_wp2_with fail
    go_ret2
    exact ⟨rfl, .same H.out HU.out⟩
  · have c1 : w.cell? ⟨s, 1, none⟩ = some (.pointer (some ⟨L.q0, 0, none⟩)) := h.box.cell 1
    have c2 : w.cell? ⟨s, 2, none⟩ = some (.map (some L.ms)) := h.box.cell 2
    obtain ⟨hp1, hp2⟩ := run_at (k := 1) (by omega) hr
    have HP := Lib.hid (And.intro hp1 (hp2 p (by omega) (by omega)))
    have hp64 : ok64 (p : Int) := by have := h.wf.n2; unfold ok64; omega
    have HP64 := Lib.hid hp64
    have H := Lib.hid h
    have HO := Lib.hid ho
    have HR := Lib.hid hr
    clear h ho hr hp1 hp2 hp64
    go_enter Tryz.func123, Tryz.ntmps123
    go_wp2_with fail
    refine (open_no s L S c _ H.out hc HO.out).mono ?_
    rintro e w1 ⟨rfl, hu⟩
    have HU := Lib.hid hu
    have d1 : w1.cell? ⟨s, 1, none⟩ = some (.pointer (some ⟨L.q0, 0, none⟩)) := (hu.cell (p := ⟨s, 1, none⟩) H.out.box.lt (by simp)).trans c1
    clear hu c1
    go_wp2_with fail
    refine (ptake_yes L.q0 L.b0 L.g0 (bitsOf S.pg) 1 p _ (H.out.upd0 HU.out).pages (by rw [bits_length]; exact H.out.wf.n2) (by omega) HR.out).mono ?_
    rintro e w2 ⟨rfl, hP, hu⟩
    rw [span_one] at hP
    have HPG := Lib.hid hP
    have HU2 : Hid (Upd [L.g0] w w2) := Lib.hid ((HU.out.mono (by simp)).trans hu)
    clear hP hu d1
    go_wp2_with fail
    refine (block_new_yes c _ hc).mono ?_
    rintro e w3 ⟨q, b, g, rfl, hN, hq, hb, hg, hu⟩
    have HN := Lib.hid hN
    have HQ := Lib.hid (And.intro hq (And.intro hb hg))
    have HW3 := Lib.hid hu
    have HU3 : Hid (Upd [L.g0] w w3) := Lib.hid (HU2.out.step (Upd.of_below hu : Upd [] _ _) (by simp))
    have hs0 : s ∉ [L.g0] := by simpa using H.out.box.ne_ H.out.pages.2.2 (by decide)
    have d2 : w3.cell? ⟨s, 2, none⟩ = some (.map (some L.ms)) := (HU3.out.cell (p := ⟨s, 2, none⟩) H.out.box.lt hs0).trans c2
    have HM : Hid (MapV w3 L.ms 256 (smallF L S.pg)) := Lib.hid (H.out.small.upd HU3.out (by simpa using (H.out.pages.2.2.ne_map H.out.small).symm))
    clear hN hq hb hg hu c2 hs0
    go_wp2_with (at_mapUpdate; refine wpList_put_mapv rfl _ _ _ 131 146 rfl Tryz.underlying131 HM.out (by omega) rfl (p : Int) HP64.out (.pointer (some ⟨q, 0, none⟩)) rfl rfl (rdV_ptr q) ?_)
    intro w4 hM4 hu4
    have HM4 := Lib.hid hM4
    have HU4 := Lib.hid hu4
    clear hM4 hu4
    go_wp2_with fail
    go_ret2
    have hz2 := HU2.out.size
    have hz3 := HW3.out.size
    obtain ⟨hq, hb, hg⟩ := HQ.out
    have hml := H.out.small.lt
    have e1 := H.out.pages.1.ne_map H.out.small
    have e2 := H.out.pages.2.1.ne_map H.out.small
    have e3 := H.out.pages.2.2.ne_map H.out.small
    have u24 : Upd [L.ms] w2 w4 := ((Upd.of_below HW3.out : Upd [] _ _).mono (by simp)).trans HU4.out
    refine ⟨rfl, H.out.newSmall HP.out.2 (by have := HP.out.1; omega) hc (by simp) (HPG.out.upd u24 (by simpa using e1) (by simpa using e2) (by simpa using e3))
      (HN.out.upd HU4.out (by simp; omega) (by simp; omega) (by simp; omega)) (by omega) (by omega) (by omega) HM4.out ((HU3.out.mono (by simp)).trans (HU4.out.mono (by simp)))⟩

/-! ### place -/
theorem pages_nat {n : Int} (h : blockZ n ≠ 0) (hc : classZ n < 0) : ∃ k : Nat, pagesZ n = k ∧ 1 ≤ k ∧ k ≤ 16 ∧ blockZ n = k * 64 ∧ 1 ≤ n ∧ n ≤ 1024 := by
  have hb : blockZ n = pagesZ n * 64 := by unfold blockZ; rw [if_neg (by omega)]
  rw [hb] at h
  unfold pagesZ at h ⊢
  by_cases h1 : n < 1 ∨ 1024 < n ∨ 0 ≤ classZ n
  · rw [if_pos h1] at h; exact absurd rfl h
  · rw [hb]
    unfold pagesZ
    rw [if_neg h1]
    exact ⟨((n + 64 - 1) / 64).toNat, by omega, by omega, by omega, by omega, by omega, by omega⟩

theorem place_large_full (s : Nat) (L : Lay) (S : Sp) (n : Int) (k : Nat) (w : World) (h : IsSpace w s L S) (hc : classZ n < 0) (hk : pagesZ n = k) (hk1 : 1 ≤ k) (hk2 : k ≤ 16) (hr : runZ (bitsOf S.pg) 0 k = -1) :
    Calls Tryz.prog 105 #[.pointer (some ⟨s, 0, none⟩), .int .i64 n] w fun e w' => e = .returned (.tuple #[.int .i64 0, .int .i64 3]) ∧ Upd [] w w' := by
  have c1 : w.cell? ⟨s, 1, none⟩ = some (.pointer (some ⟨L.q0, 0, none⟩)) := h.box.cell 1
  have hcc := fun w => class_calls n w
  have hpc := fun w => pages_calls n w
  obtain ⟨z, hz⟩ : ∃ z, classZ n = z := ⟨_, rfl⟩
  rw [hz] at hcc hc
  rw [hk] at hpc
  have HCC := Lib.hid hcc
  have HPC := Lib.hid hpc
  have H := Lib.hid h
  have HR := Lib.hid hr
  clear h hr hcc hpc hk hz
  go_enter Tryz.func105, Tryz.ntmps105
  go_wp2_with fail
  refine (HCC.out _).mono ?_
  rintro e w1 ⟨rfl, hb⟩
  have HU1 : Hid (Upd [] w w1) := Lib.hid (Upd.of_below hb)
  clear hb
  go_wp2_with fail
  refine (HPC.out _).mono ?_
  rintro e w2 ⟨rfl, hb⟩
  have HU : Hid (Upd [] w w2) := Lib.hid (HU1.out.step (Upd.of_below hb : Upd [] _ _) (by simp))
  have d1 : w2.cell? ⟨s, 1, none⟩ = some (.pointer (some ⟨L.q0, 0, none⟩)) := (HU.out.cell (p := ⟨s, 1, none⟩) H.out.box.lt (by simp)).trans c1
  clear hb c1
  go_wp2_with fail
  refine (ptake_no L.q0 L.b0 L.g0 (bitsOf S.pg) k _ (H.out.upd0 HU.out).pages (by rw [bits_length]; exact H.out.wf.n2) (by omega) (by omega) HR.out).mono ?_
  rintro e w' ⟨rfl, rfl⟩
  go_wp2_with fail
  go_ret2
  exact ⟨rfl, HU.out⟩

theorem place_large (s : Nat) (L : Lay) (S : Sp) (n : Int) (k p : Nat) (w : World) (h : IsSpace w s L S) (hc : classZ n < 0) (hk : pagesZ n = k) (hk1 : 1 ≤ k) (hk2 : k ≤ 16) (hr : runZ (bitsOf S.pg) 0 k = p) :
    Calls Tryz.prog 105 #[.pointer (some ⟨s, 0, none⟩), .int .i64 n] w fun e w' => e = .returned (.tuple #[.int .i64 ((p : Int) * 64), .int .i64 0]) ∧ After s L S ⟨S.W, putLarge S.pg p k⟩ w w' := by
  have c1 : w.cell? ⟨s, 1, none⟩ = some (.pointer (some ⟨L.q0, 0, none⟩)) := h.box.cell 1
  have c3 : w.cell? ⟨s, 3, none⟩ = some (.map (some L.ml)) := h.box.cell 3
  have hcc := fun w => class_calls n w
  have hpc := fun w => pages_calls n w
  obtain ⟨z, hz⟩ : ∃ z, classZ n = z := ⟨_, rfl⟩
  rw [hz] at hcc hc
  rw [hk] at hpc
  obtain ⟨hp1, hp2⟩ := run_at hk1 hr
  have hp256 : p ≤ 256 := by have := h.wf.n2; omega
  have HP := Lib.hid (And.intro hp1 hp2)
  have hp64 : ok64 (p : Int) := by unfold ok64; omega
  have HP64 := Lib.hid hp64
  have HCC := Lib.hid hcc
  have HPC := Lib.hid hpc
  have H := Lib.hid h
  have HR := Lib.hid hr
  clear h hr hcc hpc hk hz hp1 hp2 hp64
  go_enter Tryz.func105, Tryz.ntmps105
  go_wp2_with fail
  refine (HCC.out _).mono ?_
  rintro e w1 ⟨rfl, hb⟩
  have HU1 : Hid (Upd [] w w1) := Lib.hid (Upd.of_below hb)
  clear hb
  go_wp2_with fail
  refine (HPC.out _).mono ?_
  rintro e w2 ⟨rfl, hb⟩
  have HU : Hid (Upd [] w w2) := Lib.hid (HU1.out.step (Upd.of_below hb : Upd [] _ _) (by simp))
  have d1 : w2.cell? ⟨s, 1, none⟩ = some (.pointer (some ⟨L.q0, 0, none⟩)) := (HU.out.cell (p := ⟨s, 1, none⟩) H.out.box.lt (by simp)).trans c1
  clear hb c1
  go_wp2_with fail
  refine (ptake_yes L.q0 L.b0 L.g0 (bitsOf S.pg) k p _ (H.out.upd0 HU.out).pages (by rw [bits_length]; exact H.out.wf.n2) hk1 HR.out).mono ?_
  rintro e w3 ⟨rfl, hP, hu⟩
  have HPG := Lib.hid hP
  have HU3 : Hid (Upd [L.g0] w w3) := Lib.hid ((HU.out.mono (by simp)).trans hu)
  have hs0 : s ∉ [L.g0] := by simpa using H.out.box.ne_ H.out.pages.2.2 (by decide)
  have d3 : w3.cell? ⟨s, 3, none⟩ = some (.map (some L.ml)) := (HU3.out.cell (p := ⟨s, 3, none⟩) H.out.box.lt hs0).trans c3
  have HM : Hid (MapV w3 L.ml 256 (largeF S.pg)) := Lib.hid (H.out.large.upd HU3.out (by simpa using (H.out.pages.2.2.ne_map H.out.large).symm))
  clear hP hu d1 hs0 c3
  go_wp2_with (at_mapUpdate; refine wpList_put_mapv rfl _ _ _ 132 3 rfl Tryz.underlying132 HM.out (by omega) rfl (p : Int) HP64.out (.int .i64 k) rfl rfl (rdV_int k) ?_)
  intro w4 hM4 hu4
  have HM4 := Lib.hid hM4
  have HU4 := Lib.hid hu4
  clear hM4 hu4
  go_wp2_with fail
  go_ret2
  have e1 := H.out.pages.1.ne_map H.out.large
  have e2 := H.out.pages.2.1.ne_map H.out.large
  have e3 := H.out.pages.2.2.ne_map H.out.large
  have HA : ∀ j, atP (putLarge S.pg p k) j = if j = p then .first k else if p < j ∧ j < p + k then .rest p else atP S.pg j := fun j => atP_large HP.out.1 hk1
  refine ⟨rfl, H.out.turn (E := [L.g0, L.ml]) (H.out.wf.put_large HP.out.1 hk1 HP.out.2 rfl) (fun j c l hj => ?_) (fun i hi => ?_) ((HU3.out.mono (by simp)).trans (HU4.out.mono (by simp))) ?_ ?_ ?_⟩
  · rw [HA] at hj
    split at hj
    · cases hj
    · split at hj
      · cases hj
      · exact hj
  · simp only [List.mem_cons, List.not_mem_nil, or_false] at hi
    rcases hi with rfl | rfl
    · exact .inl rfl
    · exact .inr (.inr (.inl rfl))
  · rw [bits_large HP.out.1 hk1]
    exact HPG.out.upd HU4.out (by simpa using e1) (by simpa using e2) (by simpa using e3)
  · refine ((H.out.small.upd HU3.out (by simpa using (H.out.pages.2.2.ne_map H.out.small).symm)).upd HU4.out (by simpa using H.out.apart)).congr fun x => ?_
    unfold smallF
    split
    · rfl
    · rw [HA]
      split
      · rename_i e; rw [HP.out.2 _ (by omega) (by omega)]; rfl
      · split
        · rename_i e; rw [HP.out.2 _ (by omega) (by omega)]; rfl
        · rfl
  · refine (HM4.out.tight (m := 256) fun x hx => ?_).congr fun x => ?_
    · have := H.out.wf.n2
      unfold setF at hx
      split at hx
      · rename_i e; subst e; have := HP.out.1; omega
      · obtain ⟨p', _, rfl, h1, _⟩ := largeF_in hx; omega
    · unfold setF
      by_cases e : x = p
      · subst e; rw [if_pos rfl, largeF_at, HA, if_pos rfl]; rfl
      · rw [if_neg e]
        unfold largeF
        split
        · rfl
        · have e2 : x.toNat ≠ p := by omega
          rw [HA, if_neg e2]
          split
          · rename_i e3; rw [HP.out.2 _ (by omega) (by omega)]; rfl
          · rfl

theorem place_small_full (s : Nat) (L : Lay) (S : Sp) (n : Int) (c : Nat) (w : World) (h : IsSpace w s L S) (hz : classZ n = c) (hc : c < 5) (ho : openZ S.pg c = -1) (hr : runZ (bitsOf S.pg) 0 1 = -1) :
    Calls Tryz.prog 105 #[.pointer (some ⟨s, 0, none⟩), .int .i64 n] w fun e w' => e = .returned (.tuple #[.int .i64 0, .int .i64 3]) ∧ Upd [] w w' := by
  have hcc := fun w => class_calls n w
  rw [hz] at hcc
  have HCC := Lib.hid hcc
  have H := Lib.hid h
  have HO := Lib.hid ho
  have HR := Lib.hid hr
  clear h hr ho hcc hz
  go_enter Tryz.func105, Tryz.ntmps105
  go_wp2_with fail
  refine (HCC.out _).mono ?_
  rintro e w1 ⟨rfl, hb⟩
  have HU1 : Hid (Upd [] w w1) := Lib.hid (Upd.of_below hb)
  clear hb
  go_wp2_with fail
  refine (first_full s L S c _ (H.out.upd0 HU1.out) hc HO.out HR.out).mono ?_
  rintro e w2 ⟨rfl, hu⟩
  have HU2 : Hid (Upd [] w w2) := Lib.hid (HU1.out.trans hu)
  clear hu
  go_wp2_with fail
  go_ret2
  exact ⟨rfl, HU2.out⟩

theorem place_small (s : Nat) (L : Lay) (S S1 : Sp) (n : Int) (c p i : Nat) (l : List Bool) (w : World) (h : IsSpace w s L S) (hz : classZ n = c) (hc : c < 5) (hf : First S c p l S1) (hi : nextZ l false 0 = i) :
    Calls Tryz.prog 105 #[.pointer (some ⟨s, 0, none⟩), .int .i64 n] w fun e w' => e = .returned (.tuple #[.int .i64 ((p : Int) * 64 + (i : Int) * (wordsOf c : Nat)), .int .i64 0]) ∧ After s L S ⟨S1.W, S1.pg.set p (.small c (l.set i true))⟩ w w' := by
  have hcc := fun w => class_calls n w
  rw [hz] at hcc
  have HCC := Lib.hid hcc
  have H := Lib.hid h
  have HF := Lib.hid hf
  have HI := Lib.hid hi
  have hwp := words_pos hc
  have hWO := hwp.2
  clear h hf hi hcc hz hwp
  go_enter Tryz.func105, Tryz.ntmps105
  go_wp2_with fail
  refine (HCC.out _).mono ?_
  rintro e w1 ⟨rfl, hb⟩
  have HU1 : Hid (Upd [] w w1) := Lib.hid (Upd.of_below hb)
  clear hb
  go_wp2_with fail
  refine (first_calls s L S S1 c p l _ (H.out.upd0 HU1.out) hc HF.out).mono ?_
  rintro e w2 ⟨rfl, ha⟩
  obtain ⟨L1, hA1⟩ := After.behind HU1.out ha
  have hS1 := hA1.1
  have HA := Lib.hid hA1
  clear hA1 ha
  have HAT := Lib.hid HF.out.at
  have HS := Lib.hid hS1
  have hlt := atP_in HAT.out (by simp)
  have hp256 : p < 256 := by have := hS1.wf.n2; omega
  obtain ⟨_, hll⟩ := hS1.wf.small p c l HAT.out
  have hrm := room_pos hc
  have hL : Hid (l.length ≤ 16384) := Lib.hid (by omega)
  have hil : Hid (i < l.length) := Lib.hid (by have := nextZ_range l false 0; rw [HI.out] at this; omega)
  have hfit := block_fits hc (show i < roomOf c by have := hil.out; omega)
  have hi32 : i ≤ 64 := by have := hil.out; omega
  have hiw : i * wordsOf c ≤ 64 := by omega
  have hiw' : (i : Int) * (wordsOf c : Nat) ≤ 64 := by rw [← Int.natCast_mul]; omega
  have hiw0 : 0 ≤ (i : Int) * (wordsOf c : Nat) := by rw [← Int.natCast_mul]; omega
  have hp64 : ok64 (p : Int) := by unfold ok64; omega
  have HP64 := Lib.hid hp64
  have d2 : w2.cell? ⟨s, 2, none⟩ = some (.map (some L1.ms)) := hS1.box.cell 2
  have hf : smallF L1 S1.pg p = some (.pointer (some ⟨(L1.lay p).1, 0, none⟩)) := by rw [smallF_at, HAT.out]; rfl
  have HFF := Lib.hid hf
  have HPG := Lib.hid (hS1.page p c l HAT.out)
  clear hS1 hlt hll hrm hp64 hf hfit hiw
  go_wp2_with (at_lookup; refine wpList_look_mapv rfl _ _ 131 146 rfl Tryz.underlying131 HS.out.small (ptrZero _) rdV_nil rfl (p : Int) HP64.out rfl ?_)
  rw [HFF.out]
  go_wp2_with fail
  refine (take_yes (L1.lay p).1 (L1.lay p).2.1 (L1.lay p).2.2 (wordsOf c) l i _ HPG.out hL.out HI.out).mono ?_
  rintro e w3 ⟨rfl, hP, hu⟩
  have HP3 := Lib.hid hP
  have HA3 : Hid (After s L1 S1 ⟨S1.W, S1.pg.set p (.small c (l.set i true))⟩ w2 w3) := Lib.hid (HS.out.bits HAT.out hP (by simp) hu)
  have hs0 : s ∉ [(L1.lay p).2.2] := by simpa using HS.out.box.ne_ HPG.out.2.2 (by decide)
  have d3 : w3.cell? ⟨s, 2, none⟩ = some (.map (some L1.ms)) := (hu.cell (p := ⟨s, 2, none⟩) HS.out.box.lt hs0).trans d2
  have HM3 : Hid (MapV w3 L1.ms 256 (smallF L1 S1.pg)) := Lib.hid (HS.out.small.upd hu (by simpa using (HPG.out.2.2.ne_map HS.out.small).symm))
  clear hP hu d2 hs0
  go_wp2_with (at_lookup; refine wpList_look_mapv rfl _ _ 131 146 rfl Tryz.underlying131 HM3.out (ptrZero _) rdV_nil rfl (p : Int) HP64.out rfl ?_)
  rw [HFF.out]
  go_wp2_with fail
  refine (words_any (L1.lay p).1 (L1.lay p).2.1 (L1.lay p).2.2 (wordsOf c) _ _ HP3.out).mono ?_
  rintro e w' ⟨rfl, rfl⟩
  go_wp2_with fail
  go_ret2
  exact ⟨rfl, After.step HA.out HA3.out⟩
end Go.Proofs.YtpkbdmieelgdlaaGreat
namespace Go.Proofs.YtpkbdmieelgdlaaGreat
open Go Go.RowKit

def FindVal (x : Int × Int × Bool) : Value := .tuple #[.int .i64 x.1, .int .i64 x.2.1, .bool x.2.2]
theorem find_no (s : Nat) (L : Lay) (S : Sp) (a : Int) (w : World) (h : IsSpace w s L S) (ha : a < 0 ∨ S.W.length ≤ a) :
    Calls Tryz.prog 93 #[.pointer (some ⟨s, 0, none⟩), .int .i64 a] w fun e w' => e = .returned (FindVal (0, 0, false)) ∧ Upd [] w w' := by
  unfold FindVal
  by_cases h0 : a < 0
  · clear ha
    go_enter Tryz.func93, Tryz.ntmps93
    go_wp2_with fail
    go_ret3
    exact ⟨rfl, Upd.refl _ _⟩
  · have h1 : (S.W.length : Int) ≤ a := by omega
    have c0 : w.cell? ⟨s, 0, none⟩ = some (.pointer (some ⟨L.pa, 0, none⟩)) := h.box.cell 0
    have H := Lib.hid h
    clear ha h
    go_enter Tryz.func93, Tryz.ntmps93
    go_wp2_with fail
    refine (arena_len L.pa L.ga S.W _ H.out.arena).mono ?_
    rintro e w' ⟨rfl, rfl⟩
    go_wp2_with fail
    go_ret3
    exact ⟨rfl, Upd.refl _ _⟩

set_option maxRecDepth 100000 in
theorem find_small (s : Nat) (L : Lay) (S : Sp) (a : Int) (p c : Nat) (l : List Bool) (w : World) (h : IsSpace w s L S) (h0 : 0 ≤ a) (ha : a < S.W.length) (hp : a / 64 = p) (hat : atP S.pg p = .small c l) (r : Bool) (hr : hasB l (a % 64 / (wordsOf c : Nat)) = r) :
    Calls Tryz.prog 93 #[.pointer (some ⟨s, 0, none⟩), .int .i64 a] w fun e w' => e = .returned (FindVal (if r then (a / 64 * 64 + a % 64 / (wordsOf c : Nat) * (wordsOf c : Nat), ((wordsOf c : Nat) : Int), true) else (0, 0, false))) ∧ Upd [] w w' := by
  have hpn := atP_in hat (by simp)
  obtain ⟨hc, hll⟩ := h.wf.small p c l hat
  have hwp := words_pos hc
  have hp256 : p ≤ 256 := by have := h.wf.n2; omega
  have hf : smallF L S.pg (a / 64) = some (.pointer (some ⟨(L.lay p).1, 0, none⟩)) := by rw [hp, smallF_at, hat]; rfl
  have HFF := Lib.hid hf
  have HPG := Lib.hid (h.page p c l hat)
  have HR := Lib.hid hr
  have hil : a % 64 / ((wordsOf c : Nat) : Int) ≤ 64 := Int.le_trans (Int.ediv_le_self _ (by omega)) (by omega)
  have hi0 : 0 ≤ a % 64 / ((wordsOf c : Nat) : Int) := Int.ediv_nonneg (by omega) (by omega)
  have hiw0 : 0 ≤ a % 64 / ((wordsOf c : Nat) : Int) * ((wordsOf c : Nat) : Int) := Int.mul_nonneg hi0 (by omega)
  have hiw' : a % 64 / ((wordsOf c : Nat) : Int) * ((wordsOf c : Nat) : Int) ≤ 64 := Int.le_trans (Int.ediv_mul_le _ (by omega)) (by omega)
  have hpa : a / 64 ≤ 256 := by omega
  generalize hm : wordsOf c = m at *
  have hm2 := hwp.1
  have hm3 := hwp.2
  generalize hq : (L.lay p).1 = q at *
  generalize (L.lay p).2.1 = bb at *
  generalize (L.lay p).2.2 = g at *
  clear hr hf hat hll hc hwp hm hq hp256
  have c0 : w.cell? ⟨s, 0, none⟩ = some (.pointer (some ⟨L.pa, 0, none⟩)) := h.box.cell 0
  have c2 : w.cell? ⟨s, 2, none⟩ = some (.map (some L.ms)) := h.box.cell 2
  have hp64 : ok64 (a / 64) := by have := h.wf.n2; unfold ok64; omega
  have HP64 := Lib.hid hp64
  have H := Lib.hid h
  obtain ⟨n, hn⟩ : ∃ n, S.W.length = n := ⟨_, rfl⟩
  have HN := Lib.hid hn
  rw [hn] at ha
  have HPA := Lib.hid hp
  clear h hn hp64 hpn hp
  unfold FindVal
  cases r
  · simp only [Bool.false_eq_true, if_false]
    go_enter Tryz.func93, Tryz.ntmps93
    go_wp2_with fail
    have hz := arena_len L.pa L.ga S.W _ H.out.arena
    rw [HN.out] at hz
    refine hz.mono ?_
    clear hz
    rintro e w' ⟨rfl, rfl⟩
    go_wp2_with (at_lookup; refine wpList_hit_mapv rfl _ _ 131 146 rfl Tryz.underlying131 H.out.small (ptrZero _) rdV_nil rfl (a / 64) HP64.out rfl _ HFF.out ?_)
    go_wp2_with fail
    refine (words_any q bb g m l _ HPG.out).mono ?_
    rintro e w' ⟨rfl, rfl⟩
    have d0 : w.cell? ⟨q, 0, none⟩ = some (.pointer (some ⟨bb, 0, none⟩)) := HPG.out.1.cell 0
    go_wp2_with fail
    have hq := bits_has bb g l (a % 64 / (m : Int)) _ HPG.out.2
    rw [HR.out] at hq
    refine hq.mono ?_
    rintro e w' ⟨rfl, rfl⟩
    clear hq
    go_wp2_with fail
    go_ret3
    exact ⟨rfl, Upd.refl _ _⟩
  · simp only [if_true]
    go_enter Tryz.func93, Tryz.ntmps93
    go_wp2_with fail
    have hz := arena_len L.pa L.ga S.W _ H.out.arena
    rw [HN.out] at hz
    refine hz.mono ?_
    clear hz
    rintro e w' ⟨rfl, rfl⟩
    go_wp2_with (at_lookup; refine wpList_hit_mapv rfl _ _ 131 146 rfl Tryz.underlying131 H.out.small (ptrZero _) rdV_nil rfl (a / 64) HP64.out rfl _ HFF.out ?_)
    go_wp2_with fail
    refine (words_any q bb g m l _ HPG.out).mono ?_
    rintro e w' ⟨rfl, rfl⟩
    have d0 : w.cell? ⟨q, 0, none⟩ = some (.pointer (some ⟨bb, 0, none⟩)) := HPG.out.1.cell 0
    go_wp2_with fail
    have hq := bits_has bb g l (a % 64 / (m : Int)) _ HPG.out.2
    rw [HR.out] at hq
    refine hq.mono ?_
    rintro e w' ⟨rfl, rfl⟩
    clear hq
    go_wp2_with fail
    refine (words_any q bb g m l _ HPG.out).mono ?_
    rintro e w' ⟨rfl, rfl⟩
    go_wp2_with fail
    refine (words_any q bb g m l _ HPG.out).mono ?_
    rintro e w' ⟨rfl, rfl⟩
    go_wp2_with fail
    go_ret3
    exact ⟨rfl, Upd.refl _ _⟩

/-- The larger block over a page: its first page and its pages. -/
def LargeAt (pg : List Pst) (p : Nat) (f k : Nat) : Prop := atP pg f = .first k ∧ f ≤ p ∧ p < f + k
def NoLarge (pg : List Pst) (p : Nat) : Prop := ∀ f k, atP pg f = .first k → ¬ (f ≤ p ∧ p < f + k)
theorem large_one {S : Sp} (h : S.WF) {p f k f' k' : Nat} (h1 : LargeAt S.pg p f k) (h2 : LargeAt S.pg p f' k') : f = f' ∧ k = k' := by
  obtain ⟨a1, a2, a3⟩ := h1
  obtain ⟨b1, b2, b3⟩ := h2
  obtain ⟨_, _, hr⟩ := h.first f k a1
  obtain ⟨_, _, hr'⟩ := h.first f' k' b1
  rcases Nat.lt_trichotomy f f' with h3 | rfl | h3
  · have := hr f' h3 (by omega)
    rw [b1] at this; cases this
  · rw [a1] at b1; injection b1 with b1; exact ⟨rfl, b1⟩
  · have := hr' f h3 (by omega)
    rw [a1] at this; cases this

set_option maxRecDepth 100000 in
set_option maxHeartbeats 800000 in
theorem find_large (s : Nat) (L : Lay) (S : Sp) (a : Int) (p : Nat) (w : World) (h : IsSpace w s L S) (h0 : 0 ≤ a) (ha : a < S.W.length) (hp : a / 64 = p) (hns : ∀ c l, atP S.pg p ≠ .small c l) :
    Calls Tryz.prog 93 #[.pointer (some ⟨s, 0, none⟩), .int .i64 a] w fun e w' => ((∃ f k, LargeAt S.pg p f k ∧ e = .returned (FindVal ((f : Int) * 64, (k : Int) * 64, true))) ∨ (NoLarge S.pg p ∧ e = .returned (FindVal (0, 0, false)))) ∧ Upd [] w w' := by
  have hpn : p < S.pg.length := by have := h.wf.len; omega
  have hp256 : p ≤ 256 := by have := h.wf.n2; omega
  have hpa : a / 64 ≤ 256 := by omega
  have hf : smallF L S.pg (a / 64) = none := by
    rw [hp, smallF_at]
    cases hx : atP S.pg p <;> try rfl
    exact absurd hx (hns _ _)
  have HFF := Lib.hid hf
  have c3 : w.cell? ⟨s, 3, none⟩ = some (.map (some L.ml)) := h.box.cell 3
  clear hf hns
  have c0 : w.cell? ⟨s, 0, none⟩ = some (.pointer (some ⟨L.pa, 0, none⟩)) := h.box.cell 0
  have c2 : w.cell? ⟨s, 2, none⟩ = some (.map (some L.ms)) := h.box.cell 2
  have hp64 : ok64 (a / 64) := by have := h.wf.n2; unfold ok64; omega
  have HP64 := Lib.hid hp64
  have H := Lib.hid h
  obtain ⟨n, hn⟩ : ∃ n, S.W.length = n := ⟨_, rfl⟩
  have HN := Lib.hid hn
  rw [hn] at ha
  have HPA := Lib.hid hp
  clear h hn hp64 hpn hp
  unfold FindVal
  go_enter Tryz.func93, Tryz.ntmps93
  go_wp2_with fail
  have hz := arena_len L.pa L.ga S.W _ H.out.arena
  rw [HN.out] at hz
  refine hz.mono ?_
  clear hz
  rintro e w' ⟨rfl, rfl⟩
  go_wp2_with (first
    | (at_lookup; refine wpList_miss_mapv rfl _ _ 131 146 rfl Tryz.underlying131 H.out.small (ptrZero _) rdV_nil rfl (a / 64) HP64.out rfl HFF.out ?_)
    | (at_range; refine wpList_range_mapv rfl _ 132 3 rfl Tryz.underlying132 H.out.large rfl ?_; intro w1 cnt hit hu hsz))
  have HIT := Lib.hid hit
  have HU := Lib.hid hu
  clear hit hu hsz
  go_frame
  obtain ⟨r, hr⟩ : ∃ r, w.heap.size = r := ⟨_, rfl⟩
  rw [hr]
  rw [hr] at HIT
  have HRR := Lib.hid hr
  clear hr
  go_loopg [] cnt (fun gk wr => ∃ left, Hid (MapIt wr L.ml r 256 (largeF S.pg) left gk) ∧ Hid (Upd [] w wr) ∧ Hid (∀ f k, atP S.pg f = .first k → left f = false → ¬ (f ≤ p ∧ p < f + k)))
  case atStart => exact ⟨_, HIT, HU, Lib.hid (fun f k hf hl => by rw [largeF_at, hf] at hl; cases hl)⟩
  case round =>
    obtain ⟨left, HI, HW, HP⟩ := hrel
    go_wp2_with (at_next; refine wpList_next_mapv rfl _ rfl r left _ rfl HI.out ?_ ?_)
    · intro _ hleft
      have HNO : Hid (NoLarge S.pg p) := Lib.hid (fun f k hf => HP.out f k hf (hleft f))
      clear hleft
      go_wp2_with fail
      go_ret3
      exact ⟨.inr ⟨HNO.out, rfl⟩, HW.out⟩
    · intro x v w2 cnt2 hlx hfx hok hit2 hlt hu2 hs2 hen
      obtain ⟨f, k, rfl, hfn, hfa⟩ := largeF_in (by rw [hfx]; simp)
      have hv : v = .int .i64 k := by rw [largeF_at, hfa] at hfx; exact (Option.some.inj hfx).symm
      subst hv
      have HFA := Lib.hid hfa
      have hkf : f + k ≤ 256 := by have := (H.out.wf.first f k hfa).2.1; have := H.out.wf.n2; omega
      have HIT2 := Lib.hid hit2
      have HU2 : Hid (Upd [] w w2) := Lib.hid (HW.out.step hu2 (by intro i hi; simp at hi; subst hi; right; have := HRR.out; omega))
      clear hlx hfx hok hit2 hu2 hs2 hfa
      by_cases hin : f ≤ p ∧ p < f + k
      · obtain ⟨h1, h2⟩ := hin
        have HAT : Hid (LargeAt S.pg p f k) := Lib.hid ⟨HFA.out, h1, h2⟩
        have h1' : (f : Int) ≤ a / 64 := by have := HPA.out; omega
        have h2' : a / 64 < (f : Int) + k := by have := HPA.out; omega
        clear h1 h2
        go_wp2_with fail
        go_ret3
        exact ⟨.inl ⟨f, k, HAT.out, rfl⟩, HU2.out⟩
      · have HNOT := Lib.hid hin
        have hcase : a / 64 < (f : Int) ∨ ((f : Int) ≤ a / 64 ∧ (f : Int) + k ≤ a / 64) := by have := HPA.out; omega
        clear hin
        rcases hcase with h1 | ⟨h1, h2⟩
        all_goals
          go_wp2_with fail
          go_roundg cnt2
          case measure => omega
          case rel =>
            exact ⟨_, HIT2, HU2, Lib.hid (fun f' k' hf' hl' => by
              by_cases e : f' = f
              · subst e
                have := HFA.out
                rw [hf'] at this
                injection this with this
                subst this
                exact HNOT.out
              · refine HP.out f' k' hf' ?_
                simp only [Bool.and_eq_false_iff, Bool.not_eq_false', decide_eq_true_eq] at hl'
                rcases hl' with h | h
                · exact h
                · exact absurd (by omega) e)⟩
end Go.Proofs.YtpkbdmieelgdlaaGreat
namespace Go.Proofs.YtpkbdmieelgdlaaGreat
open Go Go.RowKit

theorem find_calls (s : Nat) (L : Lay) (S : Sp) (a : Int) (w : World) (h : IsSpace w s L S) :
    Calls Tryz.prog 93 #[.pointer (some ⟨s, 0, none⟩), .int .i64 a] w fun e w' => e = .returned (FindVal (S.find a)) ∧ Upd [] w w' := by
  by_cases hout : a < 0 ∨ S.W.length ≤ a
  · have e : S.find a = (0, 0, false) := if_pos hout
    rw [e]
    exact find_no s L S a w h hout
  · have h0 : 0 ≤ a := by omega
    have h1 : a < S.W.length := by omega
    obtain ⟨p, hp⟩ : ∃ p : Nat, a / 64 = p := ⟨(a / 64).toNat, by omega⟩
    have hpn : p < S.pg.length := by have := h.wf.len; omega
    have hS : ∀ x, atP S.pg p = x → S.find a = match x with
        | .small c l => if hasB l (a % 64 / wordsOf c) then (a / 64 * 64 + a % 64 / wordsOf c * wordsOf c, wordsOf c, true) else (0, 0, false)
        | .first k => (a / 64 * 64, k * 64, true)
        | .rest f => (f * 64, manyOf (atP S.pg f) * 64, true)
        | _ => (0, 0, false) := fun x hx => by
      unfold Sp.find
      rw [if_neg hout, show (a / 64).toNat = p from by omega, hx]
      all_goals (cases x <;> rfl)
    cases hx : atP S.pg p <;> rw [hS _ hx]
    case small c l =>
      exact find_small s L S a p c l w h h0 h1 hp hx _ rfl
    case zero =>
      refine (find_large s L S a p w h h0 h1 hp (fun c l e => by rw [hx] at e; cases e)).mono fun e w' ⟨he, hu⟩ => ⟨?_, hu⟩
      rcases he with ⟨f, k, ⟨a1, a2, a3⟩, rfl⟩ | ⟨_, rfl⟩
      · exfalso
        rcases Nat.eq_or_lt_of_le a2 with rfl | h2
        · rw [a1] at hx; cases hx
        · have := (h.wf.first f k a1).2.2 p h2 a3
          rw [this] at hx; cases hx
      · rfl
    case free =>
      refine (find_large s L S a p w h h0 h1 hp (fun c l e => by rw [hx] at e; cases e)).mono fun e w' ⟨he, hu⟩ => ⟨?_, hu⟩
      rcases he with ⟨f, k, ⟨a1, a2, a3⟩, rfl⟩ | ⟨_, rfl⟩
      · exfalso
        rcases Nat.eq_or_lt_of_le a2 with rfl | h2
        · rw [a1] at hx; cases hx
        · have := (h.wf.first f k a1).2.2 p h2 a3
          rw [this] at hx; cases hx
      · rfl
    case first k =>
      refine (find_large s L S a p w h h0 h1 hp (fun c l e => by rw [hx] at e; cases e)).mono fun e w' ⟨he, hu⟩ => ⟨?_, hu⟩
      have hk := (h.wf.first p k hx).1
      rcases he with ⟨f, k', ha, rfl⟩ | ⟨hno, _⟩
      · obtain ⟨rfl, rfl⟩ := large_one h.wf ha ⟨hx, Nat.le_refl _, by omega⟩
        rw [hp]
      · exact absurd ⟨Nat.le_refl _, by omega⟩ (hno p k hx)
    case rest f0 =>
      refine (find_large s L S a p w h h0 h1 hp (fun c l e => by rw [hx] at e; cases e)).mono fun e w' ⟨he, hu⟩ => ⟨?_, hu⟩
      obtain ⟨hf, k, hk, hlt⟩ := h.wf.rest p f0 hx
      rcases he with ⟨f, k', ha, rfl⟩ | ⟨hno, _⟩
      · obtain ⟨rfl, rfl⟩ := large_one h.wf ha ⟨hk, by omega, hlt⟩
        simp only [hk, manyOf]
      · exact absurd ⟨by omega, hlt⟩ (hno f0 k hk)

theorem find_nil (a : Int) (w : World) : Calls Tryz.prog 93 #[.pointer none, .int .i64 a] w fun e w' => e = .returned (FindVal (0, 0, false)) ∧ w = w' := by
  unfold FindVal
  go_enter Tryz.func93, Tryz.ntmps93
  go_wp2_with fail
  go_ret3
  exact ⟨rfl, rfl⟩

theorem space_new_no (n : Int) (w : World) (h : n < 1 ∨ 256 < n) : Calls Tryz.prog 77 #[.int .i64 n] w fun e w' => e = .returned (.tuple #[.pointer none, .int .i64 1]) ∧ w = w' := by
  have H := Lib.hid h
  clear h
  go_enter Tryz.func77, Tryz.ntmps77
  go_wp2_with fail
  refine (arena_new_no n _ H.out).mono ?_
  rintro e w' ⟨rfl, rfl⟩
  go_wp2_with fail
  go_ret2
  exact ⟨rfl, rfl⟩

/-- A new space. -/
def NewSpace (n : Nat) (w : World) (e : Ending) (w' : World) : Prop :=
  ∃ s L, e = .returned (.tuple #[.pointer (some ⟨s, 0, none⟩), .int .i64 0]) ∧ IsSpace w' s L (newSp n) ∧ (∀ k, Owns s L (newSp n) k → w.heap.size ≤ k) ∧ Upd [] w w'
theorem new_at (n p : Nat) (h1 : 1 ≤ n) : atP (newSp n).pg p = if p = 0 then .zero else .free := by
  unfold newSp
  rw [atP_set _ (by simp; omega)]
  by_cases h : p = 0
  · rw [if_pos h, if_pos h]
  · rw [if_neg h, if_neg h]
    unfold atP
    rw [List.getD_eq_getElem?_getD, List.getElem?_replicate]
    split <;> rfl
theorem space_new_yes (n : Nat) (w : World) (h1 : 1 ≤ n) (h2 : n ≤ 256) : Calls Tryz.prog 77 #[.int .i64 n] w (NewSpace n w) := by
  have hmm := @run_makeMap Tryz.prog
  go_enter Tryz.func77, Tryz.ntmps77
  go_wp2_with fail
  refine (arena_new_yes n _ h1 h2).mono ?_
  rintro e w1 ⟨pa, ga, rfl, hA, hpa, hga, hb⟩
  have HA := Lib.hid hA
  have HB := Lib.hid hb
  have HQ := Lib.hid (And.intro hpa hga)
  clear hA hb hpa hga
  go_wp2_with fail
  refine (pages_new_yes n _ h1 h2).mono ?_
  rintro e w2 ⟨q0, b0, g0, rfl, hP, hq, hb0, hg, hb⟩
  have HP := Lib.hid hP
  have HB2 := Lib.hid hb
  have HQ2 := Lib.hid (And.intro hq (And.intro hb0 hg))
  clear hP hb hq hb0 hg
  go_wp2_with fail
  go_ret2
  obtain ⟨hpa, hga⟩ := HQ.out
  obtain ⟨hq, hb0, hg⟩ := HQ2.out
  have z1 := HB.out.size
  have z2 := HB2.out.size
  have u1 : Upd [] w w1 := Upd.of_below HB.out
  have u2 : Upd [] w w2 := u1.step (Upd.of_below HB2.out : Upd [] _ _) (by simp)
  have u12 : Upd [] w1 w2 := Upd.of_below HB2.out
  have hno : ∀ p c l, atP (newSp n).pg p ≠ .small c l := fun p c l e => by
    rw [new_at n p h1] at e
    split at e <;> cases e
  have hnf : ∀ p k, atP (newSp n).pg p ≠ .first k := fun p k e => by
    rw [new_at n p h1] at e
    split at e <;> cases e
  have um : Upd [] w2 (((w2.alloc (.map #[] 0)).alloc (.map #[] 0)).alloc (.cells #[.pointer (some ⟨pa, 0, none⟩), .pointer (some ⟨q0, 0, none⟩), .map (some w2.heap.size), .map (some (w2.heap.size + 1))] 134)) := (((Upd.refl [] w2).alloc _).alloc _).alloc _
  refine ⟨w2.heap.size + 2, ⟨pa, ga, q0, b0, g0, w2.heap.size, w2.heap.size + 1, fun _ => (0, 0, 0)⟩, rfl, ⟨Blk.newAt _ _ _ _ (by simp), (HA.out.upd u12 (by simp) (by simp)).upd um (by simp) (by simp), ?_, ?_, ?_, fun p c l hp => absurd hp (hno p c l), by simp, fun p c l hp => absurd hp (hno p c l), fun p c l _ _ _ hp => absurd hp (hno p c l), newSp_wf h1 h2⟩, ?_, u2.trans um⟩
  · have e : bitsOf (newSp n).pg = (List.replicate n false).set 0 true := by
      refine ext_getD (by simp [bits_length, newSp]) fun j hj => ?_
      have hjn : j < n := by simpa [bits_length, newSp] using hj
      rw [bits_get, new_at n j h1, getD_set, rep_get]
      by_cases h : j = 0
      · subst h; simp [Pst.taken]; omega
      · rw [if_neg h, if_neg (by omega)]; rfl
    rw [e]
    exact HP.out.upd um (by simp) (by simp) (by simp)
  · refine MapV.mono (n := 0) (((MapV.new w2).alloc _).alloc _ |>.congr fun x => ?_) (by omega)
    cases hx : smallF ⟨pa, ga, q0, b0, g0, w2.heap.size, w2.heap.size + 1, fun _ => (0, 0, 0)⟩ (newSp n).pg x with
    | none => rfl
    | some v =>
      obtain ⟨p, c, l, _, _, hp⟩ := smallF_in (by rw [hx]; simp)
      exact absurd hp (hno p c l)
  · refine MapV.mono (n := 0) ((MapV.newAt (w2.alloc (.map #[] 0)) (w2.heap.size + 1) (by simp)).alloc _ |>.congr fun x => ?_) (by omega)
    cases hx : largeF (newSp n).pg x with
    | none => rfl
    | some v =>
      obtain ⟨p, k, _, _, hp⟩ := largeF_in (by rw [hx]; simp)
      exact absurd hp (hnf p k)
  · intro k hk
    rcases hk with h | h | h | h | h | h | h | h | ⟨p, c, l, hp, _⟩
    · omega
    · rw [h]; exact hpa
    · rw [h]; exact hga
    · rw [h]; exact Nat.le_trans z1 hq
    · rw [h]; exact Nat.le_trans z1 hb0
    · rw [h]; exact Nat.le_trans z1 hg
    · rw [h]; exact Nat.le_trans z1 z2
    · rw [h]; exact Nat.le_trans z1 (Nat.le_trans z2 (Nat.le_succ _))
    · exact absurd hp (hno p c l)
end Go.Proofs.YtpkbdmieelgdlaaGreat
namespace Go.Proofs.YtpkbdmieelgdlaaGreat
open Go Go.RowKit

theorem alloc_nil (n : Int) (w : World) : Calls Tryz.prog 80 #[.pointer none, .int .i64 n] w fun e w' => e = .returned (.tuple #[.int .i64 0, .int .i64 2]) ∧ Upd [] w w' := by
  go_enter Tryz.func80, Tryz.ntmps80
  go_wp2_with fail
  refine (block_calls n _).mono ?_
  rintro e w1 ⟨rfl, hb⟩
  have HU : Hid (Upd [] w w1) := Lib.hid (Upd.of_below hb)
  clear hb
  go_wp2_with fail
  go_ret2
  exact ⟨rfl, HU.out⟩
theorem alloc_arg (s : Nat) (n : Int) (w : World) (hn : blockZ n = 0) : Calls Tryz.prog 80 #[.pointer (some ⟨s, 0, none⟩), .int .i64 n] w fun e w' => e = .returned (.tuple #[.int .i64 0, .int .i64 1]) ∧ Upd [] w w' := by
  have hbc := fun w => block_calls n w
  rw [hn] at hbc
  have HBC := Lib.hid hbc
  clear hbc hn
  go_enter Tryz.func80, Tryz.ntmps80
  go_wp2_with fail
  refine (HBC.out _).mono ?_
  rintro e w1 ⟨rfl, hb⟩
  have HU : Hid (Upd [] w w1) := Lib.hid (Upd.of_below hb)
  clear hb
  go_wp2_with fail
  go_ret2
  exact ⟨rfl, HU.out⟩
/-- place tells that there is no room. -/
theorem alloc_full (s : Nat) (n : Int) (m : Nat) (w : World) (hn : blockZ n = m) (hm : 1 ≤ m) (hp : ∀ w1, Upd [] w w1 → Calls Tryz.prog 105 #[.pointer (some ⟨s, 0, none⟩), .int .i64 n] w1 fun e w' => e = .returned (.tuple #[.int .i64 0, .int .i64 3]) ∧ Upd [] w1 w') :
    Calls Tryz.prog 80 #[.pointer (some ⟨s, 0, none⟩), .int .i64 n] w fun e w' => e = .returned (.tuple #[.int .i64 0, .int .i64 3]) ∧ Upd [] w w' := by
  have hbc := fun w => block_calls n w
  rw [hn] at hbc
  have HBC := Lib.hid hbc
  have HPL := Lib.hid hp
  have hm0 : ((m : Int) == 0) = false := by simp; omega
  clear hbc hn hp
  go_enter Tryz.func80, Tryz.ntmps80
  go_wp2_with fail
  refine (HBC.out _).mono ?_
  rintro e w1 ⟨rfl, hb⟩
  have HU : Hid (Upd [] w w1) := Lib.hid (Upd.of_below hb)
  clear hb
  go_wp2_with fail
  refine (HPL.out _ HU.out).mono ?_
  rintro e w2 ⟨rfl, hu⟩
  have HU2 : Hid (Upd [] w w2) := Lib.hid (HU.out.trans hu)
  clear hu
  go_wp2_with fail
  go_ret2
  exact ⟨rfl, HU2.out⟩
/-- place tells where, and the words are filled. -/
theorem alloc_done (s : Nat) (L : Lay) (S S1 : Sp) (n : Int) (m a : Nat) (w : World) (h : IsSpace w s L S) (hn : blockZ n = m) (hm : 1 ≤ m) (ha : a + m ≤ S.W.length) (hS1 : S1.W = S.W)
    (hp : ∀ w1, Upd [] w w1 → Calls Tryz.prog 105 #[.pointer (some ⟨s, 0, none⟩), .int .i64 n] w1 fun e w' => e = .returned (.tuple #[.int .i64 a, .int .i64 0]) ∧ After s L S S1 w1 w') :
    Calls Tryz.prog 80 #[.pointer (some ⟨s, 0, none⟩), .int .i64 n] w fun e w' => e = .returned (.tuple #[.int .i64 a, .int .i64 0]) ∧ After s L S ⟨filledAt S1.W a m, S1.pg⟩ w w' := by
  have hbc := fun w => block_calls n w
  rw [hn] at hbc
  have HBC := Lib.hid hbc
  have HPL := Lib.hid hp
  have H := Lib.hid h
  have HL : Hid (S.W.length ≤ 16384) := Lib.hid h.len
  have HA := Lib.hid ha
  have HW := Lib.hid hS1
  have hm0 : ((m : Int) == 0) = false := by simp; omega
  have haa : a ≤ 16384 := by have := HL.out; omega
  have hmm : m ≤ 16384 := by have := HL.out; omega
  clear hbc hn hp h ha hS1
  go_enter Tryz.func80, Tryz.ntmps80
  go_wp2_with fail
  refine (HBC.out _).mono ?_
  rintro e w1 ⟨rfl, hb⟩
  have HU : Hid (Upd [] w w1) := Lib.hid (Upd.of_below hb)
  clear hb
  go_wp2_with fail
  refine (HPL.out _ HU.out).mono ?_
  rintro e w2 ⟨rfl, hA⟩
  obtain ⟨L1, hA1⟩ := After.behind HU.out hA
  have HS := Lib.hid hA1.1
  have HA1 := Lib.hid hA1
  clear hA hA1
  have c0 : w2.cell? ⟨s, 0, none⟩ = some (.pointer (some ⟨L1.pa, 0, none⟩)) := HS.out.box.cell 0
  go_wp2_with fail
  refine (fill_at L1.pa L1.ga S1.W a m _ HS.out.arena (by rw [HW.out]; exact HL.out) (by omega) (by omega) (by rw [HW.out]; have := HA.out; omega)).mono ?_
  rintro e w3 ⟨rfl, hF, hu⟩
  rw [Int.toNat_natCast, Int.toNat_natCast] at hF
  have HF := Lib.hid hF
  have HU3 := Lib.hid hu
  clear hF hu
  go_wp2_with fail
  go_ret2
  exact ⟨rfl, After.step HA1.out (HS.out.words HF.out (filledAt_length _ _ _ (by rw [HW.out]; exact HA.out)) HU3.out)⟩

def AllocVal (x : Sp × Int × Int) : Value := .tuple #[.int .i64 x.2.1, .int .i64 x.2.2]
theorem class_small {n : Int} (h : ¬ classZ n < 0) : ∃ c : Nat, classZ n = c ∧ c < 5 ∧ blockZ n = (wordsOf c : Nat) := by
  have hr := class_range n
  obtain ⟨c, hc⟩ : ∃ c : Nat, classZ n = c := ⟨(classZ n).toNat, by omega⟩
  refine ⟨c, hc, by omega, ?_⟩
  unfold blockZ
  rw [if_pos (by omega), hc, Int.toNat_natCast]
  exact sizes_at (by omega)
theorem run_nat {l : List Bool} {i k : Int} : runZ l i k = -1 ∨ ∃ p : Nat, runZ l i k = p := by
  by_cases hk : 1 ≤ k
  · rcases isRun_runZ l i k hk with ⟨h, _⟩ | ⟨p, h, _⟩
    · exact .inl h
    · exact .inr ⟨p, h⟩
  · exact .inl (runZ_no (by omega))

/-- What a new block of a class makes of a space. -/
theorem alloc_open {S : Sp} {n : Int} {c p i : Nat} {l : List Bool} (hc : classZ n = c) (hb : blockZ n ≠ 0) (ho : openZ S.pg c = p) (hat : atP S.pg p = .small c l) (hi : nextZ l false 0 = i) :
    S.alloc n = (⟨filledAt S.W (p * 64 + i * wordsOf c) (wordsOf c), S.pg.set p (.small c (l.set i true))⟩, (p : Int) * 64 + (i : Int) * (wordsOf c : Nat), 0) := by
  unfold Sp.alloc
  rw [if_neg hb, hc, if_neg (by omega), Int.toNat_natCast, ho, if_pos (by omega), Int.toNat_natCast, hat]
  show (_ : Sp × Int × Int) = _
  simp only [listOf, hi, Int.toNat_natCast]
theorem alloc_new {S : Sp} {n : Int} {c p : Nat} (hc : classZ n = c) (hb : blockZ n ≠ 0) (ho : openZ S.pg c = -1) (hr : runZ (bitsOf S.pg) 0 1 = p) :
    S.alloc n = (⟨filledAt S.W (p * 64) (wordsOf c), S.pg.set p (.small c (firstOne (roomOf c)))⟩, (p : Int) * 64, 0) := by
  unfold Sp.alloc
  rw [if_neg hb, hc, if_neg (by omega), Int.toNat_natCast, ho, if_neg (by omega), hr, if_neg (by omega), Int.toNat_natCast]
theorem alloc_pages {S : Sp} {n : Int} {k p : Nat} (hc : classZ n < 0) (hb : blockZ n ≠ 0) (hk : pagesZ n = k) (hr : runZ (bitsOf S.pg) 0 k = p) :
    S.alloc n = (⟨filledAt S.W (p * 64) (k * 64), putLarge S.pg p k⟩, (p : Int) * 64, 0) := by
  unfold Sp.alloc
  rw [if_neg hb, if_pos hc, hk, hr, if_neg (by omega), Int.toNat_natCast, Int.toNat_natCast]

theorem alloc_calls (s : Nat) (L : Lay) (S : Sp) (n : Int) (w : World) (h : IsSpace w s L S) :
    Calls Tryz.prog 80 #[.pointer (some ⟨s, 0, none⟩), .int .i64 n] w fun e w' => e = .returned (AllocVal (S.alloc n)) ∧ After s L S (S.alloc n).1 w w' := by
  have hlen := h.wf.len
  by_cases hb : blockZ n = 0
  · have e : S.alloc n = (S, 0, 1) := if_pos hb
    rw [e]
    exact (alloc_arg s n w hb).mono fun e w' ⟨h1, h2⟩ => ⟨h1, .same h h2⟩
  by_cases hc : classZ n < 0
  · obtain ⟨k, hk, hk1, hk2, hbk, _, _⟩ := pages_nat hb hc
    rcases run_nat (l := bitsOf S.pg) (i := 0) (k := k) with hr | ⟨p, hr⟩
    · have e : S.alloc n = (S, 0, 3) := by
        unfold Sp.alloc
        rw [if_neg hb, if_pos hc, hk, hr, if_pos (by omega)]
      rw [e]
      exact (alloc_full s n (k * 64) w (by rw [hbk]; omega) (by omega) fun w1 hu => place_large_full s L S n k w1 (h.upd0 hu) hc hk hk1 hk2 hr).mono fun e w' ⟨h1, h2⟩ => ⟨h1, .same h h2⟩
    · rw [alloc_pages hc hb hk hr]
      have hp := (run_at hk1 hr).1
      refine (alloc_done s L S ⟨S.W, putLarge S.pg p k⟩ n (k * 64) (p * 64) w h (by rw [hbk]; omega) (by omega) (by omega) rfl fun w1 hu => ?_).mono fun e w' ⟨h1, h2⟩ => ⟨?_, h2⟩
      · refine (place_large s L S n k p w1 (h.upd0 hu) hc hk hk1 hk2 hr).mono fun e w' ⟨h1, h2⟩ => ⟨?_, h2⟩
        rw [h1, Int.natCast_mul]; rfl
      · rw [h1, Int.natCast_mul]; rfl
  · obtain ⟨c, hcc, hc5, hbw⟩ := class_small hc
    have hwp := words_pos hc5
    have main : ∀ (p i : Nat) (l : List Bool) (S1 : Sp), First S c p l S1 → nextZ l false 0 = i → S.alloc n = (⟨filledAt S1.W (p * 64 + i * wordsOf c) (wordsOf c), S1.pg.set p (.small c (l.set i true))⟩, (p : Int) * 64 + (i : Int) * (wordsOf c : Nat), 0) → p < S.pg.length → i < roomOf c →
        Calls Tryz.prog 80 #[.pointer (some ⟨s, 0, none⟩), .int .i64 n] w fun e w' => e = .returned (AllocVal (S.alloc n)) ∧ After s L S (S.alloc n).1 w w' := fun p i l S1 hF hi e hp hir => by
      rw [e]
      have hfit := block_fits hc5 hir
      have hcast : ((p * 64 + i * wordsOf c : Nat) : Int) = (p : Int) * 64 + (i : Int) * (wordsOf c : Nat) := by rw [Int.natCast_add, Int.natCast_mul, Int.natCast_mul]; rfl
      refine (alloc_done s L S ⟨S1.W, S1.pg.set p (.small c (l.set i true))⟩ n (wordsOf c) (p * 64 + i * wordsOf c) w h hbw (by omega) (by omega) hF.words fun w1 hu => ?_).mono fun e w' ⟨h1, h2⟩ => ⟨?_, h2⟩
      · refine (place_small s L S S1 n c p i l w1 (h.upd0 hu) hcc hc5 hF hi).mono fun e w' ⟨h1, h2⟩ => ⟨?_, h2⟩
        rw [h1, hcast]
      · rw [h1, hcast]; rfl
    rcases openZ_cases S.pg c with ⟨ho, _⟩ | ⟨p, ho, hp, hopen, _⟩
    · rcases run_nat (l := bitsOf S.pg) (i := 0) (k := 1) with hr | ⟨p, hr⟩
      · have e : S.alloc n = (S, 0, 3) := by
          unfold Sp.alloc
          rw [if_neg hb, hcc, if_neg (by omega), Int.toNat_natCast, ho, if_neg (by omega), hr, if_pos (by omega)]
        rw [e]
        exact (alloc_full s n (wordsOf c) w hbw (by omega) fun w1 hu => place_small_full s L S n c w1 (h.upd0 hu) hcc hc5 ho hr).mono fun e w' ⟨h1, h2⟩ => ⟨h1, .same h h2⟩
      · have hrm := room_pos hc5
        have hp := (run_at (k := 1) (by omega) hr).1
        refine main p 0 (List.replicate (roomOf c) false) ⟨S.W, S.pg.set p (.small c (List.replicate (roomOf c) false))⟩ (.inr ⟨ho, hr, rfl, rfl⟩) (rep_false (by omega) (by omega)) ?_ (by omega) (by omega)
        rw [alloc_new hcc hb ho hr]
        simp [firstOne, List.set_set]
    · obtain ⟨l, hat, hcnt⟩ := open_small hopen
      obtain ⟨i, hi, hil, _⟩ := next_of_count hcnt
      have hll := (h.wf.small p c l hat).2
      exact main p i l S (.inl ⟨ho, rfl, hat⟩) hi (alloc_open hcc hb ho hat hi) hp (by omega)
end Go.Proofs.YtpkbdmieelgdlaaGreat
namespace Go.Proofs.YtpkbdmieelgdlaaGreat
open Go Go.RowKit Go.Sort

abbrev sortL (zs : List Int) : List Int := zs.mergeSort fun x y => decide (x ≤ y)
theorem sort_world {a0 w : World} {g q : Nat} {d : Array Int} {os : Array Obj} (h : Upd [] a0 w) (hg : a0.heap.size ≤ g) : Upd [] a0 (Go.Sort.grow (Go.Sort.putRow (Value.int .i64) (Go.Sort.ahead w q) g 0 d) os) := by
  refine ⟨h.os, h.tape, h.output, ?_, fun k hk hn => ?_⟩
  · have := h.size
    simp [Go.Sort.grow, Go.Sort.putRow, Go.Sort.mapBlock, Go.Sort.ahead]
    omega
  · rw [← h.block k hk hn]
    have hs := h.size
    have h1 : k < (Go.Sort.putRow (Value.int .i64) (Go.Sort.ahead w q) g 0 d).heap.size := by simp [Go.Sort.putRow, Go.Sort.mapBlock, Go.Sort.ahead]; omega
    show ((Go.Sort.putRow (Value.int .i64) (Go.Sort.ahead w q) g 0 d).heap ++ os)[k]? = _
    rw [Array.getElem?_append, if_pos h1]
    simp [Go.Sort.putRow, Go.Sort.mapBlock, Go.Sort.ahead, Array.getElem?_modify, show g ≠ k by omega]
theorem own_sorted {w : World} {B g n cap q : Nat} {os : Array Obj} {zs ts : List Int} (h : Own w B (.slice (some ⟨g, 0, none⟩) n cap) zs) (hn : zs.length = n) (hl : ts.length = n) :
    Own (Go.Sort.grow (Go.Sort.putRow (Value.int .i64) (Go.Sort.ahead w q) g 0 ts.toArray) os) B (.slice (some ⟨g, 0, none⟩) n cap) ts := by
  subst hn
  rcases h.2 with ⟨h0, _⟩ | ⟨g', cap', cur, h0, hb, hg, hnc, hcm, hcs, _⟩
  · cases h0
  · simp only [Value.slice.injEq, Option.some.injEq, Addr.mk.injEq, and_true, true_and] at h0
    obtain ⟨rfl, rfl⟩ := h0
    have := ownsRow_sortedI (os := os) (n := q) (e := 3) hl hb hg hnc hcm hcs
    unfold Own
    rw [hl]
    exact this

theorem sort_own (v : Value) (B : Nat) (zs : List Int) (w : World) (h : Own w B v zs) (hne : zs ≠ []) (hl : zs.length ≤ 65536) : Calls Tryz.prog 92 #[v] w fun e w' => e = .returned (.tuple #[]) ∧ Own w' B v (sortL zs) ∧ ∀ a0 : World, Upd [] a0 w → a0.heap.size ≤ B → Upd [] a0 w' := by
  have hv : v ≠ .slice none 0 0 := by
    rintro rfl
    rcases h.2 with ⟨_, h0⟩ | ⟨g, cap, cur, h0, _⟩
    · exact hne (List.eq_nil_of_length_eq_zero h0)
    · cases h0
  obtain ⟨g, cap, rfl, hb, hg, hn, hm, _, hH⟩ := Lib.holds_of_ownsRow h hv
  refine (Tryz.slices_Sort_int g 0 cap zs w hH hg (by omega)).mono ?_
  rintro e w' ⟨rfl, q, os, rfl⟩
  exact ⟨rfl, own_sorted h rfl (by simp), fun a0 hU hB => sort_world hU (by omega)⟩
theorem Own.empty_form {w : World} {B : Nat} {v : Value} (h : Own w B v []) : ∃ A c, v = .slice A 0 c := by
  obtain ⟨A, c, h1, _, _⟩ := h.form
  exact ⟨A, c, h1⟩
theorem sort_any (v : Value) (B : Nat) (zs : List Int) (w : World) (h : Own w B v zs) (hl : zs.length ≤ 65536) : Calls Tryz.prog 92 #[v] w fun e w' => e = .returned (.tuple #[]) ∧ Own w' B v (sortL zs) ∧ ∀ a0 : World, Upd [] a0 w → a0.heap.size ≤ B → Upd [] a0 w' := by
  by_cases hne : zs = []
  · subst hne
    obtain ⟨A, c, rfl⟩ := h.empty_form
    refine (Tryz.slices_Sort_int_none A c w).mono ?_
    rintro e w' ⟨rfl, rfl⟩
    exact ⟨rfl, by simpa [sortL] using h, fun a0 hU _ => hU⟩
  · exact sort_own v B zs w h hne hl

theorem Own.updN {w w' : World} {B : Nat} {v : Value} {xs : List Int} {E : List Nat} (h : Own w B v xs) (hu : Upd E w w') (hE : ∀ k, v.ownBlock = some k → k ∉ E) : Own w' B v xs := by
  obtain ⟨h1, h2⟩ := h
  refine ⟨h1, ?_⟩
  rcases h2 with h2 | ⟨g, cap, cur, rfl, h3, h4, h5⟩
  · exact .inl h2
  · refine .inr ⟨g, cap, cur, rfl, h3, ?_, h5⟩
    have hlt : g < w.heap.size := by
      rcases Nat.lt_or_ge g w.heap.size with hlt | hge
      · exact hlt
      · rw [Array.getElem?_eq_none hge] at h4; cases h4
    rw [hu.block g hlt (hE g rfl)]
    exact h4
theorem Own.block {w : World} {B : Nat} {v : Value} {xs : List Int} (h : Own w B v xs) {k : Nat} (hk : v.ownBlock = some k) : B ≤ k ∧ k < w.heap.size := World.ownsRow.lt h k hk

/-- 'append' of one number: what is written is the slice's own block, or a new one. -/
theorem wpList_pushN {w : World} {ops : Array Oper} {rest : List Oper} {o : Oper} {a : Act} {Q : Exit → Act → World → Prop} (hgd : o.guard = none) (s x : Operand)
    (ho : o.op = .call { callee := .builtin .append, args := #[s, x], argTypes := #[23, 23] })
    (B : Nat) (v : Value) (xs : List Int) (hs : a.eval s = v) (hown : Own w B v xs) (b : Nat) (y : Int) (hx : a.eval x = .slice (some ⟨b, 0, none⟩) 1 1) (hb : Blk w b 3 #[.int .i64 y])
    (hl : xs.length ≤ 4294967296) (hBw : B ≤ w.heap.size)
    (h : ∀ v' w', Own w' B v' (xs ++ [y]) → (∀ k, v'.ownBlock = some k → v.ownBlock = some k ∨ w.heap.size ≤ k) → Upd v.ownBlock.toList w w' → wpList Tryz.prog ops Q rest (a.put o.dst v') w') : wpList Tryz.prog ops Q (o :: rest) a w := by
  obtain ⟨i0, hi, hz0, hz1, hz2⟩ := info_parts int_info
  refine wpList_append_own_at _ hgd s x 23 ho B 3 i0 (.int .i64 0) 1 8 Tryz.underlying23 hi hz0 hz1 hz2 rfl (by decide) v xs.length (xs.map (Value.int .i64)) hs hown ⟨b, 0, none⟩ 1 1 [.int .i64 y] hx rfl ?_ ?_ (by unfold maxLen; omega) (by omega) hBw ?_
  · intro j u hj
    match j, hj with
    | 0, hj => simp at hj; subst hj; simpa [Addr.add] using hb.one
  · intro u hu; simp at hu; subst hu; rfl
  · intro v' w' h1 h2 _ h4
    refine h v' w' ?_ (fun k hk => ?_) ⟨h2.os, h2.tape, h2.output, h2.size, fun k hk hn => h2.block k hk (fun e => hn (by rw [← e]; simp))⟩
    · unfold Own
      rw [List.length_append, List.map_append]
      exact h1
    · rcases h4 with h4 | h4
      · exact .inl (h4 ▸ hk)
      · rw [h4] at hk
        injection hk with hk
        exact .inr (by omega)
end Go.Proofs.YtpkbdmieelgdlaaGreat
namespace Go.Proofs.YtpkbdmieelgdlaaGreat
open Go Go.RowKit

/-- Where the blocks of a page begin that stand ahead of place j. -/
def stU (p c : Nat) (l : List Bool) (j : Nat) : List Int := ((List.range j).filter (fun i => l.getD i false)).map fun i => ((p * 64 + i * wordsOf c : Nat) : Int)
theorem stU_all (p c : Nat) (l : List Bool) : stU p c l l.length = startsOf p (.small c l) := rfl
theorem stU_zero (p c : Nat) (l : List Bool) : stU p c l 0 = [] := rfl
theorem stU_succ (p c : Nat) (l : List Bool) (j : Nat) : stU p c l (j + 1) = stU p c l j ++ if l.getD j false = true then [((p * 64 + j * wordsOf c : Nat) : Int)] else [] := by
  unfold stU
  rw [List.range_succ, List.filter_append, List.map_append]
  by_cases h : l.getD j false = true
  · rw [if_pos h, show [j].filter (fun i => l.getD i false) = [j] from List.filter_cons_of_pos (p := fun i => l.getD i false) h]; rfl
  · rw [if_neg h, show [j].filter (fun i => l.getD i false) = [] from List.filter_cons_of_neg (p := fun i => l.getD i false) h]; rfl
theorem stU_flat (p c : Nat) (l : List Bool) (j n : Nat) (hjn : j ≤ n) (h : ∀ i, j ≤ i → i < n → l.getD i false ≠ true) : stU p c l n = stU p c l j := by
  induction n with
  | zero => obtain rfl : j = 0 := by omega
            rfl
  | succ n ih =>
    by_cases e : j = n + 1
    · rw [e]
    · rw [stU_succ, if_neg (h n (by omega) (by omega)), List.append_nil, ih (by omega) (fun i h1 h2 => h i h1 (by omega))]
theorem stU_next {p c : Nat} {l : List Bool} {j m : Nat} (h : nextZ l true j = m) : stU p c l (m + 1) = stU p c l j ++ [((p * 64 + m * wordsOf c : Nat) : Int)] ∧ j ≤ m ∧ m < l.length := by
  rcases isNext_nextZ l true j with ⟨h1, _⟩ | ⟨m', h1, h2, h3, h4, h5⟩
  · omega
  · obtain rfl : m = m' := by omega
    rw [Int.toNat_natCast] at h2 h5
    rw [stU_succ, if_pos h4, stU_flat p c l j m h2 (fun i h6 h7 => h5 i h6 h7)]
    exact ⟨rfl, h2, h3⟩
theorem stU_done {p c : Nat} {l : List Bool} {j : Nat} (h : nextZ l true j = -1) (hj : j ≤ l.length) : stU p c l j = startsOf p (.small c l) := by
  rcases isNext_nextZ l true j with ⟨_, h2⟩ | ⟨m', h1, _⟩
  · rw [Int.toNat_natCast] at h2
    rw [← stU_all, stU_flat p c l j l.length hj h2]
  · omega
theorem stU_length (p c : Nat) (l : List Bool) (j : Nat) : (stU p c l j).length ≤ j := by
  unfold stU
  rw [List.length_map]
  exact Nat.le_trans (List.length_filter_le _ _) (by simp)

/-- The blocks of the pages of which k holds. -/
def Done (pg : List Pst) (k : Nat → Bool) : List Int := ((List.range pg.length).filter k).flatMap fun p => startsOf p (atP pg p)
theorem done_none (pg : List Pst) {k : Nat → Bool} (h : ∀ p, k p = false) : Done pg k = [] := by
  unfold Done
  rw [List.filter_eq_nil_iff.2 (fun p _ => by rw [h]; simp)]
  rfl
theorem filter_add {l : List Nat} (hn : l.Nodup) {p : Nat} (hp : p ∈ l) {k k' : Nat → Bool} (hk : k p = false) (hk' : ∀ z, k' z = (k z || decide (z = p))) : (l.filter k').Perm (l.filter k ++ [p]) := by
  induction l with
  | nil => cases hp
  | cons x l ih =>
    obtain ⟨h1, h2⟩ := List.nodup_cons.1 hn
    by_cases e : x = p
    · subst e
      have hl : l.filter k' = l.filter k := List.filter_congr fun z hz => by
        rw [hk', decide_eq_false (by rintro rfl; exact h1 hz), Bool.or_false]
      rw [List.filter_cons_of_pos (by rw [hk']; simp), List.filter_cons_of_neg (by rw [hk]; simp), hl]
      exact (List.perm_append_comm (l₁ := [x]) (l₂ := l.filter k))
    · have hx : k' x = k x := by rw [hk', decide_eq_false e, Bool.or_false]
      have hpl : p ∈ l := by rcases List.mem_cons.1 hp with h | h; exact absurd h.symm e; exact h
      by_cases hkx : k x = true
      · rw [List.filter_cons_of_pos (by rw [hx]; exact hkx), List.filter_cons_of_pos hkx]
        exact (ih h2 hpl).cons x
      · rw [List.filter_cons_of_neg (by rw [hx]; exact hkx), List.filter_cons_of_neg hkx]
        exact ih h2 hpl
theorem done_step {pg : List Pst} {k k' : Nat → Bool} {p : Nat} (hp : p < pg.length) (hk : k p = false) (hk' : ∀ z, k' z = (k z || decide (z = p))) : (Done pg k').Perm (Done pg k ++ startsOf p (atP pg p)) := by
  unfold Done
  have := (filter_add List.nodup_range (List.mem_range.2 hp) hk hk').flatMap_right fun p => startsOf p (atP pg p)
  rw [List.flatMap_append] at this
  simpa using this
theorem done_all {S : Sp} {k : Nat → Bool} (h : ∀ p, k p = false → startsOf p (atP S.pg p) = []) : Done S.pg k = S.each := by
  unfold Done Sp.each
  generalize List.range S.pg.length = l
  induction l with
  | nil => rfl
  | cons p l ih =>
    by_cases hk : k p = true
    · rw [List.filter_cons_of_pos hk, List.flatMap_cons, List.flatMap_cons, ih]
    · rw [List.filter_cons_of_neg hk, List.flatMap_cons, h p (by simpa using hk), ih, List.nil_append]
theorem done_le (S : Sp) (k : Nat → Bool) : (Done S.pg k).length ≤ S.each.length := by
  unfold Done Sp.each
  generalize List.range S.pg.length = l
  induction l with
  | nil => exact Nat.le_refl _
  | cons p l ih =>
    by_cases hk : k p = true
    · rw [List.filter_cons_of_pos hk, List.flatMap_cons, List.flatMap_cons, List.length_append, List.length_append]; omega
    · rw [List.filter_cons_of_neg hk, List.flatMap_cons, List.length_append]; omega
theorem done_congr {pg : List Pst} {k k' : Nat → Bool} (h : ∀ p, k p = k' p) : Done pg k = Done pg k' := by
  rw [show k = k' from funext h]

theorem starts_range {S : Sp} (h : S.WF) {p : Nat} {x : Int} (hx : x ∈ startsOf p (atP S.pg p)) : (p : Int) * 64 ≤ x ∧ x < (p : Int) * 64 + 64 ∧ x % 64 = x - p * 64 := by
  cases ha : atP S.pg p <;> rw [ha] at hx
  case small c l =>
    obtain ⟨hc, hl⟩ := h.small p c l ha
    simp only [startsOf, List.mem_map, List.mem_filter, List.mem_range] at hx
    obtain ⟨i, ⟨hi, _⟩, rfl⟩ := hx
    have := block_fits hc (i := i) (by omega)
    have := words_pos hc
    omega
  case first k =>
    simp only [startsOf, List.mem_singleton] at hx
    omega
  all_goals (simp [startsOf] at hx)
theorem each_sorted {S : Sp} (h : S.WF) : S.each.Pairwise (· < ·) := by
  unfold Sp.each
  rw [List.pairwise_flatMap]
  refine ⟨fun p _ => ?_, List.pairwise_lt_range.imp fun {p q} hpq x hx y hy => ?_⟩
  · cases ha : atP S.pg p
    case small c l =>
      obtain ⟨hc, hl⟩ := h.small p c l ha
      unfold startsOf
      refine List.pairwise_map.2 ((List.pairwise_lt_range.filter _).imp fun {i j} hij => ?_)
      have h1 : (i + 1) * wordsOf c ≤ j * wordsOf c := Nat.mul_le_mul_right _ hij
      have h2 := words_pos hc
      rw [Nat.add_mul] at h1
      omega
    all_goals simp [startsOf]
  · have h1 := starts_range h hx
    have h2 := starts_range h hy
    omega
theorem each_mem {S : Sp} {x : Int} : x ∈ S.each ↔ ∃ p, p < S.pg.length ∧ x ∈ startsOf p (atP S.pg p) := by
  unfold Sp.each
  simp [List.mem_flatMap]
theorem each_length {S : Sp} (h : S.WF) : S.each.length ≤ 16384 := by
  have h1 : ∀ x ∈ S.each, 0 ≤ x ∧ x < 16384 := fun x hx => by
    obtain ⟨p, hp, hx⟩ := each_mem.1 hx
    have := starts_range h hx
    have := h.n2
    omega
  have hnd : (S.each.map Int.toNat).Nodup := by
    refine List.pairwise_map.2 ((each_sorted h).imp_of_mem fun {x y} hx hy hxy e => ?_)
    have := h1 x hx
    have := h1 y hy
    omega
  have h2 : ∀ (m : Nat) (l : List Nat), l.Nodup → (∀ x ∈ l, x < m) → l.length ≤ m := by
    intro m
    induction m with
    | zero => intro l _ h; cases l with
      | nil => simp
      | cons x l => exact absurd (h x (by simp)) (by omega)
    | succ m ih =>
      intro l hn h
      have h1 := ih (l.filter (· ≠ m)) (hn.filter _) (fun x hx => by
        have := List.mem_filter.1 hx
        have h2 := h x this.1
        have h3 : x ≠ m := by simpa using this.2
        omega)
      have h2 : l.length ≤ (l.filter (· ≠ m)).length + 1 := by
        clear h h1
        induction l with
        | nil => simp
        | cons y l ih2 =>
          by_cases hy : y = m
          · subst hy
            have hnot : y ∉ l := (List.nodup_cons.1 hn).1
            have : l.filter (· ≠ y) = l := List.filter_eq_self.2 (fun x hx => by simp; rintro rfl; exact hnot hx)
            rw [List.filter_cons_of_neg (by simp), this]
            simp
          · have h3 := ih2 (List.nodup_cons.1 hn).2
            have hf : (y :: l).filter (· ≠ m) = y :: l.filter (· ≠ m) := List.filter_cons_of_pos (by simp [hy])
            rw [hf]
            simp only [List.length_cons]
            omega
      omega
  have := h2 16384 _ hnd (fun x hx => by
    obtain ⟨y, hy, rfl⟩ := List.mem_map.1 hx
    have := h1 y hy
    omega)
  simpa using this
/-- Sorted, whatever was gathered in whatever order is all blocks in order. -/
theorem sort_each {S : Sp} (h : S.WF) {out : List Int} (hp : out.Perm S.each) : (out.mergeSort fun x y => decide (x ≤ y)) = S.each := by
  have e := mergeSort_of_perm_i hp
  have e2 : S.each.mergeSort leI = S.each := List.mergeSort_of_pairwise ((each_sorted h).imp fun hxy => by simp only [leI, decide_eq_true_eq]; omega)
  exact e.trans e2
end Go.Proofs.YtpkbdmieelgdlaaGreat
namespace Go.Proofs.YtpkbdmieelgdlaaGreat
open Go Go.RowKit

end Go.Proofs.YtpkbdmieelgdlaaGreat
namespace Go.Proofs.YtpkbdmieelgdlaaGreat
open Go Go.RowKit

theorem each_nil (w : World) : Calls Tryz.prog 62 #[.pointer none] w fun e w' => e = .returned (.slice none 0 0) ∧ w = w' := by
  go_enter Tryz.func62, Tryz.ntmps62
  go_wp2_with fail
  go_ret
  exact ⟨rfl, rfl⟩

def isSm : Pst → Bool
  | .small _ _ => true
  | _ => false
def isFi : Pst → Bool
  | .first _ => true
  | _ => false
/-- Pages of blocks that were gone through; larger blocks, too. -/
def k1 (pg : List Pst) (left : Int → Bool) (p : Nat) : Bool := isSm (atP pg p) && !left p
def k2 (pg : List Pst) (left : Int → Bool) (p : Nat) : Bool := isSm (atP pg p) || (isFi (atP pg p) && !left p)

set_option maxRecDepth 100000 in
set_option maxHeartbeats 1600000 in
theorem each_calls (s : Nat) (L : Lay) (S : Sp) (w : World) (h : IsSpace w s L S) :
    Calls Tryz.prog 62 #[.pointer (some ⟨s, 0, none⟩)] w fun e w' => ∃ v, e = .returned v ∧ Own w' w.heap.size v S.each ∧ Upd [] w w' := by
  have c2 : w.cell? ⟨s, 2, none⟩ = some (.map (some L.ms)) := h.box.cell 2
  have hn2 := h.wf.n2
  have H := Lib.hid h
  obtain ⟨B, hB⟩ : ∃ B, w.heap.size = B := ⟨_, rfl⟩
  have HB := Lib.hid hB
  have HDL : Hid (∀ out : List Int, (∃ k, out.Perm (Done S.pg k)) → out.length ≤ 16384) := Lib.hid fun out ⟨k, hk⟩ => by
    have h1 := each_length H.out.wf
    have h2 := done_le S k
    rw [hk.length_eq]; omega
  rw [hB]
  clear h hB
  go_enter Tryz.func62, Tryz.ntmps62
  go_wp2_with (at_range; refine wpList_range_mapv rfl _ 131 146 rfl Tryz.underlying131 H.out.small rfl ?_; intro w1 cnt hit hu hsz)
  have HIT := Lib.hid hit
  have HU := Lib.hid hu
  clear hit hu hsz
  go_frame
  rw [HB.out] at HIT ⊢
  go_loopg [3] cnt (fun gk v wr => ∃ left out, Hid (MapIt wr L.ms B 256 (smallF L S.pg) left gk) ∧ Hid (Own wr B v out) ∧ Hid (∀ k, v.ownBlock = some k → k ≠ B) ∧ Hid (Upd [] w wr) ∧ Hid (B < wr.heap.size) ∧ Hid (out.Perm (Done S.pg (k1 S.pg left))))
  case atStart =>
    refine ⟨_, [], HIT, Lib.hid (Own.nil _ _), Lib.hid (fun k hk => by cases hk), HU, Lib.hid HIT.out.lt, Lib.hid ?_⟩
    rw [done_none]
    intro p
    unfold k1
    dsimp only
    rw [smallF_at]
    cases atP S.pg p <;> rfl
  case round =>
    obtain ⟨left, out, HI, HO, HNB, HW, HLT, HP⟩ := hrel
    go_wp2_with (at_next; refine wpList_next_mapv rfl _ rfl B left _ rfl HI.out ?_ ?_)
    · intro _ hleft
      have HLEFT := Lib.hid hleft
      have c3 : wr.cell? ⟨s, 3, none⟩ = some (.map (some L.ml)) := (HW.out.cell (p := ⟨s, 3, none⟩) H.out.box.lt (by simp)).trans (H.out.box.cell 3)
      have HSP := Lib.hid (H.out.upd0 HW.out)
      clear hleft
      go_wp2_with (at_range; refine wpList_range_mapv rfl _ 132 3 rfl Tryz.underlying132 HSP.out.large rfl ?_; intro w2 cnt2 hit hu hsz)
      have HIT2 := Lib.hid hit
      have HU2 := Lib.hid hu
      have HSZ2 := Lib.hid hsz
      clear hit hu hsz
      go_frame
      obtain ⟨r, hr⟩ : ∃ r, wr.heap.size = r := ⟨_, rfl⟩
      rw [hr] at HIT2 ⊢
      have HRR := Lib.hid hr
      clear hr
      have HP0 : Hid (out.Perm (Done S.pg (k2 S.pg fun x => (largeF S.pg x).isSome))) := Lib.hid (by
        have e : Done S.pg (k2 S.pg fun x => (largeF S.pg x).isSome) = Done S.pg (k1 S.pg left) := done_congr fun p => by
          unfold k1 k2
          dsimp only
          rw [largeF_at, HLEFT.out p]
          cases atP S.pg p <;> rfl
        rw [e]; exact HP.out)
      go_loopg [3] cnt2 (fun gk v wx => ∃ left out, Hid (MapIt wx L.ml r 256 (largeF S.pg) left gk) ∧ Hid (Own wx B v out) ∧ Hid (∀ k, v.ownBlock = some k → k ≠ r) ∧ Hid (Upd [] w wx) ∧ Hid (r < wx.heap.size) ∧ Hid (out.Perm (Done S.pg (k2 S.pg left))))
      case atStart =>
        exact ⟨_, out, HIT2, Lib.hid (HO.out.updN HU2.out (by simp)), Lib.hid (fun k hk => by have := (HO.out.block hk).2; have := HRR.out; omega), Lib.hid (HW.out.trans HU2.out), Lib.hid HIT2.out.lt, HP0⟩
      case round =>
        obtain ⟨left2, out2, HI2, HO2, HNB2, HW2, HLT2, HP2⟩ := hrel
        go_wp2_with (at_next; refine wpList_next_mapv rfl _ rfl r left2 _ rfl HI2.out ?_ ?_)
        · intro _ hleft2
          have HPE : Hid (out2.Perm S.each) := Lib.hid (by
            have e : Done S.pg (k2 S.pg left2) = S.each := done_all fun p hp => by
              unfold k2 at hp
              rw [hleft2] at hp
              cases hx : atP S.pg p <;> rw [hx] at hp <;> simp [isSm, isFi] at hp <;> rfl
            rw [← e]; exact HP2.out)
          clear hleft2
          go_wp2_with fail
          refine (sort_any _ B out2 _ HO2.out (by have := HDL.out out2 ⟨_, HP2.out⟩; omega)).mono ?_
          rintro e w3 ⟨rfl, hO, hU⟩
          have HO3 : Hid (Own w3 B _ S.each) := Lib.hid (by rw [← sort_each H.out.wf HPE.out]; exact hO)
          have HU3 : Hid (Upd [] w w3) := Lib.hid (hU w HW2.out (by rw [HB.out]; exact Nat.le_refl _))
          clear hO hU
          go_wp2_with fail
          go_ret
          exact ⟨_, rfl, HO3.out, HU3.out⟩
        · intro x v w3 cnt3 hlx hfx hok hit3 hlt hu3 hs3 hen
          obtain ⟨p, k, rfl, hpn, hat⟩ := largeF_in (by rw [hfx]; simp)
          have hp256 : p ≤ 256 := by omega
          have HSTEP : Hid ((out2 ++ [((p * 64 : Nat) : Int)]).Perm (Done S.pg (k2 S.pg fun z => left2 z && !decide (z = (p : Int))))) := Lib.hid (by
            refine ((HP2.out.append_right _).trans ?_)
            have hst : startsOf p (atP S.pg p) = [((p * 64 : Nat) : Int)] := by rw [hat]; rfl
            rw [← hst]
            refine (done_step hpn (by unfold k2; rw [hat, hlx]; rfl) fun z => ?_).symm
            unfold k2
            by_cases e : z = p
            · subst e; rw [hat]; simp [isSm, isFi]
            · have : ¬ (z : Int) = p := by omega
              simp [e, this])
          have HIT3 := Lib.hid hit3
          have HU3 := Lib.hid hu3
          have HS3 := Lib.hid hs3
          have HLEN : Hid (out2.length ≤ 16384) := Lib.hid (HDL.out out2 ⟨_, HP2.out⟩)
          have HO3 : Hid (Own w3 B u3 out2) := Lib.hid (HO2.out.updN hu3 (fun k hk => by simpa using HNB2.out k hk))
          have HBW : Hid (B ≤ w3.heap.size) := Lib.hid (by have := HW2.out.size; have := HB.out; omega)
          have hcast : ((p * 64 : Nat) : Int) = (p : Int) * 64 := by rw [Int.natCast_mul]; rfl
          clear hlx hfx hok hit3 hu3 hs3 hat
          go_wp2_with (at_builtin; refine wpList_pushN rfl _ _ rfl B _ out2 rfl (HO3.out.alloc _) w3.heap.size ((p : Int) * 64) rfl (Blk.new _ _ _) (by have := HLEN.out; omega) (by have := HBW.out; simp; omega) ?_; intro v' w4 hO4 hN4 hU4)
          have HO4 : Hid (Own w4 B v' (out2 ++ [((p * 64 : Nat) : Int)])) := Lib.hid (by rw [hcast]; exact hO4)
          have HU4 := Lib.hid hU4
          have HN4 := Lib.hid hN4
          clear hO4 hU4 hN4 hcast
          go_wp2_with fail
          go_roundg cnt3
          case measure => omega
          case rel =>
            have hE : ∀ k ∈ u3.ownBlock.toList, B ≤ k ∧ k ≠ r := fun k hk => by
              have hk : u3.ownBlock = some k := Option.mem_toList.1 hk
              exact ⟨(HO3.out.block hk).1, HNB2.out k hk⟩
            have hs : w.heap.size = B := HB.out
            have hml : L.ml < B := by rw [← hs]; exact H.out.large.lt
            refine ⟨_, _, Lib.hid ((HIT3.out.upd ((Upd.refl [] w3).alloc _) (by simp) (by simp)).upd HU4.out (fun hm => by have := (hE _ hm).1; omega) (fun hm => (hE _ hm).2 rfl)), HO4, Lib.hid (fun k hk => ?_), Lib.hid ?_, Lib.hid ?_, HSTEP⟩
            · rcases HN4.out k hk with h1 | h1
              · exact (hE k (Option.mem_toList.2 h1)).2
              · simp at h1; have := HIT3.out.lt; omega
            · exact ((HW2.out.step HU3.out (by intro i hi; simp at hi; subst hi; right; rw [hs]; have := HRR.out; have := HW.out.size; omega)).alloc _).step HU4.out (fun i hi => .inr (by rw [hs]; exact (hE i hi).1))
            · have h4 := HU4.out.size; simp at h4; have := HIT3.out.lt; omega
    · intro x v w2 cnt2 hlx hfx hok hit2 hlt hu2 hs2 hen
      obtain ⟨p, c, l, rfl, hpn, hat⟩ := smallF_in (by rw [hfx]; simp)
      have hp256 : p ≤ 256 := by omega
      have hv : v = .pointer (some ⟨(L.lay p).1, 0, none⟩) := by rw [smallF_at, hat] at hfx; exact (Option.some.inj hfx).symm
      subst hv
      obtain ⟨hc5, hll⟩ := H.out.wf.small p c l hat
      have hwp := words_pos hc5
      have hrm := room_pos hc5
      have hl32 : l.length ≤ 32 := by omega
      have HSTEP : Hid ((out ++ startsOf p (.small c l)).Perm (Done S.pg (k1 S.pg fun z => left z && !decide (z = (p : Int))))) := Lib.hid (by
        refine ((HP.out.append_right _).trans ?_)
        rw [← hat]
        refine (done_step hpn (by unfold k1; rw [hat, hlx]; rfl) fun z => ?_).symm
        unfold k1
        by_cases e : z = p
        · subst e; rw [hat]; simp [isSm]
        · have : ¬ (z : Int) = p := by omega
          simp [e, this])
      have HU2 := Lib.hid hu2
      have HIT2 := Lib.hid hit2
      have HS2 := Lib.hid hs2
      have hs : Hid (w.heap.size = B) := HB
      have HW2 : Hid (Upd [] w w2) := Lib.hid (HW.out.step hu2 (by intro i hi; simp at hi; subst hi; right; rw [hs.out]; exact Nat.le_refl _))
      have HPG := Lib.hid (H.out.page p c l hat)
      have HO2 : Hid (Own w2 B u3 out) := Lib.hid (HO.out.updN hu2 (fun k hk => by simpa using HNB.out k hk))
      have HLEN : Hid (out.length ≤ 16384) := Lib.hid (HDL.out out ⟨_, HP.out⟩)
      have HL := Lib.hid (show l.length ≤ 16384 by omega)
      have HRM : Hid (∀ i, i < l.length → i * wordsOf c + wordsOf c ≤ 64) := Lib.hid (fun i hi => block_fits hc5 (by omega))
      have HST0 : Hid (∀ j : Nat, nextZ l true j = -1 → j ≤ l.length → stU p c l j = startsOf p (.small c l)) := Lib.hid (fun j => stU_done)
      have HST1 : Hid (∀ j m : Nat, nextZ l true j = m → stU p c l (m + 1) = stU p c l j ++ [((p * 64 + m * wordsOf c : Nat) : Int)] ∧ j ≤ m ∧ m < l.length) := Lib.hid (fun j m => stU_next)
      have HSTL : Hid (∀ j, (stU p c l j).length ≤ j) := Lib.hid (stU_length p c l)
      clear hlx hfx hok hit2 hu2 hs2 hat hc5 hll hrm
      generalize hm : wordsOf c = m at *
      have hm2 := hwp.1
      have hm3 := hwp.2
      clear hwp hm
      generalize (L.lay p).1 = q at *
      generalize (L.lay p).2.1 = bb at *
      generalize (L.lay p).2.2 = g at *
      have HPG2 : Hid (∀ W, Upd [] w W → IsPage W q bb g m l) := Lib.hid (fun W hW => HPG.out.upd hW (by simp) (by simp) (by simp))
      have d0 : w2.cell? ⟨q, 0, none⟩ = some (.pointer (some ⟨bb, 0, none⟩)) := (HPG2.out w2 HW2.out).1.cell 0
      go_wp2_with fail
      refine (next_any bb g l 0 true _ (HPG2.out w2 HW2.out).2 (by omega) HL.out).mono ?_
      rintro e w' ⟨rfl, rfl⟩
      go_wp2_with fail
      obtain ⟨wo, rfl⟩ : ∃ wo : World, wo = w2 := ⟨_, rfl⟩
      go_loopg [3, 6] (l.length + 1) (fun gk v i wr => ∃ (j : Nat), gk = l.length + 1 - j ∧ j ≤ l.length ∧ i = .int .i64 (nextZ l true j) ∧ Hid (MapIt wr L.ms B 256 (smallF L S.pg) (fun z => left z && !decide (z = (p : Int))) cnt2) ∧ Hid (Own wr B v (out ++ stU p c l j)) ∧ Hid (∀ k, v.ownBlock = some k → k ≠ B) ∧ Hid (Upd [] w wr) ∧ Hid (B < wr.heap.size))
      case atStart =>
        exact ⟨0, by omega, by omega, rfl, HIT2, by rw [stU_zero, List.append_nil]; exact HO2, HNB, HW2, Lib.hid HIT2.out.lt⟩
      case round =>
        obtain ⟨j, rfl, hj, rfl, HIx, HOx, HNBx, HWx, HLTx⟩ := hrel
        have hnr := nextZ_range l true j
        obtain ⟨z, hz⟩ : ∃ z, nextZ l true j = z := ⟨_, rfl⟩
        rw [hz] at hnr ⊢
        have HZ := Lib.hid hz
        clear hz
        by_cases hneg : z < 0
        · obtain rfl : z = -1 := by omega
          have HOE : Hid (Own wr B u3 (out ++ startsOf p (.small c l))) := Lib.hid (by rw [← HST0.out j HZ.out hj]; exact HOx.out)
          clear hneg hnr
          go_wp2_with fail
          go_roundg cnt2
          case measure => omega
          case rel => exact ⟨_, _, HIx, HOE, HNBx, HWx, HLTx, HSTEP⟩
        · obtain ⟨i, rfl⟩ := Int.eq_ofNat_of_zero_le (show 0 ≤ z by omega)
          have hst := HST1.out j i HZ.out
          have HST := Lib.hid hst.1
          have hji := hst.2.1
          have hil := hst.2.2
          have hfit := HRM.out i hil
          clear hst hneg hnr
          have hiw0 : 0 ≤ (i : Int) * (m : Int) := by rw [← Int.natCast_mul]; omega
          have hiw' : (i : Int) * (m : Int) ≤ 64 := by rw [← Int.natCast_mul]; omega
          have hcast : Hid (((p * 64 + i * m : Nat) : Int) = (p : Int) * 64 + (i : Int) * (m : Int)) := Lib.hid (by rw [Int.natCast_add, Int.natCast_mul, Int.natCast_mul]; rfl)
          clear hfit
          have HBW : Hid (B ≤ wr.heap.size) := Lib.hid (by have := HLTx.out; omega)
          have HLENx : Hid ((out ++ stU p c l j).length ≤ 4294967296) := Lib.hid (by have := HLEN.out; have := HSTL.out j; rw [List.length_append]; omega)
          have hml : Hid (L.ms < B) := Lib.hid (by rw [← hs.out]; exact H.out.small.lt)
          go_wp2_with fail
          refine (words_any q bb g m l _ (HPG2.out wr HWx.out)).mono ?_
          rintro e w' ⟨rfl, rfl⟩
          go_wp2_with (at_builtin; refine wpList_pushN rfl _ _ rfl B _ (out ++ stU p c l j) rfl (HOx.out.alloc _) wr.heap.size ((p : Int) * 64 + (i : Int) * (m : Int)) rfl (Blk.new _ _ _) HLENx.out (by have := HBW.out; simp; omega) ?_; intro v' w4 hO4 hN4 hU4
                       have HO4 : Hid (Own w4 B v' (out ++ stU p c l (i + 1))) := Lib.hid (by rw [HST.out, ← List.append_assoc, hcast.out]; exact hO4)
                       have hE : ∀ k ∈ u3.ownBlock.toList, B < k := fun k hk => (by
                         have hk : u3.ownBlock = some k := Option.mem_toList.1 hk
                         have := (HOx.out.block hk).1; have := HNBx.out k hk; omega)
                       have HW4 : Hid (Upd [] w w4) := Lib.hid ((HWx.out.alloc _).step hU4 (fun i hi => .inr (by rw [hs.out]; have := hE i hi; omega)))
                       have HIT4 := Lib.hid ((HIx.out.upd ((Upd.refl [] wr).alloc _) (by simp) (by simp)).upd hU4 (fun hm => by have := hE _ hm; have := hml.out; omega) (fun hm => by have := hE _ hm; omega))
                       have HNB4 : Hid (∀ k, v'.ownBlock = some k → k ≠ B) := Lib.hid (fun k hk => (by
                         rcases hN4 k hk with h1 | h1
                         · exact HNBx.out k h1
                         · simp at h1; have := HLTx.out; omega))
                       have HLT4 : Hid (B < w4.heap.size) := Lib.hid (by have h4 := hU4.size; simp at h4; have := HLTx.out; omega)
                       have e0 : w4.cell? ⟨q, 0, none⟩ = some (.pointer (some ⟨bb, 0, none⟩)) := (HPG2.out w4 HW4.out).1.cell 0
                       clear hO4 hN4 hU4 hE)
          refine (next_any bb g l ((i : Int) + 1) true _ (HPG2.out w4 HW4.out).2 (by omega) HL.out).mono ?_
          rintro e w' ⟨rfl, rfl⟩
          go_wp2_with fail
          go_roundg (l.length + 1 - (i + 1))
          case measure => omega
          case rel => exact ⟨i + 1, rfl, by omega, by rw [Int.natCast_add]; rfl, HIT4, HO4, HNB4, HW4, HLT4⟩
end Go.Proofs.YtpkbdmieelgdlaaGreat
namespace Go.Proofs.YtpkbdmieelgdlaaGreat
open Go Go.RowKit

theorem sum_snoc (l : List Int) (x : Int) : (l ++ [x]).sum = l.sum + x := by
  induction l with
  | nil => simp
  | cons y l ih => simp only [List.cons_append, List.sum_cons, ih]; omega
theorem many_le {S : Sp} (h : S.WF) (f : Nat) : manyOf (atP S.pg f) ≤ 256 := by
  cases hx : atP S.pg f <;> simp only [manyOf] <;> try omega
  have := (h.first f _ hx).2.1
  have := h.n2
  omega
theorem find_bd {S : Sp} (h : S.WF) (a : Int) : 0 ≤ (S.find a).2.1 ∧ (S.find a).2.1 ≤ 16384 := by
  unfold Sp.find
  split
  · exact ⟨by decide, by decide⟩
  · cases hx : atP S.pg (a / 64).toNat
    case small c l =>
      have := words_pos (h.small _ _ _ hx).1
      by_cases hb : hasB l (a % 64 / wordsOf c) = true
      · simp only [hb, if_true]; omega
      · simp only [hb]; show (0 : Int) ≤ 0 ∧ (0 : Int) ≤ 16384; omega
    case first k =>
      have := (h.first _ _ hx).2.1
      have := h.n2
      simp only
      omega
    case rest f =>
      have := many_le h f
      simp only
      omega
    all_goals (show (0 : Int) ≤ 0 ∧ (0 : Int) ≤ 16384; omega)

theorem After.space {s : Nat} {L : Lay} {S S' : Sp} {w w' : World} (h : After s L S S' w w') : ∃ L', IsSpace w' s L' S' := by obtain ⟨L', h1, _⟩ := h; exact ⟨L', h1⟩

end Go.Proofs.YtpkbdmieelgdlaaGreat
namespace Go.Proofs.YtpkbdmieelgdlaaGreat
open Go Go.RowKit

def findIn (S : Sp) (z : Int) : Pst → Int × Int × Bool
  | .small c l => if hasB l (z % 64 / wordsOf c) then (z / 64 * 64 + z % 64 / wordsOf c * wordsOf c, wordsOf c, true) else (0, 0, false)
  | .first k => (z / 64 * 64, k * 64, true)
  | .rest f => (f * 64, manyOf (atP S.pg f) * 64, true)
  | _ => (0, 0, false)
theorem find_out {S : Sp} {z : Int} (h : z < 0 ∨ S.W.length ≤ z) : S.find z = (0, 0, false) := if_pos h
theorem find_in {S : Sp} {z : Int} (h0 : 0 ≤ z) (h1 : z < S.W.length) : S.find z = findIn S z (atP S.pg (z / 64).toNat) := by
  unfold Sp.find findIn
  rw [if_neg (by omega)]
  all_goals (cases atP S.pg (z / 64).toNat <;> rfl)
theorem small_div {c : Nat} (hc : c < 5) (o i : Int) : o / (wordsOf c : Nat) = i ↔ i * (wordsOf c : Nat) ≤ o ∧ o < i * (wordsOf c : Nat) + (wordsOf c : Nat) := by
  have : c = 0 ∨ c = 1 ∨ c = 2 ∨ c = 3 ∨ c = 4 := by omega
  rcases this with rfl | rfl | rfl | rfl | rfl <;> simp only [wordsOf] <;> omega
theorem small_lt {c : Nat} (hc : c < 5) {o : Int} (h0 : 0 ≤ o) (h1 : o < 64) : 0 ≤ o / (wordsOf c : Nat) ∧ o / (wordsOf c : Nat) < roomOf c ∧ 0 ≤ o / (wordsOf c : Nat) * (wordsOf c : Nat) ∧ o / (wordsOf c : Nat) * (wordsOf c : Nat) + (wordsOf c : Nat) ≤ 64 := by
  have : c = 0 ∨ c = 1 ∨ c = 2 ∨ c = 3 ∨ c = 4 := by omega
  rcases this with rfl | rfl | rfl | rfl | rfl <;> simp only [wordsOf, roomOf] <;> omega

/-- In pages that have not turned the same is found. -/
theorem find_same {S S' : Sp} {z : Int} (hl : S'.W.length = S.W.length) (h1 : atP S'.pg (z / 64).toNat = atP S.pg (z / 64).toNat) (h2 : ∀ f, atP S.pg (z / 64).toNat = .rest f → atP S'.pg f = atP S.pg f) : S'.find z = S.find z := by
  by_cases h : z < 0 ∨ S.W.length ≤ z
  · rw [find_out h, find_out (by rw [hl]; exact h)]
  · rw [find_in (S := S) (by omega) (by omega), find_in (S := S') (by omega) (by omega), h1]
    cases hx : atP S.pg (z / 64).toNat <;> try rfl
    simp only [findIn]
    rw [h2 _ hx]

theorem hasB_set {l : List Bool} {i : Nat} {b : Bool} {j : Int} (hi : i < l.length) (hj : 0 ≤ j) : hasB (l.set i b) j = if j = i then b else hasB l j := by
  rw [hasB_yes hj, hasB_yes hj, getD_set]
  by_cases h : i = j.toNat
  · rw [if_pos ⟨h, by omega⟩, if_pos (by omega)]
  · rw [if_neg (fun e => h e.1), if_neg (by omega)]

/-- A page's places turn at one place. -/
theorem find_bits {S : Sp} (h : S.WF) {p c i : Nat} {l : List Bool} {b : Bool} {W : List Int} (hp : atP S.pg p = .small c l) (hi : i < l.length) (hW : W.length = S.W.length) (z : Int) :
    (Sp.mk W (S.pg.set p (.small c (l.set i b)))).find z = if (p : Int) * 64 + (i : Int) * (wordsOf c : Nat) ≤ z ∧ z < (p : Int) * 64 + (i : Int) * (wordsOf c : Nat) + (wordsOf c : Nat) then
      (if b then ((p : Int) * 64 + (i : Int) * (wordsOf c : Nat), ((wordsOf c : Nat) : Int), true) else (0, 0, false)) else S.find z := by
  have hlt := atP_in hp (by simp)
  obtain ⟨hc, hll⟩ := h.small p c l hp
  have hfit := block_fits hc (show i < roomOf c by omega)
  have hlen := h.len
  have hA : ∀ j, atP (S.pg.set p (.small c (l.set i b))) j = if j = p then .small c (l.set i b) else atP S.pg j := fun j => atP_set _ hlt
  have hiw : ((i * wordsOf c : Nat) : Int) = (i : Int) * (wordsOf c : Nat) := Int.natCast_mul _ _
  have hwp := words_pos hc
  by_cases hout : z < 0 ∨ S.W.length ≤ z
  · rw [find_out (S := Sp.mk _ _) (by show z < 0 ∨ (W.length : Int) ≤ z; rw [hW]; exact hout), if_neg (by omega), find_out hout]
  · by_cases hq : (z / 64).toNat = p
    · have hS' := find_in (S := Sp.mk W (S.pg.set p (.small c (l.set i b)))) (z := z) (by omega) (by show z < (W.length : Int); omega)
      have hS := find_in (S := S) (z := z) (by omega) (by omega)
      rw [hS']
      show findIn _ z (atP (S.pg.set p _) (z / 64).toNat) = _
      rw [hA, if_pos hq]
      rw [hq, hp] at hS
      have hz : z = (p : Int) * 64 + z % 64 := by omega
      have hd := small_div hc (z % 64) i
      obtain ⟨d0, d1, d2, d3⟩ := small_lt hc (o := z % 64) (by omega) (by omega)
      simp only [findIn] at hS ⊢
      rw [hasB_set hi d0]
      by_cases hdi : z % 64 / (wordsOf c : Nat) = i
      · have := hd.1 hdi
        have hin : (p : Int) * 64 + (i : Int) * (wordsOf c : Nat) ≤ z ∧ z < (p : Int) * 64 + (i : Int) * (wordsOf c : Nat) + (wordsOf c : Nat) := by omega
        rw [if_pos hdi, if_pos hin, hdi]
        cases b
        · rfl
        · simp only [if_true]
          rw [show z / 64 = p from by omega]
      · have : ¬ ((p : Int) * 64 + (i : Int) * (wordsOf c : Nat) ≤ z ∧ z < (p : Int) * 64 + (i : Int) * (wordsOf c : Nat) + (wordsOf c : Nat)) := fun e => hdi (hd.2 (by omega))
        rw [if_neg hdi, if_neg this, hS]
    · rw [if_neg (by omega)]
      refine find_same hW ?_ fun f hf => ?_
      · show atP (S.pg.set p _) _ = _
        rw [hA, if_neg hq]
      · show atP (S.pg.set p _) _ = _
        rw [hA]
        split
        · rename_i e
          obtain ⟨_, k, hk, _⟩ := h.rest _ f hf
          rw [e, hp] at hk; cases hk
        · rfl
/-- A page turns from free to one of blocks, and back. -/
theorem find_page {S : Sp} (h : S.WF) {p : Nat} {x : Pst} {W : List Int} (hlt : p < S.pg.length) (hp : atP S.pg p = .free ∨ ∃ c l, atP S.pg p = .small c l) (hW : W.length = S.W.length) (z : Int) (hz : ¬ ((p : Int) * 64 ≤ z ∧ z < (p : Int) * 64 + 64)) :
    (Sp.mk W (S.pg.set p x)).find z = S.find z := by
  have hA : ∀ j, atP (S.pg.set p x) j = if j = p then x else atP S.pg j := fun j => atP_set _ hlt
  by_cases hout : z < 0 ∨ S.W.length ≤ z
  · rw [find_out (S := Sp.mk _ _) (by show z < 0 ∨ (W.length : Int) ≤ z; rw [hW]; exact hout), find_out hout]
  · refine find_same hW ?_ fun f hf => ?_
    · show atP (S.pg.set p _) _ = _
      rw [hA, if_neg (by omega)]
    · show atP (S.pg.set p _) _ = _
      rw [hA]
      split
      · rename_i e
        obtain ⟨_, k, hk, _⟩ := h.rest _ f hf
        rw [e] at hk
        rcases hp with h1 | ⟨_, _, h1⟩ <;> rw [h1] at hk <;> cases hk
      · rfl
theorem find_free {S : Sp} {z : Int} (h : atP S.pg (z / 64).toNat = .free) : S.find z = (0, 0, false) := by
  by_cases hout : z < 0 ∨ S.W.length ≤ z
  · exact find_out hout
  · rw [find_in (by omega) (by omega), h]; rfl

/-- What is found is a block that lies in the space behind page 0, and is found at each of its words. -/
theorem find_block {S : Sp} (h : S.WF) {z a m : Int} (hf : S.find z = (a, m, true)) : a ≤ z ∧ z < a + m ∧ 64 ≤ a ∧ a + m ≤ S.W.length ∧ ∀ y, a ≤ y → y < a + m → S.find y = (a, m, true) := by
  have hin : ¬ (z < 0 ∨ S.W.length ≤ z) := fun e => by rw [find_out e] at hf; cases hf
  have hlen := h.len
  rw [find_in (by omega) (by omega)] at hf
  have hq : ∀ p, (z / 64).toNat = p → p < S.pg.length := fun p e => by omega
  have hpos : ∀ q x, atP S.pg q = x → x ≠ .zero → 1 ≤ q := fun q x e hne => by
    rcases Nat.eq_zero_or_pos q with h0 | h0
    · exact absurd (e ▸ (h.zero q).2 h0) hne
    · exact h0
  cases hx : atP S.pg (z / 64).toNat <;> rw [hx] at hf <;> simp only [findIn] at hf
  case zero => cases hf
  case free => cases hf
  case small c l =>
    obtain ⟨hc, hll⟩ := h.small _ _ _ hx
    have h1 := hpos _ _ hx (by simp)
    obtain ⟨d0, d1, d2, d3⟩ := small_lt hc (o := z % 64) (by omega) (by omega)
    have hd := (small_div hc (z % 64) (z % 64 / (wordsOf c : Nat))).1 rfl
    by_cases hb : hasB l (z % 64 / (wordsOf c : Nat)) = true
    · rw [if_pos hb] at hf
      simp only [Prod.mk.injEq, and_true] at hf
      obtain ⟨rfl, rfl⟩ := hf
      refine ⟨by omega, by omega, by omega, by omega, fun y h2 h3 => ?_⟩
      have hy : y / 64 = z / 64 := by omega
      rw [find_in (by omega) (by omega), hy, hx]
      simp only [findIn]
      have hdy := (small_div hc (y % 64) (z % 64 / (wordsOf c : Nat))).2 (by omega)
      rw [hdy, if_pos hb, hy]
    · rw [if_neg hb] at hf; cases hf
  case first k =>
    simp only [Prod.mk.injEq, and_true] at hf
    obtain ⟨rfl, rfl⟩ := hf
    obtain ⟨h1, h2, h3⟩ := h.first _ _ hx
    have h0 := hpos _ _ hx (by simp)
    refine ⟨by omega, by omega, by omega, by omega, fun y h4 h5 => ?_⟩
    rw [find_in (by omega) (by omega)]
    by_cases e : (y / 64).toNat = (z / 64).toNat
    · rw [e, hx]; simp only [findIn]; rw [show y / 64 = z / 64 from by omega]
    · rw [h3 (y / 64).toNat (by omega) (by omega)]
      simp only [findIn]
      rw [hx]
      simp only [manyOf]
      rw [show (((z / 64).toNat : Nat) : Int) = z / 64 from by omega]
  case rest f =>
    simp only [Prod.mk.injEq, and_true] at hf
    obtain ⟨rfl, rfl⟩ := hf
    obtain ⟨h1, k, hk, h2⟩ := h.rest _ _ hx
    obtain ⟨g1, g2, g3⟩ := h.first _ _ hk
    have h0 := hpos _ _ hk (by simp)
    rw [hk]
    simp only [manyOf]
    refine ⟨by omega, by omega, by omega, by omega, fun y h4 h5 => ?_⟩
    rw [find_in (by omega) (by omega)]
    by_cases e : (y / 64).toNat = f
    · rw [e, hk]; simp only [findIn]; rw [show y / 64 = f from by omega]
    · rw [g3 (y / 64).toNat (by omega) (by omega)]
      simp only [findIn]
      rw [hk]
      simp only [manyOf]

/-- All blocks' beginnings, by what is found there. -/
theorem each_iff {S : Sp} (h : S.WF) {x : Int} : x ∈ S.each ↔ ∃ m, S.find x = (x, m, true) := by
  rw [each_mem]
  have hlen := h.len
  constructor
  · rintro ⟨p, hp, hx⟩
    have hr := starts_range h hx
    have hq : (x / 64).toNat = p := by omega
    rw [find_in (by omega) (by omega), hq]
    cases ha : atP S.pg p <;> rw [ha] at hx
    case small c l =>
      obtain ⟨hc, hl⟩ := h.small p c l ha
      simp only [startsOf, List.mem_map, List.mem_filter, List.mem_range] at hx
      obtain ⟨i, ⟨hi, hb⟩, rfl⟩ := hx
      have hfit := block_fits hc (show i < roomOf c by omega)
      have hiw : ((i * wordsOf c : Nat) : Int) = (i : Int) * (wordsOf c : Nat) := Int.natCast_mul _ _
      have hwp := words_pos hc
      have hd := (small_div hc (((p * 64 + i * wordsOf c : Nat) : Int) % 64) i).2 (by omega)
      refine ⟨wordsOf c, ?_⟩
      simp only [findIn]
      rw [hd, hasB_nat, if_pos hb]
      rw [show ((p * 64 + i * wordsOf c : Nat) : Int) / 64 = p from by omega]
      congr 1
    case first k =>
      simp only [startsOf, List.mem_singleton] at hx
      subst hx
      refine ⟨k * 64, ?_⟩
      simp only [findIn]
      rw [show ((p * 64 : Nat) : Int) / 64 = p from by omega]
      congr 1
    all_goals simp [startsOf] at hx
  · rintro ⟨m, hf⟩
    obtain ⟨h1, h2, h3, h4, _⟩ := find_block h hf
    refine ⟨(x / 64).toNat, by omega, ?_⟩
    rw [find_in (by omega) (by omega)] at hf
    cases ha : atP S.pg (x / 64).toNat <;> rw [ha] at hf <;> simp only [findIn] at hf
    case zero => cases hf
    case free => cases hf
    case small c l =>
      obtain ⟨hc, hll⟩ := h.small _ _ _ ha
      obtain ⟨d0, d1, d2, d3⟩ := small_lt hc (o := x % 64) (by omega) (by omega)
      by_cases hb : hasB l (x % 64 / (wordsOf c : Nat)) = true
      · rw [if_pos hb] at hf
        simp only [Prod.mk.injEq, and_true] at hf
        simp only [startsOf, List.mem_map, List.mem_filter, List.mem_range]
        refine ⟨(x % 64 / (wordsOf c : Nat)).toNat, ⟨by omega, by rw [← hasB_yes d0]; exact hb⟩, ?_⟩
        rw [Int.natCast_add, Int.natCast_mul, Int.natCast_mul]
        rw [Int.toNat_of_nonneg d0, Int.toNat_of_nonneg (by omega)]
        exact hf.1
      · rw [if_neg hb] at hf; cases hf
    case first k =>
      simp only [Prod.mk.injEq, and_true] at hf
      simp only [startsOf, List.mem_singleton]
      omega
    case rest f =>
      simp only [Prod.mk.injEq, and_true] at hf
      have := (h.rest _ _ ha).1
      omega
end Go.Proofs.YtpkbdmieelgdlaaGreat
namespace Go.Proofs.YtpkbdmieelgdlaaGreat
open Go Go.RowKit

/-- No page of blocks is empty. -/
def Sp.NE (S : Sp) : Prop := ∀ p c l, atP S.pg p = .small c l → 0 < countB l
theorem newSp_ne (n : Nat) (h1 : 1 ≤ n) : (newSp n).NE := fun p c l e => by
  rw [new_at n p h1] at e
  split at e <;> cases e
theorem count_pos {l : List Bool} {i : Nat} (hi : i < l.length) (h : l.getD i false = true) : 0 < countB l := by
  unfold countB
  refine List.count_pos_iff.2 ?_
  rw [List.getD_eq_getElem?_getD, List.getElem?_eq_getElem hi] at h
  rw [← show l[i] = true from h]
  exact List.getElem_mem hi

/-- What is so behind a new block of m words at a. -/
structure Made (S S' : Sp) (a m : Int) : Prop where
  wf : S'.WF
  ne : S.NE → S'.NE
  pg : S'.pg.length = S.pg.length
  lo : 64 ≤ a
  hi : a + m ≤ S.W.length
  pos : 1 ≤ m
  W : S'.W = filledAt S.W a.toNat m.toNat
  was : ∀ z, a ≤ z → z < a + m → S.find z = (0, 0, false)
  find : ∀ z, S'.find z = if a ≤ z ∧ z < a + m then (a, m, true) else S.find z

theorem made_small {S : Sp} (h : S.WF) {p c i : Nat} {l : List Bool} (hp : atP S.pg p = .small c l) (hi : i < l.length) (hf : l.getD i false = false) :
    Made S ⟨filledAt S.W (p * 64 + i * wordsOf c) (wordsOf c), S.pg.set p (.small c (l.set i true))⟩ ((p : Int) * 64 + (i : Int) * (wordsOf c : Nat)) (wordsOf c : Nat) := by
  have hlt := atP_in hp (by simp)
  obtain ⟨hc, hll⟩ := h.small p c l hp
  have hfit := block_fits hc (show i < roomOf c by omega)
  have hiw : ((i * wordsOf c : Nat) : Int) = (i : Int) * (wordsOf c : Nat) := Int.natCast_mul _ _
  have hwp := words_pos hc
  have hlen := h.len
  have hp1 : 1 ≤ p := by
    rcases Nat.eq_zero_or_pos p with e | e
    · have := (h.zero p).2 e
      rw [this] at hp; cases hp
    · exact e
  have hfl : (filledAt S.W (p * 64 + i * wordsOf c) (wordsOf c)).length = S.W.length := filledAt_length _ _ _ (by omega)
  refine ⟨h.set_small hlt (.inr ⟨c, l, hp⟩) hc (by simpa using hll) hfl, fun hne q c' l' hq => ?_, by simp, by omega, by omega, by omega, ?_, fun z h1 h2 => ?_, fun z => ?_⟩
  · have hq : atP (S.pg.set p (.small c (l.set i true))) q = .small c' l' := hq
    rw [atP_set _ hlt] at hq
    split at hq
    · cases hq
      exact count_pos (i := i) (by simpa using hi) (by rw [getD_set, if_pos ⟨rfl, hi⟩])
    · exact hne q c' l' hq
  · show filledAt _ _ _ = _
    rw [show ((p : Int) * 64 + (i : Int) * (wordsOf c : Nat)).toNat = p * 64 + i * wordsOf c from by omega, Int.toNat_natCast]
  · have hb := find_bits h (b := false) (W := S.W) hp hi rfl z
    have hl : l.set i false = l := by
      refine ext_getD (by simp) fun j hj => ?_
      rw [getD_set]
      split
      · rename_i e; rw [← e.1, hf]
      · rfl
    rw [hl] at hb
    have hs : S.pg.set p (.small c l) = S.pg := by
      refine List.ext_getElem? fun j => ?_
      rw [List.getElem?_set]
      split
      · rename_i e; subst e; rw [atP_get hp (by simp)]
      · rfl
    rw [hs, if_pos ⟨h1, h2⟩] at hb
    exact hb
  · have hb := find_bits h (b := true) (W := filledAt S.W (p * 64 + i * wordsOf c) (wordsOf c)) hp hi hfl z
    rw [hb]
    simp only [if_true]

theorem first_set (n : Nat) : firstOne n = (List.replicate n false).set 0 true := rfl
theorem made_new {S : Sp} (h : S.WF) {p c : Nat} (hp : atP S.pg p = .free) (hlt : p < S.pg.length) (hc : c < 5) :
    Made S ⟨filledAt S.W (p * 64) (wordsOf c), S.pg.set p (.small c (firstOne (roomOf c)))⟩ ((p : Int) * 64) (wordsOf c : Nat) := by
  have hrm := room_pos hc
  have hwp := words_pos hc
  have hlen := h.len
  -- a page of blocks of which none is taken, first
  have h1 : (Sp.mk S.W (S.pg.set p (.small c (List.replicate (roomOf c) false)))).WF := h.set_small hlt (.inl hp) hc (by simp) rfl
  have hat : atP (S.pg.set p (.small c (List.replicate (roomOf c) false))) p = .small c (List.replicate (roomOf c) false) := by rw [atP_set _ hlt, if_pos rfl]
  have hm := made_small (S := ⟨S.W, S.pg.set p (.small c (List.replicate (roomOf c) false))⟩) h1 (i := 0) hat (by simp; omega) (rep_get _ _)
  have e1 : (p : Int) * 64 + ((0 : Nat) : Int) * (wordsOf c : Nat) = (p : Int) * 64 := by omega
  have e2 : p * 64 + 0 * wordsOf c = p * 64 := by omega
  rw [e1, e2] at hm
  simp only [List.set_set] at hm
  have hsame : ∀ z, (Sp.mk S.W (S.pg.set p (.small c (List.replicate (roomOf c) false)))).find z = S.find z := fun z => by
    by_cases hz : (p : Int) * 64 ≤ z ∧ z < (p : Int) * 64 + 64
    · have hq : (z / 64).toNat = p := by omega
      rw [find_free (S := S) (by rw [hq]; exact hp)]
      by_cases hout : z < 0 ∨ S.W.length ≤ z
      · exact find_out hout
      · rw [find_in (S := Sp.mk _ _) (by omega) (by show z < (S.W.length : Int); omega)]
        show findIn _ z (atP (S.pg.set p _) _) = _
        rw [hq, hat]
        simp only [findIn]
        rw [if_neg]
        rw [hasB_yes (small_lt hc (by omega) (by omega)).1, rep_get]
        simp
    · exact find_page h hlt (.inl hp) rfl z hz
  have hp1 : 1 ≤ p := by
    rcases Nat.eq_zero_or_pos p with e | e
    · have := (h.zero p).2 e
      rw [this] at hp; cases hp
    · exact e
  refine ⟨hm.wf, fun hne q c' l' hq => ?_, by simp, by omega, by omega, by omega, hm.W, fun z z1 z2 => by rw [← hsame]; exact hm.was z z1 z2, fun z => ?_⟩
  · have hq : atP (S.pg.set p (.small c (firstOne (roomOf c)))) q = .small c' l' := hq
    rw [atP_set _ hlt] at hq
    split at hq
    · cases hq
      exact count_pos (i := 0) (by rw [firstOne_length]; omega) (by unfold firstOne; rw [getD_set, if_pos ⟨rfl, by simp; omega⟩])
    · exact hne q c' l' hq
  · have := hm.find z
    rw [hsame] at this
    exact this

theorem made_large {S : Sp} (h : S.WF) {p k : Nat} (hk : 1 ≤ k) (hpk : p + k ≤ S.pg.length) (hat : ∀ j, p ≤ j → j < p + k → atP S.pg j = .free) :
    Made S ⟨filledAt S.W (p * 64) (k * 64), putLarge S.pg p k⟩ ((p : Int) * 64) ((k : Int) * 64) := by
  have hA : ∀ j, atP (putLarge S.pg p k) j = if j = p then .first k else if p < j ∧ j < p + k then .rest p else atP S.pg j := fun j => atP_large hpk hk
  have hlen := h.len
  have hfl : (filledAt S.W (p * 64) (k * 64)).length = S.W.length := filledAt_length _ _ _ (by omega)
  have hp1 : 1 ≤ p := by
    rcases Nat.eq_zero_or_pos p with e | e
    · have := (h.zero p).2 e
      rw [hat p (by omega) (by omega)] at this; cases this
    · exact e
  refine ⟨h.put_large hpk hk hat hfl, fun hne q c' l' hq => ?_, putLarge_length, by omega, by omega, by omega, ?_, fun z h1 h2 => find_free (hat _ (by omega) (by omega)), fun z => ?_⟩
  · have hq : atP (putLarge S.pg p k) q = .small c' l' := hq
    rw [hA] at hq
    split at hq
    · cases hq
    · split at hq
      · cases hq
      · exact hne q c' l' hq
  · show filledAt _ _ _ = _
    rw [show ((p : Int) * 64).toNat = p * 64 from by omega, show ((k : Int) * 64).toNat = k * 64 from by omega]
  · by_cases hout : z < 0 ∨ S.W.length ≤ z
    · rw [find_out (S := Sp.mk _ _) (by show z < 0 ∨ ((filledAt S.W (p * 64) (k * 64)).length : Int) ≤ z; rw [hfl]; exact hout), if_neg (by omega), find_out hout]
    · by_cases hz : (p : Int) * 64 ≤ z ∧ z < (p : Int) * 64 + (k : Int) * 64
      · rw [if_pos hz, find_in (S := Sp.mk _ _) (by omega) (by show z < ((filledAt S.W (p * 64) (k * 64)).length : Int); omega)]
        show findIn _ z (atP (putLarge S.pg p k) _) = _
        rw [hA]
        by_cases e : (z / 64).toNat = p
        · rw [if_pos e]; simp only [findIn]; rw [show z / 64 = p from by omega]
        · rw [if_neg e, if_pos (by omega)]
          simp only [findIn]
          show ((p : Int) * 64, (manyOf (atP (putLarge S.pg p k) p) : Int) * 64, true) = _
          rw [hA, if_pos rfl]
          rfl
      · rw [if_neg hz]
        refine find_same hfl ?_ fun f hf => ?_
        · show atP (putLarge S.pg p k) _ = _
          rw [hA, if_neg (by omega), if_neg (by omega)]
        · show atP (putLarge S.pg p k) _ = _
          obtain ⟨_, k', hk', _⟩ := h.rest _ f hf
          have hnot : ¬ (p ≤ f ∧ f < p + k) := fun e => by rw [hat f e.1 e.2] at hk'; cases hk'
          rw [hA, if_neg (by omega), if_neg (by omega)]

/-- What Alloc makes of a space: nothing, or a block. -/
theorem alloc_cases {S : Sp} (h : S.WF) (n : Int) : (blockZ n = 0 ∧ S.alloc n = (S, 0, 1)) ∨ (blockZ n ≠ 0 ∧ S.alloc n = (S, 0, 3)) ∨ (blockZ n ≠ 0 ∧ ∃ S' a, S.alloc n = (S', a, 0) ∧ Made S S' a (blockZ n)) := by
  by_cases hb : blockZ n = 0
  · exact .inl ⟨hb, if_pos hb⟩
  refine .inr ?_
  by_cases hc : classZ n < 0
  · obtain ⟨k, hk, hk1, hk2, hbk, _, _⟩ := pages_nat hb hc
    rcases run_nat (l := bitsOf S.pg) (i := 0) (k := k) with hr | ⟨p, hr⟩
    · refine .inl ⟨hb, ?_⟩
      unfold Sp.alloc
      rw [if_neg hb, if_pos hc, hk, hr, if_pos (by omega)]
    · obtain ⟨h1, h2⟩ := run_at hk1 hr
      refine .inr ⟨hb, _, _, alloc_pages hc hb hk hr, ?_⟩
      rw [hbk]
      exact made_large h hk1 h1 h2
  · obtain ⟨c, hcc, hc5, hbw⟩ := class_small hc
    rcases openZ_cases S.pg c with ⟨ho, _⟩ | ⟨p, ho, hp, hopen, _⟩
    · rcases run_nat (l := bitsOf S.pg) (i := 0) (k := 1) with hr | ⟨p, hr⟩
      · refine .inl ⟨hb, ?_⟩
        unfold Sp.alloc
        rw [if_neg hb, hcc, if_neg (by omega), Int.toNat_natCast, ho, if_neg (by omega), hr, if_pos (by omega)]
      · obtain ⟨h1, h2⟩ := run_at (k := 1) (by omega) hr
        refine .inr ⟨hb, _, _, alloc_new hcc hb ho hr, ?_⟩
        rw [hbw]
        exact made_new h (h2 p (by omega) (by omega)) (by omega) hc5
    · obtain ⟨l, hat, hcnt⟩ := open_small hopen
      obtain ⟨i, hi, hil, hif⟩ := next_of_count hcnt
      refine .inr ⟨hb, _, _, alloc_open hcc hb ho hat hi, ?_⟩
      rw [hbw]
      exact made_small h hat hil hif

/-- What is so behind a block of m words at a that was given up. -/
structure Gone (S S' : Sp) (a m : Int) : Prop where
  wf : S'.WF
  ne : S.NE → S'.NE
  pg : S'.pg.length = S.pg.length
  W : S'.W = S.W
  find : ∀ z, S'.find z = if a ≤ z ∧ z < a + m then (0, 0, false) else S.find z

theorem drop_some {S : Sp} (h : S.WF) {a m : Int} (hf : S.find a = (a, m, true)) : ∃ S', S.drop a = (S', 0) ∧ Gone S S' a m := by
  have hno : ¬ ((S.find a).2.2 = false ∨ (S.find a).1 ≠ a) := by rw [hf]; simp
  have hin : ¬ (a < 0 ∨ S.W.length ≤ a) := fun e => by rw [find_out e] at hf; cases hf
  have hlen := h.len
  obtain ⟨p, hp⟩ : ∃ p : Nat, (a / 64).toNat = p := ⟨_, rfl⟩
  have hfi := find_in (S := S) (z := a) (by omega) (by omega)
  rw [hf, hp] at hfi
  cases hx : atP S.pg p <;> rw [hx] at hfi <;> simp only [findIn] at hfi
  case zero => cases hfi
  case free => cases hfi
  case rest f =>
    simp only [Prod.mk.injEq, and_true] at hfi
    have := (h.rest _ _ hx).1
    omega
  case first k =>
    simp only [Prod.mk.injEq, and_true] at hfi
    obtain ⟨hk1, hpk, hr⟩ := h.first p k hx
    have hA : ∀ j, atP (clearPg S.pg p k) j = if p ≤ j ∧ j < p + k then .free else atP S.pg j := fun j => atP_clear hpk
    refine ⟨⟨S.W, clearPg S.pg p k⟩, ?_, h.clear hx, fun hne q c' l' hq => ?_, clearPg_length, rfl, fun z => ?_⟩
    · unfold Sp.drop
      rw [if_neg hno, hp, hx]
    · have hq : atP (clearPg S.pg p k) q = .small c' l' := hq
      rw [hA] at hq
      split at hq
      · cases hq
      · exact hne q c' l' hq
    · by_cases hz : a ≤ z ∧ z < a + m
      · rw [if_pos hz]
        refine find_free ?_
        show atP (clearPg S.pg p k) _ = _
        rw [hA, if_pos (by omega)]
      · rw [if_neg hz]
        by_cases hzn : z < 0
        · rw [find_out (.inl hzn), find_out (.inl hzn)]
        · have hnot : ¬ (p ≤ (z / 64).toNat ∧ (z / 64).toNat < p + k) := by omega
          refine find_same rfl ?_ fun f hf' => ?_
          · show atP (clearPg S.pg p k) _ = _
            rw [hA, if_neg hnot]
          · show atP (clearPg S.pg p k) _ = _
            obtain ⟨g1, k', hk', g2⟩ := h.rest _ f hf'
            rw [hA, if_neg]
            rintro ⟨e1, e2⟩
            rcases Nat.eq_or_lt_of_le e1 with e | e
            · subst e
              rw [hx] at hk'; injection hk' with hk'
              omega
            · rw [hr f e e2] at hk'; cases hk'
  case small c l =>
    obtain ⟨hc, hll⟩ := h.small p c l hx
    obtain ⟨d0, d1, d2, d3⟩ := small_lt hc (o := a % 64) (by omega) (by omega)
    have hwp := words_pos hc
    have hlt := atP_in hx (by simp)
    obtain ⟨i, hi⟩ : ∃ i : Nat, a % 64 / (wordsOf c : Nat) = i := ⟨(a % 64 / (wordsOf c : Nat)).toNat, by omega⟩
    rw [hi] at hfi d1 d2 d3
    have hil : i < l.length := by omega
    by_cases hb : hasB l (i : Int) = true
    · rw [if_pos hb] at hfi
      simp only [Prod.mk.injEq, and_true] at hfi
      have ha : a = (p : Int) * 64 + (i : Int) * (wordsOf c : Nat) := by omega
      have hm := hfi.2
      have hbits : ∀ z, (Sp.mk S.W (S.pg.set p (.small c (l.set i false)))).find z = if a ≤ z ∧ z < a + m then (0, 0, false) else S.find z := fun z => by
        have := find_bits h (b := false) (W := S.W) hx hil rfl z
        rw [this, ← ha, ← hm]
        simp
      by_cases hcnt : countB (l.set i false) = 0
      · refine ⟨⟨S.W, S.pg.set p .free⟩, ?_, h.set_free hx, fun hne q c' l' hq => ?_, by simp, rfl, fun z => ?_⟩
        · unfold Sp.drop
          rw [if_neg hno, hp, hx]
          simp only
          rw [hi, Int.toNat_natCast, if_pos hcnt]
        · have hq : atP (S.pg.set p .free) q = .small c' l' := hq
          rw [atP_set _ hlt] at hq
          split at hq
          · cases hq
          · exact hne q c' l' hq
        · rw [← hbits]
          have hwf1 : (Sp.mk S.W (S.pg.set p (.small c (l.set i false)))).WF := h.set_small hlt (.inr ⟨c, l, hx⟩) hc (by simpa using hll) rfl
          by_cases hz : (p : Int) * 64 ≤ z ∧ z < (p : Int) * 64 + 64
          · have hq : (z / 64).toNat = p := by omega
            rw [find_free (S := Sp.mk S.W (S.pg.set p .free)) (by show atP (S.pg.set p .free) _ = _; rw [hq, atP_set _ hlt, if_pos rfl])]
            by_cases hout : z < 0 ∨ S.W.length ≤ z
            · have := find_out (S := Sp.mk S.W (S.pg.set p (.small c (l.set i false)))) (z := z) hout
              rw [this]
            · rw [find_in (S := Sp.mk _ _) (by omega) (by show z < (S.W.length : Int); omega)]
              show _ = findIn _ z (atP (S.pg.set p _) _)
              rw [hq, atP_set _ hlt, if_pos rfl]
              simp only [findIn]
              obtain ⟨z0, z1, _, _⟩ := small_lt hc (o := z % 64) (by omega) (by omega)
              rw [if_neg]
              rw [hasB_yes z0]
              intro e
              have := count_pos (l := l.set i false) (i := (z % 64 / (wordsOf c : Nat)).toNat) (by simp; omega) e
              omega
          · rw [find_page h hlt (.inr ⟨c, l, hx⟩) rfl z hz, find_page h hlt (.inr ⟨c, l, hx⟩) rfl z hz]
      · refine ⟨⟨S.W, S.pg.set p (.small c (l.set i false))⟩, ?_, h.set_small hlt (.inr ⟨c, l, hx⟩) hc (by simpa using hll) rfl, fun hne q c' l' hq => ?_, by simp, rfl, hbits⟩
        · unfold Sp.drop
          rw [if_neg hno, hp, hx]
          simp only
          rw [hi, Int.toNat_natCast, if_neg hcnt]
        · have hq : atP (S.pg.set p (.small c (l.set i false))) q = .small c' l' := hq
          rw [atP_set _ hlt] at hq
          split at hq
          · cases hq; omega
          · exact hne q c' l' hq
    · rw [if_neg hb] at hfi; cases hfi
theorem drop_none {S : Sp} {a : Int} (h : (S.find a).2.2 = false ∨ (S.find a).1 ≠ a) : S.drop a = (S, 2) := if_pos h

/-- A page of which no word is found is free, where no page of blocks is empty. -/
theorem page_free {S : Sp} (h : S.WF) (hne : S.NE) {j : Nat} (hj : 1 ≤ j) (hf : ∀ z, (j : Int) * 64 ≤ z → z < (j : Int) * 64 + 64 → (S.find z).2.2 = false) : atP S.pg j = .free := by
  have hlen := h.len
  rcases Nat.lt_or_ge j S.pg.length with hjl | hjl
  · have hz := hf ((j : Int) * 64) (by omega) (by omega)
    cases hx : atP S.pg j
    case zero => exact absurd ((h.zero j).1 hx) (by omega)
    case free => rfl
    case first k =>
      rw [find_in (by omega) (by omega), show ((j : Int) * 64 / 64).toNat = j from by omega, hx] at hz
      cases hz
    case rest f =>
      rw [find_in (by omega) (by omega), show ((j : Int) * 64 / 64).toNat = j from by omega, hx] at hz
      cases hz
    case small c l =>
      exfalso
      obtain ⟨hc, hll⟩ := h.small j c l hx
      have hpos := hne j c l hx
      unfold countB at hpos
      obtain ⟨i, hi, e⟩ := List.mem_iff_getElem.1 (List.count_pos_iff.1 hpos)
      have hfit := block_fits hc (show i < roomOf c by omega)
      have hiw : ((i * wordsOf c : Nat) : Int) = (i : Int) * (wordsOf c : Nat) := Int.natCast_mul _ _
      have hwp := words_pos hc
      have hz := hf ((j : Int) * 64 + (i : Int) * (wordsOf c : Nat)) (by omega) (by omega)
      rw [find_in (by omega) (by omega), show (((j : Int) * 64 + (i : Int) * (wordsOf c : Nat)) / 64).toNat = j from by omega, hx] at hz
      simp only [findIn] at hz
      rw [(small_div hc _ i).2 (by omega), if_pos] at hz
      · cases hz
      · rw [hasB_nat, List.getD_eq_getElem?_getD, List.getElem?_eq_getElem hi, e]; rfl
  · exact atP_out hjl
/-- Where nothing is found, and no page of blocks is empty, all is as new. -/
theorem all_free {S : Sp} (h : S.WF) (hne : S.NE) (hf : ∀ z, (S.find z).2.2 = false) : S.pg = (newSp S.pg.length).pg := by
  refine List.ext_getElem? fun j => ?_
  have hl : (newSp S.pg.length).pg.length = S.pg.length := by simp [newSp]
  rcases Nat.lt_or_ge j S.pg.length with hj | hj
  · have hat : atP S.pg j = atP (newSp S.pg.length).pg j := by
      rw [new_at _ _ h.n1]
      by_cases h0 : j = 0
      · rw [if_pos h0, (h.zero j).2 h0]
      · rw [if_neg h0, page_free h hne (by omega) fun z _ _ => hf z]
    unfold atP at hat
    rw [List.getD_eq_getElem?_getD, List.getD_eq_getElem?_getD, List.getElem?_eq_getElem hj, List.getElem?_eq_getElem (by omega)] at hat
    rw [List.getElem?_eq_getElem hj, List.getElem?_eq_getElem (by omega)]
    exact congrArg some hat
  · rw [List.getElem?_eq_none hj, List.getElem?_eq_none (by omega)]
theorem new_find {np : Nat} (h1 : 1 ≤ np) (W : List Int) (z : Int) : (Sp.mk W (newSp np).pg).find z = (0, 0, false) := by
  by_cases hout : z < 0 ∨ W.length ≤ z
  · exact find_out (S := Sp.mk W (newSp np).pg) hout
  · rw [find_in (S := Sp.mk W (newSp np).pg) (by omega) (by show z < (W.length : Int); omega)]
    show findIn _ z (atP (newSp np).pg _) = _
    rw [new_at _ _ h1]
    split <;> rfl
theorem eta_find {S : Sp} {np : Nat} (h1 : 1 ≤ np) (hpg : S.pg = (newSp np).pg) (z : Int) : S.find z = (0, 0, false) := by
  have := new_find h1 S.W z
  rw [← hpg] at this
  exact this

/-- The pages that a block needs. -/
def needZ (n : Int) : Int := if classZ n < 0 then pagesZ n else 1
theorem need_bd {n : Int} (h : blockZ n ≠ 0) : 1 ≤ needZ n ∧ needZ n ≤ 16 := by
  unfold needZ
  by_cases hc : classZ n < 0
  · obtain ⟨k, hk, _⟩ := pages_nat h hc
    rw [if_pos hc]; omega
  · rw [if_neg hc]; omega
theorem block_bd {n : Int} (h : blockZ n ≠ 0) : n ≤ blockZ n ∧ 2 ≤ blockZ n ∧ blockZ n ≤ 1024 ∧ 1 ≤ n ∧ n ≤ 1024 ∧ blockZ n ≤ needZ n * 64 := by
  unfold needZ
  by_cases hc : classZ n < 0
  · obtain ⟨k, hk, _, _, hbk, _, _⟩ := pages_nat h hc
    rw [if_pos hc]
    have hp : pagesZ n = (n + 64 - 1) / 64 := by
      unfold pagesZ at hk ⊢
      split at hk
      · omega
      · rename_i e; rw [if_neg e]
    omega
  · obtain ⟨c, hcc, hc5, hbw⟩ := class_small hc
    rw [if_neg hc, hbw]
    have hwp := words_pos hc5
    unfold classZ at hcc
    have : c = 0 ∨ c = 1 ∨ c = 2 ∨ c = 3 ∨ c = 4 := by omega
    rcases this with rfl | rfl | rfl | rfl | rfl <;> simp only [wordsOf] <;> (repeat' split at hcc) <;> omega
theorem block_need {n : Int} (h : blockZ n ≠ 0) (hc : classZ n < 0) : blockZ n = needZ n * 64 := by
  obtain ⟨k, hk, _, _, hbk, _, _⟩ := pages_nat h hc
  unfold needZ
  rw [if_pos hc, hk, hbk]

/-- There is room, where enough pages are free. -/
theorem alloc_room {S : Sp} (h : S.WF) (n : Int) (hb : blockZ n ≠ 0) {t : Nat} (ht : ∀ j, t ≤ j → atP S.pg j = .free) (hr : t + needZ n ≤ S.pg.length) : ∃ S' a, S.alloc n = (S', a, 0) ∧ Made S S' a (blockZ n) := by
  rcases alloc_cases h n with ⟨h1, _⟩ | ⟨_, h2⟩ | ⟨_, h3⟩
  · exact absurd h1 hb
  · exfalso
    have hrun : ∀ k : Nat, 1 ≤ k → t + k ≤ S.pg.length → runZ (bitsOf S.pg) 0 k ≠ -1 := fun k hk1 hk e => by
      rcases isRun_runZ (bitsOf S.pg) 0 k (by omega) with ⟨_, h5⟩ | ⟨p, h5, _⟩
      · obtain ⟨j, h6, _, h7⟩ := h5 t (by omega) (by rw [bits_length]; omega)
        rw [bits_get, ht j h6] at h7
        cases h7
      · omega
    unfold needZ at hr
    unfold Sp.alloc at h2
    rw [if_neg hb] at h2
    by_cases hc : classZ n < 0
    · obtain ⟨k, hk, hk1, _⟩ := pages_nat hb hc
      rw [if_pos hc] at hr h2
      rw [hk] at h2 hr
      have := hrun k hk1 (by omega)
      rcases run_nat (l := bitsOf S.pg) (i := 0) (k := k) with e | ⟨p, e⟩
      · exact this e
      · rw [e, if_neg (by omega)] at h2
        have := congrArg (·.2.2) h2
        cases this
    · rw [if_neg hc] at h2
      split at h2
      · have := congrArg (·.2.2) h2
        cases this
      · have h8 := hrun 1 (by omega) (by rw [if_neg hc] at hr; omega)
        rcases run_nat (l := bitsOf S.pg) (i := 0) (k := 1) with e | ⟨p, e⟩
        · exact h8 (by simpa using e)
        · rw [e, if_neg (by omega)] at h2
          have := congrArg (·.2.2) h2
          cases this
  · exact h3
/-- The first pages side by side that are free. -/
theorem run_first {pg : List Pst} {p k : Nat} (hk : 1 ≤ k) (h : p + k ≤ pg.length) (hf : ∀ j, p ≤ j → j < p + k → atP pg j = .free) (hno : ∀ b, b < p → ∃ j, b ≤ j ∧ j < b + k ∧ atP pg j ≠ .free) : runZ (bitsOf pg) 0 k = p := by
  refine runZ_eq (by omega) (.inr ⟨p, rfl, by simp, by rw [bits_length]; simpa using h, fun j h1 h2 => ?_, fun b _ hb => ?_⟩)
  · rw [bits_get, hf j h1 (by simpa using h2)]; rfl
  · obtain ⟨j, h1, h2, h3⟩ := hno b hb
    refine ⟨j, h1, by simpa using h2, ?_⟩
    rw [bits_get]
    cases hx : atP pg j <;> first | rfl | exact absurd hx h3
/-- In a space that is as new a block comes behind page 0. -/
theorem alloc_fresh {S : Sp} {np : Nat} (h : S.WF) (hpg : S.pg = (newSp np).pg) (n : Int) (hb : blockZ n ≠ 0) (hr : 1 + needZ n ≤ np) : ∃ S', S.alloc n = (S', 64, 0) ∧ Made S S' 64 (blockZ n) := by
  have hnb := need_bd hb
  have hl : S.pg.length = np := by rw [hpg]; simp [newSp]
  have hat : ∀ j, atP S.pg j = if j = 0 then .zero else .free := fun j => by rw [hpg, new_at _ _ (by omega)]
  have hrun : ∀ k : Nat, 1 ≤ k → 1 + k ≤ np → runZ (bitsOf S.pg) 0 k = (1 : Nat) := fun k hk1 hk =>
    run_first hk1 (by omega) (fun j h1 h2 => by rw [hat, if_neg (by omega)]) (fun b hb => ⟨0, by omega, by omega, by rw [hat, if_pos rfl]; simp⟩)
  unfold needZ at hr
  by_cases hc : classZ n < 0
  · obtain ⟨k, hk, hk1, hk2, hbk, _, _⟩ := pages_nat hb hc
    rw [if_pos hc, hk] at hr
    have hm := made_large h hk1 (p := 1) (by omega) (fun j h1 h2 => by rw [hat, if_neg (by omega)])
    have ha := alloc_pages hc hb hk (hrun k hk1 (by omega))
    rw [hbk]
    exact ⟨_, ha, hm⟩
  · obtain ⟨c, hcc, hc5, hbw⟩ := class_small hc
    rw [if_neg hc] at hr
    have ho : openZ S.pg c = -1 := openZ_miss fun j _ => by rw [hat]; split <;> rfl
    have hm := made_new h (p := 1) (by rw [hat, if_neg (by omega)]) (by omega) hc5
    have ha := alloc_new hcc hb ho (hrun 1 (by omega) (by omega))
    rw [hbw]
    exact ⟨_, ha, hm⟩

/-- The sum of all blocks' words. -/
theorem used_eq {S : Sp} (h : S.WF) {bs : List (Int × Int)} (hn : (bs.map (·.1)).Nodup) (hb : ∀ z m, (S.find z = (z, m, true)) ↔ (z, m) ∈ bs) : S.used = (bs.map (·.2)).sum := by
  have hp : S.each.Perm (bs.map (·.1)) := by
    refine (List.perm_ext_iff_of_nodup ((each_sorted h).imp fun h => by omega) hn).2 fun x => ?_
    rw [each_iff h, List.mem_map]
    constructor
    · rintro ⟨m, hm⟩; exact ⟨(x, m), (hb x m).1 hm, rfl⟩
    · rintro ⟨⟨a, m⟩, hm, rfl⟩; exact ⟨m, (hb a m).2 hm⟩
  unfold Sp.used
  have hs : ∀ {l l' : List Int}, l.Perm l' → l.sum = l'.sum := fun hp => by
    induction hp with
    | nil => rfl
    | cons x _ ih => simp only [List.sum_cons, ih]
    | swap x y l => simp only [List.sum_cons]; omega
    | trans _ _ ih1 ih2 => rw [ih1, ih2]
  rw [hs (hp.map _), List.map_map]
  congr 1
  refine List.map_congr_left fun x hx => ?_
  have := (hb x.1 x.2).2 hx
  simp only [Function.comp]
  rw [this]
end Go.Proofs.YtpkbdmieelgdlaaGreat
namespace Go.Proofs.YtpkbdmieelgdlaaGreat
open Go Go.RowKit

/-- The space at s is S; all its blocks are new since a0, and nothing that was there then has turned. -/
def MineL (a0 w : World) (s : Nat) (L : Lay) (S : Sp) : Prop := IsSpace w s L S ∧ (∀ k, Owns s L S k → a0.heap.size ≤ k) ∧ Upd [] a0 w
def Mine (a0 w : World) (s : Nat) (S : Sp) : Prop := ∃ L, MineL a0 w s L S
section
variable {a0 w w' : World} {s : Nat} {L : Lay} {S S' : Sp}
theorem MineL.after (h : MineL a0 w s L S) (ha : After s L S S' w w') : Mine a0 w' s S' := by
  obtain ⟨h1, h2, h3⟩ := h
  obtain ⟨L', k1, k2, k3, k4⟩ := ha
  have hz := h3.size
  exact ⟨L', k1, fun k hk => by rcases k4 k hk with h | h; exact h2 k h; omega, h3.step k2 (fun i hi => .inr (h2 i (foot_owns hi)))⟩
theorem MineL.upd (h : MineL a0 w s L S) (hu : Upd [] w w') : MineL a0 w' s L S := ⟨h.1.upd0 hu, h.2.1, h.2.2.trans hu⟩
theorem Mine.upd (h : Mine a0 w s S) (hu : Upd [] w w') : Mine a0 w' s S := by obtain ⟨L, h⟩ := h; exact ⟨L, h.upd hu⟩
theorem Mine.drewN (h : Mine a0 w s S) (n : Nat) : Mine a0 (w.drewN n) s S := h.upd ((Upd.refl [] w).drewN n)
theorem Mine.alloc (h : Mine a0 w s S) (o : Obj) : Mine a0 (w.alloc o) s S := h.upd ((Upd.refl [] w).alloc o)
theorem Mine.world (h : Mine a0 w s S) : Upd [] a0 w := by obtain ⟨L, h⟩ := h; exact h.2.2
theorem Mine.wf (h : Mine a0 w s S) : S.WF := by obtain ⟨L, h⟩ := h; exact h.1.wf
theorem MineL.c0 (h : MineL a0 w s L S) : w.cell? ⟨s, 0, none⟩ = some (.pointer (some ⟨L.pa, 0, none⟩)) := h.1.box.cell 0
theorem MineL.c1 (h : MineL a0 w s L S) : w.cell? ⟨s, 1, none⟩ = some (.pointer (some ⟨L.q0, 0, none⟩)) := h.1.box.cell 1
end

theorem mine_new (n : Nat) (a0 w : World) (h1 : 1 ≤ n) (h2 : n ≤ 256) (hu : Upd [] a0 w) : Calls Tryz.prog 77 #[.int .i64 n] w fun e w' => ∃ s, e = .returned (.tuple #[.pointer (some ⟨s, 0, none⟩), .int .i64 0]) ∧ Mine a0 w' s (newSp n) :=
  (space_new_yes n w h1 h2).mono fun _ _ ⟨s, L, he, hs, ho, hu'⟩ => ⟨s, he, L, hs, fun k hk => Nat.le_trans hu.size (ho k hk), hu.trans hu'⟩
theorem alloc_eq {S : Sp} {n x y : Int} (h : (S.alloc n).2 = (x, y)) : S.alloc n = ((S.alloc n).1, x, y) := Prod.ext rfl h
theorem drop_eq {S : Sp} {a y : Int} (h : (S.drop a).2 = y) : S.drop a = ((S.drop a).1, y) := Prod.ext rfl h
theorem mine_alloc (a0 : World) (s : Nat) (S S' : Sp) (n : Int) (x y : Int) (w : World) (h : Mine a0 w s S) (hx : S.alloc n = (S', x, y)) :
    Calls Tryz.prog 80 #[.pointer (some ⟨s, 0, none⟩), .int .i64 n] w fun e w' => e = .returned (.tuple #[.int .i64 x, .int .i64 y]) ∧ Mine a0 w' s S' := by
  obtain ⟨L, h⟩ := h
  refine (alloc_calls s L S n w h.1).mono fun e w' ⟨he, ha⟩ => ?_
  rw [hx] at he ha
  exact ⟨he, h.after ha⟩
theorem mine_find (a0 : World) (s : Nat) (S : Sp) (a : Int) (x y : Int) (z : Bool) (w : World) (h : Mine a0 w s S) (hx : S.find a = (x, y, z)) :
    Calls Tryz.prog 93 #[.pointer (some ⟨s, 0, none⟩), .int .i64 a] w fun e w' => e = .returned (.tuple #[.int .i64 x, .int .i64 y, .bool z]) ∧ Mine a0 w' s S := by
  obtain ⟨L, h⟩ := h
  refine (find_calls s L S a w h.1).mono fun e w' ⟨he, ha⟩ => ⟨?_, L, h.upd ha⟩
  rw [he, hx]
  rfl
theorem mine_each (a0 : World) (s : Nat) (S : Sp) (w : World) (h : Mine a0 w s S) :
    Calls Tryz.prog 62 #[.pointer (some ⟨s, 0, none⟩)] w fun e w' => ∃ v, e = .returned v ∧ Own w' w.heap.size v S.each ∧ Mine a0 w' s S := by
  obtain ⟨L, h⟩ := h
  exact (each_calls s L S w h.1).mono fun e w' ⟨v, he, ho, ha⟩ => ⟨v, he, ho, L, h.upd ha⟩
theorem mine_store (a0 : World) (s : Nat) (L : Lay) (S : Sp) (i : Nat) (x : Int) (w : World) (h : MineL a0 w s L S) (hi : i < S.W.length) :
    Calls Tryz.prog 82 #[.pointer (some ⟨L.pa, 0, none⟩), .int .i64 i, .int .i64 x] w fun e w' => e = .returned (.int .i64 0) ∧ Mine a0 w' s ⟨S.W.set i x, S.pg⟩ :=
  (store_yes L.pa L.ga S.W i x w h.1.arena (by omega) (by omega)).mono fun e w' ⟨he, ha, hu⟩ => ⟨he, h.after (h.1.words (by simpa using ha) (by simp) hu)⟩
theorem mine_load (a0 : World) (s : Nat) (L : Lay) (S : Sp) (i : Nat) (y : Int) (w : World) (h : MineL a0 w s L S) (hi : i < S.W.length) (hy : S.W.getD i 0 = y) :
    Calls Tryz.prog 94 #[.pointer (some ⟨L.pa, 0, none⟩), .int .i64 i] w fun e w' => e = .returned (.tuple #[.int .i64 y, .int .i64 0]) ∧ w = w' := by
  have := load_yes L.pa L.ga S.W i w h.1.arena (by omega) (by omega)
  rw [Int.toNat_natCast, hy] at this
  exact this
theorem mine_storeI (a0 : World) (s : Nat) (L : Lay) (S : Sp) (a : Int) (i : Nat) (x : Int) (w : World) (h : MineL a0 w s L S) (ha : a = i) (hi : i < S.W.length) :
    Calls Tryz.prog 82 #[.pointer (some ⟨L.pa, 0, none⟩), .int .i64 a, .int .i64 x] w fun e w' => e = .returned (.int .i64 0) ∧ Mine a0 w' s ⟨S.W.set i x, S.pg⟩ := by subst ha; exact mine_store a0 s L S i x w h hi
theorem mine_loadI (a0 : World) (s : Nat) (L : Lay) (S : Sp) (a : Int) (i : Nat) (y : Int) (w : World) (h : MineL a0 w s L S) (ha : a = i) (hi : i < S.W.length) (hy : S.W.getD i 0 = y) :
    Calls Tryz.prog 94 #[.pointer (some ⟨L.pa, 0, none⟩), .int .i64 a] w fun e w' => e = .returned (.tuple #[.int .i64 y, .int .i64 0]) ∧ w = w' := by subst ha; exact mine_load a0 s L S i y w h hi hy
end Go.Proofs.YtpkbdmieelgdlaaGreat
