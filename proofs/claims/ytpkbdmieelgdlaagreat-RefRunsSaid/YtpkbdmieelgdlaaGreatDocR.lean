/- The document's space between two steps: its rows as they lie, whatever they say. -/
import Derived.Test.YtpkbdmieelgdlaaGreatDocP
namespace Go.Proofs.YtpkbdmieelgdlaaGreat
open Go Go.RowKit

structure DRaw (w : World) (m : Nat) (D : DLay) (n : Nat) (W K M : List Int) (T : Array Value) : Prop where
  box : Blk w m 97 #[.slice (some ⟨D.gw, 0, none⟩) (n * 64) (n * 64), .slice (some ⟨D.gk, 0, none⟩) n n, .slice (some ⟨D.gm, 0, none⟩) n n, .slice (some ⟨D.gt, 0, none⟩) n n]
  words : Blk w D.gw 3 (ints W)
  kind : Blk w D.gk 3 (ints K)
  many : Blk w D.gm 3 (ints M)
  taken : Blk w D.gt 142 T
  wk : D.gw ≠ D.gk
  wm : D.gw ≠ D.gm
  km : D.gk ≠ D.gm
section
variable {w w' : World} {m n : Nat} {D D' : DLay} {W K M : List Int} {T : Array Value} {S : Sp} {E : List Nat}
theorem DSpace.raw (h : DSpace w m D S) : DRaw w m D S.pg.length S.W (kindsL S.pg) (manysL S.pg) (takensA D S.pg) := ⟨h.box, h.words, h.kind, h.many, h.taken, h.wk, h.wm, h.km⟩
theorem DRaw.moved (h : DRaw w m D n W K M T) (hb : ∀ k, k = m ∨ k = D.gw ∨ k = D.gk ∨ k = D.gm ∨ k = D.gt → w'.heap[k]? = w.heap[k]?) : DRaw w' m D n W K M T :=
  ⟨h.box.moved (hb _ (.inl rfl)), h.words.moved (hb _ (.inr (.inl rfl))), h.kind.moved (hb _ (.inr (.inr (.inl rfl)))), h.many.moved (hb _ (.inr (.inr (.inr (.inl rfl))))), h.taken.moved (hb _ (.inr (.inr (.inr (.inr rfl))))), h.wk, h.wm, h.km⟩
theorem DRaw.lt (h : DRaw w m D n W K M T) {k : Nat} (hk : k = m ∨ k = D.gw ∨ k = D.gk ∨ k = D.gm ∨ k = D.gt) : k < w.heap.size := by
  rcases hk with rfl | rfl | rfl | rfl | rfl
  · exact h.box.lt
  · exact h.words.lt
  · exact h.kind.lt
  · exact h.many.lt
  · exact h.taken.lt
theorem DRaw.upd0 (h : DRaw w m D n W K M T) (hu : Upd [] w w') : DRaw w' m D n W K M T := h.moved fun k hk => hu.block k (h.lt hk) (by simp)
theorem DRaw.cells (h : DRaw w m D n W K M T) : w.cell? ⟨m, 0, none⟩ = some (.slice (some ⟨D.gw, 0, none⟩) (n * 64) (n * 64)) ∧ w.cell? ⟨m, 1, none⟩ = some (.slice (some ⟨D.gk, 0, none⟩) n n) ∧ w.cell? ⟨m, 2, none⟩ = some (.slice (some ⟨D.gm, 0, none⟩) n n) ∧ w.cell? ⟨m, 3, none⟩ = some (.slice (some ⟨D.gt, 0, none⟩) n n) :=
  ⟨h.box.cell 0, h.box.cell 1, h.box.cell 2, h.box.cell 3⟩
theorem DRaw.kAt (h : DRaw w m D n W K M T) {p : Nat} (hp : p < K.length) : w.cell? ⟨D.gk, p, none⟩ = some (.int .i64 (K.getD p 0)) ∧ w.frozen? ⟨D.gk, p, none⟩ = false := ⟨h.kind.int p hp, h.kind.frozen p⟩
theorem DRaw.mAt (h : DRaw w m D n W K M T) {p : Nat} (hp : p < M.length) : w.cell? ⟨D.gm, p, none⟩ = some (.int .i64 (M.getD p 0)) ∧ w.frozen? ⟨D.gm, p, none⟩ = false := ⟨h.many.int p hp, h.many.frozen p⟩
theorem DRaw.wAt (h : DRaw w m D n W K M T) {p : Nat} (hp : p < W.length) : w.cell? ⟨D.gw, p, none⟩ = some (.int .i64 (W.getD p 0)) ∧ w.frozen? ⟨D.gw, p, none⟩ = false := ⟨h.words.int p hp, h.words.frozen p⟩
theorem DRaw.ne (h : DRaw w m D n W K M T) : m ≠ D.gw ∧ m ≠ D.gk ∧ m ≠ D.gm ∧ m ≠ D.gt ∧ D.gt ≠ D.gw ∧ D.gt ≠ D.gk ∧ D.gt ≠ D.gm :=
  ⟨h.box.ne_ h.words (by decide), h.box.ne_ h.kind (by decide), h.box.ne_ h.many (by decide), h.box.ne_ h.taken (by decide), h.taken.ne_ h.words (by decide), h.taken.ne_ h.kind (by decide), h.taken.ne_ h.many (by decide)⟩
theorem DRaw.setW (h : DRaw w m D n W K M T) (i : Nat) (x : Int) : DRaw (w.setCell ⟨D.gw, i, none⟩ (.int .i64 x)) m D n (W.set i x) K M T := by
  obtain ⟨a1, a2, a3, a4, a5, a6, a7⟩ := h.ne
  exact ⟨h.box.far a1 _, by rw [← ints_set_]; exact h.words.set_ i _, h.kind.far h.wk.symm _, h.many.far h.wm.symm _, h.taken.far a5 _, h.wk, h.wm, h.km⟩
theorem DRaw.setK (h : DRaw w m D n W K M T) (i : Nat) (x : Int) : DRaw (w.setCell ⟨D.gk, i, none⟩ (.int .i64 x)) m D n W (K.set i x) M T := by
  obtain ⟨a1, a2, a3, a4, a5, a6, a7⟩ := h.ne
  exact ⟨h.box.far a2 _, h.words.far h.wk _, by rw [← ints_set_]; exact h.kind.set_ i _, h.many.far h.km.symm _, h.taken.far a6 _, h.wk, h.wm, h.km⟩
theorem DRaw.setM (h : DRaw w m D n W K M T) (i : Nat) (x : Int) : DRaw (w.setCell ⟨D.gm, i, none⟩ (.int .i64 x)) m D n W K (M.set i x) T := by
  obtain ⟨a1, a2, a3, a4, a5, a6, a7⟩ := h.ne
  exact ⟨h.box.far a3 _, h.words.far h.wm _, h.kind.far h.km _, by rw [← ints_set_]; exact h.many.set_ i _, h.taken.far a7 _, h.wk, h.wm, h.km⟩
theorem DRaw.setT (h : DRaw w m D n W K M T) (i : Nat) (v : Value) : DRaw (w.setCell ⟨D.gt, i, none⟩ v) m D n W K M (T.setIfInBounds i v) := by
  obtain ⟨a1, a2, a3, a4, a5, a6, a7⟩ := h.ne
  exact ⟨h.box.far a4 _, h.words.far a5.symm _, h.kind.far a6.symm _, h.many.far a7.symm _, h.taken.set_ i _, h.wk, h.wm, h.km⟩
theorem DRaw.far (h : DRaw w m D n W K M T) {g : Nat} {cs : Array Value} (hb : Blk w g 4 cs) (i : Nat) (v : Value) : DRaw (w.setCell ⟨g, i, none⟩ v) m D n W K M T :=
  h.moved fun k hk => Below.heap_setCell _ _ _ _ (by
    show k ≠ g
    rcases hk with rfl | rfl | rfl | rfl | rfl
    · exact h.box.ne_ hb (by decide)
    · exact h.words.ne_ hb (by decide)
    · exact h.kind.ne_ hb (by decide)
    · exact h.many.ne_ hb (by decide)
    · exact h.taken.ne_ hb (by decide))
/-- The same rows, another tk. -/
theorem DRaw.lay (h : DRaw w m D n W K M T) (tk : Nat → Nat) : DRaw w m { D with tk := tk } n W K M T := ⟨h.box, h.words, h.kind, h.many, h.taken, h.wk, h.wm, h.km⟩

/-- The rows of bits, page by page. -/
structure DBits (w : World) (D : DLay) (pg : List Pst) : Prop where
  bits : ∀ p c l, atP pg p = .small c l → Blk w (D.tk p) 4 (bools l)
  apart : ∀ p c l p' c' l', atP pg p = .small c l → atP pg p' = .small c' l' → D.tk p = D.tk p' → p = p'
theorem DSpace.dbits (h : DSpace w m D S) : DBits w D S.pg := ⟨h.bits, h.apart⟩
theorem DBits.upd0 {pg : List Pst} (h : DBits w D pg) (hu : Upd [] w w') : DBits w' D pg := ⟨fun p c l hp => (h.bits p c l hp).upd hu (by simp), h.apart⟩
/-- A store that is in no row of bits. -/
theorem DBits.far {pg : List Pst} (h : DBits w D pg) {g : Nat} {t : TypeId} {cs : Array Value} (hb : Blk w g t cs) (ht : 4 ≠ t) (i : Nat) (v : Value) : DBits (w.setCell ⟨g, i, none⟩ v) D pg :=
  ⟨fun p c l hp => (h.bits p c l hp).far ((h.bits p c l hp).ne_ hb ht) v, h.apart⟩
theorem DSpace.of {S : Sp} (hr : DRaw w m D n W K M T) (hb : DBits w D S.pg) (hn : n = S.pg.length) (hW : W = S.W) (hK : K = kindsL S.pg) (hM : M = manysL S.pg) (hT : T = takensA D S.pg) (hw : S.WF) : DSpace w m D S := by
  subst hn hW hK hM hT
  exact ⟨hr.box, hr.words, hr.kind, hr.many, hr.taken, hb.bits, hr.wk, hr.wm, hr.km, hb.apart, hw⟩
theorem Sp.WF.words (h : S.WF) {W : List Int} (hl : W.length = S.W.length) : (Sp.mk W S.pg).WF := ⟨h.n1, h.n2, by rw [show (Sp.mk W S.pg).W = W from rfl, hl]; exact h.len, h.zero, h.small, h.first, h.rest⟩
end
end Go.Proofs.YtpkbdmieelgdlaaGreat
