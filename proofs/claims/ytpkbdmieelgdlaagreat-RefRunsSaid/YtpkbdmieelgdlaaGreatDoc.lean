/- The document's space in memory: what its blocks are; NewSpace. -/
import Derived.Test.YtpkbdmieelgdlaaGreatP2
import Derived.Test.YtpkbdmieelgdlaaGreatStep
import Derived.Test.YtpkbdmieelgdlaaGreatRef1
import Derived.Test.YtpkbdmieelgdlaaGreatSizes1
namespace Go.Proofs.YtpkbdmieelgdlaaGreat
open Go Go.RowKit

structure DLay where
  gw : Nat
  gk : Nat
  gm : Nat
  gt : Nat
  tk : Nat → Nat
/-- What the document says of a page: what it is, how many pages its block has, which blocks are taken. -/
def kindZ : Pst → Int
  | .zero => -1
  | .free => 0
  | .small c _ => (c : Int) + 1
  | .first _ => 6
  | .rest _ => 7
def manyZ : Pst → Int
  | .first k => k
  | _ => 0
def takenV (g : Nat) : Pst → Value
  | .small _ l => .slice (some ⟨g, 0, none⟩) l.length l.length
  | _ => .slice none 0 0
def kindsL (pg : List Pst) : List Int := pg.map kindZ
def manysL (pg : List Pst) : List Int := pg.map manyZ
def takensA (D : DLay) (pg : List Pst) : Array Value := ((List.range pg.length).map fun p => takenV (D.tk p) (atP pg p)).toArray
def OwnsD (m : Nat) (D : DLay) (S : Sp) (k : Nat) : Prop := k = m ∨ k = D.gw ∨ k = D.gk ∨ k = D.gm ∨ k = D.gt ∨ ∃ p c l, atP S.pg p = .small c l ∧ k = D.tk p
structure DSpace (w : World) (m : Nat) (D : DLay) (S : Sp) : Prop where
  box : Blk w m 97 #[.slice (some ⟨D.gw, 0, none⟩) (S.pg.length * 64) (S.pg.length * 64), .slice (some ⟨D.gk, 0, none⟩) S.pg.length S.pg.length, .slice (some ⟨D.gm, 0, none⟩) S.pg.length S.pg.length, .slice (some ⟨D.gt, 0, none⟩) S.pg.length S.pg.length]
  words : Blk w D.gw 3 (ints S.W)
  kind : Blk w D.gk 3 (ints (kindsL S.pg))
  many : Blk w D.gm 3 (ints (manysL S.pg))
  taken : Blk w D.gt 142 (takensA D S.pg)
  bits : ∀ p c l, atP S.pg p = .small c l → Blk w (D.tk p) 4 (bools l)
  wk : D.gw ≠ D.gk
  wm : D.gw ≠ D.gm
  km : D.gk ≠ D.gm
  apart : ∀ p c l p' c' l', atP S.pg p = .small c l → atP S.pg p' = .small c' l' → D.tk p = D.tk p' → p = p'
  wf : S.WF
/-- The document's space at m; its blocks are O. -/
def DocO (w : World) (m : Nat) (S : Sp) (O : Nat → Prop) : Prop := ∃ D, DSpace w m D S ∧ O = OwnsD m D S

section
variable {w w' : World} {m : Nat} {D : DLay} {S : Sp} {O : Nat → Prop} {E : List Nat}
theorem kinds_len (pg : List Pst) : (kindsL pg).length = pg.length := by simp [kindsL]
theorem manys_len (pg : List Pst) : (manysL pg).length = pg.length := by simp [manysL]
theorem kinds_at {pg : List Pst} {p : Nat} (hp : p < pg.length) : (kindsL pg).getD p 0 = kindZ (atP pg p) := by
  unfold kindsL atP
  rw [List.getD_eq_getElem?_getD, List.getD_eq_getElem?_getD, List.getElem?_map, List.getElem?_eq_getElem hp]; rfl
theorem manys_at {pg : List Pst} {p : Nat} (hp : p < pg.length) : (manysL pg).getD p 0 = manyZ (atP pg p) := by
  unfold manysL atP
  rw [List.getD_eq_getElem?_getD, List.getD_eq_getElem?_getD, List.getElem?_map, List.getElem?_eq_getElem hp]; rfl
theorem takens_at (D : DLay) {pg : List Pst} {p : Nat} (hp : p < pg.length) : (takensA D pg)[p]? = some (takenV (D.tk p) (atP pg p)) := by
  unfold takensA
  simp [hp]
theorem DSpace.owned (h : DSpace w m D S) {k : Nat} (hk : OwnsD m D S k) : k < w.heap.size := by
  rcases hk with rfl | rfl | rfl | rfl | rfl | ⟨p, c, l, hp, rfl⟩
  · exact h.box.lt
  · exact h.words.lt
  · exact h.kind.lt
  · exact h.many.lt
  · exact h.taken.lt
  · exact (h.bits p c l hp).lt
theorem DocO.owned (h : DocO w m S O) {k : Nat} (hk : O k) : k < w.heap.size := by obtain ⟨D, h, rfl⟩ := h; exact h.owned hk
theorem DSpace.moved (h : DSpace w m D S) (hb : ∀ k, OwnsD m D S k → w'.heap[k]? = w.heap[k]?) : DSpace w' m D S :=
  ⟨h.box.moved (hb _ (.inl rfl)), h.words.moved (hb _ (.inr (.inl rfl))), h.kind.moved (hb _ (.inr (.inr (.inl rfl)))), h.many.moved (hb _ (.inr (.inr (.inr (.inl rfl))))), h.taken.moved (hb _ (.inr (.inr (.inr (.inr (.inl rfl)))))),
    fun p c l hp => (h.bits p c l hp).moved (hb _ (.inr (.inr (.inr (.inr (.inr ⟨p, c, l, hp, rfl⟩)))))), h.wk, h.wm, h.km, h.apart, h.wf⟩
theorem DocO.moved (h : DocO w m S O) (hb : ∀ k, O k → w'.heap[k]? = w.heap[k]?) : DocO w' m S O := by obtain ⟨D, h, rfl⟩ := h; exact ⟨D, h.moved hb, rfl⟩
theorem DocO.upd (h : DocO w m S O) (hu : Upd E w w') (hE : ∀ k ∈ E, ¬ O k) : DocO w' m S O := h.moved fun k hk => hu.block k (h.owned hk) fun hm => hE k hm hk
theorem DocO.upd0 (h : DocO w m S O) (hu : Upd [] w w') : DocO w' m S O := h.upd hu (by simp)
theorem DSpace.upd0 (h : DSpace w m D S) (hu : Upd [] w w') : DSpace w' m D S := h.moved fun k hk => hu.block k (h.owned hk) (by simp)
theorem DSpace.cells (h : DSpace w m D S) : w.cell? ⟨m, 0, none⟩ = some (.slice (some ⟨D.gw, 0, none⟩) (S.pg.length * 64) (S.pg.length * 64)) ∧ w.cell? ⟨m, 1, none⟩ = some (.slice (some ⟨D.gk, 0, none⟩) S.pg.length S.pg.length) ∧ w.cell? ⟨m, 2, none⟩ = some (.slice (some ⟨D.gm, 0, none⟩) S.pg.length S.pg.length) ∧ w.cell? ⟨m, 3, none⟩ = some (.slice (some ⟨D.gt, 0, none⟩) S.pg.length S.pg.length) :=
  ⟨h.box.cell 0, h.box.cell 1, h.box.cell 2, h.box.cell 3⟩
theorem DSpace.kindAt (h : DSpace w m D S) {p : Nat} (hp : p < S.pg.length) : w.cell? ⟨D.gk, p, none⟩ = some (.int .i64 (kindZ (atP S.pg p))) ∧ w.frozen? ⟨D.gk, p, none⟩ = false := by
  refine ⟨?_, h.kind.frozen p⟩
  rw [h.kind.int p (by rw [kinds_len]; exact hp), kinds_at hp]
theorem DSpace.manyAt (h : DSpace w m D S) {p : Nat} (hp : p < S.pg.length) : w.cell? ⟨D.gm, p, none⟩ = some (.int .i64 (manyZ (atP S.pg p))) ∧ w.frozen? ⟨D.gm, p, none⟩ = false := by
  refine ⟨?_, h.many.frozen p⟩
  rw [h.many.int p (by rw [manys_len]; exact hp), manys_at hp]
theorem DSpace.takenAt (h : DSpace w m D S) {p : Nat} (hp : p < S.pg.length) : w.cell? ⟨D.gt, p, none⟩ = some (takenV (D.tk p) (atP S.pg p)) ∧ w.frozen? ⟨D.gt, p, none⟩ = false :=
  ⟨(h.taken.cell p).trans (takens_at D hp), h.taken.frozen p⟩
theorem DSpace.wordAt (h : DSpace w m D S) {i : Nat} (hi : i < S.W.length) : w.cell? ⟨D.gw, i, none⟩ = some (.int .i64 (S.W.getD i 0)) ∧ w.frozen? ⟨D.gw, i, none⟩ = false := ⟨h.words.int i hi, h.words.frozen i⟩
/-- The blocks lie apart. -/
theorem DSpace.ne (h : DSpace w m D S) : m ≠ D.gw ∧ m ≠ D.gk ∧ m ≠ D.gm ∧ m ≠ D.gt ∧ D.gt ≠ D.gw ∧ D.gt ≠ D.gk ∧ D.gt ≠ D.gm :=
  ⟨h.box.ne_ h.words (by decide), h.box.ne_ h.kind (by decide), h.box.ne_ h.many (by decide), h.box.ne_ h.taken (by decide), h.taken.ne_ h.words (by decide), h.taken.ne_ h.kind (by decide), h.taken.ne_ h.many (by decide)⟩
theorem DSpace.neb (h : DSpace w m D S) {p c : Nat} {l : List Bool} (hp : atP S.pg p = .small c l) : D.tk p ≠ m ∧ D.tk p ≠ D.gw ∧ D.tk p ≠ D.gk ∧ D.tk p ≠ D.gm ∧ D.tk p ≠ D.gt :=
  ⟨(h.bits p c l hp).ne_ h.box (by decide), (h.bits p c l hp).ne_ h.words (by decide), (h.bits p c l hp).ne_ h.kind (by decide), (h.bits p c l hp).ne_ h.many (by decide), (h.bits p c l hp).ne_ h.taken (by decide)⟩
end
end Go.Proofs.YtpkbdmieelgdlaaGreat
