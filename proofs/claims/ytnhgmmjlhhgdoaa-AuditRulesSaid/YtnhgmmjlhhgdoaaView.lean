/- A view: what a value of type View says, and where its words stand. -/
import Derived.Test.YtnhgmmjlhhgdoaaSize
import Derived.Test.YtnhgmmjlhhgdoaaInts
import Derived.Test.YtnhgmmjlhhgdoaaMerge
import Derived.Test.YtnhgmmjlhhgdoaaTab
namespace Go.Proofs.Ytnhgmmjlhhgdoaa
open Go Go.RowKit

structure Ob where
  adr : Int
  kind : Int
  cls : Int
  len : Int
  fin : Bool
  wa : Option Addr
  wc : Nat
  ws : List Int
instance : Inhabited Ob := ⟨⟨0, 0, 0, 0, false, none, 0, []⟩⟩
def ob0 : Ob := ⟨0, 0, 0, 0, false, none, 0, []⟩
def Ob.val (o : Ob) : Value := .agg #[.int .i64 o.adr, .int .i64 o.kind, .int .i64 o.cls, .int .i64 o.len, .bool o.fin, .slice o.wa o.ws.length o.wc]
def Ob.head (o : Ob) : Value := .agg #[.int .i64 o.kind, .int .i64 o.cls, .int .i64 o.len, .bool o.fin]

/-- The objects of a view, in the memory of w. -/
def Obs (w : World) (A : Option Addr) (os : List Ob) : Prop := os = [] ∨ ∃ b off, A = some ⟨b, off, none⟩ ∧ b < w.heap.size ∧ ∀ i, i < os.length →
  (w.cell? ⟨b, off + i * 6, none⟩ = some (.int .i64 (os.getD i ob0).adr) ∧ w.cell? ⟨b, off + i * 6 + 1, none⟩ = some (.int .i64 (os.getD i ob0).kind) ∧
    w.cell? ⟨b, off + i * 6 + 2, none⟩ = some (.int .i64 (os.getD i ob0).cls) ∧ w.cell? ⟨b, off + i * 6 + 3, none⟩ = some (.int .i64 (os.getD i ob0).len) ∧
    w.cell? ⟨b, off + i * 6 + 4, none⟩ = some (.bool (os.getD i ob0).fin) ∧ w.cell? ⟨b, off + i * 6 + 5, none⟩ = some (.slice (os.getD i ob0).wa (os.getD i ob0).ws.length (os.getD i ob0).wc)) ∧
  IsInts w (os.getD i ob0).wa (os.getD i ob0).ws

/-- The handles: pairs of numbers. -/
def Helds (w : World) (A : Option Addr) (hs : List (Int × Int)) : Prop := hs = [] ∨ ∃ b off, A = some ⟨b, off, none⟩ ∧ b < w.heap.size ∧ ∀ i, i < hs.length →
  w.cell? ⟨b, off + i * 2, none⟩ = some (.int .i64 (hs.getD i (0, 0)).1) ∧ w.cell? ⟨b, off + i * 2 + 1, none⟩ = some (.int .i64 (hs.getD i (0, 0)).2)

section
variable {w w' : World} {A : Option Addr} {os : List Ob} {hs : List (Int × Int)} {E : List Nat}
theorem Obs.upd (h : Obs w A os) (hu : Upd E w w') (hE : ∀ i ∈ E, w.heap.size ≤ i) : Obs w' A os := by
  rcases h with h | ⟨b, off, rfl, hb, hc⟩
  · exact .inl h
  · have hn : b ∉ E := fun hm => by have := hE _ hm; omega
    refine .inr ⟨b, off, rfl, Nat.lt_of_lt_of_le hb hu.size, fun i hi => ?_⟩
    obtain ⟨⟨c0, c1, c2, c3, c4, c5⟩, hw⟩ := hc i hi
    exact ⟨⟨(hu.cell hb hn).trans c0, (hu.cell hb hn).trans c1, (hu.cell hb hn).trans c2, (hu.cell hb hn).trans c3, (hu.cell hb hn).trans c4, (hu.cell hb hn).trans c5⟩, Reads.upd hw hu hE⟩
theorem Helds.upd (h : Helds w A hs) (hu : Upd E w w') (hE : ∀ i ∈ E, w.heap.size ≤ i) : Helds w' A hs := by
  rcases h with h | ⟨b, off, rfl, hb, hc⟩
  · exact .inl h
  · have hn : b ∉ E := fun hm => by have := hE _ hm; omega
    refine .inr ⟨b, off, rfl, Nat.lt_of_lt_of_le hb hu.size, fun i hi => ?_⟩
    obtain ⟨c0, c1⟩ := hc i hi
    exact ⟨(hu.cell hb hn).trans c0, (hu.cell hb hn).trans c1⟩
theorem Obs.at (h : Obs w A os) {i n : Nat} (hn : os.length = n) (hi : i < n) : ∃ b off, A = some ⟨b, off, none⟩ ∧ b < w.heap.size ∧
  (w.cell? ⟨b, off + i * 6, none⟩ = some (.int .i64 (os.getD i ob0).adr) ∧ w.cell? ⟨b, off + i * 6 + 1, none⟩ = some (.int .i64 (os.getD i ob0).kind) ∧
    w.cell? ⟨b, off + i * 6 + 2, none⟩ = some (.int .i64 (os.getD i ob0).cls) ∧ w.cell? ⟨b, off + i * 6 + 3, none⟩ = some (.int .i64 (os.getD i ob0).len) ∧
    w.cell? ⟨b, off + i * 6 + 4, none⟩ = some (.bool (os.getD i ob0).fin) ∧ w.cell? ⟨b, off + i * 6 + 5, none⟩ = some (.slice (os.getD i ob0).wa (os.getD i ob0).ws.length (os.getD i ob0).wc)) ∧
  IsInts w (os.getD i ob0).wa (os.getD i ob0).ws := by
  rcases h with rfl | ⟨b, off, h1, h2, h3⟩
  · simp at hn; omega
  · exact ⟨b, off, h1, h2, h3 i (by omega)⟩
theorem Helds.at (h : Helds w A hs) {i n : Nat} (hn : hs.length = n) (hi : i < n) : ∃ b off, A = some ⟨b, off, none⟩ ∧ b < w.heap.size ∧
    w.cell? ⟨b, off + i * 2, none⟩ = some (.int .i64 (hs.getD i (0, 0)).1) ∧ w.cell? ⟨b, off + i * 2 + 1, none⟩ = some (.int .i64 (hs.getD i (0, 0)).2) := by
  rcases h with rfl | ⟨b, off, h1, h2, h3⟩
  · simp at hn; omega
  · exact ⟨b, off, h1, h2, h3 i (by omega)⟩
end

structure Vw where
  oa : Option Addr
  oc : Nat
  os : List Ob
  ha : Option Addr
  hc : Nat
  hs : List (Int × Int)
  ra : Option Addr
  rc : Nat
  rs : List Int
  qa : Option Addr
  qc : Nat
  qs : List (List Int)
  fa : Option Addr
  fc : Nat
  fs : List Int
  pa : Option Addr
  pc : Nat
  ps : List Int
  clock : Int
  serial : Int
  used : Int
  runs : Int

def Vw.cells (v : Vw) : List Value := [.slice v.oa v.os.length v.oc, .slice v.ha v.hs.length v.hc, .slice v.ra v.rs.length v.rc, .slice v.qa v.qs.length v.qc, .slice v.fa v.fs.length v.fc, .slice v.pa v.ps.length v.pc,
  .int .i64 v.clock, .int .i64 v.serial, .int .i64 v.used, .int .i64 v.runs]
def Vw.val (v : Vw) : Value := .agg #[.slice v.oa v.os.length v.oc, .slice v.ha v.hs.length v.hc, .slice v.ra v.rs.length v.rc, .slice v.qa v.qs.length v.qc, .slice v.fa v.fs.length v.fc, .slice v.pa v.ps.length v.pc,
  .int .i64 v.clock, .int .i64 v.serial, .int .i64 v.used, .int .i64 v.runs]

def i64 (n : Int) : Prop := -9223372036854775808 ≤ n ∧ n ≤ 9223372036854775807

/-- The words of a view stand in w; its numbers are an int's; it is not longer than a slice may be. -/
structure Sees (w : World) (v : Vw) : Prop where
  obs : Obs w v.oa v.os
  helds : Helds w v.ha v.hs
  roots : IsInts w v.ra v.rs
  queues : Lists w v.qa v.qs
  fins : IsInts w v.fa v.fs
  pend : IsInts w v.pa v.ps

/-- What is so of the numbers of any view that is handed in. -/
structure Fits (v : Vw) : Prop where
  nos : v.os.length ≤ 9223372036854775807
  nhs : v.hs.length ≤ 9223372036854775807
  nrs : v.rs.length ≤ 9223372036854775807
  nqs : v.qs.length ≤ 9223372036854775807
  nfs : v.fs.length ≤ 4611686018427387903
  nps : v.ps.length ≤ 4611686018427387903
  ob : ∀ o ∈ v.os, i64 o.adr ∧ i64 o.kind ∧ i64 o.cls ∧ i64 o.len ∧ o.ws.length ≤ 9223372036854775807 ∧ ∀ x ∈ o.ws, i64 x
  held : ∀ h ∈ v.hs, i64 h.1 ∧ i64 h.2
  root : ∀ x ∈ v.rs, i64 x
  queue : ∀ q ∈ v.qs, q.length ≤ 4611686018427387903 ∧ ∀ x ∈ q, i64 x
  fin : ∀ x ∈ v.fs, i64 x
  pen : ∀ x ∈ v.ps, i64 x
  nums : i64 v.clock ∧ i64 v.serial ∧ i64 v.used ∧ i64 v.runs

theorem Sees.upd {w w' : World} {v : Vw} {E : List Nat} (h : Sees w v) (hu : Upd E w w') (hE : ∀ i ∈ E, w.heap.size ≤ i) : Sees w' v :=
  ⟨h.obs.upd hu hE, h.helds.upd hu hE, Reads.upd h.roots hu hE, h.queues.upd hu hE, Reads.upd h.fins hu hE, Reads.upd h.pend hu hE⟩

/-- The place of the first object at an address; -1: there is none. -/
def findZ (os : List Ob) (a : Int) : Int := if ∃ o ∈ os, o.adr = a then (os.findIdx (fun o => decide (o.adr = a)) : Nat) else -1
theorem findZ_hit {os : List Ob} {a : Int} {j : Nat} (hj : j < os.length) (h : (os.getD j ob0).adr = a) (h0 : ∀ m, m < j → (os.getD m ob0).adr ≠ a) : findZ os a = j := by
  have e : os.getD j ob0 = os[j] := by rw [List.getD_eq_getElem?_getD, List.getElem?_eq_getElem hj]; rfl
  have hex : ∃ o ∈ os, o.adr = a := ⟨os[j], List.getElem_mem hj, by rw [← e]; exact h⟩
  unfold findZ
  rw [if_pos hex]
  congr 1
  rw [List.findIdx_eq hj]
  refine ⟨by rw [← e, h]; simp, fun m hm => ?_⟩
  have := h0 m hm
  rw [List.getD_eq_getElem?_getD, List.getElem?_eq_getElem (by omega)] at this
  simpa using this
theorem findZ_miss {os : List Ob} {a : Int} (h0 : ∀ m, m < os.length → (os.getD m ob0).adr ≠ a) : findZ os a = -1 := by
  unfold findZ
  rw [if_neg]
  rintro ⟨o, ho, h⟩
  obtain ⟨m, hm, rfl⟩ := List.mem_iff_getElem.1 ho
  have := h0 m hm
  rw [List.getD_eq_getElem?_getD, List.getElem?_eq_getElem hm] at this
  exact this h
theorem getD_of {α : Type} {l : List α} {d : α} {i : Nat} (hi : i < l.length) : l.getD i d = l[i] := by rw [List.getD_eq_getElem?_getD, List.getElem?_eq_getElem hi]; rfl
theorem getD_in {α : Type} {l : List α} {d : α} {i : Nat} (hi : i < l.length) : l.getD i d ∈ l := by rw [getD_of hi]; exact List.getElem_mem hi
end Go.Proofs.Ytnhgmmjlhhgdoaa
