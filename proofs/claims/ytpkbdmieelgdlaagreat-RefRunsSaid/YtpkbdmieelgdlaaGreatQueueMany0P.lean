/- An object is made beside queues. -/
import Derived.Test.YtpkbdmieelgdlaaGreatQue4P
namespace Go.Proofs.YtpkbdmieelgdlaaGreat
open Go Go.RowKit

theorem que_make {O : Nat → Prop} {l : List Int} {F : Int → Ob} {rows : List (List Int)} (q h : Nat) (np : List Pst) (k c : Int) (n : Nat) (w : World) (H : QueO w q h np l F rows O) (hm : mayB k c n false = true) (hk : k ≠ 1) (hn : n ≤ 31) (hroom : l.length + 1 < np.length) :
    Calls Tryz.prog 51 #[.pointer (some ⟨h, 0, none⟩), .agg #[.int .i64 k, .int .i64 c, .int .i64 n, .bool false]] w fun e w' =>
      ∃ a pg O', allocP np ((n : Int) + 1) = (pg, a) ∧ e = .returned (.tuple #[.int .i64 a, .int .i64 0]) ∧ 64 ≤ a ∧ a ≤ 16384 ∧ a ∉ l ∧ pg.length = np.length ∧ QueO w' q h pg (l ++ [a]) (fset F a ⟨k, c, false, List.replicate n 0⟩) rows O' ∧ StepO O w O' w' := by
  obtain ⟨v, Oh, ⟨H, hl, hf⟩, rfl⟩ := H
  refine (heap_make h np k c n w H.heap hm hk hn hroom).mono ?_
  rintro e w' ⟨a, pg, O', hal, rfl, h1, h2, h3, hln, hh, hs⟩
  exact ⟨a, pg, _, hal, rfl, h1, h2, h3, hln, ⟨v, O', ⟨H.heaped hh hs, hl.congr (fun b hb => List.mem_append_left _ hb) (fun b hb => by rw [fset_ne _ (fun e => h3 (by rw [← e]; exact hb))]; exact ⟨rfl, rfl, rfl⟩), hf⟩, rfl⟩, hs.queued⟩
end Go.Proofs.YtpkbdmieelgdlaaGreat
