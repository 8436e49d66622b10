/-
  A slice of items that came in, opened.
-/
import Derived.Test.YmwharOwn
import Derived.ProofKit
import Derived.OpenShut
import Derived.ChangeOld
import Derived.Below
import Derived.Deep.SlicePairs
namespace Go.Proofs.Ymwhar
open Go.ChangeShapes Go.WideShapes Go.ChangeAt Go.RowKit

theorem ownK : ownKnob Yarv.prog.godebug = none := by kernel_rfl
theorem laidOut : laidOutB Yarv.prog = true := by kernel_rfl
theorem cells28 : Yarv.prog.cellsOf 28 = 2 := by kernel_rfl
theorem cells2 : Yarv.prog.cellsOf 2 = 1 := by kernel_rfl
theorem cells23 : Yarv.prog.cellsOf 23 = 1 := by kernel_rfl

/-- A slice of items that came in, opened: what the walk is told of it. -/
theorem src_of {H : Type} {enc : TypeId × Value → H} {W : World} {base : Nat} {spare : Nat → Bool} {held : Bool} {fuel : Nat} {a : Option Addr} {len cap : Nat} {x : DataW H × List MemPlace}
    (h : DataW.trod enc Yarv.prog W base spare held fuel 22 [.slice a len cap] = some x) : ∃ xs, Src W a len cap xs := by
  rcases Go.Deep.open_slice_pairs Yarv.underlying22 Yarv.underlying28 cells28 rfl rfl cells2 cells23 h with ⟨hcs, _⟩ | ⟨ad, l, c, m, n, V0, V1, D0, D1, P0, P1, hcs, _, hl, hm, hmm, _, hc⟩
  · simp at hcs
    obtain ⟨rfl, rfl, rfl⟩ := hcs
    exact ⟨[], rfl, fun _ => ⟨rfl, rfl⟩, fun ad had => by cases had⟩
  · simp at hcs
    obtain ⟨rfl, rfl, rfl⟩ := hcs
    have hlm : len ≤ m := by rw [hmm]; split <;> omega
    have each : ∀ i, i < len → ∃ z : It, W.cell? (ad.add (i * 2)) = some (.int .i64 z.1) ∧ W.cell? (ad.add (i * 2 + 1)) = some (.int .u32 z.2) := by
      intro i hi
      obtain ⟨c0, c1, t0, t1⟩ := hc i (by omega)
      obtain ⟨p, e0, _, _⟩ := DataW.trod_int Yarv.underlying2 t0
      obtain ⟨q, e1, _, _⟩ := DataW.trod_int Yarv.underlying23 t1
      simp at e0 e1
      rw [e0] at c0
      rw [e1] at c1
      exact ⟨(p, q), c0, c1⟩
    obtain ⟨z, hz⟩ := Go.Deep.choose_lt each
    refine ⟨(List.range len).map z, by simp, by simp, ?_⟩
    intro ad' had j u hu
    injection had with had
    subst had
    obtain ⟨i, hi, hju⟩ := flat_get _ j u hu
    have hi' : i < len := by simpa using hi
    have ei : ats ((List.range len).map z) i = z i := by simp [ats, hi']
    rcases hju with ⟨rfl, rfl⟩ | ⟨rfl, rfl⟩
    · rw [ei]; exact (hz i hi').1
    · rw [ei]; exact (hz i hi').2


end Go.Proofs.Ymwhar
