/-
  Law A: the row's proof out of the walk (the guide's frame for a law over slices, at this function's number and types).
-/
import Derived.Test.YmwharLawA
import Derived.ProofKit
import Derived.OpenShut
import Derived.ChangeOld
import Derived.Below
import Derived.Deep.SlicePairs
namespace Go.Proofs.Ymwhar
open Go.ChangeShapes Go.WideShapes Go.ChangeAt Go.RowKit
set_option linter.unusedVariables false

theorem ownK : ownKnob Yarv.prog.godebug = none := by kernel_rfl
theorem laidOut : laidOutB Yarv.prog = true := by kernel_rfl
theorem cells28 : Yarv.prog.cellsOf 28 = 2 := by kernel_rfl
theorem cells2 : Yarv.prog.cellsOf 2 = 1 := by kernel_rfl
theorem cells23 : Yarv.prog.cellsOf 23 = 1 := by kernel_rfl

/-- A slice of items that came in, opened: what the walk is told of it. -/
theorem src_of {H : Type} {enc : TypeId × Value → H} {W : World} {base : Nat} {spare : Nat → Bool} {held : Bool} {fuel : Nat} {a : Option Addr} {len cap : Nat} {x : DataW H × List MemPlace}
    (h : DataW.trod enc Yarv.prog W base spare held fuel 22 [.slice a len cap] = some x) : ∃ xs, Src W a len cap xs := by
  rcases Go.Deep.open_slice_pairs Yarv.underlying22 Yarv.underlying28 cells28 rfl rfl cells2 cells23 h with ⟨hcs, _⟩ | ⟨ad, l, c, m, n, V0, V1, D0, D1, P0, P1, hcs, _, hl, hm, hmm, _, hc⟩
  · simp at hcs
    obtain ⟨rfl, rfl, rfl⟩ := hcs
    exact ⟨[], rfl, fun _ => ⟨rfl, rfl⟩, fun ad had => by cases had⟩
  · simp at hcs
    obtain ⟨rfl, rfl, rfl⟩ := hcs
    have hlm : len ≤ m := by rw [hmm]; split <;> omega
    have each : ∀ i, i < len → ∃ z : It, W.cell? (ad.add (i * 2)) = some (.int .i64 z.1) ∧ W.cell? (ad.add (i * 2 + 1)) = some (.int .u32 z.2) := by
      intro i hi
      obtain ⟨c0, c1, t0, t1⟩ := hc i (by omega)
      obtain ⟨p, e0, _, _⟩ := DataW.trod_int Yarv.underlying2 t0
      obtain ⟨q, e1, _, _⟩ := DataW.trod_int Yarv.underlying23 t1
      simp at e0 e1
      rw [e0] at c0
      rw [e1] at c1
      exact ⟨(p, q), c0, c1⟩
    obtain ⟨z, hz⟩ := Go.Deep.choose_lt each
    refine ⟨(List.range len).map z, by simp, by simp, ?_⟩
    intro ad' had j u hu
    injection had with had
    subst had
    obtain ⟨i, hi, hju⟩ := flat_get _ j u hu
    have hi' : i < len := by simpa using hi
    have ei : ats ((List.range len).map z) i = z i := by simp [ats, hi']
    rcases hju with ⟨rfl, rfl⟩ | ⟨rfl, rfl⟩
    · rw [ei]; exact (hz i hi').1
    · rw [ei]; exact (hz i hi').2

set_option maxRecDepth 100000 in
theorem lawA_lifted (os : Os) (started : os.Started) (H : Type) (enc : TypeId × Value → H) :
    ReturnsInHanded {} Yarv.checked os 3 .any (Rows.lawS930008QAAWholeSpec.pre6 enc Yarv.prog Yarv.f3 Rows.lawS930008QAAWholeRow.domain false) (Rows.lawS930008QAAWholeSpec.post enc Yarv.prog Yarv.f3 false true false false) := by
  refine returnsInHanded_of_change (C := Yarv.checked) ownK started (by kernel_rfl) Yarv.func3
    (ChangeSpec.witness6 (enc := enc) (C := Yarv.checked) false ⟨#[], #[.slice none 0 0, .int .i64 0, .int .u32 0], []⟩ 8 (by kernel_rfl) (by kernel_rfl) (by kernel_rfl) (by kernel_rfl)) ?_
  intro W base args ds gs before hval0 hW hcnd _
  have hval : ∀ (j : Nat) t v, Yarv.f3.params[j]? = some t → args[j]? = some v → Value.okWide Yarv.prog W .any base t v := hval0
  have hW' := hW
  obtain ⟨p, q, hA0, hV, rfl, hfz, hnd⟩ := hW
  have hA : DataW.TrodAll enc Yarv.prog W 0 (fun _ => true) true Yarv.f3.params.toList args.toList ds p := hA0
  rw [Yarv.params3] at hA hval
  obtain ⟨v0, vs0, d0, ds0, p0, q0, hargs, rfl, rfl, h0, r0⟩ := trodAll_cons hA
  obtain ⟨v1, vs1, d1, ds1, p1, q1, rfl, rfl, rfl, h1, r1⟩ := trodAll_cons r0
  obtain ⟨v2, vs2, d2, ds2, p2, q2, rfl, rfl, rfl, h2, r2⟩ := trodAll_cons r1
  obtain ⟨rfl, rfl, rfl⟩ := trodAll_nil r2
  obtain rfl : args = #[v0, v1, v2] := by cases args; simp_all
  obtain ⟨rfl, rfl⟩ := trodVars_none hV
  obtain ⟨a0, len0, cap0, rfl⟩ := okWide_slice Yarv.underlying22 (hval 0 22 v0 rfl rfl)
  have k0 := h0
  have lt0 : ∀ x ∈ p0, x.block < W.heap.size := by obtain ⟨m, hm⟩ := k0; exact DataW.trod_lt m _ _ _ hm
  obtain ⟨z0, s0⟩ : ∃ xs, Src W a0 len0 cap0 xs := by
    obtain ⟨fuel, hf⟩ := h0
    exact src_of (by simpa [Value.cells] using hf)
  obtain ⟨a1, rfl, rfl, rfl, w1⟩ := open_int Yarv.underlying2 (hval 1 2 v1 rfl rfl) h1
  obtain ⟨a2, rfl, rfl, rfl, w2⟩ := open_int Yarv.underlying23 (hval 2 23 v2 rfl rfl) h2
  clear hA0 hval0
  refine (lawA_any a0 len0 cap0 z0 a1 a2 W s0).mono fun e W' ⟨he, bel⟩ => ?_
  subst he
  exact ⟨_, rfl, _, _, _, [], _, [], hW', trodAll_mk1 (shut_bool Yarv.underlying4 _), (trodAll_cons_mk (Below.trod laidOut (by kernel_rfl) (of_decide_eq_true (by kernel_rfl)) k0 bel lt0) (trodAll_cons_mk (shut_int Yarv.underlying2 w1) (trodAll_cons_mk (shut_int Yarv.underlying23 w2) trodAll_mk0))), rfl, bel.frame _, fun h => by cases h⟩

theorem lawA_over : Rows.lawS930008QAAWholeRow.holds Yarv.pinned (OpenSpec.ofChange Rows.lawS930008QAAWholeSpec) :=
  OpenClaim.holds_of_wide 3 Yarv.f3 rfl rfl rfl rfl rfl rfl rfl ⟨rfl, rfl, rfl, rfl, rfl⟩ rfl rfl rfl rfl rfl (by kernel_rfl) Yarv.func3 (by kernel_rfl)
    (of_decide_eq_true (by kernel_rfl)) (by unfold Func.isWrapper; first | (rw [if_pos (by decide +kernel)]; kernel_rfl) | (rw [if_neg (by decide +kernel)]; exact ⟨rfl, rfl⟩))
    (fun os started H enc _ => lawA_lifted os started H enc)

theorem lawA_proved : Rows.LawS930008QAAWholeSaid := lawA_over

end Go.Proofs.Ymwhar
