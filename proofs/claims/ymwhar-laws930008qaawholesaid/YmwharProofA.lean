/-
  Law A: the row's proof out of the walk (the guide's frame for a law over slices, at this function's number and types).
-/
import Derived.Test.YmwharLawA
import Derived.Test.YmwharOpen
namespace Go.Proofs.Ymwhar
open Go.ChangeShapes Go.WideShapes Go.ChangeAt Go.RowKit
set_option linter.unusedVariables false

set_option maxRecDepth 100000 in
theorem lawA_lifted (os : Os) (started : os.Started) (H : Type) (enc : TypeId × Value → H) :
    ReturnsInHanded {} Yarv.checked os 3 .any (Rows.lawS930008QAAWholeSpec.pre6 enc Yarv.prog Yarv.f3 Rows.lawS930008QAAWholeRow.domain false) (Rows.lawS930008QAAWholeSpec.post enc Yarv.prog Yarv.f3 false true false false) := by
  refine returnsInHanded_of_change (C := Yarv.checked) ownK started (by kernel_rfl) Yarv.func3
    (ChangeSpec.witness6 (enc := enc) (C := Yarv.checked) false ⟨#[], #[.slice none 0 0, .int .i64 0, .int .u32 0], []⟩ 8 (by kernel_rfl) (by kernel_rfl) (by kernel_rfl) (by kernel_rfl)) ?_
  intro W base args ds gs before hval0 hW hcnd _
  have hval : ∀ (j : Nat) t v, Yarv.f3.params[j]? = some t → args[j]? = some v → Value.okWide Yarv.prog W .any base t v := hval0
  have hW' := hW
  obtain ⟨p, q, hA0, hV, rfl, hfz, hnd⟩ := hW
  have hA : DataW.TrodAll enc Yarv.prog W 0 (fun _ => true) true Yarv.f3.params.toList args.toList ds p := hA0
  rw [Yarv.params3] at hA hval
  obtain ⟨v0, vs0, d0, ds0, p0, q0, hargs, rfl, rfl, h0, r0⟩ := trodAll_cons hA
  obtain ⟨v1, vs1, d1, ds1, p1, q1, rfl, rfl, rfl, h1, r1⟩ := trodAll_cons r0
  obtain ⟨v2, vs2, d2, ds2, p2, q2, rfl, rfl, rfl, h2, r2⟩ := trodAll_cons r1
  obtain ⟨rfl, rfl, rfl⟩ := trodAll_nil r2
  obtain rfl : args = #[v0, v1, v2] := by cases args; simp_all
  obtain ⟨rfl, rfl⟩ := trodVars_none hV
  obtain ⟨a0, len0, cap0, rfl⟩ := okWide_slice Yarv.underlying22 (hval 0 22 v0 rfl rfl)
  have k0 := h0
  have lt0 : ∀ x ∈ p0, x.block < W.heap.size := by obtain ⟨m, hm⟩ := k0; exact DataW.trod_lt m _ _ _ hm
  obtain ⟨z0, s0⟩ : ∃ xs, Src W a0 len0 cap0 xs := by
    obtain ⟨fuel, hf⟩ := h0
    exact src_of (by simpa [Value.cells] using hf)
  obtain ⟨a1, rfl, rfl, rfl, w1⟩ := open_int Yarv.underlying2 (hval 1 2 v1 rfl rfl) h1
  obtain ⟨a2, rfl, rfl, rfl, w2⟩ := open_int Yarv.underlying23 (hval 2 23 v2 rfl rfl) h2
  clear hA0 hval0
  refine (lawA_any a0 len0 cap0 z0 a1 a2 W s0).mono fun e W' ⟨he, bel⟩ => ?_
  subst he
  exact ⟨_, rfl, _, _, _, [], _, [], hW', trodAll_mk1 (shut_bool Yarv.underlying4 _), (trodAll_cons_mk (Below.trod laidOut (by kernel_rfl) (of_decide_eq_true (by kernel_rfl)) k0 bel lt0) (trodAll_cons_mk (shut_int Yarv.underlying2 w1) (trodAll_cons_mk (shut_int Yarv.underlying23 w2) trodAll_mk0))), rfl, bel.frame _, fun h => by cases h⟩

theorem lawA_over : Rows.lawS930008QAAWholeRow.holds Yarv.pinned (OpenSpec.ofChange Rows.lawS930008QAAWholeSpec) :=
  OpenClaim.holds_of_wide 3 Yarv.f3 rfl rfl rfl rfl rfl rfl rfl ⟨rfl, rfl, rfl, rfl, rfl⟩ rfl rfl rfl rfl rfl (by kernel_rfl) Yarv.func3 (by kernel_rfl)
    (of_decide_eq_true (by kernel_rfl)) (by unfold Func.isWrapper; first | (rw [if_pos (by decide +kernel)]; kernel_rfl) | (rw [if_neg (by decide +kernel)]; exact ⟨rfl, rfl⟩))
    (fun os started H enc _ => lawA_lifted os started H enc)

theorem lawA_proved : Rows.LawS930008QAAWholeSaid := lawA_over

end Go.Proofs.Ymwhar
