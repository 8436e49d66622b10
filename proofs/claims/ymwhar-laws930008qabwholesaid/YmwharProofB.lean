/-
  Law B: the row's proof out of the walk (the guide's frame for a law over slices, at this function's number and types).
-/
import Derived.Test.YmwharLawB
import Derived.Test.YmwharOpen
namespace Go.Proofs.Ymwhar
open Go.ChangeShapes Go.WideShapes Go.ChangeAt Go.RowKit
set_option linter.unusedVariables false

set_option maxRecDepth 100000 in
theorem lawB_lifted (os : Os) (started : os.Started) (H : Type) (enc : TypeId × Value → H) :
    ReturnsInHanded {} Yarv.checked os 4 .any (Rows.lawS930008QABWholeSpec.pre6 enc Yarv.prog Yarv.f4 Rows.lawS930008QABWholeRow.domain false) (Rows.lawS930008QABWholeSpec.post enc Yarv.prog Yarv.f4 false true false false) := by
  refine returnsInHanded_of_change (C := Yarv.checked) ownK started (by kernel_rfl) Yarv.func4
    (ChangeSpec.witness6 (enc := enc) (C := Yarv.checked) false ⟨#[], #[.slice none 0 0, .slice none 0 0], []⟩ 8 (by kernel_rfl) (by kernel_rfl) (by kernel_rfl) (by kernel_rfl)) ?_
  intro W base args ds gs before hval0 hW hcnd _
  have hval : ∀ (j : Nat) t v, Yarv.f4.params[j]? = some t → args[j]? = some v → Value.okWide Yarv.prog W .any base t v := hval0
  have hW' := hW
  obtain ⟨p, q, hA0, hV, rfl, hfz, hnd⟩ := hW
  have hA : DataW.TrodAll enc Yarv.prog W 0 (fun _ => true) true Yarv.f4.params.toList args.toList ds p := hA0
  rw [Yarv.params4] at hA hval
  obtain ⟨v0, vs0, d0, ds0, p0, q0, hargs, rfl, rfl, h0, r0⟩ := trodAll_cons hA
  obtain ⟨v1, vs1, d1, ds1, p1, q1, rfl, rfl, rfl, h1, r1⟩ := trodAll_cons r0
  obtain ⟨rfl, rfl, rfl⟩ := trodAll_nil r1
  obtain rfl : args = #[v0, v1] := by cases args; simp_all
  obtain ⟨rfl, rfl⟩ := trodVars_none hV
  obtain ⟨a0, len0, cap0, rfl⟩ := okWide_slice Yarv.underlying22 (hval 0 22 v0 rfl rfl)
  obtain ⟨a1, len1, cap1, rfl⟩ := okWide_slice Yarv.underlying22 (hval 1 22 v1 rfl rfl)
  have k0 := h0
  have k1 := h1
  have lt0 : ∀ x ∈ p0, x.block < W.heap.size := by obtain ⟨m, hm⟩ := k0; exact DataW.trod_lt m _ _ _ hm
  have lt1 : ∀ x ∈ p1, x.block < W.heap.size := by obtain ⟨m, hm⟩ := k1; exact DataW.trod_lt m _ _ _ hm
  obtain ⟨z0, s0⟩ : ∃ xs, Src W a0 len0 cap0 xs := by
    obtain ⟨fuel, hf⟩ := h0
    exact src_of (by simpa [Value.cells] using hf)
  obtain ⟨z1, s1⟩ : ∃ xs, Src W a1 len1 cap1 xs := by
    obtain ⟨fuel, hf⟩ := h1
    exact src_of (by simpa [Value.cells] using hf)
  clear hA0 hval0
  refine (lawB_any a0 len0 cap0 z0 a1 len1 cap1 z1 W s0 s1).mono fun e W' ⟨he, bel⟩ => ?_
  subst he
  exact ⟨_, rfl, _, _, _, [], _, [], hW', trodAll_mk1 (shut_bool Yarv.underlying4 _), (trodAll_cons_mk (Below.trod laidOut (by kernel_rfl) (of_decide_eq_true (by kernel_rfl)) k0 bel lt0) (trodAll_cons_mk (Below.trod laidOut (by kernel_rfl) (of_decide_eq_true (by kernel_rfl)) k1 bel lt1) trodAll_mk0)), rfl, bel.frame _, fun h => by cases h⟩

theorem lawB_over : Rows.lawS930008QABWholeRow.holds Yarv.pinned (OpenSpec.ofChange Rows.lawS930008QABWholeSpec) :=
  OpenClaim.holds_of_wide 4 Yarv.f4 rfl rfl rfl rfl rfl rfl rfl ⟨rfl, rfl, rfl, rfl, rfl⟩ rfl rfl rfl rfl rfl (by kernel_rfl) Yarv.func4 (by kernel_rfl)
    (of_decide_eq_true (by kernel_rfl)) (by unfold Func.isWrapper; first | (rw [if_pos (by decide +kernel)]; kernel_rfl) | (rw [if_neg (by decide +kernel)]; exact ⟨rfl, rfl⟩))
    (fun os started H enc _ => lawB_lifted os started H enc)

theorem lawB_proved : Rows.LawS930008QABWholeSaid := lawB_over

end Go.Proofs.Ymwhar
