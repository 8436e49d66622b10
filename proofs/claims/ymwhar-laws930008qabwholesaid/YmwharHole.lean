/-
  The plain law behind law A: a hole moved upward and siftUp come to the same list. No Go in sight.
-/
import Derived.Test.YmwharPlain
namespace Go.Proofs.Ymwhar

def hole : Nat → List It → It → List It → Nat → List It × Nat
  | 0, _, _, E, i => (E, i)
  | f + 1, H, x, E, i => if 0 < i ∧ less x (ats H ((i - 1) / 2)) = true then hole f H x (E.set i (ats H ((i - 1) / 2))) ((i - 1) / 2) else (E, i)

theorem hole_stop (f : Nat) (H : List It) (x : It) (E : List It) (i : Nat) (h : ¬ (0 < i ∧ less x (ats H ((i - 1) / 2)) = true)) : hole f H x E i = (E, i) := by
  cases f with
  | zero => rfl
  | succ f => simp only [hole]; rw [if_neg h]
theorem hole_go (f : Nat) (H : List It) (x : It) (E : List It) (i p : Nat) (hp : (i - 1) / 2 = p) (hf : 1 ≤ f) (h0 : 0 < i) (h : less x (ats H p) = true) : hole f H x E i = hole (f - 1) H x (E.set i (ats H p)) p := by
  obtain ⟨g, rfl⟩ : ∃ g, f = g + 1 := ⟨f - 1, by omega⟩
  subst hp
  simp only [hole, Nat.add_sub_cancel]
  rw [if_pos ⟨h0, h⟩]

theorem ats_set_same (xs : List It) (i : Nat) (x : It) (h : i < xs.length) : ats (xs.set i x) i = x := by
  simp [ats, h]
theorem ats_set_other (xs : List It) (i j : Nat) (x : It) (h : i ≠ j) : ats (xs.set i x) j = ats xs j := by
  simp [ats, h]

theorem up_hole (H : List It) (x : It) : ∀ (f : Nat) (E : List It) (i : Nat), i < E.length → (∀ p, p < i → ats E p = ats H p) →
    up f (E.set i x) i = ((hole f H x E i).1.set (hole f H x E i).2 x, (hole f H x E i).2)
  | 0, _, _, _, _ => rfl
  | f + 1, E, i, hi, hE => by
    by_cases hc : 0 < i ∧ less x (ats H ((i - 1) / 2)) = true
    · obtain ⟨h0, hl⟩ := hc
      have hp : (i - 1) / 2 < i := by omega
      have e1 : ats (E.set i x) i = x := ats_set_same E i x hi
      have e2 : ats (E.set i x) ((i - 1) / 2) = ats H ((i - 1) / 2) := by rw [ats_set_other E i _ x (by omega), hE _ hp]
      rw [hole_go (f + 1) H x E i _ rfl (by omega) h0 hl]
      rw [up_go (f + 1) (E.set i x) i _ rfl (by omega) h0 (by rw [e1, e2]; exact hl)]
      simp only [Nat.add_sub_cancel]
      have e3 : swp (E.set i x) i ((i - 1) / 2) = (E.set i (ats H ((i - 1) / 2))).set ((i - 1) / 2) x := by
        simp only [swp, e1, e2, List.set_set]
      rw [e3]
      refine up_hole H x f _ _ (by simp; omega) ?_
      intro p hp'
      rw [ats_set_other E i p _ (by omega)]
      exact hE p (by omega)
    · rw [hole_stop (f + 1) H x E i hc, up_stop (f + 1) (E.set i x) i]
      rintro ⟨h0, hl⟩
      rw [ats_set_same E i x hi, ats_set_other E i _ x (by omega), hE _ (by omega)] at hl
      exact hc ⟨h0, hl⟩

theorem length_hole : ∀ (f : Nat) (H : List It) (x : It) (E : List It) (i : Nat), (hole f H x E i).1.length = E.length
  | 0, _, _, _, _ => rfl
  | f + 1, H, x, E, i => by
    simp only [hole]
    split
    · rw [length_hole f]; simp
    · rfl

/-- siftUp on the heap with the new item at its end: the hole's list with the item laid into the hole. -/
theorem up_push (H : List It) (x : It) (n : Nat) (hn : H.length = n) : up n (H ++ [x]) n = ((hole n H x (H ++ [(0, 0)]) n).1.set (hole n H x (H ++ [(0, 0)]) n).2 x, (hole n H x (H ++ [(0, 0)]) n).2) := by
  have e : (H ++ [(0, 0)]).set n x = H ++ [x] := by
    rw [List.set_append_right n x (by omega), hn]; simp
  rw [← e]
  refine up_hole H x n (H ++ [(0, 0)]) n (by simp; omega) ?_
  intro p hp
  simp [ats, List.getElem?_append_left (show p < H.length by omega)]

end Go.Proofs.Ymwhar
