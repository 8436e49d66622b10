/-
  The plain functions that the Go text computes. No Go in sight.
-/
import Derived.KernelRfl
namespace Go.Proofs.Ymwhar

/-- An item: its priority and its id. -/
abbrev It := Int × Int
def ats (xs : List It) (i : Nat) : It := xs.getD i (0, 0)
def less (x y : It) : Bool := if x.1 = y.1 then decide (x.2 < y.2) else decide (x.1 < y.1)
def swp (xs : List It) (i j : Nat) : List It := (xs.set i (ats xs j)).set j (ats xs i)
/-- siftUp: the list and the place behind it. -/
def up : Nat → List It → Nat → List It × Nat
  | 0, xs, i => (xs, i)
  | f + 1, xs, i => if 0 < i ∧ less (ats xs i) (ats xs ((i - 1) / 2)) = true then up f (swp xs i ((i - 1) / 2)) ((i - 1) / 2) else (xs, i)
/-- The child that siftDown looks at. -/
def chi (xs : List It) (i : Nat) : Nat := if 2 * i + 2 < xs.length ∧ less (ats xs (2 * i + 2)) (ats xs (2 * i + 1)) = true then 2 * i + 2 else 2 * i + 1
/-- siftDown: the list and the place behind it. -/
def down : Nat → List It → Nat → List It × Nat
  | 0, xs, i => (xs, i)
  | f + 1, xs, i => if 2 * i + 1 < xs.length ∧ less (ats xs (chi xs i)) (ats xs i) = true then down f (swp xs i (chi xs i)) (chi xs i) else (xs, i)

theorem length_swp (xs : List It) (i j : Nat) : (swp xs i j).length = xs.length := by simp [swp]

theorem up_stop (f : Nat) (xs : List It) (i : Nat) (h : ¬ (0 < i ∧ less (ats xs i) (ats xs ((i - 1) / 2)) = true)) : up f xs i = (xs, i) := by
  cases f with
  | zero => rfl
  | succ f => simp only [up]; rw [if_neg h]
theorem up_go (f : Nat) (xs : List It) (i p : Nat) (hp : (i - 1) / 2 = p) (hf : 1 ≤ f) (h0 : 0 < i) (h : less (ats xs i) (ats xs p) = true) : up f xs i = up (f - 1) (swp xs i p) p := by
  obtain ⟨g, rfl⟩ : ∃ g, f = g + 1 := ⟨f - 1, by omega⟩
  subst hp
  simp only [up, Nat.add_sub_cancel]
  rw [if_pos ⟨h0, h⟩]
theorem down_stop (f : Nat) (xs : List It) (i : Nat) (h : ¬ (2 * i + 1 < xs.length ∧ less (ats xs (chi xs i)) (ats xs i) = true)) : down f xs i = (xs, i) := by
  cases f with
  | zero => rfl
  | succ f => simp only [down]; rw [if_neg h]
theorem down_go (f : Nat) (xs : List It) (i c : Nat) (hc : chi xs i = c) (hf : 1 ≤ f) (h0 : 2 * i + 1 < xs.length) (h : less (ats xs c) (ats xs i) = true) : down f xs i = down (f - 1) (swp xs i c) c := by
  obtain ⟨g, rfl⟩ : ∃ g, f = g + 1 := ⟨f - 1, by omega⟩
  subst hc
  simp only [down, Nat.add_sub_cancel]
  rw [if_pos ⟨h0, h⟩]

theorem length_up : ∀ (f : Nat) (xs : List It) (i : Nat), (up f xs i).1.length = xs.length
  | 0, _, _ => rfl
  | f + 1, xs, i => by
    simp only [up]
    split
    · rw [length_up f, length_swp]
    · rfl
theorem length_down : ∀ (f : Nat) (xs : List It) (i : Nat), (down f xs i).1.length = xs.length
  | 0, _, _ => rfl
  | f + 1, xs, i => by
    simp only [down]
    split
    · rw [length_down f, length_swp]
    · rfl

/-- FromItems: siftDown at each place from k - 1 down to 0. -/
def heapify : Nat → List It → List It
  | 0, xs => xs
  | k + 1, xs => heapify k (down xs.length xs k).1
theorem heapify_length : ∀ (k : Nat) (xs : List It), (heapify k xs).length = xs.length
  | 0, _ => rfl
  | k + 1, xs => by simp only [heapify]; rw [heapify_length k, length_down]

end Go.Proofs.Ymwhar
