/-
  The three orders: each a contract. They box their two arguments: new blocks, nothing old turned.
-/
import Derived.Test.YmwharMem
namespace Go.Proofs.Ymwhar
open Go.RowKit

theorem two_new (w : World) (a b : Obj) : Below w.heap.size w ((w.alloc a).alloc b) :=
  ((Below.refl _ _).alloc (Nat.le_refl _) _).alloc (by simp) _

theorem less_calls (p q r s : Int) (w : World) :
    Calls Yarv.prog 14 #[.agg #[.int .i64 p, .int .u32 q], .agg #[.int .i64 r, .int .u32 s]] w fun e w' => e = .returned (.bool (less (p, q) (r, s))) ∧ Below w.heap.size w w' := by
  by_cases h : p = r
  · have hb : (p != r) = false := by simp [h]
    have hl : Hid (less (p, q) (r, s) = decide (q < s)) := by show _ = _; simp [less, h]
    clear h
    go_enter Yarv.func14, Yarv.ntmps14
    go_wp2
    go_ret
    exact ⟨by rw [hl.out]; rfl, two_new _ _ _⟩
  · have hb : (p != r) = true := by simp [h]
    have hl : Hid (less (p, q) (r, s) = decide (p < r)) := by show _ = _; simp [less, h]
    clear h
    go_enter Yarv.func14, Yarv.ntmps14
    go_wp2
    go_ret
    exact ⟨by rw [hl.out]; rfl, two_new _ _ _⟩

theorem lessB_calls (p q r s : Int) (w : World) :
    Calls Yarv.prog 9 #[.agg #[.int .i64 p, .int .u32 q], .agg #[.int .i64 r, .int .u32 s]] w fun e w' => e = .returned (.bool (less (p, q) (r, s))) ∧ Below w.heap.size w w' := by
  by_cases h : p = r
  · have hb : (p != r) = false := by simp [h]
    have hl : Hid (less (p, q) (r, s) = decide (q < s)) := by show _ = _; simp [less, h]
    clear h
    go_enter Yarv.func9, Yarv.ntmps9
    go_wp2
    go_ret
    exact ⟨by rw [hl.out]; rfl, two_new _ _ _⟩
  · have hb : (p != r) = true := by simp [h]
    have hl : Hid (less (p, q) (r, s) = decide (p < r)) := by show _ = _; simp [less, h]
    clear h
    go_enter Yarv.func9, Yarv.ntmps9
    go_wp2
    go_ret
    exact ⟨by rw [hl.out]; rfl, two_new _ _ _⟩

theorem lessA_calls (p q r s : Int) (w : World) :
    Calls Yarv.prog 6 #[.agg #[.int .i64 p, .int .u32 q], .agg #[.int .i64 r, .int .u32 s]] w fun e w' => e = .returned (.bool (less (p, q) (r, s))) ∧ Below w.heap.size w w' := by
  by_cases h1 : p < r
  · have hl : Hid (less (p, q) (r, s) = true) := by show _ = _; simp [less, show ¬ p = r from by omega, h1]
    go_enter Yarv.func6, Yarv.ntmps6
    go_wp2
    go_ret
    exact ⟨by rw [hl.out]; rfl, two_new _ _ _⟩
  · by_cases h2 : r < p
    · have hl : Hid (less (p, q) (r, s) = false) := by show _ = _; simp [less, show ¬ p = r from by omega, h1]
      go_enter Yarv.func6, Yarv.ntmps6
      go_wp2
      go_ret
      exact ⟨by rw [hl.out]; rfl, two_new _ _ _⟩
    · have hl : Hid (less (p, q) (r, s) = decide (q < s)) := by show _ = _; simp [less, show p = r from by omega]
      go_enter Yarv.func6, Yarv.ntmps6
      go_wp2
      go_ret
      exact ⟨by rw [hl.out]; rfl, two_new _ _ _⟩

end Go.Proofs.Ymwhar
