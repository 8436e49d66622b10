/-
  FromItems: it computes 'heapify'.
-/
import Derived.Test.YmwharDown
import Derived.Test.YmwharOwn
namespace Go.Proofs.Ymwhar
open Go.RowKit
attribute [local go_sem ↓] Go.wp_at_zero Go.wp_at_succ

set_option maxHeartbeats 1000000 in
theorem fromItems_calls (ao : Option Addr) (n c : Nat) (xs : List It) (hn : n ≤ 1000000) (w : World) (hsrc : Src w ao n c xs) :
    Calls Yarv.prog 5 #[.slice ao n c] w fun e w' => ∃ g, e = .returned (.agg #[.slice (some ⟨g, 0, none⟩) n n]) ∧ Own w' g n n (heapify (n / 2) xs) ∧ Keeps [] w w' ∧ w.heap.size ≤ g := by
  have HN : Hid (xs.length = n) := hsrc.1
  have hs1 := fun o => hsrc.below (w' := w.alloc o) ((Below.refl _ _).alloc (Nat.le_refl _) o)
  go_enter Yarv.func5, Yarv.ntmps5
  go_wp2_with (first
    | (at_make; refine wpList_make_items rfl (.tmp 6) (.tmp 6) rfl _ _ n rfl rfl (by omega) (by omega) hn (w.heap.size + 1) (by simp) ?_; intro w1 hO1 hK1 hz1)
    | (refine wpList_copy_items rfl (.tmp 8) (.tmp 9) rfl (w.heap.size + 1) n n ao n c rfl rfl xs _ hO1 ((hs1 _).keep hK1 (by simp)) (Nat.le_refl _) ?_; intro w2 hO2 hK2))
  have hO2' : Own w2 (w.heap.size + 1) n n xs := by simpa using hO2
  have hK12 : Keeps [w.heap.size + 1] (w.alloc (Obj.cells #[Value.slice none 0 0] 25)) w2 := (hK1.mono (by simp)).trans hK2
  have hc2 : w2.cell? ⟨w.heap.size, 0, none⟩ = some (.slice none 0 0) := hK12.cell (by simp) (by simp)
  have hf2 : w2.frozen? ⟨w.heap.size, 0, none⟩ = false := by rw [hK12.frozen (by simp) (by simp)]; simp
  have hKw : Keeps [w.heap.size + 1] w w2 := (((Keeps.refl _ _).alloc _).trans hK12)
  have hlt2 : w.heap.size < w2.heap.size := by have := hK12.size; simp at this; omega
  clear hs1 hsrc hO2 hO1 hK1 hK2 hK12 hz1
  go_loopg [4] (n + 1) (fun gk s4 wr => ∃ (k : Nat) (z : Int) (ys : List It), s4 = .int .i64 z ∧ z = (k : Int) - 1 ∧ k ≤ n / 2 ∧ k < gk ∧ Own wr (w.heap.size + 1) n n ys ∧ Keeps [w.heap.size + 1] w2 wr ∧ Hid (heapify (n / 2) xs = heapify k ys))
  case atStart => exact ⟨n / 2, _, xs, rfl, by omega, by omega, by omega, hO2', Keeps.refl _ _, rfl⟩
  case round =>
    obtain ⟨k, z, ys, rfl, hz, hk, hkg, hO, hK, HE⟩ := hrel
    cases k with
    | succ j =>
      obtain rfl : z = (j : Int) := by omega
      clear hz
      have hjn : j < n := by omega
      have HE' : Hid (heapify (n / 2) xs = heapify j (down n ys j).1) := by
        show _ = _
        rw [HE.out]; show heapify j (down ys.length ys j).1 = _; rw [hO.len]
      clear HE
      go_wp2_with (go_at_call 11; refine (siftDown_calls (w.heap.size + 1) n n ys j hjn hn wr hO).mono ?_; rintro e w3 ⟨rfl, hO3, hK3⟩)
      go_roundg (j + 1)
      case measure => omega
      case rel => exact ⟨j, _, _, rfl, rfl, by omega, Nat.lt_succ_self j, hO3, hK.trans hK3, HE'⟩
    | zero =>
      have hz0 : z < 0 := by omega
      have hc3 := hK.cell hc2 (by simp)
      have hf3 : wr.frozen? ⟨w.heap.size, 0, none⟩ = false := by rw [hK.frozen hlt2 (by simp)]; exact hf2
      clear hz
      go_wp2
      refine bodyPost_ret (v := .agg #[.slice (some ⟨w.heap.size + 1, 0, none⟩) n n]) (by simp [results, Yarv.results5, go_sem, hc3]) rfl ⟨w.heap.size + 1, rfl, ?_, ?_, by omega⟩
      · rw [HE.out]
        show Own _ _ _ _ ys
        exact hO.keep (T := [w.heap.size]) ((Keeps.refl _ _).setCell (by simp) _) (by simp)
      · refine Keeps.drop (T := [w.heap.size, w.heap.size + 1]) ?_ (by simp)
        exact ((hKw.trans hK).mono (by simp)).setCell (by simp) _

end Go.Proofs.Ymwhar
