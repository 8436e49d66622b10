/-
  zzs930008qabcount: it counts.
-/
import Derived.Test.YmwharPush
import Derived.Test.YmwharOrder
namespace Go.Proofs.Ymwhar
open Go.RowKit
attribute [local go_sem ↓] Go.wp_at_zero Go.wp_at_succ

theorem count_step (ys : List It) (k : Nat) (x : It) (h : k < ys.length) : (ys.take (k + 1)).count x = (ys.take k).count x + if ats ys k = x then 1 else 0 := by
  rw [← List.take_append_getElem h, List.count_append, ats_getElem ys k h]
  simp [List.count_singleton]

set_option maxHeartbeats 1000000 in
theorem count_calls (g n cap : Nat) (ys : List It) (p q : Int) (hn : n ≤ 100000) (w : World) (hO : Own w g n cap ys) :
    Calls Yarv.prog 10 #[.slice (some ⟨g, 0, none⟩) n cap, .agg #[.int .i64 p, .int .u32 q]] w fun e w' => e = .returned (.int .i64 (ys.count (p, q))) ∧ Below w.heap.size w w' := by
  have HN : Hid (ys.length = n) := hO.len
  have hO1 : ∀ o, Own (w.alloc o) g n cap ys := fun o => hO.keep (T := []) ((Keeps.refl _ _).alloc o) (by simp)
  go_enter Yarv.func10, Yarv.ntmps10
  go_wp2
  go_loopg [5, 6] (n + 1) (fun gk s5 s6 wr => ∃ k m : Nat, s6 = .int .i64 k ∧ s5 = .int .i64 m ∧ k ≤ n ∧ m ≤ k ∧ n - k < gk ∧ Keeps [] (w.alloc (Obj.cells #[Value.int IntKind.i64 p, Value.int IntKind.u32 q] 28)) wr ∧ Hid (m = (ys.take k).count (p, q)))
  case atStart => exact ⟨0, 0, rfl, rfl, by omega, by omega, by omega, Keeps.refl _ _, by show _ = _; simp⟩
  case round =>
    obtain ⟨k, m, rfl, rfl, hk, hmk, hkg, hK, HM⟩ := hrel
    by_cases hkn : k < n
    · have hkn' : (k : Int) < (n : Int) := by omega
      obtain ⟨a, b, hab⟩ : ∃ a b, ats ys k = (a, b) := ⟨_, _, rfl⟩
      have hOr : Own wr g n cap ys := (hO1 _).keep hK (by simp)
      have a0 := hOr.cell0 hkn
      have a1 := hOr.cell1 hkn
      rw [hab] at a0 a1
      have b0 : wr.cell? ⟨w.heap.size, 0, none⟩ = some (.int .i64 p) := hK.cell (by simp) (by simp)
      have b1 : wr.cell? ⟨w.heap.size, 1, none⟩ = some (.int .u32 q) := hK.cell (by simp) (by simp)
      clear hO1
      have HS := count_step ys k (p, q) (by rw [HN.out]; exact hkn)
      have HS' : Hid ((ys.take (k + 1)).count (p, q) = m + if (a, b) = (p, q) then 1 else 0) := by show _ = _; rw [HS, hab, ← HM.out]
      clear HS hab HM
      by_cases hap : a = p
      · subst hap
        by_cases hbq : b = q
        · subst hbq
          go_wp2_with fail
          go_quiet (fail)
          go_wp2
          go_roundg (n - k)
          case measure => omega
          case rel => exact ⟨k + 1, m + 1, by go_num, by go_num, by omega, by omega, by omega, hK.drewN nq, show _ = _ from by rw [HS'.out]; simp⟩
        · have hbq' : (b == q) = false := by simp [hbq]
          go_wp2_with fail
          go_quiet (fail)
          go_wp2
          go_roundg (n - k)
          case measure => omega
          case rel => exact ⟨k + 1, m, by go_num, by go_num, by omega, by omega, by omega, hK.drewN nq, show _ = _ from by rw [HS'.out]; simp [hbq]⟩
      · have hap' : (a == p) = false := by simp [hap]
        go_wp2_with fail
        go_quiet (fail)
        go_wp2
        go_roundg (n - k)
        case measure => omega
        case rel => exact ⟨k + 1, m, by go_num, by go_num, by omega, by omega, by omega, hK.drewN nq, show _ = _ from by rw [HS'.out]; simp [hap]⟩
    · have hkn' : (n : Int) ≤ (k : Int) := by omega
      have hz : ys.take k = ys := List.take_of_length_le (by rw [HN.out]; omega)
      rw [hz] at HM
      clear hz
      go_wp2
      go_ret
      refine ⟨?_, ((Below.refl _ _).alloc (Nat.le_refl _) _).trans ((hK.below (Nat.le_refl _) (by simp)).mono (by simp))⟩
      rw [← HM.out]; rfl

end Go.Proofs.Ymwhar
