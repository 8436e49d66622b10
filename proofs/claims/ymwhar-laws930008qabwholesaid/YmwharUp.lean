import Derived.Test.YmwharLess
import Derived.WalkLawsBesides
import Derived.Deep.LoopGhost
import Derived.Deep.RegionHeld3
import Derived.Deep.DrawnRows
import Derived.Deep.QuietTactic
import Derived.BigRegion
import Derived.BigQuiet
namespace Go.Proofs.Ymwhar
open Go.RowKit
attribute [local go_sem ↓] Go.wp_at_zero Go.wp_at_succ

theorem Own.swap {w : World} {g n cap : Nat} {xs : List It} (h : Own w g n cap xs) (i j : Nat) {a b c d : Int} (hab : ats xs i = (a, b)) (hcd : ats xs j = (c, d)) :
    Own ((((w.setCell ⟨g, i * 2, none⟩ (.int .i64 c)).setCell ⟨g, i * 2 + 1, none⟩ (.int .u32 d)).setCell ⟨g, j * 2, none⟩ (.int .i64 a)).setCell ⟨g, j * 2 + 1, none⟩ (.int .u32 b)).drew g n cap (swp xs i j) := by
  have h1 := h.set i (c, d)
  have h2 := (h1.set j (a, b)).drew
  unfold swp
  rw [hab, hcd]
  exact h2
theorem Keeps.swap {w v : World} {g : Nat} (h : Keeps [g] v w) (p q r s : Nat) (a b c d : Value) :
    Keeps [g] v ((((w.setCell ⟨g, p, none⟩ a).setCell ⟨g, q, none⟩ b).setCell ⟨g, r, none⟩ c).setCell ⟨g, s, none⟩ d).drew :=
  ((((h.setCell (by simp) _).setCell (by simp) _).setCell (by simp) _).setCell (by simp) _).drew
theorem ret_i {a b : Int} (h : a = b) : Ending.returned (.int .i64 a) = .returned (.int .i64 b) := by rw [h]

set_option maxHeartbeats 1000000 in
theorem siftUp_calls (g n cap : Nat) (xs : List It) (i : Nat) (hi : i < n) (hn : n ≤ 1000000) (w : World) (hown : Own w g n cap xs) :
    Calls Yarv.prog 12 #[.slice (some ⟨g, 0, none⟩) n cap, .int .i64 i] w fun e w' => e = .returned (.int .i64 (up i xs i).2) ∧ Own w' g n cap (up i xs i).1 ∧ Keeps [g] w w' := by
  go_enter Yarv.func12, Yarv.ntmps12
  go_wp2
  go_loopg [1] (n + 1) (fun gk si wr => ∃ (k f : Nat) (ys : List It), si = .int .i64 k ∧ k < n ∧ k < gk ∧ k ≤ f ∧ Own wr g n cap ys ∧ Keeps [g] w wr ∧ Hid (up i xs i = up f ys k))
  case atStart => exact ⟨i, i, xs, rfl, hi, by omega, by omega, hown, Keeps.refl _ _, rfl⟩
  case round =>
    obtain ⟨k, f, ys, rfl, hkn, hkg, hkf, hO, hK, HE⟩ := hrel
    clear hown hi
    by_cases hk0 : 0 < k
    · have hk0' : (0 : Int) < (k : Int) := by omega
      obtain ⟨p, hp⟩ : ∃ p : Nat, ((k : Int) - 1) / 2 = (p : Int) := ⟨(k - 1) / 2, by omega⟩
      have hpk : p < k := by omega
      have HP : Hid ((k - 1) / 2 = p) := by show _ = _; omega
      have hpk1 : (p : Int) < (n : Int) := by omega
      have hpk2 : (k : Int) < (n : Int) := by omega
      have hpk3 : p < n := by omega
      obtain ⟨a, b, hab⟩ : ∃ a b, ats ys k = (a, b) := ⟨_, _, rfl⟩
      obtain ⟨c, d, hcd⟩ : ∃ a b, ats ys p = (a, b) := ⟨_, _, rfl⟩
      have c0 := hO.cell0 hkn
      have c1 := hO.cell1 hkn
      have d0 := hO.cell0 hpk3
      have d1 := hO.cell1 hpk3
      rw [hab] at c0 c1
      rw [hcd] at d0 d1
      by_cases hl : less (a, b) (c, d) = true
      · have HL : Hid (less (ats ys k) (ats ys p) = true) := by show _ = _; rw [hab, hcd]; exact hl
        have HAB : Hid (ats ys k = (a, b)) := hab
        have HCD : Hid (ats ys p = (c, d)) := hcd
        clear hab hcd
        go_wp2_with fail
        go_region_held3 (fun w' => w'.cell? ⟨g, k * 2, none⟩ = some (.int .i64 a) ∧ w'.cell? ⟨g, k * 2 + 1, none⟩ = some (.int .u32 b) ∧ w'.cell? ⟨g, p * 2, none⟩ = some (.int .i64 c) ∧ w'.cell? ⟨g, p * 2 + 1, none⟩ = some (.int .u32 d)) (first | go_keep | exact keep4 hb1 (by assumption)) (first | (go_at_call 14; refine (less_calls _ _ _ _ _).mono ?_; rintro e w1 ⟨rfl, hb1⟩))
        have hk1 : Keeps [g] wr w1 := (Keeps.of_below hb1).of_drew
        have hO1 : Own w1 g n cap ys := hO.keep (T := []) (Keeps.of_below hb1).of_drew (by simp)
        rename_i hHeld
        obtain ⟨c0, c1, d0, d1⟩ := hHeld
        have f0 := hO1.free (k * 2)
        have f1 := hO1.free (k * 2 + 1)
        have f2 := hO1.free (p * 2)
        have f3 := hO1.free (p * 2 + 1)
        go_wp2_with fail
        go_region
        go_wp2
        go_roundg (p + 1)
        case measure => omega
        case rel => exact ⟨p, f - 1, swp ys k p, rfl, hpk3, Nat.lt_succ_self p, by omega, hO1.swap k p HAB.out HCD.out, (hK.trans hk1).swap _ _ _ _ _ _ _ _, show _ = _ from HE.out.trans (up_go f ys k p HP.out (by omega) hk0 HL.out)⟩
      · have hl' : less (a, b) (c, d) = false := by simpa using hl
        have HU : Hid (up i xs i = (ys, k)) := by
          show _ = _
          rw [HE.out]
          refine up_stop f ys k ?_
          rw [HP.out, hab, hcd, hl']
          simp
        clear hab hcd hl
        go_wp2_with fail
        go_region_held3 (fun w' => w'.cell? ⟨g, k * 2, none⟩ = some (.int .i64 a) ∧ w'.cell? ⟨g, k * 2 + 1, none⟩ = some (.int .u32 b) ∧ w'.cell? ⟨g, p * 2, none⟩ = some (.int .i64 c) ∧ w'.cell? ⟨g, p * 2 + 1, none⟩ = some (.int .u32 d)) (first | go_keep | exact keep4 hb1 (by assumption)) (first | (go_at_call 14; refine (less_calls _ _ _ _ _).mono ?_; rintro e w1 ⟨rfl, hb1⟩))
        have hk1 : Keeps [g] wr w1 := (Keeps.of_below hb1).of_drew
        have hO1 : Own w1 g n cap ys := hO.keep (T := []) (Keeps.of_below hb1).of_drew (by simp)
        go_wp2
        go_ret
        rw [HU.out]
        exact ⟨rfl, hO1, hK.trans hk1⟩
    · have hz : k = 0 := by omega
      have HU : Hid (up i xs i = (ys, 0)) := by
        show _ = _
        rw [HE.out, hz]
        exact up_stop f ys 0 (by simp)
      subst hz
      clear HE
      go_wp2
      go_ret
      rw [HU.out]
      exact ⟨rfl, hO, hK⟩

end Go.Proofs.Ymwhar
