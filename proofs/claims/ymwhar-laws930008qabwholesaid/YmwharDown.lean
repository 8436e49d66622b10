/-
  siftDown: it computes 'down'.
-/
import Derived.Test.YmwharUp
namespace Go.Proofs.Ymwhar
open Go.RowKit
attribute [local go_sem ↓] Go.wp_at_zero Go.wp_at_succ

theorem chi_r (xs : List It) (i l r : Nat) (hl : 2 * i + 1 = l) (hr : l + 1 = r) (hn : r < xs.length) (h : less (ats xs r) (ats xs l) = true) : chi xs i = r := by
  subst hl; subst hr
  simp only [chi]
  rw [if_pos ⟨hn, h⟩]
theorem chi_l (xs : List It) (i l r : Nat) (hl : 2 * i + 1 = l) (hr : l + 1 = r) (h : ¬ (r < xs.length ∧ less (ats xs r) (ats xs l) = true)) : chi xs i = l := by
  subst hl; subst hr
  simp only [chi]
  rw [if_neg h]

theorem Keeps.drewN {T : List Nat} {a b : World} (h : Keeps T a b) : ∀ q, Keeps T a (b.drewN q)
  | 0 => h
  | q + 1 => (Keeps.drewN h q).drew
theorem Own.drewN {w : World} {g n cap : Nat} {xs : List It} (h : Own w g n cap xs) (q : Nat) : Own (w.drewN q) g n cap xs := h.keep (T := []) ((Keeps.refl _ _).drewN q) (by simp)

set_option maxHeartbeats 4000000 in
theorem siftDown_calls (g n cap : Nat) (xs : List It) (i : Nat) (hi : i < n) (hn : n ≤ 1000000) (w : World) (hown : Own w g n cap xs) :
    Calls Yarv.prog 11 #[.slice (some ⟨g, 0, none⟩) n cap, .int .i64 i] w fun e w' => e = .returned (.int .i64 (down n xs i).2) ∧ Own w' g n cap (down n xs i).1 ∧ Keeps [g] w w' := by
  go_enter Yarv.func11, Yarv.ntmps11
  go_wp2
  go_loopg [1, 6] (n + 1) (fun gk si _ wr => ∃ (k f : Nat) (ys : List It), si = .int .i64 k ∧ k < n ∧ n - k < gk ∧ n - k ≤ f ∧ Own wr g n cap ys ∧ Keeps [g] w wr ∧ Hid (down n xs i = down f ys k))
  case atStart => exact ⟨i, n, xs, rfl, hi, by omega, by omega, hown, Keeps.refl _ _, rfl⟩
  case round =>
    obtain ⟨k, f, ys, rfl, hkn, hkg, hkf, hO, hK, HE⟩ := hrel
    clear hown hi
    have HN : Hid (ys.length = n) := hO.len
    by_cases hk0 : 2 * k + 1 < n
    · have hk0' : (k : Int) < (n : Int) / 2 := by omega
      have hk2 : (k : Int) < (n : Int) := by omega
      obtain ⟨l, HL⟩ : ∃ l : Nat, Hid (2 * k + 1 = l) := ⟨_, rfl⟩
      obtain ⟨r, HR⟩ : ∃ r : Nat, Hid (l + 1 = r) := ⟨_, rfl⟩
      have hl1 : 2 * (k : Int) + 1 = (l : Int) := by have := HL.out; omega
      have hr1 : (l : Int) + 1 = (r : Int) := by have := HR.out; omega
      have hwr : IntKind.i64.wrap (r : Int) = (r : Int) := wrap_small _ (by omega) (by omega)
      have hln : l < n := by have := HL.out; omega
      have hln' : (l : Int) < (n : Int) := by omega
      have hkl : k < l := by have := HL.out; omega
      obtain ⟨a, b, hab⟩ : ∃ a b, ats ys k = (a, b) := ⟨_, _, rfl⟩
      obtain ⟨c, d, hcd⟩ : ∃ a b, ats ys l = (a, b) := ⟨_, _, rfl⟩
      have a0 := hO.cell0 hkn
      have a1 := hO.cell1 hkn
      have c0 := hO.cell0 hln
      have c1 := hO.cell1 hln
      rw [hab] at a0 a1
      rw [hcd] at c0 c1
      by_cases hrn : r < n
      · have hrn' : (r : Int) < (n : Int) := by omega
        obtain ⟨p, q, hpq⟩ : ∃ a b, ats ys r = (a, b) := ⟨_, _, rfl⟩
        have p0 := hO.cell0 hrn
        have p1 := hO.cell1 hrn
        rw [hpq] at p0 p1
        have HAB : Hid (ats ys k = (a, b)) := hab
        have HCD : Hid (ats ys l = (c, d)) := hcd
        have HPQ : Hid (ats ys r = (p, q)) := hpq
        clear hab hcd hpq
        by_cases ht : less (p, q) (c, d) = true
        · have HC : Hid (chi ys k = r) := chi_r ys k l r HL.out HR.out (by rw [HN.out]; exact hrn) (by rw [HPQ.out, HCD.out]; exact ht)
          go_wp2_with fail
          go_region_held3 (fun w' => w'.cell? ⟨g, r * 2, none⟩ = some (.int .i64 p) ∧ w'.cell? ⟨g, r * 2 + 1, none⟩ = some (.int .u32 q) ∧ w'.cell? ⟨g, l * 2, none⟩ = some (.int .i64 c) ∧ w'.cell? ⟨g, l * 2 + 1, none⟩ = some (.int .u32 d)) (first | go_keep | exact keep4 hb1 (by assumption)) (first | (go_at_call 14; refine (less_calls _ _ _ _ _).mono ?_; rintro e w1 ⟨rfl, hb1⟩))
          have hK1 : Keeps [g] w w1 := hK.trans (Keeps.of_below hb1).of_drew
          have hO1 : Own w1 g n cap ys := hO.keep (T := []) (Keeps.of_below hb1).of_drew (by simp)
          have x0 : w1.cell? ⟨g, k * 2, none⟩ = some (.int .i64 a) := by have := hO1.cell0 hkn; rwa [HAB.out] at this
          have x1 : w1.cell? ⟨g, k * 2 + 1, none⟩ = some (.int .u32 b) := by have := hO1.cell1 hkn; rwa [HAB.out] at this
          have y0 : w1.cell? ⟨g, r * 2, none⟩ = some (.int .i64 p) := by have := hO1.cell0 hrn; rwa [HPQ.out] at this
          have y1 : w1.cell? ⟨g, r * 2 + 1, none⟩ = some (.int .u32 q) := by have := hO1.cell1 hrn; rwa [HPQ.out] at this
          clear a0 a1 c0 c1 p0 p1
          go_wp2_with fail
          by_cases hx : less (p, q) (a, b) = true
          · have HG : Hid (down n xs i = down (f - 1) (swp ys k r) r) := by
              show _ = _
              rw [HE.out]
              exact down_go f ys k r HC.out (by omega) (by rw [HN.out]; exact hk0) (by rw [HPQ.out, HAB.out]; exact hx)
            clear HE
            go_region_held3 (fun w' => w'.cell? ⟨g, r * 2, none⟩ = some (.int .i64 p) ∧ w'.cell? ⟨g, r * 2 + 1, none⟩ = some (.int .u32 q) ∧ w'.cell? ⟨g, k * 2, none⟩ = some (.int .i64 a) ∧ w'.cell? ⟨g, k * 2 + 1, none⟩ = some (.int .u32 b)) (first | go_keep | exact keep4 hb2 (by assumption)) (first | (go_at_call 14; refine (less_calls _ _ _ _ _).mono ?_; rintro e w2 ⟨rfl, hb2⟩))
            have hk2' : Keeps [g] w w2 := hK1.trans (Keeps.of_below hb2).of_drew
            have hO2 : Own w2 g n cap ys := hO1.keep (T := []) (Keeps.of_below hb2).of_drew (by simp)
            rename_i hHeld
            obtain ⟨x0, x1, y0, y1⟩ := hHeld
            have f0 := hO2.free (k * 2)
            have f1 := hO2.free (k * 2 + 1)
            have f2 := hO2.free (r * 2)
            have f3 := hO2.free (r * 2 + 1)
            go_wp2_with fail
            go_region
            go_wp2
            go_roundg (n - r + 1)
            case measure => omega
            case rel => exact ⟨r, f - 1, swp ys k r, by go_num, hrn, by omega, by omega, hO2.swap k r HAB.out HPQ.out, hk2'.swap _ _ _ _ _ _ _ _, HG⟩
          · have hx' : less (p, q) (a, b) = false := by simpa using hx
            have HU : Hid (down n xs i = (ys, k)) := by
              show _ = _
              rw [HE.out]
              refine down_stop f ys k ?_
              rw [HC.out, HPQ.out, HAB.out, hx']
              simp
            clear hx HE
            go_region_held3 (fun w' => w'.cell? ⟨g, r * 2, none⟩ = some (.int .i64 p) ∧ w'.cell? ⟨g, r * 2 + 1, none⟩ = some (.int .u32 q) ∧ w'.cell? ⟨g, k * 2, none⟩ = some (.int .i64 a) ∧ w'.cell? ⟨g, k * 2 + 1, none⟩ = some (.int .u32 b)) (first | go_keep | exact keep4 hb2 (by assumption)) (first | (go_at_call 14; refine (less_calls _ _ _ _ _).mono ?_; rintro e w2 ⟨rfl, hb2⟩))
            have hk2' : Keeps [g] w w2 := hK1.trans (Keeps.of_below hb2).of_drew
            have hO2 : Own w2 g n cap ys := hO1.keep (T := []) (Keeps.of_below hb2).of_drew (by simp)
            go_wp2
            go_ret
            rw [HU.out]
            exact ⟨rfl, hO2, hk2'⟩
        · have ht' : less (p, q) (c, d) = false := by simpa using ht
          have HC : Hid (chi ys k = l) := chi_l ys k l r HL.out HR.out (by rw [HPQ.out, HCD.out, ht']; simp)
          clear ht
          go_wp2_with fail
          go_region_held3 (fun w' => w'.cell? ⟨g, r * 2, none⟩ = some (.int .i64 p) ∧ w'.cell? ⟨g, r * 2 + 1, none⟩ = some (.int .u32 q) ∧ w'.cell? ⟨g, l * 2, none⟩ = some (.int .i64 c) ∧ w'.cell? ⟨g, l * 2 + 1, none⟩ = some (.int .u32 d)) (first | go_keep | exact keep4 hb1 (by assumption)) (first | (go_at_call 14; refine (less_calls _ _ _ _ _).mono ?_; rintro e w1 ⟨rfl, hb1⟩))
          have hK1 : Keeps [g] w w1 := hK.trans (Keeps.of_below hb1).of_drew
          have hO1 : Own w1 g n cap ys := hO.keep (T := []) (Keeps.of_below hb1).of_drew (by simp)
          have x0 : w1.cell? ⟨g, k * 2, none⟩ = some (.int .i64 a) := by have := hO1.cell0 hkn; rwa [HAB.out] at this
          have x1 : w1.cell? ⟨g, k * 2 + 1, none⟩ = some (.int .u32 b) := by have := hO1.cell1 hkn; rwa [HAB.out] at this
          have y0 : w1.cell? ⟨g, l * 2, none⟩ = some (.int .i64 c) := by have := hO1.cell0 hln; rwa [HCD.out] at this
          have y1 : w1.cell? ⟨g, l * 2 + 1, none⟩ = some (.int .u32 d) := by have := hO1.cell1 hln; rwa [HCD.out] at this
          clear a0 a1 c0 c1 p0 p1
          go_wp2_with fail
          by_cases hx : less (c, d) (a, b) = true
          · have HG : Hid (down n xs i = down (f - 1) (swp ys k l) l) := by
              show _ = _
              rw [HE.out]
              exact down_go f ys k l HC.out (by omega) (by rw [HN.out]; exact hk0) (by rw [HCD.out, HAB.out]; exact hx)
            clear HE
            go_region_held3 (fun w' => w'.cell? ⟨g, l * 2, none⟩ = some (.int .i64 c) ∧ w'.cell? ⟨g, l * 2 + 1, none⟩ = some (.int .u32 d) ∧ w'.cell? ⟨g, k * 2, none⟩ = some (.int .i64 a) ∧ w'.cell? ⟨g, k * 2 + 1, none⟩ = some (.int .u32 b)) (first | go_keep | exact keep4 hb2 (by assumption)) (first | (go_at_call 14; refine (less_calls _ _ _ _ _).mono ?_; rintro e w2 ⟨rfl, hb2⟩))
            have hk2' : Keeps [g] w w2 := hK1.trans (Keeps.of_below hb2).of_drew
            have hO2 : Own w2 g n cap ys := hO1.keep (T := []) (Keeps.of_below hb2).of_drew (by simp)
            rename_i hHeld
            obtain ⟨x0, x1, y0, y1⟩ := hHeld
            have f0 := hO2.free (k * 2)
            have f1 := hO2.free (k * 2 + 1)
            have f2 := hO2.free (l * 2)
            have f3 := hO2.free (l * 2 + 1)
            go_wp2_with fail
            go_region
            go_wp2
            go_roundg (n - l + 1)
            case measure => omega
            case rel => exact ⟨l, f - 1, swp ys k l, by go_num, hln, by omega, by omega, hO2.swap k l HAB.out HCD.out, hk2'.swap _ _ _ _ _ _ _ _, HG⟩
          · have hx' : less (c, d) (a, b) = false := by simpa using hx
            have HU : Hid (down n xs i = (ys, k)) := by
              show _ = _
              rw [HE.out]
              refine down_stop f ys k ?_
              rw [HC.out, HCD.out, HAB.out, hx']
              simp
            clear hx HE
            go_region_held3 (fun w' => w'.cell? ⟨g, l * 2, none⟩ = some (.int .i64 c) ∧ w'.cell? ⟨g, l * 2 + 1, none⟩ = some (.int .u32 d) ∧ w'.cell? ⟨g, k * 2, none⟩ = some (.int .i64 a) ∧ w'.cell? ⟨g, k * 2 + 1, none⟩ = some (.int .u32 b)) (first | go_keep | exact keep4 hb2 (by assumption)) (first | (go_at_call 14; refine (less_calls _ _ _ _ _).mono ?_; rintro e w2 ⟨rfl, hb2⟩))
            have hk2' : Keeps [g] w w2 := hK1.trans (Keeps.of_below hb2).of_drew
            have hO2 : Own w2 g n cap ys := hO1.keep (T := []) (Keeps.of_below hb2).of_drew (by simp)
            go_wp2
            go_ret
            rw [HU.out]
            exact ⟨rfl, hO2, hk2'⟩
      · have hrn' : decide ((r : Int) < (n : Int)) = false := by simp; omega
        have HAB : Hid (ats ys k = (a, b)) := hab
        have HCD : Hid (ats ys l = (c, d)) := hcd
        clear hab hcd
        have HC : Hid (chi ys k = l) := chi_l ys k l r HL.out HR.out (by rw [HN.out]; exact fun h => hrn h.1)
        go_wp2_with fail
        go_quiet (fail)
        go_wp2_with fail
        have hK1 : Keeps [g] w (wr.drewN nq) := hK.drewN _
        have hO1 : Own (wr.drewN nq) g n cap ys := hO.drewN _
        have x0 : (wr.drewN nq).cell? ⟨g, k * 2, none⟩ = some (.int .i64 a) := by have := hO1.cell0 hkn; rwa [HAB.out] at this
        have x1 : (wr.drewN nq).cell? ⟨g, k * 2 + 1, none⟩ = some (.int .u32 b) := by have := hO1.cell1 hkn; rwa [HAB.out] at this
        have y0 : (wr.drewN nq).cell? ⟨g, l * 2, none⟩ = some (.int .i64 c) := by have := hO1.cell0 hln; rwa [HCD.out] at this
        have y1 : (wr.drewN nq).cell? ⟨g, l * 2 + 1, none⟩ = some (.int .u32 d) := by have := hO1.cell1 hln; rwa [HCD.out] at this
        generalize wr.drewN nq = w1 at *
        clear a0 a1 c0 c1
        by_cases hx : less (c, d) (a, b) = true
        · have HG : Hid (down n xs i = down (f - 1) (swp ys k l) l) := by
            show _ = _
            rw [HE.out]
            exact down_go f ys k l HC.out (by omega) (by rw [HN.out]; exact hk0) (by rw [HCD.out, HAB.out]; exact hx)
          clear HE
          go_region_held3 (fun w' => w'.cell? ⟨g, l * 2, none⟩ = some (.int .i64 c) ∧ w'.cell? ⟨g, l * 2 + 1, none⟩ = some (.int .u32 d) ∧ w'.cell? ⟨g, k * 2, none⟩ = some (.int .i64 a) ∧ w'.cell? ⟨g, k * 2 + 1, none⟩ = some (.int .u32 b)) (first | go_keep | exact keep4 hb2 (by assumption)) (first | (go_at_call 14; refine (less_calls _ _ _ _ _).mono ?_; rintro e w2 ⟨rfl, hb2⟩))
          have hk2' : Keeps [g] w w2 := hK1.trans (Keeps.of_below hb2).of_drew
          have hO2 : Own w2 g n cap ys := hO1.keep (T := []) (Keeps.of_below hb2).of_drew (by simp)
          rename_i hHeld
          obtain ⟨x0, x1, y0, y1⟩ := hHeld
          have f0 := hO2.free (k * 2)
          have f1 := hO2.free (k * 2 + 1)
          have f2 := hO2.free (l * 2)
          have f3 := hO2.free (l * 2 + 1)
          go_wp2_with fail
          go_region
          go_wp2
          go_roundg (n - l + 1)
          case measure => omega
          case rel => exact ⟨l, f - 1, swp ys k l, by go_num, hln, by omega, by omega, hO2.swap k l HAB.out HCD.out, hk2'.swap _ _ _ _ _ _ _ _, HG⟩
        · have hx' : less (c, d) (a, b) = false := by simpa using hx
          have HU : Hid (down n xs i = (ys, k)) := by
            show _ = _
            rw [HE.out]
            refine down_stop f ys k ?_
            rw [HC.out, HCD.out, HAB.out, hx']
            simp
          clear hx HE
          go_region_held3 (fun w' => w'.cell? ⟨g, l * 2, none⟩ = some (.int .i64 c) ∧ w'.cell? ⟨g, l * 2 + 1, none⟩ = some (.int .u32 d) ∧ w'.cell? ⟨g, k * 2, none⟩ = some (.int .i64 a) ∧ w'.cell? ⟨g, k * 2 + 1, none⟩ = some (.int .u32 b)) (first | go_keep | exact keep4 hb2 (by assumption)) (first | (go_at_call 14; refine (less_calls _ _ _ _ _).mono ?_; rintro e w2 ⟨rfl, hb2⟩))
          have hk2' : Keeps [g] w w2 := hK1.trans (Keeps.of_below hb2).of_drew
          have hO2 : Own w2 g n cap ys := hO1.keep (T := []) (Keeps.of_below hb2).of_drew (by simp)
          go_wp2
          go_ret
          rw [HU.out]
          exact ⟨rfl, hO2, hk2'⟩
    · have hk0' : (n : Int) / 2 ≤ (k : Int) := by omega
      have HU : Hid (down n xs i = (ys, k)) := by
        show _ = _
        rw [HE.out]
        exact down_stop f ys k (by rw [HN.out]; exact fun h => hk0 h.1)
      clear HE
      go_wp2
      go_ret
      rw [HU.out]
      exact ⟨rfl, hO, hK⟩

end Go.Proofs.Ymwhar

