/-
  The walk of law A.
-/
import Derived.Test.YmwharPush
import Derived.Test.YmwharHole
namespace Go.Proofs.Ymwhar
open Go.RowKit
attribute [local go_sem ↓] Go.wp_at_zero Go.wp_at_succ

/-- What lies where, in law A, ahead of the Push. -/
structure StA (W : World) (hb g bg ib eg n : Nat) (H E : List It) (p q : Int) : Prop where
  heap : HeapAt W hb g n n H
  before : Own W bg n n H
  it0 : W.cell? ⟨ib, 0, none⟩ = some (.int .i64 p)
  it1 : W.cell? ⟨ib, 1, none⟩ = some (.int .u32 q)
  exp : Own W eg (n + 1) (n + 1) E
  d1 : hb ≠ eg
  d2 : g ≠ eg
  d3 : bg ≠ eg
  d4 : ib ≠ eg

section
variable {W W' : World} {hb g bg ib eg n : Nat} {H E : List It} {p q : Int}
theorem StA.keep (h : StA W hb g bg ib eg n H E p q) (hk : Keeps [] W W') : StA W' hb g bg ib eg n H E p q :=
  ⟨h.heap.keep hk (by simp) (by simp), h.before.keep hk (by simp), hk.cell h.it0 (by simp), hk.cell h.it1 (by simp), h.exp.keep hk (by simp), h.d1, h.d2, h.d3, h.d4⟩
theorem StA.store (h : StA W hb g bg ib eg n H E p q) (i : Nat) (a b : Int) : StA ((W.setCell ⟨eg, i * 2, none⟩ (.int .i64 a)).setCell ⟨eg, i * 2 + 1, none⟩ (.int .u32 b)) hb g bg ib eg n H (E.set i (a, b)) p q := by
  have hk : Keeps [eg] W ((W.setCell ⟨eg, i * 2, none⟩ (.int .i64 a)).setCell ⟨eg, i * 2 + 1, none⟩ (.int .u32 b)) := ((Keeps.refl _ _).setCell (by simp) _).setCell (by simp) _
  exact ⟨h.heap.keep hk (by simpa using h.d1) (by simpa using h.d2), h.before.keep hk (by simpa using h.d3), hk.cell h.it0 (by simpa using h.d4), hk.cell h.it1 (by simpa using h.d4), h.exp.set i (a, b), h.d1, h.d2, h.d3, h.d4⟩
end

set_option maxHeartbeats 2000000 in
theorem lawA_walk (ao : Option Addr) (n c : Nat) (xs : List It) (p q : Int) (hn : n ≤ 1024) (w : World) (hsrc : Src w ao n c xs) :
    Calls Yarv.prog 3 #[.slice ao n c, .int .i64 p, .int .u32 q] w fun e w' => e = .returned (.bool true) ∧ Below w.heap.size w w' := by
  obtain ⟨H, HH⟩ : ∃ H, Hid (heapify (n / 2) xs = H) := ⟨_, rfl⟩
  have HL : Hid (H.length = n) := by show _ = _; rw [← HH.out, heapify_length]; exact hsrc.1
  go_enter Yarv.func3, Yarv.ntmps3
  go_wp2_with (first
    | (go_at_call 5; refine (fromItems_calls ao n c xs (by omega) w hsrc).mono ?_; rintro e w1 ⟨g, rfl, hO1, hK1, hg1⟩; rw [HH.out] at hO1; have hg1' := hO1.lt)
    | (at_make; refine wpList_make_items rfl (.tmp 24) (.tmp 24) rfl _ _ n rfl rfl (by omega) (by omega) (by omega) (w1.heap.size + 1) (by simp) ?_; intro w2 hO2 hK2 hz2; have hO12 := hO1.keep (((Keeps.refl _ _).alloc _).trans hK2) (by simp); have hc2 : w2.cell? ⟨w1.heap.size, 0, none⟩ = some (.slice (some ⟨g, 0, none⟩) n n) := hK2.cell (by simp) (by simp))
    | (refine wpList_copy_items rfl (.tmp 26) (.tmp 28) rfl (w1.heap.size + 1) n n (some ⟨g, 0, none⟩) n n rfl rfl H _ hO2 (Src.of_own hO12) (Nat.le_refl _) ?_; intro w3 hO3 hK3; have hz3 := hK3.size; have hO13 := hO12.keep hK3 (by simp; omega))
    | (at_make; refine wpList_make_items rfl (.tmp 34) (.tmp 34) rfl _ _ (n + 1) rfl rfl (by omega) (by omega) (by omega) (w3.heap.size + 1) (by simp) ?_; intro w4 hO4 hK4 hz4; have hO34 := hO3.keep (((Keeps.refl _ _).alloc _).trans hK4) (by simp))
    | (refine wpList_copy_items rfl (.tmp 36) (.tmp 37) rfl (w3.heap.size + 1) (n + 1) (n + 1) (some ⟨w1.heap.size + 1, 0, none⟩) n n rfl rfl _ _ hO4 (Src.of_own hO34) (by omega) ?_; intro w5 hO5 hK5; have hz5 := hK5.size))
  have hkA : Keeps [] (w1.alloc (Obj.cells #[Value.slice (some { block := g, off := 0 }) n n] 25)) w3 := by
    refine Keeps.drop (T := [w1.heap.size + 1]) ((hK2.mono (by simp)).trans hK3) ?_
    simp
  have hkB : Keeps [] (w3.alloc (Obj.cells #[Value.int IntKind.i64 p, Value.int IntKind.u32 q] 28)) w5 := by
    refine Keeps.drop (T := [w3.heap.size + 1]) ((hK4.mono (by simp)).trans hK5) ?_
    simp
  have hk35 : Keeps [] w3 w5 := ((Keeps.refl _ _).alloc _).trans hkB
  have hS : StA w5 w1.heap.size g (w1.heap.size + 1) w3.heap.size (w3.heap.size + 1) n H (H ++ [(0, 0)]) p q := by
    refine ⟨HeapAt.keep ⟨hkA.cell (by simp) (by simp), ?_, hO13, by omega⟩ hk35 (by simp) (by simp), ?_, hkB.cell (by simp) (by simp), hkB.cell (by simp) (by simp), ?_, by omega, by omega, by omega, by omega⟩
    · rw [hkA.frozen (by simp) (by simp)]; simp
    · have := hO3.keep hk35 (by simp); simpa using this
    · simpa [List.replicate_succ'] using hO5
  have hKw : Keeps [] w w5 := ((hK1.alloc _).trans hkA).trans hk35
  have hzz : w1.heap.size + 1 < w3.heap.size := by omega
  clear hO1 hO2 hO3 hO4 hO5 hO12 hO13 hO34 hc2 hK1 hK2 hK3 hK4 hK5 hkA hkB hk35 hsrc
  have hbel : Below w.heap.size w w5 := hKw.below (Nat.le_refl _) (by simp)
  clear hKw hz2 hz3 hz4 hz5
  generalize w1.heap.size = hb at *
  generalize w3.heap.size = ib at *
  clear w1 w2 w3 w4
  go_loopg [12, 13] (n + 2) (fun gk s12 _ wr => ∃ (i f : Nat) (E : List It), s12 = .int .i64 i ∧ i ≤ n ∧ i < gk ∧ i ≤ f ∧ StA wr hb g (hb + 1) ib (ib + 1) n H E p q ∧ Below w.heap.size w wr ∧ Hid (hole n H (p, q) (H ++ [(0, 0)]) n = hole f H (p, q) E i))
  case atStart => exact ⟨n, n, _, rfl, by omega, by omega, by omega, hS, hbel, rfl⟩
  case round =>
    obtain ⟨i, f, E, rfl, hin, hig, hif, hA, hB, HE⟩ := hrel
    clear hS hbel
    by_cases hgo : 0 < i ∧ less (p, q) (ats H ((i - 1) / 2)) = true
    · obtain ⟨h0, hlt⟩ := hgo
      obtain ⟨m, HM⟩ : ∃ m : Nat, Hid ((i - 1) / 2 = m) := ⟨_, rfl⟩
      rw [HM.out] at hlt
      have h0' : (0 : Int) < (i : Int) := by omega
      have hm : ((i : Int) - 1) / 2 = (m : Int) := by have := HM.out; omega
      have hmi : m < i := by have := HM.out; omega
      have hmn : m < n := by omega
      have hmn' : (m : Int) < (n : Int) := by omega
      have hin' : (i : Int) < ((n + 1 : Nat) : Int) := by omega
      have hin2 : (i : Int) < (n : Int) + 1 := by omega
      obtain ⟨a, b, hab⟩ : ∃ a b, ats H m = (a, b) := ⟨_, _, rfl⟩
      have HG : Hid (hole n H (p, q) (H ++ [(0, 0)]) n = hole (f - 1) H (p, q) (E.set i (a, b)) m) := by
        show _ = _
        rw [HE.out, hole_go f H (p, q) E i m HM.out (by omega) h0 hlt, hab]
      rw [hab] at hlt
      have a0 := hA.before.cell0 hmn
      have a1 := hA.before.cell1 hmn
      rw [hab] at a0 a1
      have i0 := hA.it0
      have i1 := hA.it1
      clear hab HE
      go_wp2_with fail
      go_region_held3 (fun w' => w'.cell? ⟨ib, 0, none⟩ = some (.int .i64 p) ∧ w'.cell? ⟨ib, 1, none⟩ = some (.int .u32 q) ∧ w'.cell? ⟨hb + 1, m * 2, none⟩ = some (.int .i64 a) ∧ w'.cell? ⟨hb + 1, m * 2 + 1, none⟩ = some (.int .u32 b)) (first | (go_keep; done) | exact keep4 hb1 (by assumption)) (first | (go_at_call 6; refine (lessA_calls _ _ _ _ _).mono ?_; rintro e w6 ⟨rfl, hb1⟩))
      have hA6 : StA w6 hb g (hb + 1) ib (ib + 1) n H E p q := hA.keep (Keeps.of_below hb1).of_drew
      have hB6 : Below w.heap.size w w6 := bel_keeps hB (T := []) (Keeps.of_below hb1).of_drew (by simp)
      rename_i hHeld
      obtain ⟨j0, j1, b0, b1⟩ := hHeld
      have e0 := hA6.exp.cell0 (i := i) (by omega)
      have e1 := hA6.exp.cell1 (i := i) (by omega)
      have f0 := hA6.exp.free (i * 2)
      have f1 := hA6.exp.free (i * 2 + 1)
      clear a0 a1 i0 i1 hb1
      go_wp2
      go_roundg (m + 1)
      case measure => omega
      case rel => exact ⟨m, f - 1, _, by go_num, by omega, by omega, by omega, hA6.store i a b, bel_keeps hB6 (T := [ib + 1]) (((Keeps.refl _ _).setCell (by simp) _).setCell (by simp) _) (by simp; omega), HG⟩
    · have HU : Hid (up n (H ++ [(p, q)]) n = (E.set i (p, q), i)) := by
        show _ = _
        rw [up_push H (p, q) n HL.out, HE.out, hole_stop f H (p, q) E i hgo]
      have hin' : (i : Int) < ((n + 1 : Nat) : Int) := by omega
      have hin2 : (i : Int) < (n : Int) + 1 := by omega
      clear HE
      by_cases h0 : 0 < i
      · obtain ⟨m, HM⟩ : ∃ m : Nat, Hid ((i - 1) / 2 = m) := ⟨_, rfl⟩
        have h0' : (0 : Int) < (i : Int) := by omega
        have hm : ((i : Int) - 1) / 2 = (m : Int) := by have := HM.out; omega
        have hmi : m < i := by have := HM.out; omega
        have hmn : m < n := by omega
        have hmn' : (m : Int) < (n : Int) := by omega
        obtain ⟨a, b, hab⟩ : ∃ a b, ats H m = (a, b) := ⟨_, _, rfl⟩
        have hlt : less (p, q) (a, b) = false := by
          have h1 : ¬ less (p, q) (ats H m) = true := by rw [← HM.out]; exact fun h => hgo ⟨h0, h⟩
          rw [hab] at h1; simpa using h1
        have a0 := hA.before.cell0 hmn
        have a1 := hA.before.cell1 hmn
        rw [hab] at a0 a1
        have i0 := hA.it0
        have i1 := hA.it1
        clear hab hgo
        go_wp2_with fail
        go_region_held3 (fun w' => w'.cell? ⟨ib, 0, none⟩ = some (.int .i64 p) ∧ w'.cell? ⟨ib, 1, none⟩ = some (.int .u32 q) ∧ w'.cell? ⟨hb + 1, m * 2, none⟩ = some (.int .i64 a) ∧ w'.cell? ⟨hb + 1, m * 2 + 1, none⟩ = some (.int .u32 b)) (first | (go_keep; done) | exact keep4 hb1 (by assumption)) (first | (go_at_call 6; refine (lessA_calls _ _ _ _ _).mono ?_; rintro e w6 ⟨rfl, hb1⟩))
        have hA6 : StA w6 hb g (hb + 1) ib (ib + 1) n H E p q := hA.keep (Keeps.of_below hb1).of_drew
        have hB6 : Below w.heap.size w w6 := bel_keeps hB (T := []) (Keeps.of_below hb1).of_drew (by simp)
        clear a0 a1 i0 i1 hb1
        have j0 := hA6.it0
        have j1 := hA6.it1
        have e0 := hA6.exp.cell0 (i := i) (by omega)
        have e1 := hA6.exp.cell1 (i := i) (by omega)
        have f0 := hA6.exp.free (i * 2)
        have f1 := hA6.exp.free (i * 2 + 1)
        have hA7 := hA6.store i p q
        have hB7 := bel_store hB6 (ib + 1) (i * 2) (i * 2 + 1) (.int .i64 p) (.int .u32 q) (by omega)
        have i0' := hA7.it0
        have i1' := hA7.it1
        go_wp2_with (first | (go_at_call 7; refine (push_calls hb g n n H p q (by omega) _ hA7.heap).mono ?_; rintro e w8 ⟨g', cap', rfl, hH8, hK8, hg8⟩; rw [HU.out] at hH8 ⊢; have c8 := hH8.1))
        have hE8 : Own w8 (ib + 1) (n + 1) (n + 1) (E.set i (p, q)) := hA7.exp.keep hK8 (by simp; omega)
        have hB8 : Below w.heap.size w w8 := bel_keeps hB7 hK8 (by simp; omega)
        obtain ⟨L, HL2⟩ : ∃ L, Hid (E.set i (p, q) = L) := ⟨_, rfl⟩
        rw [HL2.out] at hH8 hE8
        clear hA7 hB7 i0' i1' e0 e1 f0 f1 j0 j1 hA hK8 hg8 c8
        go_loopg [15] (n + 3) (fun gk s15 wr => ∃ k : Nat, s15 = .int .i64 k ∧ k ≤ n + 1 ∧ n + 1 - k < gk ∧ HeapAt wr hb g' (n + 1) cap' L ∧ Own wr (ib + 1) (n + 1) (n + 1) L ∧ Below w.heap.size w wr)
        case atStart => exact ⟨0, rfl, by omega, by omega, hH8, hE8, hB8⟩
        case round =>
          obtain ⟨k, rfl, hk, hkg, hHr, hEr, hBr⟩ := hrel
          clear hH8 hE8 hB8
          by_cases hkn : k ≤ n
          · have hk1 : (k : Int) ≤ (n : Int) := by omega
            have hk2 : (k : Int) < (n : Int) + 1 := by omega
            have hk3 : (k : Int) < ((n + 1 : Nat) : Int) := by omega
            obtain ⟨a, b, hab⟩ : ∃ a b, ats L k = (a, b) := ⟨_, _, rfl⟩
            have y0 := hHr.2.2.1.cell0 (i := k) (by omega)
            have y1 := hHr.2.2.1.cell1 (i := k) (by omega)
            have z0 := hEr.cell0 (i := k) (by omega)
            have z1 := hEr.cell1 (i := k) (by omega)
            have c9 := hHr.1
            rw [hab] at y0 y1 z0 z1
            clear hab
            go_wp2_with fail
            go_quiet (fail)
            go_wp2
            go_roundg (n + 1 - k)
            case measure => omega
            case rel => exact ⟨k + 1, by go_num, by omega, by omega, hHr.keep ((Keeps.refl [] _).drewN nq) (by simp) (by simp), hEr.drewN nq, bel_keeps hBr ((Keeps.refl [] _).drewN nq) (by simp)⟩
          · have hk1 : (n : Int) < (k : Int) := by omega
            go_wp2
            go_ret
            exact ⟨rfl, hBr⟩
      · have hz : (i : Int) ≤ 0 := by omega
        clear hgo
        have j0 := hA.it0
        have j1 := hA.it1
        have e0 := hA.exp.cell0 (i := i) (by omega)
        have e1 := hA.exp.cell1 (i := i) (by omega)
        have f0 := hA.exp.free (i * 2)
        have f1 := hA.exp.free (i * 2 + 1)
        have hA7 := hA.store i p q
        have hB7 := bel_store hB (ib + 1) (i * 2) (i * 2 + 1) (.int .i64 p) (.int .u32 q) (by omega)
        have i0' := hA7.it0
        have i1' := hA7.it1
        go_wp2_with (first | (go_at_call 7; refine (push_calls hb g n n H p q (by omega) _ hA7.heap).mono ?_; rintro e w8 ⟨g', cap', rfl, hH8, hK8, hg8⟩; rw [HU.out] at hH8 ⊢; have c8 := hH8.1))
        have hE8 : Own w8 (ib + 1) (n + 1) (n + 1) (E.set i (p, q)) := hA7.exp.keep hK8 (by simp; omega)
        have hB8 : Below w.heap.size w w8 := bel_keeps hB7 hK8 (by simp; omega)
        obtain ⟨L, HL2⟩ : ∃ L, Hid (E.set i (p, q) = L) := ⟨_, rfl⟩
        rw [HL2.out] at hH8 hE8
        clear hA7 hB7 i0' i1' e0 e1 f0 f1 j0 j1 hA hK8 hg8 c8
        go_loopg [15] (n + 3) (fun gk s15 wr => ∃ k : Nat, s15 = .int .i64 k ∧ k ≤ n + 1 ∧ n + 1 - k < gk ∧ HeapAt wr hb g' (n + 1) cap' L ∧ Own wr (ib + 1) (n + 1) (n + 1) L ∧ Below w.heap.size w wr)
        case atStart => exact ⟨0, rfl, by omega, by omega, hH8, hE8, hB8⟩
        case round =>
          obtain ⟨k, rfl, hk, hkg, hHr, hEr, hBr⟩ := hrel
          clear hH8 hE8 hB8
          by_cases hkn : k ≤ n
          · have hk1 : (k : Int) ≤ (n : Int) := by omega
            have hk2 : (k : Int) < (n : Int) + 1 := by omega
            have hk3 : (k : Int) < ((n + 1 : Nat) : Int) := by omega
            obtain ⟨a, b, hab⟩ : ∃ a b, ats L k = (a, b) := ⟨_, _, rfl⟩
            have y0 := hHr.2.2.1.cell0 (i := k) (by omega)
            have y1 := hHr.2.2.1.cell1 (i := k) (by omega)
            have z0 := hEr.cell0 (i := k) (by omega)
            have z1 := hEr.cell1 (i := k) (by omega)
            have c9 := hHr.1
            rw [hab] at y0 y1 z0 z1
            clear hab
            go_wp2_with fail
            go_quiet (fail)
            go_wp2
            go_roundg (n + 1 - k)
            case measure => omega
            case rel => exact ⟨k + 1, by go_num, by omega, by omega, hHr.keep ((Keeps.refl [] _).drewN nq) (by simp) (by simp), hEr.drewN nq, bel_keeps hBr ((Keeps.refl [] _).drewN nq) (by simp)⟩
          · have hk1 : (n : Int) < (k : Int) := by omega
            go_wp2
            go_ret
            exact ⟨rfl, hBr⟩

theorem lawA_long (ao : Option Addr) (n c : Nat) (p q : Int) (hn : 1024 < n) (w : World) :
    Calls Yarv.prog 3 #[.slice ao n c, .int .i64 p, .int .u32 q] w fun e w' => e = .returned (.bool true) ∧ Below w.heap.size w w' := by
  have hn' : (1024 : Int) < (n : Int) := by omega
  go_enter Yarv.func3, Yarv.ntmps3
  go_wp2
  go_ret
  exact ⟨rfl, Below.refl _ _⟩

theorem lawA_any (ao : Option Addr) (n c : Nat) (xs : List It) (p q : Int) (w : World) (hsrc : Src w ao n c xs) :
    Calls Yarv.prog 3 #[.slice ao n c, .int .i64 p, .int .u32 q] w fun e w' => e = .returned (.bool true) ∧ Below w.heap.size w w' := by
  by_cases hn : n ≤ 1024
  · exact lawA_walk ao n c xs p q hn w hsrc
  · exact lawA_long ao n c p q (by omega) w

end Go.Proofs.Ymwhar
