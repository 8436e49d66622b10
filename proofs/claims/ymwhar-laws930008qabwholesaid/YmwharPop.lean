/-
  Fix at place 0; RemoveAt at place 0; Pop.
-/
import Derived.Test.YmwharPush
import Derived.Test.YmwharOrder
namespace Go.Proofs.Ymwhar
open Go.RowKit
attribute [local go_sem ↓] Go.wp_at_zero Go.wp_at_succ

set_option maxHeartbeats 1000000 in
theorem fix_calls (hb g n cap : Nat) (xs : List It) (h0 : 0 < n) (hn : n ≤ 100000) (w : World) (hH : HeapAt w hb g n cap xs) :
    Calls Yarv.prog 15 #[.pointer (some ⟨hb, 0, none⟩), .int .i64 0] w fun e w' => ∃ v, e = .returned v ∧ HeapAt w' hb g n cap (down n xs 0).1 ∧ Keeps [g] w w' := by
  have hc := hH.1
  have hO := hH.2.2.1
  have hne := hH.2.2.2
  have hn0 : (0 : Int) < (n : Int) := by omega
  go_enter Yarv.func15, Yarv.ntmps15
  go_wp2_with (first
    | (go_at_call 12; refine (siftUp_calls' g n cap xs 0 _ (by omega) h0 (by omega) _ hO).mono ?_; rintro e w1 ⟨rfl, hO1, hK1⟩; have hc1 := hK1.cell hc (by simpa using hne))
    | (go_at_call 11; refine (siftDown_calls g n cap xs 0 h0 (by omega) _ hO1).mono ?_; rintro e w2 ⟨rfl, hO2, hK2⟩))
  go_ret2
  have hlt : hb < w.heap.size := World.block_lt_of_cell? w _ hc
  have hlt1 : hb < w1.heap.size := World.block_lt_of_cell? w1 _ hc1
  refine ⟨_, rfl, ⟨hK2.cell hc1 (by simpa using hne), ?_, hO2, hne⟩, hK1.trans hK2⟩
  rw [hK2.frozen hlt1 (by simpa using hne), hK1.frozen hlt (by simpa using hne)]
  exact hH.2.1

set_option maxHeartbeats 1000000 in
theorem removeAt_none (hb g cap : Nat) (xs : List It) (w : World) (hH : HeapAt w hb g 0 cap xs) :
    Calls Yarv.prog 13 #[.pointer (some ⟨hb, 0, none⟩), .int .i64 0] w fun e w' => e = .returned (.tuple #[.agg #[.int .i64 0, .int .u32 0], .bool false]) ∧ Keeps [] w w' := by
  have hc := hH.1
  have hc1 : ∀ o, (w.alloc o).cell? ⟨hb, 0, none⟩ = some (.slice (some ⟨g, 0, none⟩) 0 cap) := fun o => keepc ((Below.refl _ _).alloc (Nat.le_refl _) o) hc
  go_enter Yarv.func13, Yarv.ntmps13
  go_wp2
  exact bodyPost_ret (v := .tuple #[.agg #[.int .i64 0, .int .u32 0], .bool false]) (by simp [results, Yarv.results13, go_sem]) rfl ⟨rfl, (Keeps.refl _ _).alloc _⟩

theorem two_blocks (w : World) (p q r s : Value) :
    ((w.alloc (.cells #[p, q] 28)).alloc (.cells #[r, s] 28)).cell? ⟨w.heap.size, 0, none⟩ = some p ∧ ((w.alloc (.cells #[p, q] 28)).alloc (.cells #[r, s] 28)).cell? ⟨w.heap.size, 1, none⟩ = some q ∧
    (∀ j, ((w.alloc (.cells #[p, q] 28)).alloc (.cells #[r, s] 28)).frozen? ⟨w.heap.size, j, none⟩ = false) ∧
    ((w.alloc (.cells #[p, q] 28)).alloc (.cells #[r, s] 28)).cell? ⟨w.heap.size + 1, 0, none⟩ = some r ∧ ((w.alloc (.cells #[p, q] 28)).alloc (.cells #[r, s] 28)).cell? ⟨w.heap.size + 1, 1, none⟩ = some s := by
  have h1 : Below (w.alloc (.cells #[p, q] 28)).heap.size (w.alloc (.cells #[p, q] 28)) ((w.alloc (.cells #[p, q] 28)).alloc (.cells #[r, s] 28)) := (Below.refl _ _).alloc (Nat.le_refl _) _
  refine ⟨keepc h1 ?_, keepc h1 ?_, fun j => ?_, ?_, ?_⟩
  · rw [World.cell?_alloc_at _ _ _ _ rfl]; rfl
  · rw [World.cell?_alloc_at _ _ _ _ rfl]; rfl
  · rw [h1.frozen (by simp), World.frozen?_alloc_at _ _ _ _ rfl]
  · rw [World.cell?_alloc_at _ _ _ _ (by simp)]; rfl
  · rw [World.cell?_alloc_at _ _ _ _ (by simp)]; rfl

theorem removeAt_end {w w5 : World} {hb g l cap : Nat} {L : List It} (hH : HeapAt w5 hb g l cap L) (hK : Keeps [hb, g] w w5) (hb1 : hb < w.heap.size) (hg1 : g < w.heap.size) (x y : Value) :
    HeapAt ((w5.setCell ⟨w.heap.size, 0, none⟩ x).setCell ⟨w.heap.size, 1, none⟩ y) hb g l cap L ∧ Keeps [hb, g] w ((w5.setCell ⟨w.heap.size, 0, none⟩ x).setCell ⟨w.heap.size, 1, none⟩ y) := by
  have hk : Keeps [w.heap.size] w5 ((w5.setCell ⟨w.heap.size, 0, none⟩ x).setCell ⟨w.heap.size, 1, none⟩ y) := ((Keeps.refl _ _).setCell (by simp) _).setCell (by simp) _
  refine ⟨hH.keep hk (by simp; omega) (by simp; omega), ?_⟩
  refine Keeps.drop (T := [hb, g, w.heap.size]) ((hK.mono (by simp)).trans (hk.mono (by simp))) ?_
  intro k hkm hlt
  simp only [List.mem_cons, List.not_mem_nil, or_false] at hkm ⊢
  rcases hkm with h | h | h
  · exact Or.inl h
  · exact Or.inr h
  · omega

set_option maxHeartbeats 2000000 in
theorem removeAt_some (hb g l cap : Nat) (xs : List It) (hl : l < 100000) (w : World) (hH : HeapAt w hb g (l + 1) cap xs) :
    Calls Yarv.prog 13 #[.pointer (some ⟨hb, 0, none⟩), .int .i64 0] w fun e w' => e = .returned (.tuple #[.agg #[.int .i64 (ats xs 0).1, .int .u32 (ats xs 0).2], .bool true]) ∧ HeapAt w' hb g l cap (popL (l + 1) xs) ∧ Keeps [hb, g] w w' := by
  have hn0 : (0 : Int) < (l : Int) + 1 := by omega
  have hll : (l : Int) < (l : Int) + 1 := by omega
  have hne := hH.2.2.2
  have hcap : (l : Int) ≤ (cap : Int) := by have := hH.2.2.1.capLe; omega
  have hcap' : l ≤ cap := by omega
  obtain ⟨a, b, hab⟩ : ∃ a b, ats xs 0 = (a, b) := ⟨_, _, rfl⟩
  obtain ⟨c, d, hcd⟩ : ∃ a b, ats xs l = (a, b) := ⟨_, _, rfl⟩
  have k1 : ∀ o, HeapAt (w.alloc o) hb g (l + 1) cap xs := fun o => hH.keep (T := []) ((Keeps.refl _ _).alloc o) (by simp) (by simp)
  have hc1 := fun o => (k1 o).1
  have a1 : ∀ o, (w.alloc o).cell? ⟨g, 0, none⟩ = some (.int .i64 a) := fun o => by have := (k1 o).2.2.1.cell0 (i := 0) (by omega); rw [hab] at this; simpa using this
  have b1 : ∀ o, (w.alloc o).cell? ⟨g, 1, none⟩ = some (.int .u32 b) := fun o => by have := (k1 o).2.2.1.cell1 (i := 0) (by omega); rw [hab] at this; simpa using this
  go_enter Yarv.func13, Yarv.ntmps13
  go_wp2
  have hlt : hb < w.heap.size := World.block_lt_of_cell? w _ hH.1
  have hglt : g < w.heap.size := hH.2.2.1.lt
  have hK2 : Keeps [] w ((w.alloc (Obj.cells #[Value.int IntKind.i64 0, Value.int IntKind.u32 0] 28)).alloc (Obj.cells #[Value.int IntKind.i64 a, Value.int IntKind.u32 b] 28)) := ((Keeps.refl _ _).alloc _).alloc _
  have hH2 := hH.keep hK2 (by simp) (by simp)
  obtain ⟨r0, r1, s0, o0, o1⟩ := two_blocks w (.int .i64 0) (.int .u32 0) (.int .i64 a) (.int .u32 b)
  have f0 := hH2.2.2.1.free 0
  have f1 := hH2.2.2.1.free 1
  have ca := hH2.2.2.1.cell0 (i := 0) (by omega)
  have cb := hH2.2.2.1.cell1 (i := 0) (by omega)
  have cc := hH2.2.2.1.cell0 (i := l) (by omega)
  have cd := hH2.2.2.1.cell1 (i := l) (by omega)
  have ch := hH2.1
  have HAB : Hid (ats xs 0 = (a, b)) := hab
  have HCD : Hid (ats xs l = (c, d)) := hcd
  rw [hab] at ca cb
  rw [hcd] at cc cd
  simp only [Nat.zero_mul, Nat.zero_add] at ca cb
  clear hab hcd a1 b1 hc1 k1
  generalize (w.alloc (Obj.cells #[Value.int IntKind.i64 0, Value.int IntKind.u32 0] 28)).alloc (Obj.cells #[Value.int IntKind.i64 a, Value.int IntKind.u32 b] 28) = w2 at *
  go_region
  have hO3 : Own ((w2.setCell ⟨g, 0, none⟩ (.int .i64 c)).setCell ⟨g, 1, none⟩ (.int .u32 d)).drew g (l + 1) cap (xs.set 0 (c, d)) := by
    have := (hH2.2.2.1.set 0 (c, d)).drew
    simpa using this
  have hk3 : Keeps [g] w2 ((w2.setCell ⟨g, 0, none⟩ (.int .i64 c)).setCell ⟨g, 1, none⟩ (.int .u32 d)).drew := (((Keeps.refl _ _).setCell (by simp) _).setCell (by simp) _).drew
  have q0 := hk3.cell r0 (by simp; omega)
  have q1 := hk3.cell r1 (by simp; omega)
  have q2 := hk3.cell o0 (by simp; omega)
  have q3 := hk3.cell o1 (by simp; omega)
  have q4 := hk3.cell ch (by simpa using hne)
  have hlt2 : w.heap.size < w2.heap.size := World.block_lt_of_cell? w2 _ r0
  have z0 := (hk3.frozen (p := ⟨w.heap.size, 0, none⟩) hlt2 (by simp; omega)).trans (s0 0)
  have z1 := (hk3.frozen (p := ⟨w.heap.size, 1, none⟩) hlt2 (by simp; omega)).trans (s0 1)
  have z2 := (hk3.frozen (p := ⟨hb, 0, none⟩) (by show hb < _; omega) (by simpa using hne)).trans hH2.2.1
  have hKw : Keeps [hb, g] w ((w2.setCell ⟨g, 0, none⟩ (.int .i64 c)).setCell ⟨g, 1, none⟩ (.int .u32 d)).drew := (hK2.mono (by simp)).trans (hk3.mono (by simp))
  clear r0 r1 o0 o1 ch s0 f0 f1 ca cb cc cd hk3 hK2 hH2
  generalize ((w2.setCell ⟨g, 0, none⟩ (.int .i64 c)).setCell ⟨g, 1, none⟩ (.int .u32 d)).drew = w3 at *
  have hH4 : HeapAt (w3.setCell ⟨hb, 0, none⟩ (.slice (some ⟨g, 0, none⟩) l cap)) hb g l cap ((xs.set 0 (c, d)).take l) := ⟨World.cell?_setCell_same _ _ _ q4, by rw [World.frozen?_setCell]; exact z2, (hO3.cut l (by omega)).keep (T := [hb]) ((Keeps.refl _ _).setCell (by simp) _) (by simp; omega), hne⟩
  have hK4 : Keeps [hb] w3 (w3.setCell ⟨hb, 0, none⟩ (.slice (some ⟨g, 0, none⟩) l cap)) := (Keeps.refl _ _).setCell (by simp) _
  have v0 := hK4.cell q0 (by simp; omega)
  have v1 := hK4.cell q1 (by simp; omega)
  have v2 := hK4.cell q2 (by simp; omega)
  have v3 := hK4.cell q3 (by simp; omega)
  have hlt3 : w.heap.size < w3.heap.size := World.block_lt_of_cell? w3 _ q0
  have x0 := (hK4.frozen (p := ⟨w.heap.size, 0, none⟩) hlt3 (by simp; omega)).trans z0
  have x1 := (hK4.frozen (p := ⟨w.heap.size, 1, none⟩) hlt3 (by simp; omega)).trans z1
  have hKw4 : Keeps [hb, g] w (w3.setCell ⟨hb, 0, none⟩ (.slice (some ⟨g, 0, none⟩) l cap)) := hKw.trans (hK4.mono (by simp))
  have HPL : Hid (popL (l + 1) xs = (down l ((xs.set 0 (c, d)).take l) 0).1) := by
    show _ = _
    unfold popL
    rw [Nat.add_sub_cancel, HCD.out]
  by_cases hl0 : 0 < l
  · have hl0' : (0 : Int) < (l : Int) := by omega
    go_wp2_with fail
    refine (fix_calls hb g l cap _ hl0 (by omega) _ hH4).mono ?_
    rintro e w5 ⟨v, rfl, hH5, hK5⟩
    have y0 := hK5.cell v0 (by simp; omega)
    have y1 := hK5.cell v1 (by simp; omega)
    have y2 := hK5.cell v2 (by simp; omega)
    have y3 := hK5.cell v3 (by simp; omega)
    have t0 := (hK5.frozen (p := ⟨w.heap.size, 0, none⟩) (World.block_lt_of_cell? _ _ v0) (by simp; omega)).trans x0
    have t1 := (hK5.frozen (p := ⟨w.heap.size, 1, none⟩) (World.block_lt_of_cell? _ _ v1) (by simp; omega)).trans x1
    go_wp2
    refine bodyPost_ret (v := .tuple #[.agg #[.int .i64 a, .int .u32 b], .bool true]) (by simp [results, Yarv.results13, go_sem, y0, y1]) rfl ?_
    rw [HAB.out, HPL.out]
    exact ⟨rfl, removeAt_end hH5 (hKw4.trans (hK5.mono (by simp))) hlt hglt _ _⟩
  · have hl0' : (l : Int) ≤ 0 := by omega
    have hz : l = 0 := by omega
    have HPL' : Hid (popL (l + 1) xs = (xs.set 0 (c, d)).take l) := by
      show _ = _
      rw [HPL.out, hz]; rfl
    clear hz HPL
    go_wp2
    refine bodyPost_ret (v := .tuple #[.agg #[.int .i64 a, .int .u32 b], .bool true]) (by simp [results, Yarv.results13, go_sem, v0, v1]) rfl ?_
    rw [HAB.out, HPL'.out]
    exact ⟨rfl, removeAt_end hH4 hKw4 hlt hglt _ _⟩

theorem new_cells (w w1 : World) (T : List Nat) (hT : w.heap.size ∉ T) (hK1 : Keeps T (w.alloc (Obj.cells #[Value.int IntKind.i64 0, Value.int IntKind.u32 0] 28)) w1) :
    w1.cell? ⟨w.heap.size, 0, none⟩ = some (.int .i64 0) ∧ w1.cell? ⟨w.heap.size, 1, none⟩ = some (.int .u32 0) ∧ w1.frozen? ⟨w.heap.size, 0, none⟩ = false ∧ w1.frozen? ⟨w.heap.size, 1, none⟩ = false := by
  refine ⟨hK1.cell ?_ hT, hK1.cell ?_ hT, ?_, ?_⟩
  · rw [World.cell?_alloc_at _ _ _ _ rfl]; rfl
  · rw [World.cell?_alloc_at _ _ _ _ rfl]; rfl
  · rw [hK1.frozen (by simp) hT, World.frozen?_alloc_at _ _ _ _ rfl]
  · rw [hK1.frozen (by simp) hT, World.frozen?_alloc_at _ _ _ _ rfl]

theorem pop_none (hb g cap : Nat) (xs : List It) (w : World) (hH : HeapAt w hb g 0 cap xs) :
    Calls Yarv.prog 8 #[.pointer (some ⟨hb, 0, none⟩)] w fun e w' => e = .returned (.tuple #[.agg #[.int .i64 0, .int .u32 0], .bool false]) ∧ Keeps [] w w' := by
  have k1 : ∀ o, HeapAt (w.alloc o) hb g 0 cap xs := fun o => hH.keep (T := []) ((Keeps.refl _ _).alloc o) (by simp) (by simp)
  go_enter Yarv.func8, Yarv.ntmps8
  go_wp2_with fail
  refine (removeAt_none hb g cap xs _ (k1 _)).mono ?_
  rintro e w1 ⟨rfl, hK1⟩
  obtain ⟨c0, c1, f0, f1⟩ := new_cells w w1 [] (by simp) hK1
  go_wp2
  refine bodyPost_ret (v := .tuple #[.agg #[.int .i64 0, .int .u32 0], .bool false]) (by simp [results, Yarv.results8, go_sem, c0, c1]) rfl ⟨rfl, ?_⟩
  refine Keeps.drop (T := [w.heap.size]) ?_ (by simp)
  exact ((((Keeps.refl _ _).alloc _).trans (hK1.mono (by simp))).setCell (by simp) _).setCell (by simp) _

theorem pop_some (hb g l cap : Nat) (xs : List It) (hl : l < 100000) (w : World) (hH : HeapAt w hb g (l + 1) cap xs) :
    Calls Yarv.prog 8 #[.pointer (some ⟨hb, 0, none⟩)] w fun e w' => e = .returned (.tuple #[.agg #[.int .i64 (ats xs 0).1, .int .u32 (ats xs 0).2], .bool true]) ∧ HeapAt w' hb g l cap (popL (l + 1) xs) ∧ Keeps [hb, g] w w' := by
  have k1 : ∀ o, HeapAt (w.alloc o) hb g (l + 1) cap xs := fun o => hH.keep (T := []) ((Keeps.refl _ _).alloc o) (by simp) (by simp)
  have hlt : hb < w.heap.size := World.block_lt_of_cell? w _ hH.1
  have hglt : g < w.heap.size := hH.2.2.1.lt
  go_enter Yarv.func8, Yarv.ntmps8
  go_wp2_with fail
  refine (removeAt_some hb g l cap xs hl _ (k1 _)).mono ?_
  rintro e w1 ⟨rfl, hH1, hK1⟩
  obtain ⟨c0, c1, f0, f1⟩ := new_cells w w1 [hb, g] (by simp; omega) hK1
  go_wp2
  refine bodyPost_ret (v := .tuple #[.agg #[.int .i64 (ats xs 0).1, .int .u32 (ats xs 0).2], .bool true]) (by simp [results, Yarv.results8, go_sem, c0, c1]) rfl ?_
  exact ⟨rfl, removeAt_end hH1 (((Keeps.refl _ _).alloc _).trans hK1) hlt hglt _ _⟩

end Go.Proofs.Ymwhar
