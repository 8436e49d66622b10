/-
  The walk of law B.
-/
import Derived.Test.YmwharPop
import Derived.Test.YmwharCount
namespace Go.Proofs.Ymwhar
open Go.RowKit
attribute [local go_sem ↓] Go.wp_at_zero Go.wp_at_succ

/-- An element of a slice that came in: where it lies, what it holds. -/
theorem Src.at {w : World} {ao : Option Addr} {n c : Nat} {xs : List It} (h : Src w ao n c xs) (k : Nat) (hk : k < n) :
    ∃ b off, ao = some ⟨b, off, none⟩ ∧ w.cell? ⟨b, off + k * 2, none⟩ = some (.int .i64 (ats xs k).1) ∧ w.cell? ⟨b, off + k * 2 + 1, none⟩ = some (.int .u32 (ats xs k).2) := by
  cases ao with
  | none => have := (h.2.1 rfl).1; omega
  | some ad =>
    have c0 := h.2.2 ad rfl (k * 2) _ (flat_0 xs k (by rw [h.1]; exact hk))
    have c1 := h.2.2 ad rfl (k * 2 + 1) _ (flat_1 xs k (by rw [h.1]; exact hk))
    obtain ⟨b, off, spot⟩ := ad
    have c00 := h.2.2 ⟨b, off, spot⟩ rfl (0 * 2) _ (flat_0 xs 0 (by rw [h.1]; omega))
    have hspot : spot = none := by simpa [Addr.add] using World.cell?_spot c00
    subst hspot
    rw [Addr.add_lit] at c0 c1
    exact ⟨b, off, rfl, c0, by rw [← Nat.add_assoc] at c1; exact c1⟩

/-- What lies where, in law B, behind the Pop. -/
structure StB (W : World) (hb g gb ag l cap : Nat) (Lp A : List It) (p q : Int) : Prop where
  heap : HeapAt W hb g l cap Lp
  all : Own W ag (l + 1) (l + 1) A
  got0 : W.cell? ⟨gb, 0, none⟩ = some (.int .i64 p)
  got1 : W.cell? ⟨gb, 1, none⟩ = some (.int .u32 q)
theorem StB.keep {W W' : World} {hb g gb ag l cap : Nat} {Lp A : List It} {p q : Int} (h : StB W hb g gb ag l cap Lp A p q) (hk : Keeps [] W W') : StB W' hb g gb ag l cap Lp A p q :=
  ⟨h.heap.keep hk (by simp) (by simp), h.all.keep hk (by simp), hk.cell h.got0 (by simp), hk.cell h.got1 (by simp)⟩

theorem min_new (A : List It) (i m : Nat) (h : ∀ j, j < i → less (ats A j) (ats A m) = false) (hl : less (ats A i) (ats A m) = true) : ∀ j, j < i + 1 → less (ats A j) (ats A i) = false := by
  intro j hj
  by_cases hji : j = i
  · subst hji; exact less_irrefl _
  · exact less_below (h j (by omega)) hl
theorem min_old (A : List It) (i m : Nat) (h : ∀ j, j < i → less (ats A j) (ats A m) = false) (hl : less (ats A i) (ats A m) = false) : ∀ j, j < i + 1 → less (ats A j) (ats A m) = false := by
  intro j hj
  by_cases hji : j = i
  · subst hji; exact hl
  · exact h j (by omega)

theorem rst_length (A : List It) (m i : Nat) (hi : i ≤ A.length) : ((A.take i).eraseIdx m).length = if m < i then i - 1 else i := by
  rw [List.length_eraseIdx, List.length_take, Nat.min_eq_left hi]
theorem rst_hit (A : List It) (m : Nat) (hm : m < A.length) : (A.take (m + 1)).eraseIdx m = (A.take m).eraseIdx m := by
  have e1 : (A.take m).length = m := by simp; omega
  have e2 : A.take (m + 1) = A.take m ++ [A[m]] := (List.take_append_getElem hm).symm
  rw [e2, List.eraseIdx_append_of_length_le (by omega), e1, Nat.sub_self, show [A[m]].eraseIdx 0 = [] from rfl, List.append_nil]
  exact (List.eraseIdx_of_length_le (by omega)).symm
theorem rst_other (A : List It) (m i : Nat) (hi : i < A.length) (hne : i ≠ m) : (A.take (i + 1)).eraseIdx m = (A.take i).eraseIdx m ++ [ats A i] := by
  rw [← List.take_append_getElem hi, ats_getElem A i hi]
  by_cases h : m < i
  · rw [List.eraseIdx_append_of_lt_length (by simp; omega)]
  · rw [List.eraseIdx_of_length_le (by simp; omega), List.eraseIdx_of_length_le (by simp; omega)]

theorem src_one (w : World) (p q : Int) : Src (w.alloc (.cells #[.int .i64 p, .int .u32 q] 28)) (some ⟨w.heap.size, 0, none⟩) 1 1 [(p, q)] := by
  refine ⟨rfl, by simp, ?_⟩
  intro ad had j u hu
  injection had with had
  subst had
  exact World.news_of_block (heap_alloc_new w (.cells #[.int .i64 p, .int .u32 q] 28)) j u hu

theorem StB.keepT {W W' : World} {T : List Nat} {hb g gb ag l cap : Nat} {Lp A : List It} {p q : Int} (h : StB W hb g gb ag l cap Lp A p q) (hk : Keeps T W W') (h1 : hb ∉ T) (h2 : g ∉ T) (h3 : gb ∉ T) (h4 : ag ∉ T) : StB W' hb g gb ag l cap Lp A p q :=
  ⟨h.heap.keep hk h1 h2, h.all.keep hk h4, hk.cell h.got0 h3, hk.cell h.got1 h3⟩

theorem keep3 {w w' : World} {a b c : Addr} {x y z : Value} (hb : Below w.heap.size w w') (h : w.cell? a = some x ∧ w.cell? b = some y ∧ w.cell? c = some z) :
    w'.cell? a = some x ∧ w'.cell? b = some y ∧ w'.cell? c = some z :=
  ⟨keepc hb h.1, keepc hb h.2.1, keepc hb h.2.2⟩
theorem count_callsN (g n cap : Nat) (ys : List It) (p q : Int) (N : Nat) (hN : ys.count (p, q) = N) (hn : n ≤ 100000) (w : World) (hO : Own w g n cap ys) :
    Calls Yarv.prog 10 #[.slice (some ⟨g, 0, none⟩) n cap, .agg #[.int .i64 p, .int .u32 q]] w fun e w' => e = .returned (.int .i64 N) ∧ Below w.heap.size w w' := by
  subst hN
  exact count_calls g n cap ys p q hn w hO

theorem keep5 {w w' : World} {a b c d e : Addr} {x y z u v : Value} (hb : Below w.heap.size w w') (h : w.cell? a = some x ∧ w.cell? b = some y ∧ w.cell? c = some z ∧ w.cell? d = some u ∧ w.cell? e = some v) :
    w'.cell? a = some x ∧ w'.cell? b = some y ∧ w'.cell? c = some z ∧ w'.cell? d = some u ∧ w'.cell? e = some v :=
  ⟨keepc hb h.1, keepc hb h.2.1, keepc hb h.2.2.1, keepc hb h.2.2.2.1, keepc hb h.2.2.2.2⟩

set_option maxHeartbeats 4000000 in
set_option maxRecDepth 100000 in
theorem lawB_walk (ao : Option Addr) (n c : Nat) (xs : List It) (ao2 : Option Addr) (n2 c2 : Nat) (ys : List It) (hn : n ≤ 1024) (hn2 : n2 ≤ 1024) (w : World) (hsrc : Src w ao n c xs) (hsrc2 : Src w ao2 n2 c2 ys) :
    Calls Yarv.prog 4 #[.slice ao n c, .slice ao2 n2 c2] w fun e w' => e = .returned (.bool true) ∧ Below w.heap.size w w' := by
  obtain ⟨H, HH⟩ : ∃ H, Hid (heapify (n / 2) xs = H) := ⟨_, rfl⟩
  have hn' : (n : Int) ≤ 1024 := by omega
  have hn2' : (n2 : Int) ≤ 1024 := by omega
  go_enter Yarv.func4, Yarv.ntmps4
  go_wp2_with (first
    | (go_at_call 5; refine (fromItems_calls ao n c xs (by omega) w hsrc).mono ?_; rintro e w1 ⟨g, rfl, hO1, hK1, hg1⟩; rw [HH.out] at hO1; have hg1' := hO1.lt))
  have hH2 : HeapAt (w1.alloc (Obj.cells #[Value.slice (some { block := g, off := 0 }) n n] 25)) w1.heap.size g n n H := by
    refine ⟨?_, ?_, hO1.keep (T := []) ((Keeps.refl _ _).alloc _) (by simp), by omega⟩
    · rw [World.cell?_alloc_at _ _ _ _ rfl]; rfl
    · rw [World.frozen?_alloc_at _ _ _ _ rfl]
  have hB2 : Below w.heap.size w (w1.alloc (Obj.cells #[Value.slice (some { block := g, off := 0 }) n n] 25)) := (hK1.alloc _).below (Nat.le_refl _) (by simp)
  have hbw : w.heap.size ≤ w1.heap.size := hK1.size
  clear hO1 hK1
  generalize w1.alloc (Obj.cells #[Value.slice (some { block := g, off := 0 }) n n] 25) = w2 at *
  generalize w1.heap.size = hb at *
  clear w1
  go_loopg [6] (n2 + 1) (fun gk s6 wr => ∃ (k g' cap' : Nat) (L : List It), s6 = .int .i64 k ∧ k ≤ n2 ∧ n2 - k < gk ∧ HeapAt wr hb g' (n + k) cap' L ∧ Below w.heap.size w wr ∧ w.heap.size ≤ g' ∧ Hid (L = pushAll H (ys.take k)))
  case atStart => exact ⟨0, g, n, H, rfl, by omega, by omega, hH2, hB2, hg1, by show _ = _; simp [pushAll]⟩
  case round =>
    obtain ⟨k, g', cap', L, rfl, hk, hkg, hHr, hBr, hgr, HL⟩ := hrel
    clear hH2 hB2
    by_cases hkn : k < n2
    · have hkn' : (k : Int) < (n2 : Int) := by omega
      obtain ⟨b, off, rfl, e0, e1⟩ := (hsrc2.below hBr).at k hkn
      obtain ⟨p, q, hpq⟩ : ∃ p q, ats ys k = (p, q) := ⟨_, _, rfl⟩
      rw [hpq] at e0 e1
      have HPA : Hid ((up (n + k) (L ++ [(p, q)]) (n + k)).1 = pushAll H (ys.take (k + 1))) := by
        show _ = _
        have h1 : k < ys.length := by rw [hsrc2.1]; exact hkn
        rw [← List.take_append_getElem h1, pushAll_snoc, ← HL.out, ← ats_getElem ys k h1, hpq]
        unfold pushOne
        rw [hHr.2.2.1.len]
      clear hpq HL
      go_wp2_with (first | (go_at_call 7; refine (push_calls hb g' (n + k) cap' L p q (by omega) _ hHr).mono ?_; rintro e w3 ⟨g3, cap3, rfl, hH3, hK3, hg3⟩))
      go_roundg (n2 - k)
      case measure => omega
      case rel => exact ⟨k + 1, g3, cap3, _, by go_num, by omega, by omega, hH3, bel_keeps hBr hK3 (by simp; omega), by have := hBr.size; omega, HPA⟩
    · have hkk : n2 = k := by omega
      subst hkk
      have hlen2 := hsrc2.1
      have HV : Hid (ValidFrom 0 L ∧ List.Perm L (xs ++ ys)) := by
        have h1 := pushAll_ok ys H (by rw [← HH.out]; exact built_valid xs n hsrc.1)
        have h2 := HL.out
        rw [List.take_of_length_le (by omega)] at h2
        rw [← h2] at h1
        exact ⟨h1.1, h1.2.trans (List.Perm.append_right ys (by rw [← HH.out]; exact built_perm xs n hsrc.1))⟩
      have hs1 := hsrc.below hBr
      have hs2 := hsrc2.below hBr
      have hglt := hHr.2.2.1.lt
      have hblt : hb < wr.heap.size := World.block_lt_of_cell? wr _ hHr.1
      clear HL HH hlen2 hk hkg hkn hg1 hg1'
      go_wp2_with (first
        | (at_make; refine wpList_make_room rfl _ (.tmp 42) rfl _ (n + n2) rfl rfl (by omega) (by omega) wr.heap.size rfl ?_; intro w3 hO3 hK3 hz3)
        | (at_builtin; refine wpList_append_items rfl (.tmp 44) (.tmp 45) rfl wr.heap.size 0 (n + n2) ao n c rfl rfl [] xs hO3 (hs1.keep hK3 (by simp)) (by omega) ?_; intro w4 hO4 hK4; simp only [Nat.zero_add, List.nil_append] at hO4)
        | (at_builtin; refine wpList_append_items rfl (.tmp 47) (.tmp 48) rfl wr.heap.size n (n + n2) ao2 n2 c2 rfl rfl xs ys hO4 (hs2.keep ((hK3.mono (T' := [wr.heap.size]) (by simp)).trans hK4) (by simp)) (by omega) ?_; intro w5 hO5 hK5))
      have hK35 : Keeps [wr.heap.size] wr w5 := ((hK3.mono (by simp)).trans hK4).trans hK5
      have hH5 : HeapAt w5 hb g' (n + n2) cap' L := hHr.keep hK35 (by simp; omega) (by simp; omega)
      have hB5 : Below w.heap.size w w5 := bel_keeps hBr hK35 (by simp; exact hBr.size)
      have hag : w.heap.size ≤ wr.heap.size := hBr.size
      obtain ⟨A, HA⟩ : ∃ A, Hid (xs ++ ys = A) := ⟨_, rfl⟩
      rw [HA.out] at hO5 HV
      clear hO3 hO4 hK3 hK4 hK5 hK35 hHr hBr hs1 hs2 hz3 HA hsrc hsrc2
      have hN : n + n2 ≤ 2048 := by omega
      generalize n + n2 = N at *
      generalize wr.heap.size = ag at *
      clear w3 w4 hn' hn2'
      by_cases hN0 : N = 0
      · subst hN0
        refine (pop_none hb g' cap' L w5 hH5).mono ?_
        rintro e w6 ⟨rfl, hK6⟩
        have hH6 := hH5.keep hK6 (by simp) (by simp)
        have c6 := hH6.1
        have hB6 := bel_keeps hB5 hK6 (by simp)
        have c6' : ∀ o, (w6.alloc o).cell? ⟨hb, 0, none⟩ = some (.slice (some ⟨g', 0, none⟩) 0 cap') := fun o => keepc ((Below.refl _ _).alloc (Nat.le_refl _) o) c6
        go_wp2
        go_ret
        exact ⟨rfl, hB6.alloc hB6.size _⟩
      · obtain ⟨l, rfl⟩ : ∃ l, N = l + 1 := ⟨N - 1, by omega⟩
        have hn1 : ((l : Int) + 1 == 0) = false := by rw [beq_eq_false_iff_ne]; omega
        obtain ⟨p, q, hpq⟩ : ∃ p q, ats L 0 = (p, q) := ⟨_, _, rfl⟩
        have HPQ : Hid (ats L 0 = (p, q)) := hpq
        have hpop := pop_some hb g' l cap' L (by omega) w5 hH5
        rw [hpq] at hpop
        obtain ⟨Lp, HLp⟩ : ∃ Lp, Hid (popL (l + 1) L = Lp) := ⟨_, rfl⟩
        rw [HLp.out] at hpop
        refine hpop.mono ?_
        rintro e w6 ⟨rfl, hH6, hK6⟩
        have hO6 : Own w6 ag (l + 1) (l + 1) A := hO5.keep hK6 (by simp; omega)
        have hB6 := bel_keeps hB5 hK6 (by simp; omega)
        have hlt6 : hb < w6.heap.size := World.block_lt_of_cell? w6 _ hH6.1
        have HLL : Hid (L.length = l + 1) := hH5.2.2.1.len
        clear hpop hpq hO5 hH5 hK6 hB5
        go_wp2
        have hS7 : StB (w6.alloc (Obj.cells #[Value.int IntKind.i64 p, Value.int IntKind.u32 q] 28)) hb g' w6.heap.size ag l cap' Lp A p q := by
          have hk7 : Keeps [] w6 (w6.alloc (Obj.cells #[Value.int IntKind.i64 p, Value.int IntKind.u32 q] 28)) := (Keeps.refl _ _).alloc _
          refine ⟨hH6.keep hk7 (by simp) (by simp), hO6.keep hk7 (by simp), ?_, ?_⟩
          · rw [World.cell?_alloc_at _ _ _ _ rfl]; rfl
          · rw [World.cell?_alloc_at _ _ _ _ rfl]; rfl
        have hB7 : Below w.heap.size w (w6.alloc (Obj.cells #[Value.int IntKind.i64 p, Value.int IntKind.u32 q] 28)) := hB6.alloc hB6.size _
        have hgb : w.heap.size ≤ w6.heap.size := hB6.size
        clear hO6 hH6 hB6
        generalize w6.alloc (Obj.cells #[Value.int IntKind.i64 p, Value.int IntKind.u32 q] 28) = w7 at *
        generalize w6.heap.size = gb at *
        clear w6 w5
        go_loopg [11, 12] (l + 2) (fun gk s11 s12 wr => ∃ i m : Nat, s11 = .int .i64 m ∧ s12 = .int .i64 i ∧ 1 ≤ i ∧ i ≤ l + 1 ∧ m < i ∧ l + 1 - i < gk ∧ StB wr hb g' gb ag l cap' Lp A p q ∧ Below w.heap.size w wr ∧ Hid (∀ j, j < i → less (ats A j) (ats A m) = false))
        case atStart =>
          refine ⟨1, 0, rfl, rfl, by omega, by omega, by omega, by omega, hS7, hB7, ?_⟩
          intro j hj
          obtain rfl : j = 0 := by omega
          exact less_irrefl _
        case round =>
          obtain ⟨i, m, rfl, rfl, h1i, hil, hmi, hig, hS, hB, HM⟩ := hrel
          clear hS7 hB7
          by_cases hin : i < l + 1
          · have hin' : (i : Int) < (l : Int) + 1 := by omega
            have hml' : (m : Int) < (l : Int) + 1 := by omega
            have hml : m < l + 1 := by omega
            obtain ⟨a, b, hab⟩ : ∃ a b, ats A i = (a, b) := ⟨_, _, rfl⟩
            obtain ⟨c, d, hcd⟩ : ∃ a b, ats A m = (a, b) := ⟨_, _, rfl⟩
            have a0 := hS.all.cell0 hin
            have a1 := hS.all.cell1 hin
            have c0 := hS.all.cell0 hml
            have c1 := hS.all.cell1 hml
            rw [hab] at a0 a1
            rw [hcd] at c0 c1
            cases hl : less (a, b) (c, d) with
            | true =>
              have HM' : Hid (∀ j, j < i + 1 → less (ats A j) (ats A i) = false) := min_new A i m HM.out (by rw [hab, hcd]; exact hl)
              clear hab hcd HM
              go_wp2_with fail
              go_region_held3 (fun w' => w'.cell? ⟨ag, i * 2, none⟩ = some (.int .i64 a) ∧ w'.cell? ⟨ag, i * 2 + 1, none⟩ = some (.int .u32 b) ∧ w'.cell? ⟨ag, m * 2, none⟩ = some (.int .i64 c) ∧ w'.cell? ⟨ag, m * 2 + 1, none⟩ = some (.int .u32 d)) (first | (go_keep; done) | exact keep4 hb1 (by assumption)) (first | (go_at_call 9; refine (lessB_calls _ _ _ _ _).mono ?_; rintro e w8 ⟨rfl, hb1⟩))
              have hS8 := hS.keep (W' := w8) (Keeps.of_below hb1).of_drew
              have hB8 : Below w.heap.size w w8 := bel_keeps hB (T := []) (Keeps.of_below hb1).of_drew (by simp)
              go_wp2
              go_roundg (l + 1 - i)
              case measure => omega
              case rel => exact ⟨i + 1, i, by go_num, by go_num, by omega, by omega, by omega, by omega, hS8, hB8, HM'⟩
            | false =>
              have HM' : Hid (∀ j, j < i + 1 → less (ats A j) (ats A m) = false) := min_old A i m HM.out (by rw [hab, hcd]; exact hl)
              clear hab hcd HM
              go_wp2_with fail
              go_region_held3 (fun w' => w'.cell? ⟨ag, i * 2, none⟩ = some (.int .i64 a) ∧ w'.cell? ⟨ag, i * 2 + 1, none⟩ = some (.int .u32 b) ∧ w'.cell? ⟨ag, m * 2, none⟩ = some (.int .i64 c) ∧ w'.cell? ⟨ag, m * 2 + 1, none⟩ = some (.int .u32 d)) (first | (go_keep; done) | exact keep4 hb1 (by assumption)) (first | (go_at_call 9; refine (lessB_calls _ _ _ _ _).mono ?_; rintro e w8 ⟨rfl, hb1⟩))
              have hS8 := hS.keep (W' := w8) (Keeps.of_below hb1).of_drew
              have hB8 : Below w.heap.size w w8 := bel_keeps hB (T := []) (Keeps.of_below hb1).of_drew (by simp)
              go_wp2
              go_roundg (l + 1 - i)
              case measure => omega
              case rel => exact ⟨i + 1, m, by go_num, by go_num, by omega, by omega, by omega, by omega, hS8, hB8, HM'⟩
          · have hil2 : i = l + 1 := by omega
            subst hil2
            have hml' : (m : Int) < (l : Int) + 1 := by omega
            have hml : m < l + 1 := by omega
            have HAL : Hid (A.length = l + 1) := hS.all.len
            have hroot : ats A m = (p, q) := by
              rw [← HPQ.out]
              exact (root_is L A m HV.out.1 HV.out.2 (by rw [HAL.out]; exact hml) (by rw [HAL.out]; exact HM.out)).symm
            have HR : Hid (ValidFrom 0 Lp ∧ List.Perm (A.eraseIdx m) Lp ∧ Lp.length = l) := by
              rw [← HLp.out]
              exact ⟨popL_valid (l + 1) L HLL.out HV.out.1, rest_perm L A (l + 1) m HLL.out HV.out.1 HV.out.2 (by rw [HAL.out]; exact hml) (by rw [HAL.out]; exact HM.out), popL_length (l + 1) L HLL.out⟩
            have a0 := hS.all.cell0 hml
            have a1 := hS.all.cell1 hml
            rw [hroot] at a0 a1
            have g0 := hS.got0
            have g1 := hS.got1
            have c7 := hS.heap.1
            clear HM HV HPQ HLL HLp hroot hin hig
            go_wp2_with fail
            go_quiet (fail)
            have hS8 := hS.keep ((Keeps.refl [] wr).drewN nq)
            have hB8 : Below w.heap.size w (wr.drewN nq) := bel_keeps hB ((Keeps.refl [] wr).drewN nq) (by simp)
            clear hS hB a0 a1 g0 g1 c7
            generalize wr.drewN nq = w8 at *
            go_wp2_with (first
              | (at_make; refine wpList_make_room rfl _ (.tmp 105) rfl _ l rfl rfl (by omega) (by omega) w8.heap.size rfl ?_; intro w9 hO9 hK9 hz9))
            have hS9 := hS8.keep hK9
            have hB9 : Below w.heap.size w w9 := bel_keeps hB8 hK9 (by simp)
            have hrg : w.heap.size ≤ w8.heap.size := hB8.size
            have d1 : hb < w8.heap.size := World.block_lt_of_cell? w8 _ hS8.heap.1
            have d2 : g' < w8.heap.size := hS8.heap.2.2.1.lt
            have d3 : ag < w8.heap.size := hS8.all.lt
            have d4 : gb < w8.heap.size := World.block_lt_of_cell? w8 _ hS8.got0
            clear hK9 hS8 hB8 hz9
            generalize w8.heap.size = rg at *
            go_loopg [13, 14] (l + 2) (fun gk s13 s14 wr => ∃ i r : Nat, s13 = .slice (some ⟨rg, 0, none⟩) r l ∧ s14 = .int .i64 i ∧ i ≤ l + 1 ∧ l + 1 - i < gk ∧ Own wr rg r l ((A.take i).eraseIdx m) ∧ StB wr hb g' gb ag l cap' Lp A p q ∧ Below w.heap.size w wr)
            case atStart => exact ⟨0, 0, rfl, rfl, by omega, by omega, by simpa using hO9, hS9, hB9⟩
            case round =>
              obtain ⟨i, r, rfl, rfl, hi, hig, hOr, hS, hB⟩ := hrel
              clear hO9 hS9 hB9
              by_cases hin : i < l + 1
              · have hin' : (i : Int) < (l : Int) + 1 := by omega
                obtain ⟨a, b, hab⟩ : ∃ a b, ats A i = (a, b) := ⟨_, _, rfl⟩
                have a0 := hS.all.cell0 hin
                have a1 := hS.all.cell1 hin
                rw [hab] at a0 a1
                have hrl := hOr.len
                rw [rst_length A m i (by rw [HAL.out]; omega)] at hrl
                by_cases him : i = m
                · have him' : ((i : Int) != (m : Int)) = false := by simp [him]
                  have HO : Hid (Own wr rg r l ((A.take (i + 1)).eraseIdx m)) := by
                    have e : (A.take (i + 1)).eraseIdx m = (A.take i).eraseIdx m := by rw [him]; exact rst_hit A m (by rw [HAL.out]; omega)
                    show Own _ _ _ _ _
                    rw [e]; exact hOr
                  clear hab him hrl
                  go_wp2
                  go_roundg (l + 1 - i)
                  case measure => omega
                  case rel => exact ⟨i + 1, r, rfl, by go_num, by omega, by omega, HO.out, hS, hB⟩
                · have him' : ((i : Int) != (m : Int)) = true := by simp; omega
                  have hrl' : r + 1 ≤ l := by split at hrl <;> omega
                  have HE : Hid ((A.take (i + 1)).eraseIdx m = (A.take i).eraseIdx m ++ [(a, b)]) := by
                    show _ = _
                    rw [rst_other A m i (by rw [HAL.out]; omega) him, hab]
                  clear hab hrl
                  go_wp2_with (first | (at_builtin; refine wpList_append_items rfl (.tmp 115) (.tmp 120) rfl rg r l (some ⟨wr.heap.size, 0, none⟩) 1 1 rfl rfl _ [(a, b)] (hOr.keep (T := []) ((Keeps.refl _ _).alloc _) (by simp)) (src_one _ _ _) (by omega) ?_; intro w10 hO10 hK10))
                  have hk : Keeps [rg] wr w10 := ((Keeps.refl _ _).alloc _).trans hK10
                  go_roundg (l + 1 - i)
                  case measure => omega
                  case rel => exact ⟨i + 1, r + 1, rfl, by go_num, by omega, by omega, by rw [HE.out]; exact hO10, hS.keepT hk (by simp; omega) (by simp; omega) (by simp; omega) (by simp; omega), bel_keeps hB hk (by simp; exact hrg)⟩
              · have hin' : (l : Int) + 1 ≤ (i : Int) := by omega
                obtain ⟨R, HRR⟩ : ∃ R, Hid (A.eraseIdx m = R) := ⟨_, rfl⟩
                have hOR : Own wr rg r l R := by rw [← HRR.out]; rw [List.take_of_length_le (by rw [HAL.out]; omega)] at hOr; exact hOr
                have hrl : r = l := by
                  have h1 := hOR.len
                  rw [← HRR.out, List.length_eraseIdx, if_pos (by rw [HAL.out]; omega), HAL.out] at h1
                  omega
                subst hrl
                rw [HRR.out] at HR
                clear hOr HRR HAL hi hig
                go_wp2
                go_loopg [15] (r + 1) (fun gk s15 wr => ∃ j : Nat, s15 = .int .i64 j ∧ j ≤ r ∧ r - j < gk ∧ Own wr rg r r R ∧ StB wr hb g' gb ag r cap' Lp A p q ∧ Below w.heap.size w wr)
                case atStart => exact ⟨0, rfl, by omega, by omega, hOR, hS, hB⟩
                case round =>
                  obtain ⟨j, rfl, hj, hjg, hOj, hSj, hBj⟩ := hrel
                  clear hOR hS hB
                  by_cases hjr : j < r
                  · have hjr' : (j : Int) < (r : Int) := by omega
                    obtain ⟨a, b, hab⟩ : ∃ a b, ats R j = (a, b) := ⟨_, _, rfl⟩
                    have a0 := hOj.cell0 hjr
                    have a1 := hOj.cell1 hjr
                    rw [hab] at a0 a1
                    have c9 := hSj.heap.1
                    obtain ⟨N, HN⟩ : ∃ N, Hid (R.count (a, b) = N) := ⟨_, rfl⟩
                    have HN2 : Hid (Lp.count (a, b) = N) := by show _ = _; rw [← HN.out]; exact (HR.out.2.1.count_eq (a, b)).symm
                    clear hab
                    go_wp2_with fail
                    go_region_held3 (fun w' => w'.cell? ⟨rg, j * 2, none⟩ = some (.int .i64 a) ∧ w'.cell? ⟨rg, j * 2 + 1, none⟩ = some (.int .u32 b) ∧ w'.cell? ⟨hb, 0, none⟩ = some (.slice (some ⟨g', 0, none⟩) r cap'))
                      (first | (go_keep; done) | exact keep3 hb11 (by assumption) | exact keep3 hb10 (by assumption))
                      (first
                        | (go_at_call_of 10 (Value.slice (some ⟨rg, 0, none⟩) r r); refine (count_callsN rg r r R a b N HN.out (by omega) _ ?_).mono ?_; (first | exact hOj.drew | exact hOj); rintro e w10 ⟨rfl, hb10⟩)
                        | (go_at_call_of 10 (Value.slice (some ⟨g', 0, none⟩) r cap'); refine (count_callsN g' r cap' Lp a b N HN2.out (by omega) _ ?_).mono ?_; exact (hSj.heap.2.2.1.keep (T := []) (Keeps.of_below hb10).of_drew (by simp)); rintro e w11 ⟨rfl, hb11⟩))
                    have hk : Keeps [] wr w11 := (Keeps.of_below hb10).of_drew.trans (Keeps.of_below hb11)
                    have hO11 := hOj.keep hk (by simp)
                    have hS11 := hSj.keep hk
                    have hB11 : Below w.heap.size w w11 := bel_keeps hBj hk (by simp)
                    clear hb10 hb11 a0 a1 c9 hOj hSj hBj
                    go_wp2
                    go_roundg (r - j)
                    case measure => omega
                    case rel => exact ⟨j + 1, by go_num, by omega, by omega, hO11, hS11, hB11⟩
                  · have hjr' : (r : Int) ≤ (j : Int) := by omega
                    clear hOj hj hjg
                    go_wp2
                    go_loopg [16] (r + 2) (fun gk s16 wr => ∃ t : Nat, s16 = .int .i64 t ∧ 1 ≤ t ∧ t ≤ r + 1 ∧ r + 1 - t < gk ∧ StB wr hb g' gb ag r cap' Lp A p q ∧ Below w.heap.size w wr)
                    case atStart => exact ⟨1, rfl, by omega, by omega, by omega, hSj, hBj⟩
                    case round =>
                      obtain ⟨t, rfl, h1t, htr, htg, hSt, hBt⟩ := hrel
                      clear hSj hBj
                      have c9 := hSt.heap.1
                      by_cases htl : t < r
                      · have htl' : (t : Int) < (r : Int) := by omega
                        obtain ⟨y, HY⟩ : ∃ y : Nat, Hid ((t - 1) / 2 = y) := ⟨_, rfl⟩
                        have hy : ((t : Int) - 1) / 2 = (y : Int) := by have := HY.out; omega
                        have hyr : y < r := by have := HY.out; omega
                        have hyr' : (y : Int) < (r : Int) := by omega
                        have hw1 : IntKind.i64.wrap ((t : Int) - 1) = (t : Int) - 1 := wrap_small _ (by omega) (by omega)
                        have hw2 : IntKind.i64.wrap (((t : Int) - 1).tdiv 2) = (y : Int) := by rw [IntWalk.i64_quo _ _ (by omega)]; exact hy
                        obtain ⟨a, b, hab⟩ : ∃ a b, ats Lp t = (a, b) := ⟨_, _, rfl⟩
                        obtain ⟨c, d, hcd⟩ : ∃ a b, ats Lp y = (a, b) := ⟨_, _, rfl⟩
                        have a0 := hSt.heap.2.2.1.cell0 htl
                        have a1 := hSt.heap.2.2.1.cell1 htl
                        have b0 := hSt.heap.2.2.1.cell0 hyr
                        have b1 := hSt.heap.2.2.1.cell1 hyr
                        rw [hab] at a0 a1
                        rw [hcd] at b0 b1
                        have hless : less (a, b) (c, d) = false := by
                          have h1 := HR.out.1 t (by omega) (by rw [HR.out.2.2]; exact htl) (by omega)
                          rw [HY.out, hab, hcd] at h1
                          exact h1
                        clear hab hcd
                        go_wp2_with fail
                        go_region_held3 (fun w' => w'.cell? ⟨hb, 0, none⟩ = some (.slice (some ⟨g', 0, none⟩) r cap') ∧ w'.cell? ⟨g', t * 2, none⟩ = some (.int .i64 a) ∧ w'.cell? ⟨g', t * 2 + 1, none⟩ = some (.int .u32 b) ∧ w'.cell? ⟨g', y * 2, none⟩ = some (.int .i64 c) ∧ w'.cell? ⟨g', y * 2 + 1, none⟩ = some (.int .u32 d)) (first | (go_keep; done) | exact keep5 hb12 (by assumption)) (first | (go_at_call 9; refine (lessB_calls _ _ _ _ _).mono ?_; rintro e w12 ⟨rfl, hb12⟩))
                        have hk : Keeps [] wr w12 := (Keeps.of_below hb12).of_drew
                        have hS12 := hSt.keep hk
                        have hB12 : Below w.heap.size w w12 := bel_keeps hBt hk (by simp)
                        go_wp2
                        go_roundg (r + 1 - t)
                        case measure => omega
                        case rel => exact ⟨t + 1, by go_num, by omega, by omega, by omega, hS12, hB12⟩
                      · have htl' : (r : Int) ≤ (t : Int) := by omega
                        go_wp2
                        go_ret
                        exact ⟨rfl, hBt⟩

set_option maxRecDepth 100000 in
theorem lawB_long1 (ao : Option Addr) (n c : Nat) (ao2 : Option Addr) (n2 c2 : Nat) (hn : 1024 < n) (w : World) :
    Calls Yarv.prog 4 #[.slice ao n c, .slice ao2 n2 c2] w fun e w' => e = .returned (.bool true) ∧ Below w.heap.size w w' := by
  have hn' : (1024 : Int) < (n : Int) := by omega
  go_enter Yarv.func4, Yarv.ntmps4
  go_wp2
  go_ret
  exact ⟨rfl, Below.refl _ _⟩

set_option maxRecDepth 100000 in
theorem lawB_long2 (ao : Option Addr) (n c : Nat) (ao2 : Option Addr) (n2 c2 : Nat) (h1 : n ≤ 1024) (hn : 1024 < n2) (w : World) :
    Calls Yarv.prog 4 #[.slice ao n c, .slice ao2 n2 c2] w fun e w' => e = .returned (.bool true) ∧ Below w.heap.size w w' := by
  have h1' : (n : Int) ≤ 1024 := by omega
  have hn' : (1024 : Int) < (n2 : Int) := by omega
  go_enter Yarv.func4, Yarv.ntmps4
  go_wp2
  go_ret
  exact ⟨rfl, Below.refl _ _⟩

theorem lawB_any (ao : Option Addr) (n c : Nat) (xs : List It) (ao2 : Option Addr) (n2 c2 : Nat) (ys : List It) (w : World) (hsrc : Src w ao n c xs) (hsrc2 : Src w ao2 n2 c2 ys) :
    Calls Yarv.prog 4 #[.slice ao n c, .slice ao2 n2 c2] w fun e w' => e = .returned (.bool true) ∧ Below w.heap.size w w' := by
  by_cases hn : n ≤ 1024
  · by_cases hn2 : n2 ≤ 1024
    · exact lawB_walk ao n c xs ao2 n2 c2 ys hn hn2 w hsrc hsrc2
    · exact lawB_long2 ao n c ao2 n2 c2 hn (by omega) w
  · exact lawB_long1 ao n c ao2 n2 c2 (by omega) w

end Go.Proofs.Ymwhar
