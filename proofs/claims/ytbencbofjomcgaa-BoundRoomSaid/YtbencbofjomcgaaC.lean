/- The walk of told, and of the three laws of layer 24. -/
import Derived.Test.YtbencbofjomcgaaB
import Derived.Deep.DrawnRows
namespace Go.Proofs.Ytbencbofjomcgaa
open Go.RowKit
attribute [local go_sem ↓] Go.wp_at_zero Go.wp_at_succ

theorem bt {a b c : World} (h : Below a.heap.size a b) (k : Below b.heap.size b c) : Below a.heap.size a c := h.trans (k.mono h.size)
theorem m315 : mayB 3 1 5 = true := by decide
theorem m000 : mayB 0 0 0 = false := by decide
theorem r315 : roundsA 3 1 5 10 = 3400 := by decide
theorem r000 : roundsA 0 0 0 5 = 0 := by decide
theorem b315 : bytesA 3 1 5 2 = 260 := by decide

set_option maxHeartbeats 400000 in
theorem told_any (w : World) : Calls Try.prog 6 #[] w fun e w' => e = .returned (.bool true) ∧ Below w.heap.size w w' := by
  have c0 : ∀ w' : World, Calls Try.prog 7 #[.agg #[.int .i64 3, .int .i64 1, .int .i64 5]] w' fun e w'' => e = .returned (.bool true) ∧ Below w'.heap.size w' w'' := fun w' => by have := may_any 3 1 5 w'; rwa [m315] at this
  have c1 : ∀ w' : World, Calls Try.prog 7 #[.agg #[.int .i64 0, .int .i64 0, .int .i64 0]] w' fun e w'' => e = .returned (.bool false) ∧ Below w'.heap.size w' w'' := fun w' => by have := may_any 0 0 0 w'; rwa [m000] at this
  have c2 : ∀ w' : World, Calls Try.prog 9 #[.agg #[.int .i64 3, .int .i64 1, .int .i64 5], .int .i64 10] w' fun e w'' => e = .returned (.int .i64 3400) ∧ Below w'.heap.size w' w'' := fun w' => by have := rounds_any 3 1 5 10 w'; rwa [r315] at this
  have c3 : ∀ w' : World, Calls Try.prog 9 #[.agg #[.int .i64 0, .int .i64 0, .int .i64 0], .int .i64 5] w' fun e w'' => e = .returned (.int .i64 0) ∧ Below w'.heap.size w' w'' := fun w' => by have := rounds_any 0 0 0 5 w'; rwa [r000] at this
  have c4 : ∀ w' : World, Calls Try.prog 11 #[.agg #[.int .i64 3, .int .i64 1, .int .i64 5], .int .i64 2] w' fun e w'' => e = .returned (.int .i64 260) ∧ Below w'.heap.size w' w'' := fun w' => by have := bytes_any 3 1 5 2 w'; rwa [b315] at this
  have C0 := Lib.hid c0
  have C1 := Lib.hid c1
  have C2 := Lib.hid c2
  have C3 := Lib.hid c3
  have C4 := Lib.hid c4
  clear c0 c1 c2 c3 c4
  go_enter Try.func6, Try.ntmps6
  go_wp2_with fail
  refine (C0.out _).mono ?_
  rintro e w1 ⟨rfl, h1⟩
  have a0 := h1.cell (p := ⟨w.heap.size, 0, none⟩) (by simp)
  have a1 := h1.cell (p := ⟨w.heap.size, 1, none⟩) (by simp)
  have a2 := h1.cell (p := ⟨w.heap.size, 2, none⟩) (by simp)
  have s1 := h1.size
  go_wp2_with fail
  refine (C2.out _).mono ?_
  rintro e w2 ⟨rfl, h2⟩
  have b0 := h2.cell (p := ⟨w.heap.size, 0, none⟩) (by simp at s1 ⊢; omega)
  have b1 := h2.cell (p := ⟨w.heap.size, 1, none⟩) (by simp at s1 ⊢; omega)
  have b2 := h2.cell (p := ⟨w.heap.size, 2, none⟩) (by simp at s1 ⊢; omega)
  have s2 := h2.size
  go_wp2_with fail
  refine (C4.out _).mono ?_
  rintro e w3 ⟨rfl, h3⟩
  have s3 := h3.size
  go_wp2_with fail
  refine (C1.out _).mono ?_
  rintro e w4 ⟨rfl, h4⟩
  have s4 := h4.size
  go_wp2_with fail
  refine (C3.out _).mono ?_
  rintro e w5 ⟨rfl, h5⟩
  go_wp2
  go_ret
  exact ⟨rfl, bt (bt (bt (bt (bt (Below.alloc (Below.refl _ _) (Nat.le_refl _) _) h1) h2) h3) h4) h5⟩

theorem keepS {w W w' : World} {b : Nat} {n c q : Value} (hb : Below W.heap.size W w')
    (h : W.cell? ⟨b, 0, none⟩ = some n ∧ W.cell? ⟨b, 1, none⟩ = some c ∧ W.cell? ⟨b, 2, none⟩ = some q ∧ b < W.heap.size ∧ Below w.heap.size w W) :
    w'.cell? ⟨b, 0, none⟩ = some n ∧ w'.cell? ⟨b, 1, none⟩ = some c ∧ w'.cell? ⟨b, 2, none⟩ = some q ∧ b < w'.heap.size ∧ Below w.heap.size w w' :=
  ⟨(hb.cell (p := ⟨b, 0, none⟩) h.2.2.2.1).trans h.1, (hb.cell (p := ⟨b, 1, none⟩) h.2.2.2.1).trans h.2.1, (hb.cell (p := ⟨b, 2, none⟩) h.2.2.2.1).trans h.2.2.1, Nat.lt_of_lt_of_le h.2.2.2.1 hb.size, bt h.2.2.2.2 hb⟩

set_option maxHeartbeats 1000000 in
theorem asks_any (n c q a : Int) (w : World) : Calls Try.prog 3 #[.agg #[.int .i64 n, .int .i64 c, .int .i64 q], .int .i64 a] w fun e w' => e = .returned (.bool true) ∧ Below w.heap.size w w' := by
  go_enter Try.func3, Try.ntmps3
  go_wp2_with fail
  go_region_held3 (fun w' => w'.cell? ⟨w.heap.size, 0, none⟩ = some (.int .i64 n) ∧ w'.cell? ⟨w.heap.size, 1, none⟩ = some (.int .i64 c) ∧ w'.cell? ⟨w.heap.size, 2, none⟩ = some (.int .i64 q) ∧ w.heap.size < w'.heap.size ∧ Below w.heap.size w w')
   (first | (refine ⟨by simp [go_sem], by simp [go_sem], by simp [go_sem], by simp [go_sem], by go_grown⟩) | (exact keepS (by assumption) (by assumption)))
   (first | (go_at_call 6; (with_reducible refine (told_any _).mono ?_); rintro e w' ⟨rfl, hb⟩) | (go_at_call 7; (with_reducible refine (may_any _ _ _ _).mono ?_); rintro e w' ⟨rfl, hb⟩) | (go_at_call 8; (with_reducible refine (mayref_any _ _ _ _).mono ?_); rintro e w' ⟨rfl, hb⟩) | (go_at_call 9; (with_reducible refine (rounds_any _ _ _ _ _).mono ?_); rintro e w' ⟨rfl, hb⟩) | (go_at_call 10; (with_reducible refine (roundsref_any _ _ _ _ _).mono ?_); rintro e w' ⟨rfl, hb⟩) | (go_at_call 11; (with_reducible refine (bytes_any _ _ _ _ _).mono ?_); rintro e w' ⟨rfl, hb⟩) | (go_at_call 12; (with_reducible refine (bytesref_any _ _ _ _ _).mono ?_); rintro e w' ⟨rfl, hb⟩))
  go_wp2
  go_ret
  exact ⟨rfl, (by assumption : _ ∧ _ ∧ _ ∧ _ ∧ Below w.heap.size w _).2.2.2.2⟩

theorem keepS2 {w W w' : World} {b d : Nat} {n c q m : Value} (hb : Below W.heap.size W w')
    (h : W.cell? ⟨b, 0, none⟩ = some n ∧ W.cell? ⟨b, 1, none⟩ = some c ∧ W.cell? ⟨b, 2, none⟩ = some q ∧ b < W.heap.size ∧ Below w.heap.size w W ∧ W.cell? ⟨d, 0, none⟩ = some m ∧ W.cell? ⟨d, 1, none⟩ = some c ∧ W.cell? ⟨d, 2, none⟩ = some q ∧ d < W.heap.size) :
    w'.cell? ⟨b, 0, none⟩ = some n ∧ w'.cell? ⟨b, 1, none⟩ = some c ∧ w'.cell? ⟨b, 2, none⟩ = some q ∧ b < w'.heap.size ∧ Below w.heap.size w w' ∧ w'.cell? ⟨d, 0, none⟩ = some m ∧ w'.cell? ⟨d, 1, none⟩ = some c ∧ w'.cell? ⟨d, 2, none⟩ = some q ∧ d < w'.heap.size :=
  ⟨(hb.cell (p := ⟨b, 0, none⟩) h.2.2.2.1).trans h.1, (hb.cell (p := ⟨b, 1, none⟩) h.2.2.2.1).trans h.2.1, (hb.cell (p := ⟨b, 2, none⟩) h.2.2.2.1).trans h.2.2.1, Nat.lt_of_lt_of_le h.2.2.2.1 hb.size, bt h.2.2.2.2.1 hb,
   (hb.cell (p := ⟨d, 0, none⟩) h.2.2.2.2.2.2.2.2).trans h.2.2.2.2.2.1, (hb.cell (p := ⟨d, 1, none⟩) h.2.2.2.2.2.2.2.2).trans h.2.2.2.2.2.2.1, (hb.cell (p := ⟨d, 2, none⟩) h.2.2.2.2.2.2.2.2).trans h.2.2.2.2.2.2.2.1, Nat.lt_of_lt_of_le h.2.2.2.2.2.2.2.2 hb.size⟩

theorem grow_facts {n c q P Q : Int} (hm : mayB n c q = true) (h0 : 0 ≤ P) (hPQ : P ≤ Q) (hQ : Q ≤ 100000) :
    roundsA n c q P ≤ roundsA n c q Q ∧ bytesA n c q P ≤ bytesA n c q Q ∧ roundsA 1 c q P ≤ roundsA n c q P ∧ 1600 ≤ roundsA n c q 0 ∧ (roundsA n c q (-5) == roundsA n c q 0) = true := by
  have hm1 : mayB 1 c q = true := by simp [mayB] at hm ⊢; omega
  have h : 1 ≤ n ∧ n ≤ 5 := by simp [mayB] at hm; omega
  have e1 : cutZ P = P := by unfold cutZ; repeat' split <;> omega
  have e2 : cutZ Q = Q := by unfold cutZ; repeat' split <;> omega
  have e3 : cutZ 0 = 0 := by decide
  have e4 : cutZ (-5) = 0 := by decide
  have hcase : n = 1 ∨ n = 2 ∨ n = 3 ∨ n = 4 ∨ n = 5 := by omega
  simp only [roundsA, bytesA, hm, hm1, if_true, roundsZ, bytesZ, e1, e2, e3, e4, beq_self_eq_true, and_true]
  rcases hcase with rfl | rfl | rfl | rfl | rfl <;> omega

theorem range_of (a : Int) : 0 ≤ wrap64 ((IntKind.u64.wrap a).tmod 100001) ∧ wrap64 ((IntKind.u64.wrap a).tmod 100001) ≤ 100000 := by
  have h := IntKind.wrap_u64 a
  have h0 : 0 ≤ IntKind.u64.wrap a := by rw [h]; omega
  rw [Int.tmod_eq_emod_of_nonneg h0]
  unfold wrap64
  omega

set_option maxHeartbeats 1000000 in
theorem grows_no (n c q a b : Int) (w : World) (hm : mayB n c q = false) : Calls Try.prog 5 #[.agg #[.int .i64 n, .int .i64 c, .int .i64 q], .int .i64 a, .int .i64 b] w fun e w' => e = .returned (.bool true) ∧ Below w.heap.size w w' := by
  have r0 : (roundsA n c q a == 0) = true := by simp [roundsA, hm]
  have r1 : (bytesA n c q a == 0) = true := by simp [bytesA, hm]
  go_enter Try.func5, Try.ntmps5
  go_wp2_with fail
  refine (may_any _ _ _ _).mono ?_
  rw [hm]
  rintro e w1 ⟨rfl, h1⟩
  have a0 := h1.cell (p := ⟨w.heap.size, 0, none⟩) (by simp)
  have a1 := h1.cell (p := ⟨w.heap.size, 1, none⟩) (by simp)
  have a2 := h1.cell (p := ⟨w.heap.size, 2, none⟩) (by simp)
  have s1 : w.heap.size < w1.heap.size := by have := h1.size; simp at this; omega
  go_wp2_with fail
  refine (told_any _).mono ?_
  rintro e w2 ⟨rfl, h2⟩
  have b0 := h2.cell (p := ⟨w.heap.size, 0, none⟩) s1
  have b1 := h2.cell (p := ⟨w.heap.size, 1, none⟩) s1
  have b2 := h2.cell (p := ⟨w.heap.size, 2, none⟩) s1
  have s2 := h2.size
  go_wp2_with fail
  refine (rounds_any _ _ _ _ _).mono ?_
  rintro e w3 ⟨rfl, h3⟩
  have d0 := h3.cell (p := ⟨w.heap.size, 0, none⟩) (Nat.lt_of_lt_of_le s1 s2)
  have d1 := h3.cell (p := ⟨w.heap.size, 1, none⟩) (Nat.lt_of_lt_of_le s1 s2)
  have d2 := h3.cell (p := ⟨w.heap.size, 2, none⟩) (Nat.lt_of_lt_of_le s1 s2)
  go_wp2_with fail
  refine (bytes_any _ _ _ _ _).mono ?_
  rintro e w4 ⟨rfl, h4⟩
  go_wp2
  go_ret
  exact ⟨rfl, bt (bt (bt (bt (Below.alloc (Below.refl _ _) (Nat.le_refl _) _) h1) h2) h3) h4⟩

set_option maxHeartbeats 1000000 in
theorem grows_yes (n c q a b : Int) (w : World) (hm : mayB n c q = true) : Calls Try.prog 5 #[.agg #[.int .i64 n, .int .i64 c, .int .i64 q], .int .i64 a, .int .i64 b] w fun e w' => e = .returned (.bool true) ∧ Below w.heap.size w w' := by
  have ra := range_of a
  have rb := range_of b
  go_enter Try.func5, Try.ntmps5
  go_wp2_with fail
  refine (may_any _ _ _ _).mono ?_
  rw [hm]
  rintro e w1 ⟨rfl, h1⟩
  have a0 := h1.cell (p := ⟨w.heap.size, 0, none⟩) (by simp)
  have a1 := h1.cell (p := ⟨w.heap.size, 1, none⟩) (by simp)
  have a2 := h1.cell (p := ⟨w.heap.size, 2, none⟩) (by simp)
  have s1 : w.heap.size < w1.heap.size := by have := h1.size; simp at this; omega
  have hne : w.heap.size ≠ w1.heap.size := by omega
  have hbl : Below w.heap.size w w1 := bt (Below.alloc (Below.refl _ _) (Nat.le_refl _) _) h1
  clear h1
  go_wp2_with fail
  all_goals generalize wrap64 ((IntKind.u64.wrap a).tmod 100001) = A at *
  all_goals generalize wrap64 ((IntKind.u64.wrap b).tmod 100001) = B at *
  · obtain ⟨f1, f2, f3, f4, f5⟩ := grow_facts (P := B) (Q := A) hm rb.1 (by omega) ra.2
    go_region_held3 (fun w' => w'.cell? ⟨w.heap.size, 0, none⟩ = some (.int .i64 n) ∧ w'.cell? ⟨w.heap.size, 1, none⟩ = some (.int .i64 c) ∧ w'.cell? ⟨w.heap.size, 2, none⟩ = some (.int .i64 q) ∧ w.heap.size < w'.heap.size ∧ Below w.heap.size w w' ∧ w'.cell? ⟨w1.heap.size, 0, none⟩ = some (.int .i64 1) ∧ w'.cell? ⟨w1.heap.size, 1, none⟩ = some (.int .i64 c) ∧ w'.cell? ⟨w1.heap.size, 2, none⟩ = some (.int .i64 q) ∧ w1.heap.size < w'.heap.size)
      (first | (exact keepS2 (by assumption) (by assumption)) | (refine ⟨by simp [*, go_sem], by simp [*, go_sem], by simp [*, go_sem], by first | (simp [*, go_sem]; done) | (simp [*, go_sem]; omega), by go_grown, by simp [*, go_sem], by simp [*, go_sem], by simp [*, go_sem], by simp [*, go_sem]⟩))
      (first | (go_at_call 6; (with_reducible refine (told_any _).mono ?_); rintro e w' ⟨rfl, hb⟩) | (go_at_call 9; (with_reducible refine (rounds_any _ _ _ _ _).mono ?_); rintro e w' ⟨rfl, hb⟩) | (go_at_call 11; (with_reducible refine (bytes_any _ _ _ _ _).mono ?_); rintro e w' ⟨rfl, hb⟩))
    go_wp2
    go_ret
    exact ⟨rfl, (by assumption : _ ∧ _ ∧ _ ∧ _ ∧ Below w.heap.size w _ ∧ _ ∧ _ ∧ _ ∧ _).2.2.2.2.1⟩
  · obtain ⟨f1, f2, f3, f4, f5⟩ := grow_facts (P := A) (Q := B) hm ra.1 (by omega) rb.2
    go_region_held3 (fun w' => w'.cell? ⟨w.heap.size, 0, none⟩ = some (.int .i64 n) ∧ w'.cell? ⟨w.heap.size, 1, none⟩ = some (.int .i64 c) ∧ w'.cell? ⟨w.heap.size, 2, none⟩ = some (.int .i64 q) ∧ w.heap.size < w'.heap.size ∧ Below w.heap.size w w' ∧ w'.cell? ⟨w1.heap.size, 0, none⟩ = some (.int .i64 1) ∧ w'.cell? ⟨w1.heap.size, 1, none⟩ = some (.int .i64 c) ∧ w'.cell? ⟨w1.heap.size, 2, none⟩ = some (.int .i64 q) ∧ w1.heap.size < w'.heap.size)
      (first | (exact keepS2 (by assumption) (by assumption)) | (refine ⟨by simp [*, go_sem], by simp [*, go_sem], by simp [*, go_sem], by first | (simp [*, go_sem]; done) | (simp [*, go_sem]; omega), by go_grown, by simp [*, go_sem], by simp [*, go_sem], by simp [*, go_sem], by simp [*, go_sem]⟩))
      (first | (go_at_call 6; (with_reducible refine (told_any _).mono ?_); rintro e w' ⟨rfl, hb⟩) | (go_at_call 9; (with_reducible refine (rounds_any _ _ _ _ _).mono ?_); rintro e w' ⟨rfl, hb⟩) | (go_at_call 11; (with_reducible refine (bytes_any _ _ _ _ _).mono ?_); rintro e w' ⟨rfl, hb⟩))
    go_wp2
    go_ret
    exact ⟨rfl, (by assumption : _ ∧ _ ∧ _ ∧ _ ∧ Below w.heap.size w _ ∧ _ ∧ _ ∧ _ ∧ _).2.2.2.2.1⟩
end Go.Proofs.Ytbencbofjomcgaa
