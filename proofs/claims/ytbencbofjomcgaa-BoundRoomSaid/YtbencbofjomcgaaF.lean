/- The walk of BoundRoom. -/
import Derived.Test.YtbencbofjomcgaaE
namespace Go.Proofs.Ytbencbofjomcgaa
open Go.RowKit
attribute [local go_sem ↓] Go.wp_at_zero Go.wp_at_succ
set_option linter.unusedVariables false

theorem b111 : bytesA 1 1 1 1 = 130 := by decide

theorem keepS9 {w W w' : World} {b d : Nat} {c q k i m s x y z : Value} (hb : Below W.heap.size W w')
    (h : W.cell? ⟨b, 0, none⟩ = some c ∧ W.cell? ⟨b, 1, none⟩ = some q ∧ W.cell? ⟨b, 2, none⟩ = some k ∧ W.cell? ⟨b, 3, none⟩ = some i ∧ W.cell? ⟨b, 4, none⟩ = some m ∧ W.cell? ⟨b, 5, none⟩ = some s ∧ b < W.heap.size ∧ Below w.heap.size w W ∧ W.cell? ⟨d, 0, none⟩ = some x ∧ W.cell? ⟨d, 1, none⟩ = some y ∧ W.cell? ⟨d, 2, none⟩ = some z ∧ d < W.heap.size) :
    w'.cell? ⟨b, 0, none⟩ = some c ∧ w'.cell? ⟨b, 1, none⟩ = some q ∧ w'.cell? ⟨b, 2, none⟩ = some k ∧ w'.cell? ⟨b, 3, none⟩ = some i ∧ w'.cell? ⟨b, 4, none⟩ = some m ∧ w'.cell? ⟨b, 5, none⟩ = some s ∧ b < w'.heap.size ∧ Below w.heap.size w w' ∧ w'.cell? ⟨d, 0, none⟩ = some x ∧ w'.cell? ⟨d, 1, none⟩ = some y ∧ w'.cell? ⟨d, 2, none⟩ = some z ∧ d < w'.heap.size := by
  obtain ⟨h0, h1, h2, h3, h4, h5, hl, hw, k0, k1, k2, kl⟩ := h
  exact ⟨(hb.cell (p := ⟨b, 0, none⟩) hl).trans h0, (hb.cell (p := ⟨b, 1, none⟩) hl).trans h1, (hb.cell (p := ⟨b, 2, none⟩) hl).trans h2, (hb.cell (p := ⟨b, 3, none⟩) hl).trans h3, (hb.cell (p := ⟨b, 4, none⟩) hl).trans h4, (hb.cell (p := ⟨b, 5, none⟩) hl).trans h5, Nat.lt_of_lt_of_le hl hb.size, bt hw hb,
   (hb.cell (p := ⟨d, 0, none⟩) kl).trans k0, (hb.cell (p := ⟨d, 1, none⟩) kl).trans k1, (hb.cell (p := ⟨d, 2, none⟩) kl).trans k2, Nat.lt_of_lt_of_le kl hb.size⟩

set_option maxRecDepth 100000 in
set_option maxHeartbeats 2000000 in
theorem room_any (c q k i m : Int) (s : ByteArray) (w : World) :
    Calls Try.prog 4 #[.agg #[.int .i64 c, .int .i64 q, .int .i64 k, .int .i64 i, .int .i64 m, .string s]] w fun e w' => e = .returned (.bool true) ∧ Below w.heap.size w w' := by
  have HB := Lib.hid fun W => (b111 ▸ bytes_any 1 1 1 1 W : Calls Try.prog 11 #[.agg #[.int .i64 1, .int .i64 1, .int .i64 1], .int .i64 1] W fun e w' => e = .returned (.int .i64 130) ∧ Below W.heap.size W w')
  by_cases hs : s.size ≤ 100
  · go_enter Try.func4, Try.ntmps4
    go_wp2_with fail
    refine (mayreq_any _ _ _ _ _ _ _ hs).mono ?_
    rintro e w1 ⟨b, rfl, hm, h1⟩
    have s1 : w.heap.size < w1.heap.size := by have := h1.size; simp at this; omega
    have hne : w.heap.size ≠ w1.heap.size := by omega
    have a0 := h1.cell (p := ⟨w.heap.size, 0, none⟩) (by simp)
    have a1 := h1.cell (p := ⟨w.heap.size, 1, none⟩) (by simp)
    have a2 := h1.cell (p := ⟨w.heap.size, 2, none⟩) (by simp)
    have a3 := h1.cell (p := ⟨w.heap.size, 3, none⟩) (by simp)
    have a4 := h1.cell (p := ⟨w.heap.size, 4, none⟩) (by simp)
    have a5 := h1.cell (p := ⟨w.heap.size, 5, none⟩) (by simp)
    have hbl : Below w.heap.size w w1 := bt (Below.alloc (Below.refl _ _) (Nat.le_refl _) _) h1
    clear h1
    cases b with
    | false =>
      clear hm
      go_wp2_with fail
      refine (told_any _).mono ?_
      rintro e w2 ⟨rfl, h2⟩
      go_wp2
      go_ret
      exact ⟨rfl, bt hbl h2⟩
    | true =>
      obtain ⟨x0, x1, x2, x3, x4, x5, x6, x7, x8, x9, x10⟩ := hm rfl
      clear hm
      go_wp2_with fail
      go_region_held3 (fun w' => w'.cell? ⟨w.heap.size, 0, none⟩ = some (.int .i64 c) ∧ w'.cell? ⟨w.heap.size, 1, none⟩ = some (.int .i64 q) ∧ w'.cell? ⟨w.heap.size, 2, none⟩ = some (.int .i64 k) ∧ w'.cell? ⟨w.heap.size, 3, none⟩ = some (.int .i64 i) ∧ w'.cell? ⟨w.heap.size, 4, none⟩ = some (.int .i64 m) ∧ w'.cell? ⟨w.heap.size, 5, none⟩ = some (.string s) ∧ w.heap.size < w'.heap.size ∧ Below w.heap.size w w' ∧ w'.cell? ⟨w1.heap.size, 0, none⟩ = some (.int .i64 1) ∧ w'.cell? ⟨w1.heap.size, 1, none⟩ = some (.int .i64 1) ∧ w'.cell? ⟨w1.heap.size, 2, none⟩ = some (.int .i64 1) ∧ w1.heap.size < w'.heap.size)
        (first | (exact keepS9 (by assumption) (by assumption)) | (refine ⟨by simp [*, go_sem], by simp [*, go_sem], by simp [*, go_sem], by simp [*, go_sem], by simp [*, go_sem], by simp [*, go_sem], by first | (simp [*, go_sem]; done) | (simp [*, go_sem]; omega), by go_grown, by simp [*, go_sem], by simp [*, go_sem], by simp [*, go_sem], by simp [*, go_sem]⟩))
        (first | (go_at_call 6; (with_reducible refine (told_any _).mono ?_); rintro e w' ⟨rfl, hb⟩) | (go_at_call 11; (with_reducible refine (HB.out _).mono ?_); rintro e w' ⟨rfl, hb⟩) | (go_at_call 14; (with_reducible refine (put_any _ _ _ _ _ _ _ ⟨by omega, by omega⟩ ⟨by omega, by omega⟩ ⟨by omega, by omega⟩ ⟨by omega, by omega⟩ ⟨by omega, by omega⟩ (by omega)).mono ?_); rintro e w' ⟨t, rfl, ht, hb⟩; have ht2 : (t.size : Int) + 6 ≤ 130 := (by omega); have ew : IntKind.i64.wrap ((t.size : Int) + 6) = (t.size : Int) + 6 := (by rw [IntKind.wrap_i64]; omega)))
      go_wp2
      go_ret
      exact ⟨rfl, (by assumption : _ ∧ _ ∧ _ ∧ _ ∧ _ ∧ _ ∧ _ ∧ Below w.heap.size w _ ∧ _).2.2.2.2.2.2.2.1⟩
  · go_enter Try.func4, Try.ntmps4
    go_wp2_with fail
    refine (told_any _).mono ?_
    rintro e w2 ⟨rfl, h2⟩
    go_wp2
    go_ret
    exact ⟨rfl, bt (Below.alloc (Below.refl _ _) (Nat.le_refl _) _) h2⟩
end Go.Proofs.Ytbencbofjomcgaa
