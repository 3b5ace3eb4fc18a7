/- The walks of package bound, and of the document's answer: May, Rounds, Bytes. -/
import Derived.Test.YtbencbofjomcgaaA
import Derived.Deep.RegionHeld3
import Derived.Lib.Hide
namespace Go.Proofs.Ytbencbofjomcgaa
open Go.RowKit

theorem below_drewN' {B : Nat} {a w : World} (h : Below B a w) (n : Nat) : Below B a (w.drewN n) := ⟨h.os, h.tape, h.output, h.size, h.block⟩
theorem ret_bool {a b : Bool} (h : a = b) : Ending.returned (.bool a) = .returned (.bool b) := by rw [h]
theorem ret_i64 {a b : Int} (h : a = b) : Ending.returned (.int .i64 a) = .returned (.int .i64 b) := by rw [h]

set_option maxHeartbeats 400000 in
theorem may_any (n c q : Int) (w : World) :
    Calls Try.prog 7 #[.agg #[.int .i64 n, .int .i64 c, .int .i64 q]] w fun e w' => e = .returned (.bool (mayB n c q)) ∧ Below w.heap.size w w' := by
  go_enter Try.func7, Try.ntmps7
  go_wp2_with (go_at_call 15; refine (within_any n c q _ _ (by simp [go_sem]) (by simp [go_sem]) (by simp [go_sem]) (by simp [go_sem]) (by simp [go_sem]) (by simp [go_sem])).mono ?_; rintro e w' ⟨rfl, k, rfl⟩)
  go_ret
  exact ⟨rfl, below_drewN' (by go_grown) _⟩

set_option maxHeartbeats 400000 in
theorem mayref_any (n c q : Int) (w : World) :
    Calls Try.prog 8 #[.agg #[.int .i64 n, .int .i64 c, .int .i64 q]] w fun e w' => e = .returned (.bool (mayB n c q)) ∧ Below w.heap.size w w' := by
  have hm : mayB n c q = decide (1 ≤ n ∧ n ≤ 5 ∧ 1 ≤ c ∧ c ≤ 4 ∧ 1 ≤ q ∧ q ≤ 100) := rfl
  generalize mayB n c q = r at *
  have HM := Lib.hid hm
  clear hm
  go_enter Try.func8, Try.ntmps8
  go_wp2
  all_goals
    go_ret
    exact ⟨ret_bool (by rw [HM.out]; rw [Bool.eq_iff_iff]; simp; omega), by go_grown⟩

def cutZ (a : Int) : Int := if a < 0 then 0 else if 100000 < a then 100000 else a
theorem cutZ_lo (a : Int) : 0 ≤ cutZ a := by unfold cutZ; split <;> (try split) <;> omega
theorem cutZ_hi (a : Int) : cutZ a ≤ 100000 := by unfold cutZ; split <;> (try split) <;> omega
def roundsZ (n a : Int) : Int := 1000 + 600 * n + 20 * n * cutZ a
def bytesZ (a : Int) : Int := 130 * cutZ a

set_option maxHeartbeats 400000 in
theorem rounds_yes (n c q a : Int) (w : World) (hm : mayB n c q = true) :
    Calls Try.prog 9 #[.agg #[.int .i64 n, .int .i64 c, .int .i64 q], .int .i64 a] w fun e w' => e = .returned (.int .i64 (roundsZ n a)) ∧ Below w.heap.size w w' := by
  have h : 1 ≤ n ∧ n ≤ 5 := by simp [mayB] at hm; omega
  have hcase : n = 1 ∨ n = 2 ∨ n = 3 ∨ n = 4 ∨ n = 5 := by omega
  go_enter Try.func9, Try.ntmps9
  go_wp2_with (go_at_call 7; refine (may_any n c q _).mono ?_; rw [hm]; rintro e w' ⟨rfl, hb⟩; have hc := hb.cell (p := ⟨w.heap.size, 0, none⟩) (by simp))
  all_goals
    go_ret
    refine ⟨ret_i64 ?_, (Below.alloc (Below.refl _ _) (Nat.le_refl _) _).trans (hb.mono (by simp))⟩
    clear hb hc
    unfold roundsZ cutZ wrap64
    rcases hcase with rfl | rfl | rfl | rfl | rfl <;> (repeat' split) <;> omega

set_option maxHeartbeats 400000 in
theorem roundsref_yes (n c q a : Int) (w : World) (hm : mayB n c q = true) :
    Calls Try.prog 10 #[.agg #[.int .i64 n, .int .i64 c, .int .i64 q], .int .i64 a] w fun e w' => e = .returned (.int .i64 (roundsZ n a)) ∧ Below w.heap.size w w' := by
  have h : 1 ≤ n ∧ n ≤ 5 := by simp [mayB] at hm; omega
  have hcase : n = 1 ∨ n = 2 ∨ n = 3 ∨ n = 4 ∨ n = 5 := by omega
  go_enter Try.func10, Try.ntmps10
  go_wp2_with (go_at_call 8; refine (mayref_any n c q _).mono ?_; rw [hm]; rintro e w' ⟨rfl, hb⟩; have hc := hb.cell (p := ⟨w.heap.size, 0, none⟩) (by simp))
  all_goals
    go_ret
    refine ⟨ret_i64 ?_, (Below.alloc (Below.refl _ _) (Nat.le_refl _) _).trans (hb.mono (by simp))⟩
    clear hb hc
    unfold roundsZ cutZ wrap64
    rcases hcase with rfl | rfl | rfl | rfl | rfl <;> (repeat' split) <;> omega

set_option maxHeartbeats 400000 in
theorem bytes_yes (n c q a : Int) (w : World) (hm : mayB n c q = true) :
    Calls Try.prog 11 #[.agg #[.int .i64 n, .int .i64 c, .int .i64 q], .int .i64 a] w fun e w' => e = .returned (.int .i64 (bytesZ a)) ∧ Below w.heap.size w w' := by
  go_enter Try.func11, Try.ntmps11
  go_wp2_with (go_at_call 7; refine (may_any n c q _).mono ?_; rw [hm]; rintro e w' ⟨rfl, hb⟩)
  all_goals
    go_ret
    refine ⟨ret_i64 ?_, (Below.alloc (Below.refl _ _) (Nat.le_refl _) _).trans (hb.mono (by simp))⟩
    clear hb
    unfold bytesZ cutZ; (try unfold wrap64); (repeat' split) <;> omega

set_option maxHeartbeats 400000 in
theorem bytesref_yes (n c q a : Int) (w : World) (hm : mayB n c q = true) :
    Calls Try.prog 12 #[.agg #[.int .i64 n, .int .i64 c, .int .i64 q], .int .i64 a] w fun e w' => e = .returned (.int .i64 (bytesZ a)) ∧ Below w.heap.size w w' := by
  go_enter Try.func12, Try.ntmps12
  go_wp2_with (go_at_call 8; refine (mayref_any n c q _).mono ?_; rw [hm]; rintro e w' ⟨rfl, hb⟩)
  all_goals
    go_ret
    refine ⟨ret_i64 ?_, (Below.alloc (Below.refl _ _) (Nat.le_refl _) _).trans (hb.mono (by simp))⟩
    clear hb
    unfold bytesZ cutZ; (try unfold wrap64); (repeat' split) <;> omega

set_option maxHeartbeats 400000 in
theorem rounds_no (n c q a : Int) (w : World) (hm : mayB n c q = false) :
    Calls Try.prog 9 #[.agg #[.int .i64 n, .int .i64 c, .int .i64 q], .int .i64 a] w fun e w' => e = .returned (.int .i64 0) ∧ Below w.heap.size w w' := by
  go_enter Try.func9, Try.ntmps9
  go_wp2_with (go_at_call 7; refine (may_any n c q _).mono ?_; rw [hm]; rintro e w' ⟨rfl, hb⟩)
  go_ret
  exact ⟨rfl, (Below.alloc (Below.refl _ _) (Nat.le_refl _) _).trans (hb.mono (by simp))⟩

set_option maxHeartbeats 400000 in
theorem roundsref_no (n c q a : Int) (w : World) (hm : mayB n c q = false) :
    Calls Try.prog 10 #[.agg #[.int .i64 n, .int .i64 c, .int .i64 q], .int .i64 a] w fun e w' => e = .returned (.int .i64 0) ∧ Below w.heap.size w w' := by
  go_enter Try.func10, Try.ntmps10
  go_wp2_with (go_at_call 8; refine (mayref_any n c q _).mono ?_; rw [hm]; rintro e w' ⟨rfl, hb⟩)
  go_ret
  exact ⟨rfl, (Below.alloc (Below.refl _ _) (Nat.le_refl _) _).trans (hb.mono (by simp))⟩

set_option maxHeartbeats 400000 in
theorem bytes_no (n c q a : Int) (w : World) (hm : mayB n c q = false) :
    Calls Try.prog 11 #[.agg #[.int .i64 n, .int .i64 c, .int .i64 q], .int .i64 a] w fun e w' => e = .returned (.int .i64 0) ∧ Below w.heap.size w w' := by
  go_enter Try.func11, Try.ntmps11
  go_wp2_with (go_at_call 7; refine (may_any n c q _).mono ?_; rw [hm]; rintro e w' ⟨rfl, hb⟩)
  go_ret
  exact ⟨rfl, (Below.alloc (Below.refl _ _) (Nat.le_refl _) _).trans (hb.mono (by simp))⟩

set_option maxHeartbeats 400000 in
theorem bytesref_no (n c q a : Int) (w : World) (hm : mayB n c q = false) :
    Calls Try.prog 12 #[.agg #[.int .i64 n, .int .i64 c, .int .i64 q], .int .i64 a] w fun e w' => e = .returned (.int .i64 0) ∧ Below w.heap.size w w' := by
  go_enter Try.func12, Try.ntmps12
  go_wp2_with (go_at_call 8; refine (mayref_any n c q _).mono ?_; rw [hm]; rintro e w' ⟨rfl, hb⟩)
  go_ret
  exact ⟨rfl, (Below.alloc (Below.refl _ _) (Nat.le_refl _) _).trans (hb.mono (by simp))⟩

/-- One word for both: what the number is. -/
def roundsA (n c q a : Int) : Int := if mayB n c q then roundsZ n a else 0
def bytesA (n c q a : Int) : Int := if mayB n c q then bytesZ a else 0
theorem rounds_any (n c q a : Int) (w : World) :
    Calls Try.prog 9 #[.agg #[.int .i64 n, .int .i64 c, .int .i64 q], .int .i64 a] w fun e w' => e = .returned (.int .i64 (roundsA n c q a)) ∧ Below w.heap.size w w' := by
  unfold roundsA
  cases h : mayB n c q
  · simpa using rounds_no n c q a w h
  · simpa using rounds_yes n c q a w h
theorem roundsref_any (n c q a : Int) (w : World) :
    Calls Try.prog 10 #[.agg #[.int .i64 n, .int .i64 c, .int .i64 q], .int .i64 a] w fun e w' => e = .returned (.int .i64 (roundsA n c q a)) ∧ Below w.heap.size w w' := by
  unfold roundsA
  cases h : mayB n c q
  · simpa using roundsref_no n c q a w h
  · simpa using roundsref_yes n c q a w h
theorem bytes_any (n c q a : Int) (w : World) :
    Calls Try.prog 11 #[.agg #[.int .i64 n, .int .i64 c, .int .i64 q], .int .i64 a] w fun e w' => e = .returned (.int .i64 (bytesA n c q a)) ∧ Below w.heap.size w w' := by
  unfold bytesA
  cases h : mayB n c q
  · simpa using bytes_no n c q a w h
  · simpa using bytes_yes n c q a w h
theorem bytesref_any (n c q a : Int) (w : World) :
    Calls Try.prog 12 #[.agg #[.int .i64 n, .int .i64 c, .int .i64 q], .int .i64 a] w fun e w' => e = .returned (.int .i64 (bytesA n c q a)) ∧ Below w.heap.size w w' := by
  unfold bytesA
  cases h : mayB n c q
  · simpa using bytesref_no n c q a w h
  · simpa using bytesref_yes n c q a w h

end Go.Proofs.Ytbencbofjomcgaa
