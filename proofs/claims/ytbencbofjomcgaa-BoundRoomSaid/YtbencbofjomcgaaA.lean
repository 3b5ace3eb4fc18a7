/- The walks of package bound: within, May, Rounds, Bytes. -/
import Derived.Test.YtbencbofjomcgaaRows
import Derived.WalkKit
import Derived.WalkSpells
import Derived.WalkLawsBesides
import Derived.Deep.QuietTactic
import Derived.BigQuiet
import Derived.Handy
namespace Go.Proofs.Ytbencbofjomcgaa
open Go.RowKit

def mayB (n c q : Int) : Bool := decide (1 ≤ n ∧ n ≤ 5 ∧ 1 ≤ c ∧ c ≤ 4 ∧ 1 ≤ q ∧ q ≤ 100)
theorem mayB_yes {n c q : Int} (h : 1 ≤ n ∧ n ≤ 5 ∧ 1 ≤ c ∧ c ≤ 4 ∧ 1 ≤ q ∧ q ≤ 100) : mayB n c q = true := by simp [mayB, h]
theorem mayB_no {n c q : Int} (h : ¬ (1 ≤ n ∧ n ≤ 5 ∧ 1 ≤ c ∧ c ≤ 4 ∧ 1 ≤ q ∧ q ≤ 100)) : mayB n c q = false := by simp [mayB]; omega

set_option maxHeartbeats 400000 in
theorem within_any (n c q : Int) (b : Nat) (w : World) (h0 : w.cell? ⟨b, 0, none⟩ = some (.int .i64 n)) (h1 : w.cell? ⟨b, 1, none⟩ = some (.int .i64 5)) (h2 : w.cell? ⟨b, 2, none⟩ = some (.int .i64 c)) (h3 : w.cell? ⟨b, 3, none⟩ = some (.int .i64 4)) (h4 : w.cell? ⟨b, 4, none⟩ = some (.int .i64 q)) (h5 : w.cell? ⟨b, 5, none⟩ = some (.int .i64 100)) :
    Calls Try.prog 15 #[.slice (some ⟨b, 0, none⟩) 6 6] w fun e w' => e = .returned (.bool (mayB n c q)) ∧ ∃ k, w' = w.drewN k := by
  have two : ∀ x m : Int, (x < 1) ∨ (¬ x < 1 ∧ m < x) ∨ (¬ x < 1 ∧ ¬ m < x) := by intro x m; omega
  have hm : mayB n c q = decide (1 ≤ n ∧ n ≤ 5 ∧ 1 ≤ c ∧ c ≤ 4 ∧ 1 ≤ q ∧ q ≤ 100) := rfl
  generalize mayB n c q = r at *
  rcases two n 5 with n1 | ⟨n1, n2⟩ | ⟨n1, n2⟩
  · obtain rfl : r = false := by simp [hm]; omega
    clear hm two
    go_enter Try.func15, Try.ntmps15
    go_wp2
    refine wp_loop_rounds 4 ?_
    rw [rounds_succ]
    go_wp2
    go_quiet (fail)
    go_wp2
    go_ret
    exact ⟨rfl, by (try simp only [World.drewN_drewN]); exact ⟨_, rfl⟩⟩
  · obtain rfl : r = false := by simp [hm]; omega
    clear hm two
    have d1 : decide (n < 1) = false := by simp; omega
    go_enter Try.func15, Try.ntmps15
    go_wp2
    refine wp_loop_rounds 4 ?_
    rw [rounds_succ]
    go_wp2
    go_quiet (fail)
    go_wp2
    go_ret
    exact ⟨rfl, by (try simp only [World.drewN_drewN]); exact ⟨_, rfl⟩⟩
  have d1 : decide (n < 1) = false := by simp; omega
  have d2 : decide (5 < n) = false := by simp; omega
  rcases two c 4 with n3 | ⟨n3, n4⟩ | ⟨n3, n4⟩
  · obtain rfl : r = false := by simp [hm]; omega
    clear hm two
    go_enter Try.func15, Try.ntmps15
    go_wp2
    refine wp_loop_rounds 4 ?_
    rw [rounds_succ]
    go_wp2
    go_quiet (fail)
    go_wp2
    rw [rounds_succ]
    go_wp2
    go_quiet (fail)
    go_wp2
    go_ret
    exact ⟨rfl, by (try simp only [World.drewN_drewN]); exact ⟨_, rfl⟩⟩
  · obtain rfl : r = false := by simp [hm]; omega
    clear hm two
    have d3 : decide (c < 1) = false := by simp; omega
    go_enter Try.func15, Try.ntmps15
    go_wp2
    refine wp_loop_rounds 4 ?_
    rw [rounds_succ]
    go_wp2
    go_quiet (fail)
    go_wp2
    rw [rounds_succ]
    go_wp2
    go_quiet (fail)
    go_wp2
    go_ret
    exact ⟨rfl, by (try simp only [World.drewN_drewN]); exact ⟨_, rfl⟩⟩
  have d3 : decide (c < 1) = false := by simp; omega
  have d4 : decide (4 < c) = false := by simp; omega
  rcases two q 100 with n5 | ⟨n5, n6⟩ | ⟨n5, n6⟩
  · obtain rfl : r = false := by simp [hm]; omega
    clear hm two
    go_enter Try.func15, Try.ntmps15
    go_wp2
    refine wp_loop_rounds 4 ?_
    rw [rounds_succ]
    go_wp2
    go_quiet (fail)
    go_wp2
    rw [rounds_succ]
    go_wp2
    go_quiet (fail)
    go_wp2
    rw [rounds_succ]
    go_wp2
    go_quiet (fail)
    go_wp2
    go_ret
    exact ⟨rfl, by (try simp only [World.drewN_drewN]); exact ⟨_, rfl⟩⟩
  · obtain rfl : r = false := by simp [hm]; omega
    clear hm two
    have d5 : decide (q < 1) = false := by simp; omega
    go_enter Try.func15, Try.ntmps15
    go_wp2
    refine wp_loop_rounds 4 ?_
    rw [rounds_succ]
    go_wp2
    go_quiet (fail)
    go_wp2
    rw [rounds_succ]
    go_wp2
    go_quiet (fail)
    go_wp2
    rw [rounds_succ]
    go_wp2
    go_quiet (fail)
    go_wp2
    go_ret
    exact ⟨rfl, by (try simp only [World.drewN_drewN]); exact ⟨_, rfl⟩⟩
  · obtain rfl : r = true := by simp [hm]; omega
    clear hm two
    have d5 : decide (q < 1) = false := by simp; omega
    have d6 : decide (100 < q) = false := by simp; omega
    go_enter Try.func15, Try.ntmps15
    go_wp2
    refine wp_loop_rounds 4 ?_
    rw [rounds_succ]
    go_wp2
    go_quiet (fail)
    go_wp2
    rw [rounds_succ]
    go_wp2
    go_quiet (fail)
    go_wp2
    rw [rounds_succ]
    go_wp2
    go_quiet (fail)
    go_wp2
    rw [rounds_succ]
    go_wp2
    go_ret
    exact ⟨rfl, by (try simp only [World.drewN_drewN]); exact ⟨_, rfl⟩⟩
end Go.Proofs.Ytbencbofjomcgaa
