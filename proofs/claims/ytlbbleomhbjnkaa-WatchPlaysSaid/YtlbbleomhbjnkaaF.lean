/- The walk of WatchApart. -/
import Derived.Test.YtlbbleomhbjnkaaE
import Derived.Deep.RegionHeld3
import Derived.Deep.DrawnRows
namespace Go.Proofs.Ytlbbleomhbjnkaa
open Go.RowKit
set_option linter.unusedVariables false
attribute [local go_sem ↓] Go.wp_at_zero Go.wp_at_succ

theorem and_even : ∀ k : Nat, k < 30 → k % 2 = 0 → bits BinOp.and IntKind.i64 (k : Int) 1 = 0 := by decide
theorem and_odd : ∀ k : Nat, k < 30 → k % 2 = 1 → bits BinOp.and IntKind.i64 (k : Int) 1 = 1 := by decide

theorem quiet2 {P : Program} {f : FuncId} {args : Array Value} {w : World} {a n : Nat} {v : Value} (h : ∀ q, Calls P f args (w.drewN q) fun e w' => e = .returned v ∧ w.drewN q = w') :
    Calls P f args (w.drewN (a + n)) fun e w'' => e = .returned v ∧ ∃ m, w'' = w.drewN (a + m) := (h (a + n)).mono fun _ _ ⟨he, hm⟩ => ⟨he, n, hm.symm⟩
theorem quiet1 {P : Program} {f : FuncId} {args : Array Value} {w : World} {n : Nat} {v : Value} (h : ∀ q, Calls P f args (w.drewN q) fun e w' => e = .returned v ∧ w.drewN q = w') :
    Calls P f args (w.drewN n) fun e w'' => e = .returned v ∧ ∃ m, w'' = w.drewN m := (h n).mono fun _ _ ⟨he, hm⟩ => ⟨he, n, hm.symm⟩

def LastAt (w : World) (b : Nat) (l1 l2 : Int) : Prop := Blk w b 39 #[.int .i64 0, .int .i64 l1, .int .i64 l2]

set_option maxRecDepth 100000 in
set_option maxHeartbeats 2000000 in
theorem apart_any (A : Option Addr) (len cap : Nat) (zs : List Int) (w : World) (hR : IntsAt w A len zs) :
    Calls Try.prog 6 #[.slice A len cap] w fun e w' => e = .returned (.bool true) ∧ Below w.heap.size w w' := by
  have hlen := hR.2.1
  go_enter Try.func6, Try.ntmps6
  go_wp2_with fail
  refine (new_good 3 0 0 _ (by omega) (by omega) (by omega) (by omega) (by omega) (by omega)).mono ?_
  rintro e w1 ⟨rfl, hw1⟩
  have hA1 : WatchAt w1 w.heap.size (3 : Nat) 0 [0, 0, 0, 0, 0] := by rw [hw1]; exact Blk.new _ _ _
  have hB1 : Below w.heap.size w w1 := by rw [hw1]; exact (Below.refl _ _).alloc (Nat.le_refl _) _
  have hs1 : w1.heap.size = w.heap.size + 1 := by rw [hw1]; simp
  clear hw1
  have HS := Lib.hid hs1
  clear hs1
  go_wp2
  go_loopw [5, 7] (fun now i wr => ∃ (k : Nat) (z l1 l2 : Int), now = .int .i64 z ∧ i = .int .i64 k ∧ k ≤ 30 ∧ k ≤ len ∧ 0 ≤ z ∧ z ≤ 20 * k ∧ 0 ≤ l1 ∧ l1 ≤ z ∧ 0 ≤ l2 ∧ l2 ≤ z ∧ WatchAt wr w.heap.size (3 : Nat) 0 [0, l1, l2, 0, 0] ∧ LastAt wr w1.heap.size l1 l2 ∧ Below w.heap.size w wr)
    (fun _ i _ => 31 - (intOf i).toNat)
  case atStart => exact ⟨0, 0, 0, 0, rfl, rfl, by omega, by omega, by omega, by omega, by omega, by omega, by omega, by omega, Blk.alloc hA1 _, Blk.new _ _ _, hB1.alloc (by have := HS.out; omega) _⟩
  case round =>
    obtain ⟨k, z, l1, l2, rfl, rfl, hk, hkl, hz0, hz1, hl0, hl1, hl2, hl3, hA, hL, hB⟩ := hrel
    clear hA1 hB1
    by_cases hgo : k < len ∧ k < 30
    · obtain ⟨hg1, hg2⟩ := hgo
      obtain ⟨bl, off, rfl, hbl, hcell⟩ := (hR.below hB).2.2.2 (by omega)
      have hc := hcell k hg1
      have hr := rem_range (zs.getD k 0) 20 (by omega) (by omega)
      have hr0 := hr.1
      have hr1 := hr.2
      have hk0 : (0 : Int) ≤ (k : Int) := by omega
      have hk1 : (k : Int) < (len : Int) := by omega
      clear hr hcell hR
      generalize zs.getD k 0 = x at *
      have he : k % 2 = 0 ∨ k % 2 = 1 := by omega
      rcases he with he | he
      · have ha := and_even k hg2 he
        have HE := Lib.hid he
        clear he
        go_wp2_with fail
        generalize wrap64 ((IntKind.u64.wrap x).tmod 20) = P at *
        have HA := Lib.hid hA
        have HH := Lib.hid (heard_at _ 1 3 0 (z + P) _ wr hA rfl (by omega) (by omega))
        have HL := Lib.hid hL
        clear hA hL
        refine HH.out.mono ?_
        rintro e w2 ⟨rfl, hA2, hg2⟩
        have hA3 : WatchAt w2 w.heap.size (3 : Nat) 0 [0, z + P, l2, 0, 0] := by
          have e : maxZ l1 (z + P) = z + P := by unfold maxZ; split <;> omega
          have : WatchAt w2 w.heap.size (3 : Nat) 0 [0, maxZ l1 (z + P), l2, 0, 0] := hA2
          rwa [e] at this
        have hne : w1.heap.size ≠ w.heap.size := by have := HS.out; omega
        have hL2 : LastAt w2 w1.heap.size l1 l2 := (hg2.block _ (Blk.lt HL.out) (by intro e; exact hne (Option.some.inj e))).trans HL.out
        have hB2 := hB.trans (Below.of_grownBy hg2 (Nat.le_refl _) (Blk.lt HA.out))
        clear hA2 hg2
        have c0 := Blk.cell hL2 1
        have c1 := Blk.frozen hL2 1
        have hA4 := Blk.far hA3 (p := ⟨w1.heap.size, 1, none⟩) (by simpa using hne.symm) (.int .i64 (z + P))
        have hL4 : LastAt (w2.setCell ⟨w1.heap.size, 1, none⟩ (.int .i64 (z + P))) w1.heap.size (z + P) l2 := Blk.set hL2 1 _
        have hB4 : Below w.heap.size w (w2.setCell ⟨w1.heap.size, 1, none⟩ (.int .i64 (z + P))) := hB2.setCell (p := ⟨w1.heap.size, 1, none⟩) (by have := HS.out; simp; omega) _
        have HA4 := Lib.hid hA4
        have HL4 := Lib.hid hL4
        clear hA3 hL2 hA4 hL4 HH HA HL hne hB2
        go_wp2_with fail
        clear c0 c1 ha
        generalize w2.setCell ⟨w1.heap.size, 1, none⟩ (.int .i64 (z + P)) = W0 at *
        have hm1a : 0 ≤ z + P := by omega
        have hm1b : z + P ≤ z + P := by omega
        have hm2a : 0 ≤ l2 := by omega
        have hm2b : l2 ≤ z + P := by omega
        have t1 := fun q => there_yes _ 1 3 0 (z + P + 3) (z + P) (W0.drewN q) (WatchAt.n HA4.out) (WatchAt.self HA4.out) (WatchAt.at_ HA4.out (k := 1) (by simp)) (by omega) (by omega) (by omega) (by omega)
        have t2 := fun q => there_yes _ 2 3 0 (z + P + 3) l2 (W0.drewN q) (WatchAt.n HA4.out) (WatchAt.self HA4.out) (WatchAt.at_ HA4.out (k := 2) (by simp)) (by omega) (by omega) (by omega) (by omega)
        have b1 : thereB 0 (z + P + 3) (1 : Nat) (z + P) = decide (z + P + 3 - (z + P) < 12) := by unfold thereB; rw [Bool.eq_iff_iff]; simp; omega
        have b2 : thereB 0 (z + P + 3) (2 : Nat) l2 = decide (z + P + 3 - l2 < 12) := by unfold thereB; rw [Bool.eq_iff_iff]; simp; omega
        rw [b1] at t1
        rw [b2] at t2
        have d1 := Blk.cell HL4.out 1
        have d2 := Blk.cell HL4.out 2
        have T1 := Lib.hid t1
        have T2 := Lib.hid t2
        clear t1 t2 b1 b2
        have e0 : IntKind.i64.wrap (z + P + 3) = z + P + 3 := by rw [IntKind.wrap_i64]; omega
        have e1 : IntKind.i64.wrap (z + P + 3 - (z + P)) = z + P + 3 - (z + P) := by rw [IntKind.wrap_i64]; omega
        have e2 : IntKind.i64.wrap (z + P + 3 - l2) = z + P + 3 - l2 := by rw [IntKind.wrap_i64]; omega
        refine wp_loop_rounds 3 ?_
        rw [rounds_succ]
        go_wp2
        go_quiet ((go_at_call 15; exact quiet1 T1.out))
        go_wp2
        rw [rounds_succ]
        go_wp2
        go_quiet ((go_at_call 15; first | exact quiet1 T2.out | exact quiet2 T2.out))
        go_wp2
        rw [rounds_succ]
        go_wp2
        go_roundw
        case rel => exact ⟨k + 1, z + P, z + P, l2, rfl, by go_num, by omega, by omega, by omega, by omega, by omega, by omega, by omega, by omega, HA4.out, HL4.out, below_drewN' hB4 _⟩
        case measure => simp [intOf]; omega
      · have ha := and_odd k hg2 he
        have HE := Lib.hid he
        clear he
        go_wp2_with fail
        generalize wrap64 ((IntKind.u64.wrap x).tmod 20) = P at *
        have HA := Lib.hid hA
        have HH := Lib.hid (heard_at _ 2 3 0 (z + P) _ wr hA rfl (by omega) (by omega))
        have HL := Lib.hid hL
        clear hA hL
        refine HH.out.mono ?_
        rintro e w2 ⟨rfl, hA2, hg2⟩
        have hA3 : WatchAt w2 w.heap.size (3 : Nat) 0 [0, l1, z + P, 0, 0] := by
          have e : maxZ l2 (z + P) = z + P := by unfold maxZ; split <;> omega
          have : WatchAt w2 w.heap.size (3 : Nat) 0 [0, l1, maxZ l2 (z + P), 0, 0] := hA2
          rwa [e] at this
        have hne : w1.heap.size ≠ w.heap.size := by have := HS.out; omega
        have hL2 : LastAt w2 w1.heap.size l1 l2 := (hg2.block _ (Blk.lt HL.out) (by intro e; exact hne (Option.some.inj e))).trans HL.out
        have hB2 := hB.trans (Below.of_grownBy hg2 (Nat.le_refl _) (Blk.lt HA.out))
        clear hA2 hg2
        have c0 := Blk.cell hL2 2
        have c1 := Blk.frozen hL2 2
        have hA4 := Blk.far hA3 (p := ⟨w1.heap.size, 2, none⟩) (by simpa using hne.symm) (.int .i64 (z + P))
        have hL4 : LastAt (w2.setCell ⟨w1.heap.size, 2, none⟩ (.int .i64 (z + P))) w1.heap.size l1 (z + P) := Blk.set hL2 2 _
        have hB4 : Below w.heap.size w (w2.setCell ⟨w1.heap.size, 2, none⟩ (.int .i64 (z + P))) := hB2.setCell (p := ⟨w1.heap.size, 2, none⟩) (by have := HS.out; simp; omega) _
        have HA4 := Lib.hid hA4
        have HL4 := Lib.hid hL4
        clear hA3 hL2 hA4 hL4 HH HA HL hne hB2
        go_wp2_with fail
        clear c0 c1 ha
        generalize w2.setCell ⟨w1.heap.size, 2, none⟩ (.int .i64 (z + P)) = W0 at *
        have hm1a : 0 ≤ z + P := by omega
        have hm1b : z + P ≤ z + P := by omega
        have hm2a : 0 ≤ l1 := by omega
        have hm2b : l1 ≤ z + P := by omega
        have t1 := fun q => there_yes _ 1 3 0 (z + P + 3) l1 (W0.drewN q) (WatchAt.n HA4.out) (WatchAt.self HA4.out) (WatchAt.at_ HA4.out (k := 1) (by simp)) (by omega) (by omega) (by omega) (by omega)
        have t2 := fun q => there_yes _ 2 3 0 (z + P + 3) (z + P) (W0.drewN q) (WatchAt.n HA4.out) (WatchAt.self HA4.out) (WatchAt.at_ HA4.out (k := 2) (by simp)) (by omega) (by omega) (by omega) (by omega)
        have b1 : thereB 0 (z + P + 3) (1 : Nat) l1 = decide (z + P + 3 - l1 < 12) := by unfold thereB; rw [Bool.eq_iff_iff]; simp; omega
        have b2 : thereB 0 (z + P + 3) (2 : Nat) (z + P) = decide (z + P + 3 - (z + P) < 12) := by unfold thereB; rw [Bool.eq_iff_iff]; simp; omega
        rw [b1] at t1
        rw [b2] at t2
        have d1 := Blk.cell HL4.out 1
        have d2 := Blk.cell HL4.out 2
        have T1 := Lib.hid t1
        have T2 := Lib.hid t2
        clear t1 t2 b1 b2
        have e0 : IntKind.i64.wrap (z + P + 3) = z + P + 3 := by rw [IntKind.wrap_i64]; omega
        have e1 : IntKind.i64.wrap (z + P + 3 - (z + P)) = z + P + 3 - (z + P) := by rw [IntKind.wrap_i64]; omega
        have e2 : IntKind.i64.wrap (z + P + 3 - l1) = z + P + 3 - l1 := by rw [IntKind.wrap_i64]; omega
        refine wp_loop_rounds 3 ?_
        rw [rounds_succ]
        go_wp2
        go_quiet ((go_at_call 15; exact quiet1 T1.out))
        go_wp2
        rw [rounds_succ]
        go_wp2
        go_quiet ((go_at_call 15; first | exact quiet1 T2.out | exact quiet2 T2.out))
        go_wp2
        rw [rounds_succ]
        go_wp2
        go_roundw
        case rel => exact ⟨k + 1, z + P, l1, z + P, rfl, by go_num, by omega, by omega, by omega, by omega, by omega, by omega, by omega, by omega, HA4.out, HL4.out, below_drewN' hB4 _⟩
        case measure => simp [intOf]; omega
    · have hcase : (¬ (k : Int) < (len : Int)) ∨ ((k : Int) < (len : Int) ∧ ¬ (k : Int) < 30) := by omega
      have HA := Lib.hid hA
      clear hgo hR hA hL
      have hz2 : z ≤ 600 := by omega
      rcases hcase with h1 | ⟨h1, h2⟩
      all_goals
        go_wp2_with fail
        refine (told_any _).mono ?_
        rintro e w2 ⟨rfl, hb2⟩
        have hA2 : WatchAt w2 w.heap.size (3 : Nat) 0 [0, l1, l2, 0, 0] := Blk.below HA.out hb2
        have t0 := there_yes _ 0 3 0 z 0 w2 hA2.n hA2.self (hA2.at_ (k := 0) (by simp)) (by omega) (by omega) (by omega) (by omega)
        have b0 : thereB 0 z (0 : Nat) 0 = true := by simp [thereB]
        rw [b0] at t0
        have T0 := Lib.hid t0
        have T3 := Lib.hid (there_no _ _ z 3 w2 hA2.n (by omega))
        have T4 := Lib.hid (there_no _ _ z (-1) w2 hA2.n (by omega))
        clear t0 b0 hA2
        go_wp2_with fail
        refine T0.out.mono ?_
        rintro e w3 ⟨rfl, rfl⟩
        go_wp2_with fail
        refine T3.out.mono ?_
        rintro e w3 ⟨rfl, rfl⟩
        go_wp2_with fail
        refine T4.out.mono ?_
        rintro e w3 ⟨rfl, rfl⟩
        go_wp2
        go_ret
        exact ⟨rfl, bt hB hb2⟩
end Go.Proofs.Ytlbbleomhbjnkaa
