/- The walk of WatchBeats. -/
import Derived.Test.YtlbbleomhbjnkaaD
import Derived.Test.YtlbbleomhbjnkaaS
namespace Go.Proofs.Ytlbbleomhbjnkaa
open Go.RowKit
set_option linter.unusedVariables false

theorem rem_range (a m : Int) (h0 : 0 < m) (h1 : m ≤ 1000000) : 0 ≤ wrap64 ((IntKind.u64.wrap a).tmod m) ∧ wrap64 ((IntKind.u64.wrap a).tmod m) < m := by
  have h := IntKind.wrap_u64 a
  have h2 : 0 ≤ IntKind.u64.wrap a := by rw [h]; omega
  rw [Int.tmod_eq_emod_of_nonneg h2]
  have h3 := Int.emod_nonneg (IntKind.u64.wrap a) (show m ≠ 0 by omega)
  have h4 := Int.emod_lt_of_pos (IntKind.u64.wrap a) h0
  unfold wrap64
  omega

theorem beats_cells (z : Int) : WatchCells 3 0 [0, z, 0, 0, 0] = WatchCells ((3 : Nat) : Int) 0 [0, z, 0, 0, 0] := rfl

set_option maxRecDepth 100000 in
set_option maxHeartbeats 1000000 in
theorem beats_any (A : Option Addr) (len cap : Nat) (zs : List Int) (w : World) (hR : IntsAt w A len zs) :
    Calls Try.prog 4 #[.slice A len cap] w fun e w' => e = .returned (.bool true) ∧ Below w.heap.size w w' := by
  have hlen := hR.2.1
  go_enter Try.func4, Try.ntmps4
  go_wp2_with fail
  refine (new_good 3 0 0 _ (by omega) (by omega) (by omega) (by omega) (by omega) (by omega)).mono ?_
  rintro e w1 ⟨rfl, hw1⟩
  have hA1 : WatchAt w1 w.heap.size (3 : Nat) 0 [0, 0, 0, 0, 0] := by rw [hw1]; exact Blk.new _ _ _
  have hB1 : Below w.heap.size w w1 := by rw [hw1]; exact (Below.refl _ _).alloc (Nat.le_refl _) _
  clear hw1
  go_wp2
  go_loopw [5, 6] (fun now i wr => ∃ (k : Nat) (z : Int), now = .int .i64 z ∧ i = .int .i64 k ∧ k ≤ 40 ∧ k ≤ len ∧ 0 ≤ z ∧ z ≤ 30 * k ∧ WatchAt wr w.heap.size (3 : Nat) 0 [0, z, 0, 0, 0] ∧ Below w.heap.size w wr)
    (fun _ i _ => 41 - (intOf i).toNat)
  case atStart => exact ⟨0, 0, rfl, rfl, by omega, by omega, by omega, by omega, hA1, hB1⟩
  case round =>
    obtain ⟨k, z, rfl, rfl, hk, hkl, hz0, hz1, hA, hB⟩ := hrel
    clear hA1 hB1
    by_cases hgo : k < len ∧ k < 40
    · obtain ⟨hg1, hg2⟩ := hgo
      obtain ⟨bl, off, rfl, hbl, hcell⟩ := (hR.below hB).2.2.2 (by omega)
      have hc := hcell k hg1
      have hr := rem_range (zs.getD k 0) 30 (by omega) (by omega)
      have hr0 := hr.1
      have hr1 := hr.2
      have hk0 : (0 : Int) ≤ (k : Int) := by omega
      have hk1 : (k : Int) < (len : Int) := by omega
      clear hr hcell hR
      generalize zs.getD k 0 = x at *
      go_wp2_with fail
      generalize wrap64 ((IntKind.u64.wrap x).tmod 30) = P at *
      have b1 : thereB 0 (z + P) (1 : Nat) z = decide (P < 12) := by unfold thereB; rw [Bool.eq_iff_iff]; simp; omega
      have b0 : thereB 0 (z + P) (0 : Nat) 0 = true := by simp [thereB]
      have t1 := there_yes _ 1 3 0 (z + P) z wr hA.n hA.self (hA.at_ (k := 1) (by simp)) (by omega) (by omega) (by omega) (by omega)
      have t0 := there_yes _ 0 3 0 (z + P) 0 wr hA.n hA.self (hA.at_ (k := 0) (by simp)) (by omega) (by omega) (by omega) (by omega)
      rw [b1] at t1
      rw [b0] at t0
      have T1 := Lib.hid t1
      have T0 := Lib.hid t0
      have HH := Lib.hid (heard_at _ 1 3 0 (z + P) _ wr hA rfl (by omega) (by omega))
      have HA := Lib.hid hA
      clear t1 t0 b1 b0 hA hc
      refine T1.out.mono ?_
      rintro e w2 ⟨rfl, rfl⟩
      go_wp2_with fail
      refine T0.out.mono ?_
      rintro e w2 ⟨rfl, rfl⟩
      go_wp2_with fail
      refine HH.out.mono ?_
      rintro e w2 ⟨rfl, hA2, hg2⟩
      have hA3 : WatchAt w2 w.heap.size (3 : Nat) 0 [0, z + P, 0, 0, 0] := by
        have e : maxZ z (z + P) = z + P := by unfold maxZ; split <;> omega
        have : WatchAt w2 w.heap.size (3 : Nat) 0 [0, maxZ z (z + P), 0, 0, 0] := hA2
        rwa [e] at this
      have hB2 := hB.trans (Below.of_grownBy hg2 (Nat.le_refl _) (Blk.lt HA.out))
      have t2 := there_yes _ 1 3 0 (z + P) (z + P) w2 hA3.n hA3.self (hA3.at_ (k := 1) (by simp)) (by omega) (by omega) (by omega) (by omega)
      have b2 : thereB 0 (z + P) (1 : Nat) (z + P) = true := by unfold thereB; simp
      rw [b2] at t2
      have T2 := Lib.hid t2
      clear t2 b2 hA2 hg2
      go_wp2_with fail
      refine T2.out.mono ?_
      rintro e w3 ⟨rfl, rfl⟩
      go_wp2
      go_roundw
      case rel => exact ⟨k + 1, z + P, rfl, by go_num, by omega, by omega, by omega, by omega, hA3, hB2⟩
      case measure => simp [intOf]; omega
    · have hcase : (¬ (k : Int) < (len : Int)) ∨ ((k : Int) < (len : Int) ∧ ¬ (k : Int) < 40) := by omega
      have hgone : goneTo 0 (z + 12) [0, z, 0, 0, 0] 3 = [1, 2] := by
        have e0 : thereB 0 (z + 12) (0 : Nat) 0 = true := by simp [thereB]
        have e1 : thereB 0 (z + 12) (1 : Nat) z = false := by unfold thereB; rw [decide_eq_false_iff_not]; omega
        have e2 : thereB 0 (z + 12) (2 : Nat) 0 = false := by unfold thereB; rw [decide_eq_false_iff_not]; omega
        have f0 : ([0, z, 0, 0, 0] : List Int).getD 0 0 = 0 := rfl
        have f1 : ([0, z, 0, 0, 0] : List Int).getD 1 0 = z := rfl
        have f2 : ([0, z, 0, 0, 0] : List Int).getD 2 0 = 0 := rfl
        simp only [goneTo, f0, f1, f2, e0, e1, e2]
        rfl
      have hpos : ∀ j, 0 ≤ ([0, z, 0, 0, 0] : List Int).getD j 0 := by
        intro j
        match j with
        | 0 | 2 | 3 | 4 => simp
        | 1 => simpa using hz0
        | _ + 5 => simp
      have HG := Lib.hid hgone
      have HP := Lib.hid hpos
      have HA := Lib.hid hA
      have hz2 : z ≤ 1200 := by omega
      clear hgo hR hgone hpos hA
      rcases hcase with h1 | ⟨h1, h2⟩
      all_goals
        go_wp2_with fail
        refine (told_any _).mono ?_
        rintro e w2 ⟨rfl, hb2⟩
        go_wp2_with fail
        refine (gone_any _ 3 0 (z + 12) _ w2 (Blk.below HA.out hb2) rfl (by omega) HP.out (by omega)).mono ?_
        rw [HG.out]
        rintro e w3 ⟨v, rfl, ho, hb3⟩
        obtain ⟨g, cap2, rfl, _⟩ := gone_some (n := 1) (x := 1) (xs := [2]) ho
        clear ho
        go_wp2
        go_ret
        exact ⟨rfl, bt (bt hB hb2) hb3⟩
end Go.Proofs.Ytlbbleomhbjnkaa
