/- The walk of HoldSafe. -/
import Derived.Test.YtkkdiapnhnbjkaaN
namespace Go.Proofs.Ytkkdiapnhnbjkaa
open Go.RowKit
set_option linter.unusedVariables false
attribute [local go_sem ↓] Go.wp_at_zero Go.wp_at_succ

theorem GrantAt.glt {w : World} {b g n : Nat} {began : Int} {hs : List Int} (h : GrantAt w b g n began hs) : g < w.heap.size := by
  obtain ⟨_, cap, _, h2⟩ := h
  exact (h2.lt g rfl).2

theorem four_new (w : World) : Blk ((((w.alloc (.cells #[.int .i64 0, .int .i64 1] 3)).alloc (.cells #[.int .i64 0] 3)).alloc (.cells #[.int .i64 1, .slice (some ⟨w.heap.size, 0, none⟩) 2 2] 34)).alloc (.cells #[.int .i64 2, .slice (some ⟨w.heap.size + 1, 0, none⟩) 1 1] 34)) w.heap.size 3 #[.int .i64 0, .int .i64 1] ∧
    Blk ((((w.alloc (.cells #[.int .i64 0, .int .i64 1] 3)).alloc (.cells #[.int .i64 0] 3)).alloc (.cells #[.int .i64 1, .slice (some ⟨w.heap.size, 0, none⟩) 2 2] 34)).alloc (.cells #[.int .i64 2, .slice (some ⟨w.heap.size + 1, 0, none⟩) 1 1] 34)) (w.heap.size + 1) 3 #[.int .i64 0] ∧
    Blk ((((w.alloc (.cells #[.int .i64 0, .int .i64 1] 3)).alloc (.cells #[.int .i64 0] 3)).alloc (.cells #[.int .i64 1, .slice (some ⟨w.heap.size, 0, none⟩) 2 2] 34)).alloc (.cells #[.int .i64 2, .slice (some ⟨w.heap.size + 1, 0, none⟩) 1 1] 34)) (w.heap.size + 1 + 1) 34 #[.int .i64 1, .slice (some ⟨w.heap.size, 0, none⟩) 2 2] ∧
    Blk ((((w.alloc (.cells #[.int .i64 0, .int .i64 1] 3)).alloc (.cells #[.int .i64 0] 3)).alloc (.cells #[.int .i64 1, .slice (some ⟨w.heap.size, 0, none⟩) 2 2] 34)).alloc (.cells #[.int .i64 2, .slice (some ⟨w.heap.size + 1, 0, none⟩) 1 1] 34)) (w.heap.size + 1 + 1 + 1) 34 #[.int .i64 2, .slice (some ⟨w.heap.size + 1, 0, none⟩) 1 1] ∧
    Below w.heap.size w ((((w.alloc (.cells #[.int .i64 0, .int .i64 1] 3)).alloc (.cells #[.int .i64 0] 3)).alloc (.cells #[.int .i64 1, .slice (some ⟨w.heap.size, 0, none⟩) 2 2] 34)).alloc (.cells #[.int .i64 2, .slice (some ⟨w.heap.size + 1, 0, none⟩) 1 1] 34)) := by
  have b1 := Blk.new w 3 #[.int .i64 0, .int .i64 1]
  have b2 := Blk.new (w.alloc (.cells #[.int .i64 0, .int .i64 1] 3)) 3 #[.int .i64 0]
  have b3 := Blk.new ((w.alloc (.cells #[.int .i64 0, .int .i64 1] 3)).alloc (.cells #[.int .i64 0] 3)) 34 #[.int .i64 1, .slice (some ⟨w.heap.size, 0, none⟩) 2 2]
  have b4 := Blk.new (((w.alloc (.cells #[.int .i64 0, .int .i64 1] 3)).alloc (.cells #[.int .i64 0] 3)).alloc (.cells #[.int .i64 1, .slice (some ⟨w.heap.size, 0, none⟩) 2 2] 34)) 34 #[.int .i64 2, .slice (some ⟨w.heap.size + 1, 0, none⟩) 1 1]
  simp only [World.size_alloc] at b2 b3 b4
  refine ⟨((b1.alloc _).alloc _).alloc _, (b2.alloc _).alloc _, b3.alloc _, b4, ((((Below.refl _ w).alloc (Nat.le_refl _) _).alloc ?_ _).alloc ?_ _).alloc ?_ _⟩ <;> simp only [World.size_alloc] <;> omega

set_option maxRecDepth 100000 in
set_option maxHeartbeats 2000000 in
theorem safe_any (passed more : Int) (w : World) : Calls Try.prog 4 #[.int .i64 passed, .int .i64 more] w fun e w' => e = .returned (.bool true) ∧ Below w.heap.size w w' := by
  obtain ⟨hp0, hp1⟩ := rem_range passed 60 (by omega) (by omega)
  go_enter Try.func4, Try.ntmps4
  go_wp2_with fail
  refine (new_good 1 _ (by omega) (by omega)).mono ?_
  rintro e w1 ⟨rfl, hA1, hB1⟩
  have HA1 := Lib.hid hA1
  clear hA1
  have ed : ∀ P : Int, 0 ≤ P → P < 60 → IntKind.u64.wrap (2 * P + 5) = 2 * P + 5 := fun P h0 h1 => by rw [IntKind.wrap_u64]; omega
  have er : ∀ P : Int, 0 ≤ P → P < 60 → 0 ≤ wrap64 ((IntKind.u64.wrap more).tmod (2 * P + 5)) ∧ wrap64 ((IntKind.u64.wrap more).tmod (2 * P + 5)) < 2 * P + 5 := fun P h0 h1 => rem_range more _ (by omega) (by omega)
  have e1 := ed _ hp0 hp1
  obtain ⟨ha0, ha1⟩ := er _ hp0 hp1
  clear ed er
  have ez : (2 * wrap64 ((IntKind.u64.wrap passed).tmod 60) + 5) ≠ 0 := by omega
  go_wp2_with fail
  generalize wrap64 ((IntKind.u64.wrap more).tmod (2 * wrap64 ((IntKind.u64.wrap passed).tmod 60) + 5)) = a at *
  generalize wrap64 ((IntKind.u64.wrap passed).tmod 60) = p at *
  clear e1 ez
  refine (rnew_good 2 0 w1 (by omega) (by omega) (by omega) (by omega)).mono ?_
  rintro e w2 ⟨g, rfl, hG2, hb2, hg⟩
  have G1 := Lib.hid (give_one w1.heap.size g w2 hG2)
  have hgl := hG2.glt
  clear hG2
  go_wp2_with fail
  refine G1.out.mono ?_
  rintro e w3 ⟨rfl, hG3, hg3⟩
  have hb3 : Below w1.heap.size w1 w3 := hb2.trans (Below.of_grownBy hg3 hg hgl)
  have hB3 := bt hB1 hb3
  have HA3 := Lib.hid (HA1.out.below hb3)
  have A1 := Lib.hid (show Calls Try.prog 9 #[.pointer (some ⟨w.heap.size, 0, none⟩), .int .i64 100, .int .i64 1] w3 (fun e w' => e = .returned (.int .i64 1) ∧ HoldAt w' w.heap.size w.heap.size 1 [⟨1, 100, 1, false, false, false, false, false⟩] ∧ Below w.heap.size w3 w' ∧ Keep w3 w') from ask_yes _ _ 1 [] 100 1 w3 HA3.out (by simp) (by decide) (by decide) (by decide))
  have HG3 := Lib.hid hG3
  clear hb2 hg3 hb3 hG3 G1
  go_wp2_with fail
  refine A1.out.mono ?_
  rintro e w4 ⟨rfl, hA4, hB4, hK4⟩
  have hB4 := hB3.trans hB4
  have HG4 := Lib.hid (HG3.out.keep hK4)
  have T1 := Lib.hid (show Calls Try.prog 10 #[.pointer (some ⟨w.heap.size, 0, none⟩), .int .i64 1, .int .i64 0] w4 (fun e w' => e = .returned (.bool true) ∧ HoldAt w' w.heap.size w.heap.size 1 [⟨1, 100, 1, true, false, false, false, false⟩] ∧ Below w.heap.size w4 w' ∧ Keep w4 w') from told_any _ _ 1 [⟨1, 100, 1, false, false, false, false, false⟩] 1 0 w4 hA4 (by simp) (by decide))
  clear hA4 hK4 A1 hB1 HA1
  go_wp2_with fail
  refine T1.out.mono ?_
  rintro e w5 ⟨rfl, hA5, hB5, hK5⟩
  have hB5 := hB4.trans hB5
  have HG5 := Lib.hid (HG4.out.keep hK5)
  have HA5 := Lib.hid hA5
  have hs5 := hB5.size
  clear hA5 hK5 T1
  go_wp2_with fail
  obtain ⟨n0, n1, n2, n3, hb6⟩ := four_new w5
  refine (doc_any _).mono ?_
  rintro e w7 ⟨rfl, hb⟩
  have hb7 := bt hb6 hb
  have N0 := Lib.hid (n0.below hb)
  have N1 := Lib.hid (n1.below hb)
  have N2 := Lib.hid (n2.below hb)
  have N3 := Lib.hid (n3.below hb)
  have hB7 := bt hB5 hb7
  have HA7 := Lib.hid (HA5.out.below hb7)
  have HG7 := Lib.hid (HG5.out.below hb7)
  clear n0 n1 n2 n3 hb hb6 hb7
  have hv : valid 1 (100 + p) 1 [⟨1, 100, 1, true, false, false, false, false⟩] = decide (p < 20) := by
    unfold valid
    rw [List.any_cons, List.any_nil, Bool.or_false, Bool.eq_iff_iff]
    unfold validQ
    rw [decide_eq_true_iff, decide_eq_true_iff]
    exact ⟨fun h => by have := h.2.2.2; simp only at this; omega, fun h => ⟨rfl, by decide, by show 100 ≤ 100 + p; omega, by show 100 + p - 100 < 20; omega⟩⟩
  have V := valid_any _ _ 1 _ (100 + p) 1 w7 HA7.out (by simp) (by omega) (by omega) (by simp) (by omega)
  rw [hv] at V
  have HV := Lib.hid V
  clear V hv
  by_cases h20 : p < 20
  · rw [decide_eq_true h20] at HV
    go_wp2_with fail
    refine HV.out.mono ?_
    rintro e w8 ⟨rfl, hb8⟩
    have M2 := Lib.hid (N2.out.below hb8)
    have M3 := Lib.hid (N3.out.below hb8)
    have a1 := M2.out.cell 0
    have a2 := M2.out.cell 1
    have a3 := M3.out.cell 0
    have a4 := M3.out.cell 1
    simp at a1 a2 a3 a4
    have VY := Lib.hid (veto_yes w1.heap.size g _ _ (500 + a) w8 (HG7.out.below hb8) (N0.out.below hb8) (N1.out.below hb8) (by omega))
    have hB8 := hB7.trans (hb8.mono (Nat.le_of_lt HA7.out.le))
    clear hb8
    go_wp2_with fail
    refine VY.out.mono ?_
    rintro e w9 ⟨rfl, hb9⟩
    go_wp2
    go_ret
    exact ⟨rfl, bt hB8 hb9⟩
  · rw [decide_eq_false h20] at HV
    go_wp2_with fail
    refine HV.out.mono ?_
    rintro e w8 ⟨rfl, hb8⟩
    go_wp2
    go_ret
    exact ⟨rfl, bt hB7 hb8⟩
end Go.Proofs.Ytkkdiapnhnbjkaa
