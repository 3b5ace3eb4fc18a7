/- The walk of told, and of the document's clocks: NewClocks, Tick, Round. -/
import Derived.Test.YtphgilkmjkmfaaaD
namespace Go.Proofs.Ytphgilkmjkmfaaa
open Go.RowKit
set_option linter.unusedVariables false

theorem ClockAt.belowB {w w' : World} {b B : Nat} {n : Int} {a c : List Int} (h : ClockAt w b n a c) (hb : Below B w w') (hB : b < B) : ClockAt w' b n a c := ⟨(hb.block b hB).trans h.1, h.2⟩

theorem ints_lit (w : World) (zs : List Int) (t : TypeId) (hn : 0 < zs.length) (hlen : zs.length ≤ 1000) (hr : ∀ x ∈ zs, -9223372036854775808 ≤ x ∧ x ≤ 9223372036854775807) (b : Nat) (hb : Blk w b t (zs.map (Value.int .i64)).toArray) : IntsAt w (some ⟨b, 0, none⟩) zs.length zs := by
  refine ⟨rfl, by omega, hr, fun _ => ⟨b, 0, rfl, hb.lt, fun k hk => ?_⟩⟩
  rw [Blk.cell hb]
  simp [hk]

set_option maxRecDepth 100000 in
set_option maxHeartbeats 1000000 in
theorem told_any (w : World) : Calls Try.prog 12 #[] w fun e w' => e = .returned (.bool true) ∧ Below w.heap.size w w' := by
  go_enter Try.func12, Try.ntmps12
  go_wp2_with fail
  refine (new_good 2 _ (by omega) (by omega)).mono ?_
  rintro e w1 ⟨rfl, hA1, hB1⟩
  go_wp2_with fail
  refine (new_bad 10 _ (by omega)).mono ?_
  rintro e w2 ⟨rfl, rfl⟩
  go_wp2_with fail
  have t1 := tick_any w.heap.size 2 zeros zeros 0 0 w1 hA1 (by omega) Inv.start (by omega)
  rw [show tickOk 2 zeros 0 = true from by decide] at t1
  refine t1.mono ?_
  rintro e w2 ⟨rfl, hA2, hg2⟩
  have hA2' : ClockAt w2 w.heap.size (2 : Nat) [1, 0, 0, 0, 0, 0, 0, 0, 0] [1, 0, 0, 0, 0, 0, 0, 0, 0] := hA2
  have hB2 := hB1.trans (Below.of_grownBy hg2 (Nat.le_refl _) hA1.lt)
  have i2 : Inv 1 [1, 0, 0, 0, 0, 0, 0, 0, 0] [1, 0, 0, 0, 0, 0, 0, 0, 0] := (Inv.start).tick (n := 2) (k := 0) (by omega) (by decide)
  clear t1 hA2 hg2 hA1
  go_wp2_with fail
  have t1 := tick_any w.heap.size 2 _ _ 0 1 w2 hA2' (by omega) i2 (by omega)
  rw [show tickOk 2 [1, 0, 0, 0, 0, 0, 0, 0, 0] 0 = true from by decide] at t1
  refine t1.mono ?_
  rintro e w3 ⟨rfl, hA3, hg3⟩
  have hA3' : ClockAt w3 w.heap.size (2 : Nat) [2, 0, 0, 0, 0, 0, 0, 0, 0] [2, 0, 0, 0, 0, 0, 0, 0, 0] := hA3
  have hB3 := hB2.trans (Below.of_grownBy hg3 (Nat.le_refl _) hA2'.lt)
  have i3 : Inv 2 [2, 0, 0, 0, 0, 0, 0, 0, 0] [2, 0, 0, 0, 0, 0, 0, 0, 0] := i2.tick (n := 2) (k := 0) (by omega) (by decide)
  clear t1 hA3 hg3 hA2'
  go_wp2_with fail
  have t1 := tick_any w.heap.size 2 _ _ 0 2 w3 hA3' (by omega) i3 (by omega)
  rw [show tickOk 2 [2, 0, 0, 0, 0, 0, 0, 0, 0] 0 = false from by decide] at t1
  refine t1.mono ?_
  rintro e w4 ⟨rfl, hA4, hg4⟩
  have hA4' : ClockAt w4 w.heap.size (2 : Nat) [2, 0, 0, 0, 0, 0, 0, 0, 0] [2, 0, 0, 0, 0, 0, 0, 0, 0] := hA4
  have hB4 := hB3.trans (Below.of_grownBy hg4 (Nat.le_refl _) hA3'.lt)
  clear t1 hA4 hg4 hA3'
  go_wp2_with fail
  have t1 := round_ok w.heap.size 2 _ _ w4 hA4' (by omega) (by omega)
  rw [show roundOk 2 [2, 0, 0, 0, 0, 0, 0, 0, 0] = false from by decide] at t1
  refine t1.mono ?_
  rintro e w5 ⟨rfl, hA5, hg5⟩
  have hA5' : ClockAt w5 w.heap.size (2 : Nat) [2, 0, 0, 0, 0, 0, 0, 0, 0] [2, 0, 0, 0, 0, 0, 0, 0, 0] := hA5
  have hB5 := hB4.trans (Below.of_grownBy hg5 (Nat.le_refl _) hA4'.lt)
  clear t1 hA5 hg5 hA4'
  go_wp2_with fail
  have t1 := tick_any w.heap.size 2 _ _ 1 2 w5 hA5' (by omega) i3 (by omega)
  rw [show tickOk 2 [2, 0, 0, 0, 0, 0, 0, 0, 0] 1 = true from by decide] at t1
  refine t1.mono ?_
  rintro e w6 ⟨rfl, hA6, hg6⟩
  have hA6' : ClockAt w6 w.heap.size (2 : Nat) [2, 1, 0, 0, 0, 0, 0, 0, 0] [2, 1, 0, 0, 0, 0, 0, 0, 0] := hA6
  have hB6 := hB5.trans (Below.of_grownBy hg6 (Nat.le_refl _) hA5'.lt)
  clear t1 hA6 hg6 hA5'
  go_wp2_with fail
  have t1 := round_ok w.heap.size 2 _ _ w6 hA6' (by omega) (by omega)
  rw [show roundOk 2 [2, 1, 0, 0, 0, 0, 0, 0, 0] = true from by decide] at t1
  refine t1.mono ?_
  rintro e w7 ⟨rfl, hA7, hg7⟩
  have hA7' : ClockAt w7 w.heap.size (2 : Nat) [2, 1, 0, 0, 0, 0, 0, 0, 0] zeros := hA7
  have hB7 := hB6.trans (Below.of_grownBy hg7 (Nat.le_refl _) hA6'.lt)
  have A0 := Lib.hid (at_yes w.heap.size 0 2 _ _ w7 hA7' (by omega) (by omega))
  have A1 := Lib.hid (at_yes w.heap.size 1 2 _ _ w7 hA7' (by omega) (by omega))
  clear t1 hA7 hg7 hA6' hA7' i2 i3
  go_wp2_with fail
  refine A0.out.mono ?_
  rintro e w8 ⟨rfl, rfl⟩
  go_wp2_with fail
  refine A1.out.mono ?_
  rintro e w8 ⟨rfl, rfl⟩
  go_wp2_with fail
  have f1 := fair_any (some ⟨w7.heap.size, 0, none⟩) 4 4 2 [0, 0, 1, 0] _ (ints_lit (w7.alloc (.cells #[.int .i64 0, .int .i64 0, .int .i64 1, .int .i64 0] 3)) [0, 0, 1, 0] 3 (by simp) (by simp) (by simp) w7.heap.size (Blk.new _ _ _)) (by omega)
  rw [show fair 2 [0, 0, 1, 0] = true from by decide] at f1
  refine f1.mono ?_
  rintro e w8 ⟨rfl, hb8⟩
  have hB8 := bt (hB7.alloc hB7.size _) hb8
  clear f1 hb8
  go_wp2_with fail
  have f1 := fair_any (some ⟨w8.heap.size, 0, none⟩) 3 3 2 [0, 0, 0] _ (ints_lit (w8.alloc (.cells #[.int .i64 0, .int .i64 0, .int .i64 0] 3)) [0, 0, 0] 3 (by simp) (by simp) (by simp) w8.heap.size (Blk.new _ _ _)) (by omega)
  rw [show fair 2 [0, 0, 0] = false from by decide] at f1
  refine f1.mono ?_
  rintro e w9 ⟨rfl, hb9⟩
  have hB9 := bt (hB8.alloc hB8.size _) hb9
  clear f1 hb9
  go_wp2
  go_ret
  exact ⟨rfl, hB9⟩
end Go.Proofs.Ytphgilkmjkmfaaa
