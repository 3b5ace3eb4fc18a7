/- The walks of Place and Veto, at what HoldSafe asks; and of HoldSafe. -/
import Derived.Test.YtkkdiapnhnbjkaaM
namespace Go.Proofs.Ytkkdiapnhnbjkaa
open Go.RowKit
set_option linter.unusedVariables false
attribute [local go_sem ↓] Go.wp_at_zero Go.wp_at_succ

set_option maxHeartbeats 400000 in
theorem place_yes (y : Nat) (w : World) (hy : Blk w y 3 #[.int .i64 0]) :
    Calls Try.prog 24 #[.agg #[.int .i64 2, .slice (some ⟨y, 0, none⟩) 1 1], .int .i64 0] w fun e w' => e = .returned (.int .i64 0) ∧ Below w.heap.size w w' := by
  have c0 := hy.cell 0
  simp at c0
  have hl := hy.lt
  go_enter Try.func24, Try.ntmps24
  go_wp2_with fail
  refine wp_loop_rounds 1 ?_
  rw [rounds_succ]
  go_wp2
  go_ret
  exact ⟨rfl, (Below.refl _ _).alloc (Nat.le_refl _) _⟩
set_option maxHeartbeats 400000 in
theorem place_no (y : Nat) (w : World) (hy : Blk w y 3 #[.int .i64 0]) :
    Calls Try.prog 24 #[.agg #[.int .i64 2, .slice (some ⟨y, 0, none⟩) 1 1], .int .i64 1] w fun e w' => e = .returned (.int .i64 (-1)) ∧ Below w.heap.size w w' := by
  have c0 := hy.cell 0
  simp at c0
  have hl := hy.lt
  go_enter Try.func24, Try.ntmps24
  go_wp2_with fail
  refine wp_loop_rounds 2 ?_
  rw [rounds_succ]
  go_wp2
  rw [rounds_succ]
  go_wp2
  go_ret
  exact ⟨rfl, (Below.refl _ _).alloc (Nat.le_refl _) _⟩
set_option maxRecDepth 100000 in
set_option maxHeartbeats 1000000 in
theorem veto_yes (b g x y : Nat) (now : Int) (w : World) (hr : GrantAt w b g 2 0 [50, 550]) (hx : Blk w x 3 #[.int .i64 0, .int .i64 1]) (hy : Blk w y 3 #[.int .i64 0]) (hn : now < 550) :
    Calls Try.prog 15 #[.pointer (some ⟨b, 0, none⟩), .int .i64 now, .agg #[.int .i64 1, .slice (some ⟨x, 0, none⟩) 2 2], .agg #[.int .i64 2, .slice (some ⟨y, 0, none⟩) 1 1]] w fun e w' => e = .returned (.bool true) ∧ Below w.heap.size w w' := by
  have HR := Lib.hid hr
  have HX := Lib.hid hx
  have HY := Lib.hid hy
  have HC := Lib.hid (fun (W : World) (hW : Below w.heap.size w W) => show W.cell? ⟨b, 0, none⟩ = some (.int .i64 2) ∧ (∃ cap, W.cell? ⟨b, 2, none⟩ = some (.slice (some ⟨g, 0, none⟩) 2 cap)) ∧ W.cell? ⟨g, 1, none⟩ = some (.int .i64 550) ∧ W.cell? ⟨x, 0, none⟩ = some (.int .i64 0) ∧ W.cell? ⟨x, 1, none⟩ = some (.int .i64 1) from by
    obtain ⟨h0, cap, h1, h2⟩ := HR.out.below hW
    refine ⟨h1.cell 0, ⟨cap, h1.cell 2⟩, ((HR.out.below hW).cellg (k := 1) (by omega)).1, (HX.out.below hW).cell 0, (HX.out.below hW).cell 1⟩)
  have hlx := hx.lt
  have hly := hy.lt
  have x0 := hx.cell 0
  have x1 := hx.cell 1
  simp at x0 x1
  clear hr hx hy
  go_enter Try.func15, Try.ntmps15
  go_wp2_with fail
  refine wp_loop_rounds 2 ?_
  rw [rounds_succ]
  go_wp2_with fail
  have hb2 : Below w.heap.size w ((w.alloc (.cells #[.int .i64 1, .slice (some ⟨x, 0, none⟩) 2 2] 34)).alloc (.cells #[.int .i64 2, .slice (some ⟨y, 0, none⟩) 1 1] 34)) := ((Below.refl _ w).alloc (Nat.le_refl _) _).alloc (by simp) _
  have k6 := (Blk.new w 34 #[.int .i64 1, .slice (some ⟨x, 0, none⟩) 2 2]).alloc (.cells #[.int .i64 2, .slice (some ⟨y, 0, none⟩) 1 1] 34)
  have k7 := Blk.new (w.alloc (.cells #[.int .i64 1, .slice (some ⟨x, 0, none⟩) 2 2] 34)) 34 #[.int .i64 2, .slice (some ⟨y, 0, none⟩) 1 1]
  rw [World.size_alloc] at k7
  refine (place_yes y _ (HY.out.below hb2)).mono ?_
  rintro e w3 ⟨rfl, hb3⟩
  have hB3 := bt hb2 hb3
  have K6 := Lib.hid (k6.below hb3)
  have K7 := Lib.hid (k7.below hb3)
  have hs3 := hB3.size
  clear hb2 k6 k7 hb3
  have a1 := K6.out.cell 1
  have a2 := K7.out.cell 0
  have a3 := K7.out.cell 1
  obtain ⟨c0, ⟨cap, c2⟩, c3, c4, c5⟩ := HC.out w3 hB3
  simp at a1 a2 a3
  have hl7 := K7.out.lt
  go_wp2_with fail
  rw [rounds_succ]
  go_wp2_with fail
  refine (place_no y _ (HY.out.below hB3)).mono ?_
  rintro e w4 ⟨rfl, hb4⟩
  have hB4 := bt hB3 hb4
  clear c0 c2 c3 c4 c5
  obtain ⟨c0, ⟨cap, c2⟩, c3, c4, c5⟩ := HC.out w4 hB4
  go_wp2
  go_ret
  exact ⟨rfl, hB4⟩
end Go.Proofs.Ytkkdiapnhnbjkaa
