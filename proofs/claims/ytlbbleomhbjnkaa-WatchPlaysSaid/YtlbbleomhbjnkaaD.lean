/- The walks of told and of WatchNobody. -/
import Derived.Test.YtlbbleomhbjnkaaC
namespace Go.Proofs.Ytlbbleomhbjnkaa
open Go.RowKit Go.Shelf
set_option linter.unusedVariables false

theorem gone_any (b n : Nat) (self now : Int) (hs : List Int) (w : World) (hwt : WatchAt w b n self hs) (hl : hs.length = 5) (hn5 : n ≤ 5) (hpos : ∀ k, 0 ≤ hs.getD k 0) (hnow : now ≤ 9223372036854775807) :
    Calls Try.prog 13 #[.pointer (some ⟨b, 0, none⟩), .int .i64 now] w (GonePost (goneTo self now hs n) w) := by
  have hb := Blk.lt hwt
  refine gone_of _ _ _ (Nat.le_trans (goneTo_length self now hs n) hn5) w ?_
  have e1 : (w.alloc (.cells #[.slice none 0 0] 33)).heap.size = w.heap.size + 1 := World.size_alloc _ _
  have e2 : ((w.alloc (.cells #[.slice none 0 0] 33)).alloc (.cells #[.pointer (some ⟨b, 0, none⟩)] 23)).heap.size = w.heap.size + 1 + 1 := by rw [World.size_alloc, e1]
  have e3 : (((w.alloc (.cells #[.slice none 0 0] 33)).alloc (.cells #[.pointer (some ⟨b, 0, none⟩)] 23)).alloc (.cells #[.int .i64 now] 3)).heap.size = w.heap.size + 1 + 1 + 1 := by rw [World.size_alloc, e2]
  have b2 := Boxed.new ((w.alloc (.cells #[.slice none 0 0] 33)).alloc (.cells #[.pointer (some ⟨b, 0, none⟩)] 23)) 3 (.int .i64 now)
  have b1 := (Boxed.new (w.alloc (.cells #[.slice none 0 0] 33)) 23 (.pointer (some ⟨b, 0, none⟩))).alloc (.cells #[.int .i64 now] 3)
  rw [e2] at b2
  rw [e1] at b1
  exact stops 2 (by omega) _ _ b _ _ n self now hs _ b1.cell b2.cell (((hwt.alloc _).alloc _).alloc _) hl hn5 hpos hnow ⟨by omega, by omega⟩ ⟨by omega, by omega⟩ ⟨by omega, by omega⟩ (by rw [e3]; omega) (by rw [e3]; omega)

theorem gone_nil (now : Int) (w : World) : Calls Try.prog 13 #[.pointer none, .int .i64 now] w (GonePost [] w) := by
  refine gone_of _ _ _ (by simp) w ?_
  have e1 : (w.alloc (.cells #[.slice none 0 0] 33)).heap.size = w.heap.size + 1 := World.size_alloc _ _
  have e2 : ((w.alloc (.cells #[.slice none 0 0] 33)).alloc (.cells #[.pointer none] 23)).heap.size = w.heap.size + 1 + 1 := by rw [World.size_alloc, e1]
  have e3 : (((w.alloc (.cells #[.slice none 0 0] 33)).alloc (.cells #[.pointer none] 23)).alloc (.cells #[.int .i64 now] 3)).heap.size = w.heap.size + 1 + 1 + 1 := by rw [World.size_alloc, e2]
  have b1 := (Boxed.new (w.alloc (.cells #[.slice none 0 0] 33)) 23 (.pointer none)).alloc (.cells #[.int .i64 now] 3)
  rw [e1] at b1
  exact stops_nil 2 (by omega) _ _ _ _ _ b1.cell (by rw [e3]; omega)

theorem gone_nothing {w w' : World} {base : Nat} {v : Value} (h : w'.ownsRow base 3 1 v 0 []) : ∃ a c, v = .slice a 0 c := by
  rcases h.2 with ⟨rfl, _⟩ | ⟨g, cap, cur, rfl, _⟩
  · exact ⟨none, 0, rfl⟩
  · exact ⟨_, cap, rfl⟩
theorem gone_some {w' : World} {base : Nat} {v : Value} {x : Int} {n : Nat} {xs : List Int} (h : w'.ownsRow base 3 1 v (n + 1) ((x :: xs).map (Value.int .i64))) : ∃ g c, v = .slice (some ⟨g, 0, none⟩) (n + 1) c ∧ w'.cell? ⟨g, 0, none⟩ = some (.int .i64 x) := by
  obtain ⟨g, cap, rfl⟩ := ownsRow_succ h
  have := h.cells (g := g) rfl 0 (.int .i64 x) (by simp)
  rw [Addr.add_lit] at this
  exact ⟨g, cap, rfl, this⟩

/-- Heard, at a detector that is known whole. -/
theorem heard_at (b k n : Nat) (self now : Int) (hs : List Int) (w : World) (hwt : WatchAt w b n self hs) (hl : hs.length = 5) (hk : k < n) (hn5 : n ≤ 5) :
    Calls Try.prog 10 #[.pointer (some ⟨b, 0, none⟩), .int .i64 now, .int .i64 k] w fun e w' => e = .returned (.tuple #[]) ∧ WatchAt w' b n self (hs.set k (maxZ (hs.getD k 0) now)) ∧ w.grownBy w' (some b) := by
  refine (heard_yes b k n now _ w hwt.n (hwt.at_ (by omega)) (Blk.frozen hwt _) (by omega) (by omega)).mono ?_
  rintro e w' ⟨rfl, rfl⟩
  refine ⟨rfl, (hwt.set k _), ⟨rfl, rfl, rfl, by simp [World.setCell, World.drew], fun j hj hne => ?_⟩⟩
  exact Below.heap_setCell w _ _ j (fun e => hne (by rw [e]))

theorem Below.of_grownBy {w w' : World} {b B : Nat} (h : w.grownBy w' (some b)) (hB : B ≤ b) (hs : b < w.heap.size) : Below B w w' :=
  ⟨h.os, h.tape, h.output, h.size, fun k hk => h.block k (by omega) (fun e => by cases e; omega)⟩

set_option maxRecDepth 100000 in
set_option maxHeartbeats 1000000 in
theorem told_any (w : World) : Calls Try.prog 9 #[] w fun e w' => e = .returned (.bool true) ∧ Below w.heap.size w w' := by
  go_enter Try.func9, Try.ntmps9
  go_wp2_with fail
  refine (new_good 2 0 5 _ (by omega) (by omega) (by omega) (by omega) (by omega) (by omega)).mono ?_
  rintro e w1 ⟨rfl, hw1⟩
  have hA : WatchAt w1 w.heap.size (2 : Nat) 0 [5, 5, 0, 0, 0] := by rw [hw1]; exact Blk.new _ _ _
  have hB1 : Below w.heap.size w w1 := by rw [hw1]; exact (Below.refl _ _).alloc (Nat.le_refl _) _
  clear hw1
  go_wp2_with fail
  refine (new_bad 2 2 5 _ (by omega)).mono ?_
  rintro e w2 ⟨rfl, rfl⟩
  go_wp2_with fail
  refine (gone_any _ 2 0 16 _ _ hA rfl (by omega) (by intro k; match k with | 0 | 1 | 2 | 3 | 4 => decide | _ + 5 => simp) (by omega)).mono ?_
  rintro e w2 ⟨v1, rfl, ho1, hb2⟩
  obtain ⟨a1, cap1, rfl⟩ := gone_nothing (w := w) ho1
  clear ho1
  have hA2 : WatchAt w2 w.heap.size (2 : Nat) 0 [5, 5, 0, 0, 0] := Blk.below hA hb2
  have hB2 := bt hB1 hb2
  go_wp2_with fail
  refine (gone_any _ 2 0 17 _ _ hA2 rfl (by omega) (by intro k; match k with | 0 | 1 | 2 | 3 | 4 => decide | _ + 5 => simp) (by omega)).mono ?_
  rintro e w3 ⟨v2, rfl, ho2, hb3⟩
  obtain ⟨g, cap2, rfl, hc2⟩ := gone_some (n := 0) (x := 1) (xs := []) ho2
  have hg := (ho2.lt g rfl).1
  clear ho2
  have hA3 : WatchAt w3 w.heap.size (2 : Nat) 0 [5, 5, 0, 0, 0] := Blk.below hA2 hb3
  have hB3 := bt hB2 hb3
  have hl3 := Blk.lt hA2
  go_wp2_with fail
  refine (heard_at _ 1 2 0 20 _ _ hA3 rfl (by omega) (by omega)).mono ?_
  rintro e w4 ⟨rfl, hA4, hg4⟩
  have hA4' : WatchAt w4 w.heap.size (2 : Nat) 0 [5, 20, 0, 0, 0] := hA4
  have hc4 : w4.cell? ⟨g, 0, none⟩ = some (.int .i64 1) := hg4.cell hc2 (by simp; omega)
  have hB4 := hB3.trans (Below.of_grownBy hg4 (Nat.le_refl _) (Blk.lt hA3))
  clear hA4 hg4 hc2 hg
  have t1 := there_yes _ 1 2 0 31 20 w4 hA4'.n hA4'.self (hA4'.at_ (k := 1) (by simp)) (by omega) (by omega) (by omega) (by omega)
  have t2 := there_yes _ 1 2 0 32 20 w4 hA4'.n hA4'.self (hA4'.at_ (k := 1) (by simp)) (by omega) (by omega) (by omega) (by omega)
  have t3 := there_yes _ 0 2 0 99 5 w4 hA4'.n hA4'.self (hA4'.at_ (k := 0) (by simp)) (by omega) (by omega) (by omega) (by omega)
  rw [show thereB 0 31 (1 : Nat) 20 = true from by decide] at t1
  rw [show thereB 0 32 (1 : Nat) 20 = false from by decide] at t2
  rw [show thereB 0 99 (0 : Nat) 5 = true from by decide] at t3
  have T1 := Lib.hid t1
  have T2 := Lib.hid t2
  have T3 := Lib.hid t3
  clear t1 t2 t3
  go_wp2_with fail
  refine T1.out.mono ?_
  rintro e w5 ⟨rfl, rfl⟩
  go_wp2_with fail
  refine T2.out.mono ?_
  rintro e w5 ⟨rfl, rfl⟩
  go_wp2_with fail
  refine T3.out.mono ?_
  rintro e w5 ⟨rfl, rfl⟩
  go_wp2
  go_ret
  exact ⟨rfl, hB4⟩

set_option maxHeartbeats 1000000 in
theorem nobody_any (now node : Int) (w : World) : Calls Try.prog 5 #[.int .i64 now, .int .i64 node] w fun e w' => e = .returned (.bool true) ∧ Below w.heap.size w w' := by
  go_enter Try.func5, Try.ntmps5
  go_wp2_with fail
  refine (heard_nil _ _ _).mono ?_
  rintro e w1 ⟨rfl, rfl⟩
  go_wp2_with fail
  refine (told_any _).mono ?_
  rintro e w1 ⟨rfl, h1⟩
  go_wp2_with fail
  refine (there_nil _ _ _).mono ?_
  rintro e w2 ⟨rfl, rfl⟩
  go_wp2_with fail
  refine (gone_nil _ _).mono ?_
  rintro e w2 ⟨v, rfl, ho, h2⟩
  obtain ⟨a, c, rfl⟩ := gone_nothing (w := w) ho
  clear ho
  go_wp2
  go_ret
  exact ⟨rfl, bt h1 h2⟩
end Go.Proofs.Ytlbbleomhbjnkaa
