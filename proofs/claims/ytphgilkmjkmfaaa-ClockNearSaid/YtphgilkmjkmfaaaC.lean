/- The walks of package clock: New, is, Tick, At, Round. -/
import Derived.Test.YtphgilkmjkmfaaaB
namespace Go.Proofs.Ytphgilkmjkmfaaa
open Go.RowKit
set_option linter.unusedVariables false

/-- Clocks: how many, what each shows, how often each ticked since the last round. -/
def ClockCells (n : Int) (at_ cnt : List Int) : List Value := Value.int .i64 n :: (at_.map (Value.int .i64) ++ cnt.map (Value.int .i64))
def ClockAt (w : World) (b : Nat) (n : Int) (at_ cnt : List Int) : Prop := Blk w b 40 (ClockCells n at_ cnt).toArray ∧ at_.length = 9 ∧ cnt.length = 9
section
variable {w w' : World} {b : Nat} {n : Int} {at_ cnt : List Int}
theorem ClockAt.num (h : ClockAt w b n at_ cnt) : w.cell? ⟨b, 0, none⟩ = some (.int .i64 n) := by
  rw [Blk.cell h.1]; rfl
theorem ClockAt.shows (h : ClockAt w b n at_ cnt) {k : Nat} (hk : k < 9) : w.cell? ⟨b, 1 + k, none⟩ = some (.int .i64 (at_.getD k 0)) := by
  rw [Blk.cell h.1, show 1 + k = k + 1 by omega]
  simp [ClockCells, List.getElem?_append, h.2.1, hk]
theorem ClockAt.count (h : ClockAt w b n at_ cnt) {k : Nat} (hk : k < 9) : w.cell? ⟨b, 10 + k, none⟩ = some (.int .i64 (cnt.getD k 0)) := by
  rw [Blk.cell h.1, show 10 + k = (9 + k) + 1 by omega]
  simp [ClockCells, List.getElem?_append, h.2.1, h.2.2, hk]
theorem ClockAt.lt (h : ClockAt w b n at_ cnt) : b < w.heap.size := Blk.lt h.1
theorem ClockAt.below (h : ClockAt w b n at_ cnt) (hb : Below w.heap.size w w') : ClockAt w' b n at_ cnt := ⟨Blk.below h.1 hb, h.2⟩
theorem ClockAt.kept {x : Nat} (h : ClockAt w b n at_ cnt) (hb : w.grownBy w' (some x)) (hne : b ≠ x) : ClockAt w' b n at_ cnt := ⟨Blk.kept h.1 hb hne, h.2⟩
theorem ClockAt.setAt (h : ClockAt w b n at_ cnt) {k : Nat} (hk : k < 9) (x : Int) : ClockAt (w.setCell ⟨b, 1 + k, none⟩ (.int .i64 x)) b n (at_.set k x) cnt := by
  refine ⟨?_, by simpa using h.2.1, h.2.2⟩
  have := Blk.set h.1 (1 + k) (.int .i64 x)
  have e : (ClockCells n at_ cnt).toArray.setIfInBounds (1 + k) (.int .i64 x) = (ClockCells n (at_.set k x) cnt).toArray := by
    rw [show 1 + k = k + 1 by omega]
    simp [ClockCells, List.map_set, h.2.1, hk]
  rwa [e] at this
theorem ClockAt.setCnt (h : ClockAt w b n at_ cnt) {k : Nat} (hk : k < 9) (x : Int) : ClockAt (w.setCell ⟨b, 10 + k, none⟩ (.int .i64 x)) b n at_ (cnt.set k x) := by
  refine ⟨?_, h.2.1, by simpa using h.2.2⟩
  have := Blk.set h.1 (10 + k) (.int .i64 x)
  have e : (ClockCells n at_ cnt).toArray.setIfInBounds (10 + k) (.int .i64 x) = (ClockCells n at_ (cnt.set k x)).toArray := by
    rw [show 10 + k = (9 + k) + 1 by omega]
    simp [ClockCells, List.map_set, h.2.1]
  rwa [e] at this
end

theorem is_yes (b : Nat) (n k : Int) (w : World) (hn : w.cell? ⟨b, 0, none⟩ = some (.int .i64 n)) (h0 : 0 ≤ k) (h1 : k < n) :
    Calls Try.prog 18 #[.pointer (some ⟨b, 0, none⟩), .int .i64 k] w fun e w' => e = .returned (.bool true) ∧ w = w' := by
  go_enter Try.func18, Try.ntmps18
  go_wp2
  go_ret
  exact ⟨rfl, rfl⟩
theorem is_no (b : Nat) (n k : Int) (w : World) (hn : w.cell? ⟨b, 0, none⟩ = some (.int .i64 n)) (h : k < 0 ∨ n ≤ k) :
    Calls Try.prog 18 #[.pointer (some ⟨b, 0, none⟩), .int .i64 k] w fun e w' => e = .returned (.bool false) ∧ w = w' := by
  by_cases h0 : k < 0
  · clear h
    go_enter Try.func18, Try.ntmps18
    go_wp2
    go_ret
    exact ⟨rfl, rfl⟩
  · have h1 : n ≤ k := by omega
    clear h
    go_enter Try.func18, Try.ntmps18
    go_wp2
    go_ret
    exact ⟨ret_bool (by first | rfl | (simp; omega)), rfl⟩

theorem new_bad (n : Int) (w : World) (h : n < 1 ∨ 9 < n) :
    Calls Try.prog 8 #[.int .i64 n] w fun e w' => e = .returned (.tuple #[.pointer none, .int .i64 1]) ∧ w = w' := by
  by_cases c1 : n < 1
  · clear h
    go_enter Try.func8, Try.ntmps8
    go_wp2
    go_ret2
    exact ⟨rfl, rfl⟩
  · have c2 : 9 < n := by omega
    clear h
    go_enter Try.func8, Try.ntmps8
    go_wp2
    go_ret2
    exact ⟨rfl, rfl⟩
def zeros : List Int := List.replicate 9 0
theorem new_good (n : Int) (w : World) (h1 : 1 ≤ n) (h2 : n ≤ 9) :
    Calls Try.prog 8 #[.int .i64 n] w fun e w' => e = .returned (.tuple #[.pointer (some ⟨w.heap.size, 0, none⟩), .int .i64 0]) ∧ ClockAt w' w.heap.size n zeros zeros ∧ Below w.heap.size w w' := by
  go_enter Try.func8, Try.ntmps8
  go_wp2
  go_ret2
  exact ⟨rfl, ⟨Blk.new _ _ _, rfl, rfl⟩, (Below.refl _ _).alloc (Nat.le_refl _) _⟩

theorem at_yes (b k n : Nat) (at_ cnt : List Int) (w : World) (h : ClockAt w b n at_ cnt) (hk : k < n) (hn : n ≤ 9) :
    Calls Try.prog 10 #[.pointer (some ⟨b, 0, none⟩), .int .i64 k] w fun e w' => e = .returned (.int .i64 (at_.getD k 0)) ∧ w = w' := by
  have hk0 : (0 : Int) ≤ (k : Int) := by omega
  have hk1 : (k : Int) < (n : Int) := by omega
  have hk9 : (k : Int) < 9 := by omega
  have c0 := h.num
  have c1 := h.shows (k := k) (by omega)
  generalize at_.getD k 0 = x at *
  clear h
  go_enter Try.func10, Try.ntmps10
  go_wp2_with (go_at_call 18; refine (is_yes _ _ _ _ c0 hk0 hk1).mono ?_; rintro e w' ⟨rfl, rfl⟩)
  go_ret
  exact ⟨rfl, rfl⟩
theorem at_no (b : Nat) (n k : Int) (w : World) (hn : w.cell? ⟨b, 0, none⟩ = some (.int .i64 n)) (h : k < 0 ∨ n ≤ k) :
    Calls Try.prog 10 #[.pointer (some ⟨b, 0, none⟩), .int .i64 k] w fun e w' => e = .returned (.int .i64 0) ∧ w = w' := by
  have HH := Lib.hid h
  clear h
  go_enter Try.func10, Try.ntmps10
  go_wp2_with (go_at_call 18; refine (is_no _ _ _ _ hn HH.out).mono ?_; rintro e w' ⟨rfl, rfl⟩)
  go_ret
  exact ⟨rfl, rfl⟩

theorem tick_none (b : Nat) (n k : Int) (w : World) (hn : w.cell? ⟨b, 0, none⟩ = some (.int .i64 n)) (h : k < 0 ∨ n ≤ k) :
    Calls Try.prog 9 #[.pointer (some ⟨b, 0, none⟩), .int .i64 k] w fun e w' => e = .returned (.bool false) ∧ w = w' := by
  have HH := Lib.hid h
  clear h
  go_enter Try.func9, Try.ntmps9
  go_wp2_with (go_at_call 18; refine (is_no _ _ _ _ hn HH.out).mono ?_; rintro e w' ⟨rfl, rfl⟩)
  go_ret
  exact ⟨rfl, rfl⟩
theorem tick_full (b k n : Nat) (at_ cnt : List Int) (w : World) (h : ClockAt w b n at_ cnt) (hk : k < n) (hn : n ≤ 9) (hc : 1 < cnt.getD k 0) :
    Calls Try.prog 9 #[.pointer (some ⟨b, 0, none⟩), .int .i64 k] w fun e w' => e = .returned (.bool false) ∧ w = w' := by
  have hk0 : (0 : Int) ≤ (k : Int) := by omega
  have hk1 : (k : Int) < (n : Int) := by omega
  have hk9 : (k : Int) < 9 := by omega
  have c0 := h.num
  have c1 := h.count (k := k) (by omega)
  generalize cnt.getD k 0 = x at *
  clear h
  go_enter Try.func9, Try.ntmps9
  go_wp2_with (go_at_call 18; refine (is_yes _ _ _ _ c0 hk0 hk1).mono ?_; rintro e w' ⟨rfl, rfl⟩)
  go_ret
  exact ⟨rfl, rfl⟩
set_option maxHeartbeats 400000 in
theorem tick_ok (b k n : Nat) (at_ cnt : List Int) (w : World) (h : ClockAt w b n at_ cnt) (hk : k < n) (hn : n ≤ 9) (hc0 : 0 ≤ cnt.getD k 0) (hc : cnt.getD k 0 ≤ 1) (ha : 0 ≤ at_.getD k 0) (ha1 : at_.getD k 0 ≤ 1000000) :
    Calls Try.prog 9 #[.pointer (some ⟨b, 0, none⟩), .int .i64 k] w fun e w' => e = .returned (.bool true) ∧ ClockAt w' b n (at_.set k (at_.getD k 0 + 1)) (cnt.set k (cnt.getD k 0 + 1)) ∧ w.grownBy w' (some b) := by
  have hk0 : (0 : Int) ≤ (k : Int) := by omega
  have hk1 : (k : Int) < (n : Int) := by omega
  have hk9 : (k : Int) < 9 := by omega
  have c0 := h.num
  have c1 := h.count (k := k) (by omega)
  have c2 := h.shows (k := k) (by omega)
  have f1 := Blk.frozen h.1 (10 + k)
  have f2 := Blk.frozen h.1 (1 + k)
  have HH := Lib.hid (fun a c => (h.setAt (k := k) (by omega) a).setCnt (k := k) (by omega) c)
  generalize cnt.getD k 0 = x at *
  generalize at_.getD k 0 = y at *
  have e1 : IntKind.i64.wrap (x + 1) = x + 1 := by rw [IntKind.wrap_i64]; omega
  have e2 : IntKind.i64.wrap (y + 1) = y + 1 := by rw [IntKind.wrap_i64]; omega
  clear h
  go_enter Try.func9, Try.ntmps9
  go_wp2_with (go_at_call 18; refine (is_yes _ _ _ _ c0 hk0 hk1).mono ?_; rintro e w' ⟨rfl, rfl⟩)
  go_region
  all_goals go_wp2
  all_goals go_region
  all_goals go_wp2
  all_goals
    go_ret
    exact ⟨rfl, HH.out _ _, grownBy_drew (grownBy_drew (grownBy_trans (grownBy_set _ _ _ _) (grownBy_set _ _ _ _)))⟩

def RoundPost (b n : Nat) (at_ cnt : List Int) (w : World) (ok : Bool) (e : Ending) (w' : World) : Prop :=
  e = .returned (.bool ok) ∧ ClockAt w' b n at_ (if ok then zeros else cnt) ∧ w.grownBy w' (some b)
theorem zero3 (w : World) : (zeroValue 3).run Try.prog w = .ok (.int .i64 0) w := by kernel_rfl

set_option maxHeartbeats 400000 in
theorem round_any (b n : Nat) (at_ cnt : List Int) (w : World) (h : ClockAt w b n at_ cnt) (h1 : 1 ≤ n) (hn : n ≤ 9) (ok : Bool) (hok : ok = decide (∀ k, k < n → cnt.getD k 0 ≠ 0)) :
    Calls Try.prog 11 #[.pointer (some ⟨b, 0, none⟩)] w (RoundPost b n at_ cnt w ok) := by
  have hn0 : (1 : Int) ≤ (n : Int) := by omega
  have hn9 : (n : Int) ≤ 9 := by omega
  have c0 := h.num
  have HOK := Lib.hid hok
  have H := Lib.hid h
  clear h hok
  go_enter Try.func11, Try.ntmps11
  go_wp2
  go_quiet (fail)
  go_wp2
  go_loop [16] (fun i => ∃ k : Nat, i = .int .i64 k ∧ k ≤ n ∧ ∀ j, j < k → cnt.getD j 0 ≠ 0) (fun i => 10 - (intOf i).toNat)
  case atStart => exact ⟨0, rfl, Nat.zero_le _, fun j hj => absurd hj (by omega)⟩
  case round =>
    obtain ⟨k, rfl, hk, hall⟩ := hrel
    have HALL := Lib.hid hall
    clear hall
    have hk0 : (0 : Int) ≤ (k : Int) := by omega
    by_cases hlt : k < n
    · have hk1 : (k : Int) < (n : Int) := by omega
      have hk9 : (k : Int) < 9 := by omega
      have c1 := H.out.count (k := k) (by omega)
      have hx : ∃ x, cnt.getD k 0 = x := ⟨_, rfl⟩
      obtain ⟨x, hx⟩ := hx
      rw [hx] at c1
      have HX := Lib.hid hx
      clear hx
      by_cases hz : x = 0
      · subst hz
        go_wp2
        go_ret
        have e : ok = false := by
          rw [HOK.out, decide_eq_false_iff_not]
          intro hh
          exact hh k hlt HX.out
        rw [e]
        exact ⟨rfl, ⟨Blk.drewN H.out.1 _, H.out.2⟩, grownBy_drewN (World.grownBy.refl _ _) _⟩
      · have hz1 : (x == 0) = false := by simp [hz]
        have HZ := Lib.hid hz
        clear hz
        go_wp2
        go_round
        case rel =>
          refine ⟨k + 1, by go_num, by omega, fun j hj => ?_⟩
          by_cases e : j = k
          · subst e; rw [HX.out]; exact HZ.out
          · exact HALL.out j (by omega)
        case measure => simp [intOf]; omega
    · obtain rfl : k = n := by omega
      have hcl : ∀ ty, (Builtin.clear_ #[22] ty #[.slice (some ⟨b, 10, none⟩) 9 9]).run Try.prog (w.drewN nq) = .ok (.tuple #[]) ((w.drewN nq).setCells b 10 (List.replicate 9 (.int .i64 0))) :=
        fun ty => Lib.run_clear_slice _ 22 3 ty (.int .i64 0) Try.underlying22 zero3 rfl rfl b 10 9 9 (by omega) (fun j hj => by rw [show (w.drewN nq).cell? ⟨b, 10 + j, none⟩ = w.cell? ⟨b, 10 + j, none⟩ from rfl, H.out.count hj]; rfl) (fun j hj => Blk.frozen H.out.1 _)
      go_wp2_with (simp only [hcl])
      go_ret
      have e : ok = true := by
        rw [HOK.out, decide_eq_true_iff]
        exact HALL.out
      rw [e]
      have hs := Blk.setCells (List.replicate 9 (Value.int .i64 0)) 10 (ClockCells k at_ cnt) (w.drewN nq) (Blk.drewN H.out.1 nq) (by simp [ClockCells, H.out.2.1, H.out.2.2])
      have e2 : (ClockCells k at_ cnt).take 10 ++ List.replicate 9 (Value.int .i64 0) ++ (ClockCells k at_ cnt).drop (10 + (List.replicate 9 (Value.int .i64 0)).length) = ClockCells k at_ zeros := by
        have h1 := H.out.2.1
        have h2 := H.out.2.2
        simp [ClockCells, List.drop_append, h1, h2, zeros]
      rw [e2] at hs
      exact ⟨rfl, ⟨hs.1, H.out.2.1, rfl⟩, grownBy_trans (grownBy_drewN (World.grownBy.refl _ _) _) hs.2⟩
end Go.Proofs.Ytphgilkmjkmfaaa
