/- The walks of the document's clocks: NewClocks, Tick, Round. -/
import Derived.Test.YtphgilkmjkmfaaaE
namespace Go.Proofs.Ytphgilkmjkmfaaa
open Go.RowKit
set_option linter.unusedVariables false

theorem info3 : (Try.prog.info? 3).map (fun i => (i.zero, i.size, i.bytes)) = some (some (.int .i64 0), 1, 8) := by kernel_rfl

/-- The document's clocks: a struct in block b, two rows of n numbers; all from block B on. -/
def RefAt (w : World) (B b n : Nat) (a c : List Int) : Prop :=
  ∃ g1 g2, Blk w b 34 #[.slice (some ⟨g1, 0, none⟩) n n, .slice (some ⟨g2, 0, none⟩) n n] ∧ Blk w g1 3 ((a.take n).map (Value.int .i64)).toArray ∧ Blk w g2 3 ((c.take n).map (Value.int .i64)).toArray ∧
    g1 ≠ g2 ∧ b ≠ g1 ∧ b ≠ g2 ∧ B ≤ b ∧ B ≤ g1 ∧ B ≤ g2 ∧ n ≤ a.length ∧ n ≤ c.length
theorem RefAt.below {w w' : World} {B b n : Nat} {a c : List Int} (h : RefAt w B b n a c) (hb : Below w.heap.size w w') : RefAt w' B b n a c := by
  obtain ⟨g1, g2, h1, h2, h3, rest⟩ := h
  exact ⟨g1, g2, h1.below hb, h2.below hb, h3.below hb, rest⟩
theorem RefAt.kept {w w' : World} {B b n x : Nat} {a c : List Int} (h : RefAt w B b n a c) (hb : w.grownBy w' (some x)) (hx : x < B) : RefAt w' B b n a c := by
  obtain ⟨g1, g2, h1, h2, h3, h4, h5, h6, h7, h8, h9, rest⟩ := h
  exact ⟨g1, g2, h1.kept hb (by omega), h2.kept hb (by omega), h3.kept hb (by omega), h4, h5, h6, h7, h8, h9, rest⟩

theorem rnew_bad (n : Int) (w : World) (h : n < 1 ∨ 9 < n) :
    Calls Try.prog 13 #[.int .i64 n] w fun e w' => e = .returned (.pointer none) ∧ w = w' := by
  by_cases c1 : n < 1
  · clear h
    go_enter Try.func13, Try.ntmps13
    go_wp2
    go_ret
    exact ⟨rfl, rfl⟩
  · have c2 : 9 < n := by omega
    clear h
    go_enter Try.func13, Try.ntmps13
    go_wp2
    go_ret
    exact ⟨rfl, rfl⟩

def row0 (n : Nat) : Array Value := (List.replicate n (Value.int .i64 0)).toArray
theorem made_row (n : Nat) : madeCells #[.int .i64 0] n = row0 n := by
  apply Array.ext
  · simp [madeCells, row0]
  · intro i h1 h2
    simp [madeCells, row0, Nat.mod_one]
theorem run_mk (n : Nat) (hn : n ≤ 9) (w : World) : (Instr.makeSlice 22 (.int .i64 n) (.int .i64 n)).run Try.prog w = .ok (.slice (some ⟨w.heap.size, 0, none⟩) n n) (w.alloc (.cells (row0 n) 3)) := by
  obtain ⟨i0, hi, hz0, hz1, hz2⟩ := info_parts info3
  have := run_make (P := Try.prog) w 22 3 i0 (.int .i64 0) Try.underlying22 hi hz0 .i64 .i64 n n (by omega) (by omega) (by rw [hz2]; omega) (by omega)
  rw [this, hz1, ← made_row]
  simp [Value.cells]

def RnewPost (n : Nat) (w : World) (e : Ending) (w' : World) : Prop := ∃ b, e = .returned (.pointer (some ⟨b, 0, none⟩)) ∧ RefAt w' w.heap.size b n zeros zeros ∧ Below w.heap.size w w'
theorem zeros_take (n : Nat) (hn : n ≤ 9) : ((zeros.take n).map (Value.int .i64)).toArray = row0 n := by
  unfold zeros row0
  rw [List.take_replicate, show min n 9 = n by omega]
  simp

set_option maxHeartbeats 400000 in
theorem rnew_good (n : Nat) (w : World) (h1 : 1 ≤ n) (h2 : n ≤ 9) : Calls Try.prog 13 #[.int .i64 n] w (RnewPost n w) := by
  have hmk := run_mk n h2
  have hn1 : (1 : Int) ≤ n := by omega
  have hn9 : (n : Int) ≤ 9 := by omega
  go_enter Try.func13, Try.ntmps13
  go_wp2
  go_region
  all_goals go_wp2
  all_goals
    go_ret
    have e1 : (w.alloc (.cells (row0 n) 3)).heap.size = w.heap.size + 1 := World.size_alloc _ _
    have e2 : ((w.alloc (.cells (row0 n) 3)).alloc (.cells (row0 n) 3)).heap.size = w.heap.size + 1 + 1 := by rw [World.size_alloc, e1]
    have b1 := Blk.new (w.alloc (.cells (row0 n) 3)) 3 (row0 n)
    rw [e1] at b1
    have hz := zeros_take n h2
    have hl : zeros.length = 9 := rfl
  · have b2 := Blk.new ((w.alloc (.cells (row0 n) 3)).alloc (.cells (row0 n) 3)) 34 #[.slice (some ⟨w.heap.size, 0, none⟩) n n, .slice (some ⟨w.heap.size + 1, 0, none⟩) n n]
    rw [e2] at b2
    exact ⟨_, rfl, ⟨w.heap.size, w.heap.size + 1, b2, by rw [hz]; exact (((Blk.new w 3 (row0 n)).alloc _).alloc _), by rw [hz]; exact b1.alloc _, by omega, by omega, by omega, by omega, by omega, by omega, by omega, by omega⟩, ((((Below.refl _ w).alloc (Nat.le_refl _) _).alloc (by simp) _).alloc (by simp; omega) _).drew⟩
  · have b2 := Blk.new ((w.alloc (.cells (row0 n) 3)).alloc (.cells (row0 n) 3)) 34 #[.slice (some ⟨w.heap.size + 1, 0, none⟩) n n, .slice (some ⟨w.heap.size, 0, none⟩) n n]
    rw [e2] at b2
    exact ⟨_, rfl, ⟨w.heap.size + 1, w.heap.size, b2, by rw [hz]; exact b1.alloc _, by rw [hz]; exact (((Blk.new w 3 (row0 n)).alloc _).alloc _), by omega, by omega, by omega, by omega, by omega, by omega, by omega, by omega⟩, ((((Below.refl _ w).alloc (Nat.le_refl _) _).alloc (by simp) _).alloc (by simp; omega) _).drew⟩

theorem row_cell {w : World} {g n : Nat} {a : List Int} (h : Blk w g 3 ((a.take n).map (Value.int .i64)).toArray) {k : Nat} (hk : k < n) (ha : n ≤ a.length) : w.cell? ⟨g, k, none⟩ = some (.int .i64 (a.getD k 0)) := by
  rw [h.cell]
  have h2 : k < a.length := by omega
  simp [hk, h2]
theorem row_set {w : World} {g n : Nat} {a : List Int} (h : Blk w g 3 ((a.take n).map (Value.int .i64)).toArray) {k : Nat} (x : Int) : Blk (w.setCell ⟨g, k, none⟩ (.int .i64 x)) g 3 (((a.set k x).take n).map (Value.int .i64)).toArray := by
  have := h.set k (.int .i64 x)
  have e : ((a.take n).map (Value.int .i64)).toArray.setIfInBounds k (.int .i64 x) = (((a.set k x).take n).map (Value.int .i64)).toArray := by
    simp [List.take_set, List.map_set]
  rwa [e] at this

def RtickPost (B b n : Nat) (a c : List Int) (k : Int) (w : World) (ok : Bool) (e : Ending) (w' : World) : Prop :=
  e = .returned (.bool ok) ∧ RefAt w' B b n (if ok then inc a k else a) (if ok then inc c k else c) ∧ Below B w w'
set_option maxHeartbeats 400000 in
theorem rtick_any (B b n : Nat) (a c : List Int) (k M : Int) (w : World) (h : RefAt w B b n a c) (hn : n ≤ 9) (hi : Inv M a c) (hM : M ≤ 1000000) :
    Calls Try.prog 15 #[.pointer (some ⟨b, 0, none⟩), .int .i64 k] w (RtickPost B b n a c k w (tickOk n c k)) := by
  obtain ⟨g1, g2, h1, h2, h3, h4, h5, h6, h7, h8, h9, h10, h11⟩ := h
  have HB := Lib.hid (show RefAt w B b n a c from ⟨g1, g2, h1, h2, h3, h4, h5, h6, h7, h8, h9, h10, h11⟩)
  have p0 := h1.cell 0
  have p1 := h1.cell 1
  by_cases hk : 0 ≤ k ∧ k < n
  · obtain ⟨hk0, hk1⟩ := hk
    obtain ⟨j, rfl⟩ := Int.eq_ofNat_of_zero_le hk0
    have hj : j < n := by omega
    have hc := hi.2.2.2 j
    have ha := hi.2.2.1 j
    have c1 := row_cell h2 hj h10
    have c2 := row_cell h3 hj h11
    have f1 := h2.frozen j
    have f2 := h3.frozen j
    have H1 := Lib.hid h1
    have H2 := Lib.hid h2
    have H3 := Lib.hid h3
    have hx : ∃ x y, c.getD j 0 = x ∧ a.getD j 0 = y := ⟨_, _, rfl, rfl⟩
    obtain ⟨x, y, hx, hy⟩ := hx
    rw [hx] at c2 hc
    rw [hy] at c1 ha
    obtain ⟨ha0, ha1⟩ := ha
    obtain ⟨hc0, hc1⟩ := hc
    have ha2 : y ≤ 1000000 := by omega
    have HX := Lib.hid hx
    have HY := Lib.hid hy
    clear hx hy h1 h2 h3 hi
    have hlen : (n : Int) ≤ 9 := by omega
    by_cases hf : 1 < x
    · have e : tickOk n c (j : Int) = false := by unfold tickOk; rw [decide_eq_false_iff_not]; simp only [Int.toNat_natCast, HX.out]; omega
      rw [e]
      clear e
      go_enter Try.func15, Try.ntmps15
      go_wp2
      go_ret
      exact ⟨rfl, HB.out, Below.refl _ _⟩
    · have e : tickOk n c (j : Int) = true := by unfold tickOk; rw [decide_eq_true_iff]; simp only [Int.toNat_natCast, HX.out]; omega
      rw [e]
      clear e
      go_enter Try.func15, Try.ntmps15
      go_wp2
      go_ret
      have k2 := row_set (k := j) H2.out (y + 1)
      have k3 := (row_set (k := j) H3.out (x + 1))
      refine ⟨rfl, ?_, ?_⟩
      · simp only [if_true, inc, Int.toNat_natCast, HX.out, HY.out]
        exact ⟨g1, g2, (H1.out.far (p := ⟨g1, j, none⟩) h5 _).far (p := ⟨g2, j, none⟩) h6 _, (row_set H2.out (y + 1)).far (p := ⟨g2, j, none⟩) h4 _, row_set (Blk.far H3.out (p := ⟨g1, j, none⟩) (Ne.symm h4) _) (x + 1), h4, h5, h6, h7, h8, h9, by simpa using h10, by simpa using h11⟩
      · exact ((Below.refl _ _).setCell (p := ⟨g1, j, none⟩) h8 _).setCell (p := ⟨g2, j, none⟩) h9 _
  · have e : tickOk n c k = false := by unfold tickOk; rw [decide_eq_false_iff_not]; omega
    rw [e]
    clear e h1 h2 h3 hi
    by_cases hk0 : k < 0
    · clear hk
      go_enter Try.func15, Try.ntmps15
      go_wp2
      go_ret
      exact ⟨rfl, HB.out, Below.refl _ _⟩
    · have hk1 : (n : Int) ≤ k := by omega
      clear hk
      go_enter Try.func15, Try.ntmps15
      go_wp2
      go_ret
      exact ⟨rfl, HB.out, Below.refl _ _⟩

def RroundPost (B b n : Nat) (a c : List Int) (w : World) (ok : Bool) (e : Ending) (w' : World) : Prop :=
  e = .returned (.bool ok) ∧ RefAt w' B b n a (if ok then zeros else c) ∧ Below B w w'
set_option maxHeartbeats 400000 in
theorem rround_any (B b n : Nat) (a c : List Int) (w : World) (h : RefAt w B b n a c) (h0 : 1 ≤ n) (hn : n ≤ 9) :
    Calls Try.prog 14 #[.pointer (some ⟨b, 0, none⟩)] w (RroundPost B b n a c w (roundOk n c)) := by
  obtain ⟨g1, g2, h1, h2, h3, h4, h5, h6, h7, h8, h9, h10, h11⟩ := h
  have HB := Lib.hid (show RefAt w B b n a c from ⟨g1, g2, h1, h2, h3, h4, h5, h6, h7, h8, h9, h10, h11⟩)
  have p0 := h1.cell 0
  have p1 := h1.cell 1
  have q1 := h1.frozen 1
  have H1 := Lib.hid h1
  have H2 := Lib.hid h2
  have H3 := Lib.hid h3
  have hlb := h1.lt
  have hlg1 := h2.lt
  have hok : roundOk n c = decide (∀ k, k < n → c.getD k 0 ≠ 0) := rfl
  generalize roundOk n c = ok at *
  have HOK := Lib.hid hok
  have hmk := run_mk n hn
  clear h1 h2 h3 hok
  go_enter Try.func14, Try.ntmps14
  go_wp2
  go_loop [3] (fun i => ∃ k : Nat, i = .int .i64 k ∧ k ≤ n ∧ ∀ j, j < k → c.getD j 0 ≠ 0) (fun i => 10 - (intOf i).toNat)
  case atStart => exact ⟨0, rfl, Nat.zero_le _, fun j hj => absurd hj (by omega)⟩
  case round =>
    obtain ⟨k, rfl, hk, hall⟩ := hrel
    have HALL := Lib.hid hall
    clear hall
    have hk0 : (0 : Int) ≤ (k : Int) := by omega
    by_cases hlt : k < n
    · have hk1 : (k : Int) < (n : Int) := by omega
      have c1 := row_cell H3.out hlt h11
      have hx : ∃ x, c.getD k 0 = x := ⟨_, rfl⟩
      obtain ⟨x, hx⟩ := hx
      rw [hx] at c1
      have HX := Lib.hid hx
      clear hx hmk
      by_cases hz : x = 0
      · subst hz
        go_wp2
        go_ret
        have e : ok = false := by
          rw [HOK.out, decide_eq_false_iff_not]
          intro hh
          exact hh k hlt HX.out
        rw [e]
        exact ⟨rfl, HB.out, Below.refl _ _⟩
      · have hz1 : (x == 0) = false := by simp [hz]
        have HZ := Lib.hid hz
        clear hz
        go_wp2
        go_round
        case rel =>
          refine ⟨k + 1, by go_num, by omega, fun j hj => ?_⟩
          by_cases e : j = k
          · subst e; rw [HX.out]; exact HZ.out
          · exact HALL.out j (by omega)
        case measure => simp [intOf]; omega
    · obtain rfl : k = n := by omega
      go_wp2
      go_ret
      have e : ok = true := by
        rw [HOK.out, decide_eq_true_iff]
        exact HALL.out
      rw [e]
      have hsz : (w.setCell ⟨b, 1, none⟩ (.slice (some ⟨w.heap.size, 0, none⟩) k k)).heap.size = w.heap.size := by simp [World.setCell]
      have hb2 := (H1.out.set 1 (.slice (some ⟨w.heap.size, 0, none⟩) k k)).alloc (.cells (row0 k) 3)
      have hn2 := Blk.new (w.setCell ⟨b, 1, none⟩ (.slice (some ⟨w.heap.size, 0, none⟩) k k)) 3 (row0 k)
      rw [hsz] at hn2
      have hz := zeros_take k hn
      refine ⟨rfl, ⟨g1, w.heap.size, hb2, (H2.out.far (p := ⟨b, 1, none⟩) (Ne.symm h5) _).alloc _, ?_, by omega, h5, by omega, h7, h8, by omega, h10, by simp only [if_true]; exact hn⟩, ?_⟩
      · simp only [if_true]
        rw [hz]
        exact hn2
      · exact ((Below.refl _ _).setCell (p := ⟨b, 1, none⟩) h7 _).alloc (by rw [hsz]; omega) _
end Go.Proofs.Ytphgilkmjkmfaaa
