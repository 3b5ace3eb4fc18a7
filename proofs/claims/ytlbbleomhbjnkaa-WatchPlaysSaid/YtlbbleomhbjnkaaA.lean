/- The walks of package watch: is, There, Heard, New. -/
import Derived.Test.YtlbbleomhbjnkaaRows
import Derived.WalkKit
import Derived.WalkSpells
import Derived.WalkLawsBesides
import Derived.Deep.QuietTactic
import Derived.BigQuiet
import Derived.Handy
import Derived.Lib.Hide
import Derived.Deep.Draws
namespace Go.Proofs.Ytlbbleomhbjnkaa
open Go.RowKit
set_option linter.unusedVariables false

/-- Block b is just these cells, of this type, and may be written. -/
def Blk (w : World) (b : Nat) (t : TypeId) (cs : Array Value) : Prop := w.heap[b]? = some (.cells cs t (0, 0))
theorem Blk.lt {w : World} {b : Nat} {t : TypeId} {cs : Array Value} (h : Blk w b t cs) : b < w.heap.size := by
  unfold Blk at h
  exact (Array.getElem?_eq_some_iff.1 h).1
theorem Blk.cell {w : World} {b : Nat} {t : TypeId} {cs : Array Value} (h : Blk w b t cs) (i : Nat) : w.cell? ⟨b, i, none⟩ = cs[i]? := by
  unfold Blk at h
  simp [World.cell?, h]
theorem Blk.frozen {w : World} {b : Nat} {t : TypeId} {cs : Array Value} (h : Blk w b t cs) (i : Nat) : w.frozen? ⟨b, i, none⟩ = false := by
  unfold Blk at h
  simp [World.frozen?, h]
theorem Blk.new (w : World) (t : TypeId) (cs : Array Value) : Blk (w.alloc (.cells cs t)) w.heap.size t cs := heap_alloc_new w _
theorem Blk.drew {w : World} {b : Nat} {t : TypeId} {cs : Array Value} (h : Blk w b t cs) : Blk w.drew b t cs := h
theorem Blk.drewN {w : World} {b : Nat} {t : TypeId} {cs : Array Value} (h : Blk w b t cs) (n : Nat) : Blk (w.drewN n) b t cs := h
theorem Blk.alloc {w : World} {b : Nat} {t : TypeId} {cs : Array Value} (h : Blk w b t cs) (o : Obj) : Blk (w.alloc o) b t cs := (Below.heap_alloc w o b h.lt).trans h
theorem Blk.set {w : World} {b : Nat} {t : TypeId} {cs : Array Value} (h : Blk w b t cs) (i : Nat) (u : Value) : Blk (w.setCell ⟨b, i, none⟩ u) b t (cs.setIfInBounds i u) := by
  unfold Blk at h ⊢
  simp [World.setCell, Array.getElem?_modify, h]
theorem Blk.far {w : World} {b : Nat} {t : TypeId} {cs : Array Value} (h : Blk w b t cs) {p : Addr} (hp : b ≠ p.block) (u : Value) : Blk (w.setCell p u) b t cs := (Below.heap_setCell w p u b hp).trans h
theorem Blk.below {w w' : World} {b : Nat} {t : TypeId} {cs : Array Value} (h : Blk w b t cs) (hb : Below w.heap.size w w') : Blk w' b t cs := (hb.block b h.lt).trans h
theorem bt {a b c : World} (h : Below a.heap.size a b) (k : Below b.heap.size b c) : Below a.heap.size a c := h.trans (k.mono h.size)
theorem below_drewN' {B : Nat} {a w : World} (h : Below B a w) (n : Nat) : Below B a (w.drewN n) := ⟨h.os, h.tape, h.output, h.size, h.block⟩
theorem ret_bool {a b : Bool} (h : a = b) : Ending.returned (.bool a) = .returned (.bool b) := by rw [h]

/-- The times of five nodes. -/
def WatchCells (n self : Int) (hs : List Int) : Array Value := (Value.int .i64 n :: Value.int .i64 self :: hs.map (Value.int .i64)).toArray
def WatchAt (w : World) (b : Nat) (n self : Int) (hs : List Int) : Prop := Blk w b 42 (WatchCells n self hs)
theorem WatchAt.n {w : World} {b : Nat} {n self : Int} {hs : List Int} (h : WatchAt w b n self hs) : w.cell? ⟨b, 0, none⟩ = some (.int .i64 n) := by
  rw [Blk.cell h]; rfl
theorem WatchAt.self {w : World} {b : Nat} {n self : Int} {hs : List Int} (h : WatchAt w b n self hs) : w.cell? ⟨b, 1, none⟩ = some (.int .i64 self) := by
  rw [Blk.cell h]; rfl
theorem WatchAt.at_ {w : World} {b : Nat} {n self : Int} {hs : List Int} (h : WatchAt w b n self hs) {k : Nat} (hk : k < hs.length) : w.cell? ⟨b, 2 + k, none⟩ = some (.int .i64 (hs.getD k 0)) := by
  rw [Blk.cell h]
  have : 2 + k = k + 1 + 1 := by omega
  simp [WatchCells, this, hk]
theorem WatchAt.set {w : World} {b : Nat} {n self : Int} {hs : List Int} (h : WatchAt w b n self hs) (k : Nat) (x : Int) : WatchAt (w.setCell ⟨b, 2 + k, none⟩ (.int .i64 x)) b n self (hs.set k x) := by
  have := Blk.set h (2 + k) (.int .i64 x)
  have e : (WatchCells n self hs).setIfInBounds (2 + k) (.int .i64 x) = WatchCells n self (hs.set k x) := by
    have : 2 + k = k + 1 + 1 := by omega
    simp [WatchCells, this, List.map_set]
  unfold WatchAt
  rwa [e] at this

/-- is, of a detector. -/
theorem is_yes (b : Nat) (n node : Int) (w : World) (hn : w.cell? ⟨b, 0, none⟩ = some (.int .i64 n)) (h0 : 0 ≤ node) (h1 : node < n) :
    Calls Try.prog 17 #[.pointer (some ⟨b, 0, none⟩), .int .i64 node] w fun e w' => e = .returned (.bool true) ∧ w = w' := by
  go_enter Try.func17, Try.ntmps17
  go_wp2
  go_ret
  exact ⟨rfl, rfl⟩
theorem is_no (b : Nat) (n node : Int) (w : World) (hn : w.cell? ⟨b, 0, none⟩ = some (.int .i64 n)) (h : node < 0 ∨ n ≤ node) :
    Calls Try.prog 17 #[.pointer (some ⟨b, 0, none⟩), .int .i64 node] w fun e w' => e = .returned (.bool false) ∧ w = w' := by
  by_cases h0 : node < 0
  · clear h
    go_enter Try.func17, Try.ntmps17
    go_wp2
    go_ret
    exact ⟨rfl, rfl⟩
  · have h1 : n ≤ node := by omega
    clear h
    go_enter Try.func17, Try.ntmps17
    go_wp2
    go_ret
    exact ⟨ret_bool (by simp; omega), rfl⟩
theorem is_nil (node : Int) (w : World) :
    Calls Try.prog 17 #[.pointer none, .int .i64 node] w fun e w' => e = .returned (.bool false) ∧ w = w' := by
  go_enter Try.func17, Try.ntmps17
  go_wp2
  go_ret
  exact ⟨rfl, rfl⟩

def thereB (self now node h : Int) : Bool := decide (node = self ∨ now ≤ h ∨ now - h < 12)

set_option maxHeartbeats 400000 in
theorem there_yes (b k : Nat) (n self now h : Int) (w : World) (hn : w.cell? ⟨b, 0, none⟩ = some (.int .i64 n)) (hs : w.cell? ⟨b, 1, none⟩ = some (.int .i64 self)) (hh : w.cell? ⟨b, 2 + k, none⟩ = some (.int .i64 h))
    (h1 : (k : Int) < n) (h5 : n ≤ 5) (hh0 : 0 ≤ h) (hw : now ≤ 9223372036854775807) :
    Calls Try.prog 15 #[.pointer (some ⟨b, 0, none⟩), .int .i64 now, .int .i64 k] w fun e w' => e = .returned (.bool (thereB self now k h)) ∧ w = w' := by
  have hB : thereB self now k h = decide ((k : Int) = self ∨ now ≤ h ∨ now - h < 12) := rfl
  have hk0 : (0 : Int) ≤ (k : Int) := by omega
  have hk5 : (k : Int) < 5 := by omega
  generalize thereB self now k h = r at *
  have HB := Lib.hid hB
  clear hB
  go_enter Try.func15, Try.ntmps15
  go_wp2_with (go_at_call 17; refine (is_yes _ _ _ _ hn hk0 h1).mono ?_; rintro e w' ⟨rfl, rfl⟩)
  all_goals
    go_ret
    exact ⟨ret_bool (by rw [HB.out, Bool.eq_iff_iff]; simp; omega), rfl⟩

theorem there_no (b : Nat) (n now node : Int) (w : World) (hn : w.cell? ⟨b, 0, none⟩ = some (.int .i64 n)) (h : node < 0 ∨ n ≤ node) :
    Calls Try.prog 15 #[.pointer (some ⟨b, 0, none⟩), .int .i64 now, .int .i64 node] w fun e w' => e = .returned (.bool false) ∧ w = w' := by
  have HH := Lib.hid h
  clear h
  go_enter Try.func15, Try.ntmps15
  go_wp2_with (go_at_call 17; refine (is_no _ _ _ _ hn HH.out).mono ?_; rintro e w' ⟨rfl, rfl⟩)
  go_ret
  exact ⟨rfl, rfl⟩
theorem there_nil (now node : Int) (w : World) :
    Calls Try.prog 15 #[.pointer none, .int .i64 now, .int .i64 node] w fun e w' => e = .returned (.bool false) ∧ w = w' := by
  go_enter Try.func15, Try.ntmps15
  go_wp2_with (go_at_call 17; refine (is_nil _ _).mono ?_; rintro e w' ⟨rfl, rfl⟩)
  go_ret
  exact ⟨rfl, rfl⟩

def maxZ (a b : Int) : Int := if a < b then b else a
theorem heard_no (b : Nat) (n now node : Int) (w : World) (hn : w.cell? ⟨b, 0, none⟩ = some (.int .i64 n)) (h : node < 0 ∨ n ≤ node) :
    Calls Try.prog 10 #[.pointer (some ⟨b, 0, none⟩), .int .i64 now, .int .i64 node] w fun e w' => e = .returned (.tuple #[]) ∧ w = w' := by
  have HH := Lib.hid h
  clear h
  go_enter Try.func10, Try.ntmps10
  go_wp2_with (go_at_call 17; refine (is_no _ _ _ _ hn HH.out).mono ?_; rintro e w' ⟨rfl, rfl⟩)
  go_end0
  exact ⟨rfl, rfl⟩
theorem heard_nil (now node : Int) (w : World) :
    Calls Try.prog 10 #[.pointer none, .int .i64 now, .int .i64 node] w fun e w' => e = .returned (.tuple #[]) ∧ w = w' := by
  go_enter Try.func10, Try.ntmps10
  go_wp2_with (go_at_call 17; refine (is_nil _ _).mono ?_; rintro e w' ⟨rfl, rfl⟩)
  go_end0
  exact ⟨rfl, rfl⟩

set_option maxHeartbeats 400000 in
theorem heard_yes (b k : Nat) (n now x : Int) (w : World) (hn : w.cell? ⟨b, 0, none⟩ = some (.int .i64 n)) (hh : w.cell? ⟨b, 2 + k, none⟩ = some (.int .i64 x)) (hf : w.frozen? ⟨b, 2 + k, none⟩ = false)
    (h1 : (k : Int) < n) (h5 : n ≤ 5) :
    Calls Try.prog 10 #[.pointer (some ⟨b, 0, none⟩), .int .i64 now, .int .i64 k] w fun e w' => e = .returned (.tuple #[]) ∧ w' = (w.setCell ⟨b, 2 + k, none⟩ (.int .i64 (maxZ x now))).drew := by
  have hk0 : (0 : Int) ≤ (k : Int) := by omega
  have hk5 : (k : Int) < 5 := by omega
  go_enter Try.func10, Try.ntmps10
  go_wp2_with (go_at_call 17; refine (is_yes _ _ _ _ hn hk0 h1).mono ?_; rintro e w' ⟨rfl, rfl⟩)
  go_region
  all_goals go_wp2
  all_goals
    go_end0
    refine ⟨rfl, ?_⟩
    unfold maxZ
    first | rw [if_pos (by assumption)] | rw [if_neg (by omega)]

def times (n : Nat) (now : Int) : List Int := (List.range 5).map fun i => if i < n then now else 0
theorem times_length (n : Nat) (now : Int) : (times n now).length = 5 := by simp [times]

theorem new_bad (n self now : Int) (w : World) (h : n < 1 ∨ 5 < n ∨ self < 0 ∨ n ≤ self ∨ now < 0 ∨ 1099511627776 < now) :
    Calls Try.prog 7 #[.int .i64 n, .int .i64 self, .int .i64 now] w fun e w' => e = .returned (.tuple #[.pointer none, .int .i64 1]) ∧ w = w' := by
  by_cases c1 : n < 1
  · clear h
    go_enter Try.func7, Try.ntmps7
    go_wp2
    go_ret2
    exact ⟨rfl, rfl⟩
  by_cases c2 : 5 < n
  · clear h
    go_enter Try.func7, Try.ntmps7
    go_wp2
    go_ret2
    exact ⟨rfl, rfl⟩
  by_cases c3 : self < 0
  · clear h
    go_enter Try.func7, Try.ntmps7
    go_wp2
    go_ret2
    exact ⟨rfl, rfl⟩
  by_cases c4 : n ≤ self
  · clear h
    go_enter Try.func7, Try.ntmps7
    go_wp2
    go_ret2
    exact ⟨rfl, rfl⟩
  by_cases c5 : now < 0
  · clear h
    go_enter Try.func7, Try.ntmps7
    go_wp2
    go_ret2
    exact ⟨rfl, rfl⟩
  have c6 : 1099511627776 < now := by omega
  clear h
  go_enter Try.func7, Try.ntmps7
  go_wp2
  go_ret2
  exact ⟨rfl, rfl⟩

set_option maxHeartbeats 400000 in
theorem new_good (n : Nat) (self now : Int) (w : World) (h1 : 1 ≤ n) (h2 : n ≤ 5) (h3 : 0 ≤ self) (h4 : self < n) (h5 : 0 ≤ now) (h6 : now ≤ 1099511627776) :
    Calls Try.prog 7 #[.int .i64 n, .int .i64 self, .int .i64 now] w fun e w' => e = .returned (.tuple #[.pointer (some ⟨w.heap.size, 0, none⟩), .int .i64 0]) ∧ w' = w.alloc (.cells (WatchCells n self (times n now)) 42) := by
  have hn : n = 1 ∨ n = 2 ∨ n = 3 ∨ n = 4 ∨ n = 5 := by omega
  clear h1 h2
  rcases hn with rfl | rfl | rfl | rfl | rfl
  all_goals
    simp only [Int.cast_ofNat_Int] at h4 ⊢
    go_enter Try.func7, Try.ntmps7
    go_wp2
    go_rounds 6
    go_ret2
    exact ⟨rfl, rfl⟩
end Go.Proofs.Ytlbbleomhbjnkaa
