/- The walk of Gone: a range over a function. -/
import Derived.RangeFuncBox
import Derived.RangeFuncWrites
import Derived.RangeFuncNested
import Derived.RangeFuncBound
import Derived.RangeFuncCalls
import Derived.RangeFuncLeaves
import Derived.Shelf.Abstract
import Derived.Shelf.RegionOpen
import Derived.WalkKit
import Derived.OwnWalkIn
import Derived.TacticsInMore
import Derived.LoopNIn
import Derived.LoopIn
import Derived.Maps.AppendAt
import Derived.Test.YtlbbleomhbjnkaaA
namespace Go.Proofs.Ytlbbleomhbjnkaa
open Go.RowKit Go.Shelf
set_option linter.unusedVariables false
attribute [local go_sem] Oper.semAt_some

/-- Who of the first k is gone, rising. -/
def goneTo (self now : Int) (hs : List Int) : Nat → List Int
  | 0 => []
  | k + 1 => if thereB self now k (hs.getD k 0) then goneTo self now hs k else goneTo self now hs k ++ [(k : Int)]

theorem goneTo_length (self now : Int) (hs : List Int) : ∀ k, (goneTo self now hs k).length ≤ k
  | 0 => by simp [goneTo]
  | k + 1 => by
    have := goneTo_length self now hs k
    unfold goneTo
    split <;> simp <;> omega
theorem goneTo_prefix (self now : Int) (hs : List Int) {j k : Nat} (h : j ≤ k) : goneTo self now hs j <+: goneTo self now hs k := by
  induction k with
  | zero =>
    obtain rfl : j = 0 := by omega
    exact List.prefix_rfl
  | succ k ih =>
    by_cases e : j = k + 1
    · subst e; exact List.prefix_rfl
    · have := ih (by omega)
      rw [show goneTo self now hs (k + 1) = if thereB self now k (hs.getD k 0) then goneTo self now hs k else goneTo self now hs k ++ [(k : Int)] from rfl]
      split
      · exact this
      · exact this.trans (List.prefix_append _ _)
theorem goneTo_lt (self now : Int) (hs : List Int) {k n : Nat} (hk : k < n) (h : thereB self now k (hs.getD k 0) = false) : (goneTo self now hs k).length < (goneTo self now hs n).length := by
  have := (goneTo_prefix self now hs (show k + 1 ≤ n by omega)).length_le
  rw [show goneTo self now hs (k + 1) = if thereB self now k (hs.getD k 0) then goneTo self now hs k else goneTo self now hs k ++ [(k : Int)] from rfl, h] at this
  simp at this
  omega

/-- Every block below n0 but B is as it was. -/
def KeepB (n₀ B : Nat) (W W' : World) : Prop := ∀ k, k < n₀ → k ≠ B → W'.heap[k]? = W.heap[k]?
theorem KeepB.refl (n₀ B : Nat) (W : World) : KeepB n₀ B W W := fun _ _ _ => rfl
theorem KeepB.trans {n₀ B : Nat} {X Y Z : World} (h : KeepB n₀ B X Y) (k : KeepB n₀ B Y Z) : KeepB n₀ B X Z := fun i hi hB => (k i hi hB).trans (h i hi hB)
theorem KeepB.cell {n₀ B : Nat} {X Y : World} (h : KeepB n₀ B X Y) {p : Addr} (hp : p.block < n₀ ∧ p.block ≠ B) : Y.cell? p = X.cell? p := World.cell?_of_block (h p.block hp.1 hp.2)
theorem keepB_b {n₀ B : Nat} {w : World} (hn : n₀ ≤ w.heap.size) (W : World) (l : Nat) (o o' : Obj) (hl : w.heap.size ≤ l) (hlt : W.heap[l]? = some o) (_ : o.isCells = false) (_ : o.isWalk = false) : KeepB n₀ B W (W.putObj l o') :=
  fun k hk _ => (grownBy_putObj' W l o').block k (by
    have := (Array.getElem?_eq_some_iff.1 hlt).1
    omega) (fun e => by cases e; omega)

set_option maxRecDepth 100000 in
set_option maxHeartbeats 1000000 in
theorem miss1_in (m : Nat) (hm : 1 ≤ m) (l Bw Bn b n₀ B n : Nat) (self now : Int) (hs : List Int) (J Jx : List Int → World → Prop)
    (hY : ∀ pre x W, J pre W → pre.length < (goneTo self now hs n).length → YieldAt Fence.wide (m - 1) Try.prog l #[.int .i64 x] W fun e W' =>
      (e = .returned (.bool true) ∧ J (pre ++ [x]) W' ∧ KeepB n₀ B W W') ∨ (e = .returned (.bool false) ∧ Jx (pre ++ [x]) W'))
    (W : World) (hBw : W.cell? ⟨Bw, 0, none⟩ = some (.pointer (some ⟨b, 0, none⟩))) (hBn : W.cell? ⟨Bn, 0, none⟩ = some (.int .i64 now)) (hwt : WatchAt W b n self hs) (hl : hs.length = 5) (hn5 : n ≤ 5)
    (hpos : ∀ k, 0 ≤ hs.getD k 0) (hnow : now ≤ 9223372036854775807) (g1 : Bw < n₀ ∧ Bw ≠ B) (g2 : Bn < n₀ ∧ Bn ≠ B) (g3 : b < n₀ ∧ b ≠ B) (h0 : J [] W) :
    CallsIn Fence.wide m Try.prog 19 #[.func (.yield l) #[] #[], .pointer (some ⟨Bw, 0, none⟩), .pointer (some ⟨Bn, 0, none⟩)] W fun e W' => (∃ v, e = .returned v) ∧
      ((∃ ys, ys = goneTo self now hs n ∧ J ys W') ∨ (∃ pre, pre <+: goneTo self now hs n ∧ Jx pre W')) := by
  have h17 : Fence.wide.fn 17 := trivial
  have h15 : Fence.wide.fn 15 := trivial
  have HY := Lib.hid hY
  have HL := Lib.hid hl
  have HP := Lib.hid hpos
  clear hY hl hpos
  refine callsIn_of_wp Try.func19 rfl trivial ?_ rfl
  simp only [Try.ntmps19, List.size_toArray, List.length_cons, List.length_nil, Nat.reduceAdd, Nat.reduceSub, Array.replicate_succ, Array.replicate_zero, List.push_toArray, List.append_toArray, List.nil_append, List.cons_append]
  gi_wp2
  gi_loopw [4] (fun i wr => ∃ k : Nat, i = .int .i64 k ∧ k ≤ n ∧ KeepB n₀ B W wr ∧ J (goneTo self now hs k) wr)
    (fun i wr => n - (intOf i).toNat)
  case atStart =>
    exact ⟨0, rfl, Nat.zero_le _, KeepB.refl _ _ _, h0⟩
  case round =>
    obtain ⟨k, rfl, hk, hB, hJ⟩ := hrel
    have c1 : wr.cell? ⟨Bw, 0, none⟩ = some (.pointer (some ⟨b, 0, none⟩)) := (hB.cell (p := ⟨Bw, 0, none⟩) g1).trans hBw
    have c2 : wr.cell? ⟨Bn, 0, none⟩ = some (.int .i64 now) := (hB.cell (p := ⟨Bn, 0, none⟩) g2).trans hBn
    have c3 : wr.cell? ⟨b, 0, none⟩ = some (.int .i64 n) := (hB.cell (p := ⟨b, 0, none⟩) g3).trans hwt.n
    have c4 : wr.cell? ⟨b, 1, none⟩ = some (.int .i64 self) := (hB.cell (p := ⟨b, 1, none⟩) g3).trans hwt.self
    by_cases hlt : k < n
    · have c5 : wr.cell? ⟨b, 2 + k, none⟩ = some (.int .i64 (hs.getD k 0)) := (hB.cell (p := ⟨b, 2 + k, none⟩) g3).trans (hwt.at_ (by have := HL.out; omega))
      have c6 := HP.out k
      have hk0 : (0 : Int) ≤ (k : Int) := by omega
      have hk1 : (k : Int) < (n : Int) := by omega
      have C17 := Lib.hid (fun q => callsIn_wide (n := q).2 (is_yes b n k wr c3 hk0 hk1))
      have C15 := Lib.hid (fun q => callsIn_wide (n := q).2 (there_yes b k n self now _ wr c3 c4 c5 hk1 (by omega) c6 hnow))
      cases ht : thereB self now k (hs.getD k 0) with
      | true =>
        rw [ht] at C15
        gi_wp2_with (first | (gi_at_call 17; refine (C17.out _).mono ?_; rintro e w' ⟨rfl, rfl⟩) | (gi_at_call 15; refine (C15.out _).mono ?_; rintro e w' ⟨rfl, rfl⟩))
        refine ⟨fun _ h => (by cases h), ?_⟩
        gi_wp2
        go_roundw
        case rel => exact ⟨k + 1, by go_num, by omega, hB, by rw [show goneTo self now hs (k + 1) = if thereB self now k (hs.getD k 0) then goneTo self now hs k else goneTo self now hs k ++ [(k : Int)] from rfl, ht]; exact hJ⟩
        case measure => simp [intOf]; omega
      | false =>
        rw [ht] at C15
        have hlen := goneTo_lt self now hs hlt ht
        have HT := Lib.hid ht
        clear ht
        obtain ⟨fn, tmps, assign, body, hy, hR⟩ := HY.out _ (k : Int) wr hJ hlen
        gi_wp2_with (first | (gi_at_call 17; refine (C17.out _).mono ?_; rintro e w' ⟨rfl, rfl⟩) | (gi_at_call 15; refine (C15.out _).mono ?_; rintro e w' ⟨rfl, rfl⟩))
        refine hR.mono ?_
        rintro e W3 (⟨rfl, hJ3, hk3⟩ | ⟨rfl, hJx3⟩)
        · gi_wp2
          go_roundw
          case rel => exact ⟨k + 1, by go_num, by omega, hB.trans hk3, by rw [show goneTo self now hs (k + 1) = if thereB self now k (hs.getD k 0) then goneTo self now hs k else goneTo self now hs k ++ [(k : Int)] from rfl, HT.out]; exact hJ3⟩
          case measure => simp [intOf]; omega
        · gi_wp2
          refine bodyPost_ret (results_none rfl _ _ _) rfl ?_
          exact ⟨⟨_, rfl⟩, .inr ⟨_, by have := goneTo_prefix self now hs (show k + 1 ≤ n by omega); rw [show goneTo self now hs (k + 1) = if thereB self now k (hs.getD k 0) then goneTo self now hs k else goneTo self now hs k ++ [(k : Int)] from rfl, HT.out] at this; exact this, hJx3⟩⟩
    · obtain rfl : k = n := by omega
      have C17 := Lib.hid (fun q => callsIn_wide (n := q).2 (is_no b k k wr c3 (.inr (by omega))))
      gi_wp2_with (gi_at_call 17; refine (C17.out _).mono ?_; rintro e w' ⟨rfl, rfl⟩)
      go_end0
      exact ⟨⟨_, rfl⟩, .inl ⟨_, rfl, hJ⟩⟩
end Go.Proofs.Ytlbbleomhbjnkaa
