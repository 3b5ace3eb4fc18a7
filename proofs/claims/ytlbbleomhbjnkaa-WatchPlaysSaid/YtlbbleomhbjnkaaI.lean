/- The walk of the document's NewWatch. -/
import Derived.Test.YtlbbleomhbjnkaaH
namespace Go.Proofs.Ytlbbleomhbjnkaa
open Go.RowKit
set_option linter.unusedVariables false

theorem own_far {w : World} {base : Nat} {e : TypeId} {size g cap n : Nat} {xs : List Value} (h : w.ownsRow base e size (.slice (some ⟨g, 0, none⟩) n cap) n xs) {p : Addr} (hp : g ≠ p.block) (u : Value) : (w.setCell p u).ownsRow base e size (.slice (some ⟨g, 0, none⟩) n cap) n xs := by
  refine ⟨h.1, ?_⟩
  rcases h.2 with ⟨h2, _⟩ | ⟨g', cap', cur, h1, h2, h3, rest⟩
  · cases h2
  · simp at h1
    obtain ⟨rfl, rfl⟩ := h1
    exact .inr ⟨g, cap, cur, rfl, h2, (Below.heap_setCell w p u g hp).trans h3, rest⟩

theorem rnew_bad (n self now : Int) (w : World) (h : n < 1 ∨ 5 < n ∨ self < 0 ∨ n ≤ self ∨ now < 0 ∨ 1099511627776 < now) :
    Calls Try.prog 8 #[.int .i64 n, .int .i64 self, .int .i64 now] w fun e w' => e = .returned (.pointer none) ∧ w = w' := by
  by_cases c1 : n < 1
  · clear h
    go_enter Try.func8, Try.ntmps8
    go_wp2
    go_ret
    exact ⟨rfl, rfl⟩
  by_cases c2 : 5 < n
  · clear h
    go_enter Try.func8, Try.ntmps8
    go_wp2
    go_ret
    exact ⟨rfl, rfl⟩
  by_cases c3 : self < 0
  · clear h
    go_enter Try.func8, Try.ntmps8
    go_wp2
    go_ret
    exact ⟨rfl, rfl⟩
  by_cases c4 : n ≤ self
  · clear h
    go_enter Try.func8, Try.ntmps8
    go_wp2
    go_ret
    exact ⟨rfl, rfl⟩
  by_cases c5 : now < 0
  · clear h
    go_enter Try.func8, Try.ntmps8
    go_wp2
    go_ret
    exact ⟨rfl, rfl⟩
  have c6 : 1099511627776 < now := by omega
  clear h
  go_enter Try.func8, Try.ntmps8
  go_wp2
  go_ret
  exact ⟨rfl, rfl⟩

def NewPost (n : Nat) (self now : Int) (w : World) (e : Ending) (w' : World) : Prop :=
  ∃ g, e = .returned (.pointer (some ⟨w.heap.size, 0, none⟩)) ∧ RefAt w' w.heap.size g n self (List.replicate n now) ∧ Below w.heap.size w w' ∧ w.heap.size ≤ g

set_option maxRecDepth 100000 in
set_option maxHeartbeats 1000000 in
theorem rnew_good (n : Nat) (self now : Int) (w : World) (h1 : 1 ≤ n) (h2 : n ≤ 5) (h3 : 0 ≤ self) (h4 : self < n) (h5 : 0 ≤ now) (h6 : now ≤ 1099511627776) :
    Calls Try.prog 8 #[.int .i64 n, .int .i64 self, .int .i64 now] w (NewPost n self now w) := by
  obtain ⟨i0, hi, hz0, hz1, hz2⟩ := info_parts info3
  have hn1 : (1 : Int) ≤ n := by omega
  have hn5 : (n : Int) ≤ 5 := by omega
  go_enter Try.func8, Try.ntmps8
  go_wp2
  go_loopw [8] (fun i wr => ∃ (k : Nat) (v : Value), i = .int .i64 k ∧ k ≤ n ∧ Blk wr w.heap.size 44 #[.int .i64 n, .int .i64 self, v] ∧ wr.ownsRow w.heap.size 3 1 v k ((List.replicate k now).map (Value.int .i64)) ∧ Below w.heap.size w wr)
    (fun i _ => 6 - (intOf i).toNat)
  case atStart => exact ⟨0, _, rfl, Nat.zero_le _, Blk.new _ _ _, World.ownsRow_nil _ _ _ _, (Below.refl _ _).alloc (Nat.le_refl _) _⟩
  case round =>
    obtain ⟨k, v, rfl, hk, hb, hown, hB⟩ := hrel
    have hk0 : (0 : Int) ≤ (k : Int) := by omega
    have hne : v.ownBlock ≠ some w.heap.size := by
      rcases hown.2 with ⟨rfl, _⟩ | ⟨g, cap, cur, rfl, _, h4, _⟩
      · simp [Value.ownBlock]
      · intro e
        simp [Value.ownBlock] at e
        subst e
        unfold Blk at hb
        rw [hb] at h4
        cases h4
    have hlb := Blk.lt hb
    by_cases hlt : k < n
    · have hk1 : (k : Int) < (n : Int) := by omega
      have c2 := Blk.cell hb 2
      have f2 := Blk.frozen hb 2
      have HB := Lib.hid hb
      clear hb
      go_wp2_with (at_builtin; refine wpList_append_own _ rfl _ _ 33 rfl w.heap.size 3 i0 (.int .i64 0) 1 8 Try.underlying33 hi hz0 hz1 hz2 rfl (by decide) v k _ rfl (hown.alloc _) ⟨wr.heap.size, 0, none⟩ 1 1 [.int .i64 now] rfl rfl (cell_one_new _ _ _) (by simp [Value.oneCell']) (by unfold maxLen; omega) (by omega) (by have := hB.size; simp; omega) ?_; intro v' w1 hown' hgrow _; obtain ⟨g', cap', rfl⟩ := ownsRow_succ hown'; have hb1 : Blk w1 w.heap.size 44 #[.int .i64 n, .int .i64 self, v] := (hgrow.block _ (by simp; omega) hne.symm).trans (Blk.alloc HB.out _); have c3 := Blk.cell hb1 2; have f3 := Blk.frozen hb1 2; have HB1 := Lib.hid hb1; clear hb1)
      go_roundw
      case rel =>
        have hb3 := Blk.set HB1.out 2 (.slice (some ⟨g', 0, none⟩) (k + 1) cap')
        have hne' : g' ≠ w.heap.size := by
          rcases hown'.2 with ⟨h0, _⟩ | ⟨g2, cap2, cur, e, _, h4, _⟩
          · cases h0
          · simp at e
            obtain ⟨rfl, rfl⟩ := e
            rintro rfl
            have := HB1.out
            unfold Blk at this
            rw [this] at h4
            cases h4
        refine ⟨k + 1, _, by go_num, by omega, hb3, ?_, ?_⟩
        · have e : (List.replicate (k + 1) now).map (Value.int .i64) = (List.replicate k now).map (Value.int .i64) ++ [.int .i64 now] := by rw [List.replicate_succ']; simp
          rw [e]
          exact own_far hown' (by simpa using hne') _
        · exact ((hB.alloc hB.size _).grown hgrow (by have := hB.size; simp; omega) (fun j e => (hown.lt j e).1)).setCell (by simp) _
      case measure => simp [intOf]; omega
    · obtain rfl : k = n := by omega
      have HB := Lib.hid hb
      clear hb
      go_wp2
      go_ret
      rcases hown.2 with ⟨_, h0⟩ | ⟨g, cap, cur, rfl, hg, _⟩
      · omega
      · exact ⟨g, rfl, ⟨by simp, cap, HB.out, ownsRow_mono hown (Nat.zero_le _)⟩, hB, hg⟩
end Go.Proofs.Ytlbbleomhbjnkaa
