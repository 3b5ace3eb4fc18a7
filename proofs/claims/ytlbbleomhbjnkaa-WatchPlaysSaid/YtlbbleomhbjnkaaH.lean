/- The walks of the document's detector: Gone, NewWatch; and of Ints. -/
import Derived.Test.YtlbbleomhbjnkaaG
namespace Go.Proofs.Ytlbbleomhbjnkaa
open Go.RowKit
set_option linter.unusedVariables false

theorem goneTo_succ (self now : Int) (hs : List Int) (k : Nat) : goneTo self now hs (k + 1) = if thereB self now k (hs.getD k 0) then goneTo self now hs k else goneTo self now hs k ++ [(k : Int)] := rfl

set_option maxRecDepth 100000 in
set_option maxHeartbeats 1000000 in
theorem rgone_any (b g n : Nat) (self now : Int) (hs : List Int) (w : World) (hr : RefAt w b g n self hs) (h5 : n ≤ 5) (hpos : ∀ k, 0 ≤ hs.getD k 0) (hnow : now ≤ 9223372036854775807) :
    Calls Try.prog 14 #[.pointer (some ⟨b, 0, none⟩), .int .i64 now] w (GonePost (goneTo self now hs n) w) := by
  obtain ⟨i0, hi, hz0, hz1, hz2⟩ := info_parts info3
  have HP := Lib.hid hpos
  have HR := Lib.hid hr
  clear hpos hr
  go_enter Try.func14, Try.ntmps14
  go_wp2
  go_loopw [5, 6] (fun out i wr => ∃ k : Nat, i = .int .i64 k ∧ k ≤ n ∧ wr.ownsRow w.heap.size 3 1 out (goneTo self now hs k).length ((goneTo self now hs k).map (Value.int .i64)) ∧ Below w.heap.size w wr)
    (fun _ i _ => 6 - (intOf i).toNat)
  case atStart => exact ⟨0, rfl, Nat.zero_le _, World.ownsRow_nil _ _ _ _, Below.refl _ _⟩
  case round =>
    obtain ⟨k, rfl, hk, hown, hB⟩ := hrel
    have hr : RefAt wr b g n self hs := HR.out.below hB
    have c0 : wr.cell? ⟨b, 0, none⟩ = some (.int .i64 n) := by obtain ⟨_, cap, h1, _⟩ := hr; exact Blk.cell h1 0
    have hk0 : (0 : Int) ≤ (k : Int) := by omega
    have hl := goneTo_length self now hs k
    by_cases hlt : k < n
    · have hk1 : (k : Int) < (n : Int) := by omega
      have T := Lib.hid (rthere_yes b g k n self now _ hs wr hr rfl hlt h5 (HP.out k) hnow)
      have HB := Lib.hid hB
      clear hr
      cases ht : thereB self now k (hs.getD k 0) with
      | true =>
        rw [ht] at T
        have HT := Lib.hid ht
        clear ht
        go_wp2_with (go_at_call 16; refine T.out.mono ?_; rintro e w' ⟨rfl, rfl⟩)
        go_roundw
        case rel => exact ⟨k + 1, by go_num, by omega, by rw [goneTo_succ, HT.out]; exact hown, hB⟩
        case measure => simp [intOf]; omega
      | false =>
        rw [ht] at T
        have HT := Lib.hid ht
        clear ht
        go_wp2_with (first | (go_at_call 16; refine T.out.mono ?_; rintro e w' ⟨rfl, rfl⟩) | (at_builtin; refine wpList_append_own _ rfl _ _ 33 rfl w.heap.size 3 i0 (.int .i64 0) 1 8 Try.underlying33 hi hz0 hz1 hz2 rfl (by decide) _ _ _ rfl (hown.alloc _) ⟨wr.heap.size, 0, none⟩ 1 1 [_] rfl rfl (cell_one_new _ _ _) (by simp [Value.oneCell']) (by unfold maxLen; omega) (by omega) (by have := HB.out.size; simp; omega) ?_; intro v' w1 hown' hgrow _))
        go_roundw
        case rel => exact ⟨k + 1, by go_num, by omega, by rw [goneTo_succ, HT.out]; simpa using hown', (hB.alloc hB.size _).grown hgrow (by have := hB.size; simp; omega) (fun j e => (hown.lt j e).1)⟩
        case measure => simp [intOf]; omega
    · obtain rfl : k = n := by omega
      clear hr
      go_wp2
      go_ret
      exact ⟨_, rfl, hown, hB⟩

theorem own_cell {w : World} {base n : Nat} {v : Value} {xs : List Int} (h : w.ownsRow base 3 1 v n (xs.map (Value.int .i64))) (hn : xs.length = n) : ∃ A cap, v = .slice A n cap ∧ (0 < n → ∃ g, A = some ⟨g, 0, none⟩ ∧ ∀ k, k < n → w.cell? ⟨g, k, none⟩ = some (.int .i64 (xs.getD k 0))) := by
  rcases h.2 with ⟨rfl, h0⟩ | ⟨g, cap, cur, rfl, _⟩
  · exact ⟨none, 0, by rw [h0], fun hp => absurd hp (by omega)⟩
  · refine ⟨_, cap, rfl, fun _ => ⟨g, rfl, fun k hk => ?_⟩⟩
    have := h.cells (g := g) rfl k (.int .i64 (xs.getD k 0)) (by simp [hn, hk])
    rw [Addr.add_lit] at this
    simpa using this

set_option maxHeartbeats 400000 in
/-- Ints, of two slices that read alike. -/
theorem ints_same (n : Nat) (v1 v2 : Value) (xs : List Int) (b1 b2 : Nat) (w : World) (hn : xs.length = n) (hs : n ≤ 1000) (h1 : w.ownsRow b1 3 1 v1 n (xs.map (Value.int .i64))) (h2 : w.ownsRow b2 3 1 v2 n (xs.map (Value.int .i64))) :
    Calls Try.prog 12 #[v1, v2] w fun e w' => e = .returned (.bool true) ∧ ∃ q, w' = w.drewN q := by
  obtain ⟨A1, c1, rfl, hc1⟩ := own_cell h1 hn
  obtain ⟨A2, c2, rfl, hc2⟩ := own_cell h2 hn
  have H1 := Lib.hid hc1
  have H2 := Lib.hid hc2
  clear h1 h2 hc1 hc2 hn
  go_enter Try.func12, Try.ntmps12
  go_wp2
  go_loopw [5] (fun i wr => ∃ k q : Nat, i = .int .i64 k ∧ k ≤ n ∧ wr = w.drewN q) (fun i _ => n - (intOf i).toNat)
  case atStart => exact ⟨0, 0, rfl, Nat.zero_le _, rfl⟩
  case round =>
    obtain ⟨k, q, rfl, hk, rfl⟩ := hrel
    by_cases hlt : k < n
    · have hk0 : (0 : Int) ≤ (k : Int) := by omega
      have hk1 : (k : Int) < (n : Int) := by omega
      obtain ⟨g1, rfl, e1⟩ := H1.out (by omega)
      obtain ⟨g2, rfl, e2⟩ := H2.out (by omega)
      have f1 : w.cell? ⟨g1, k, none⟩ = _ := e1 k hlt
      have f2 : w.cell? ⟨g2, k, none⟩ = _ := e2 k hlt
      clear e1 e2
      generalize xs.getD k 0 = x at *
      go_wp2
      go_quiet (fail)
      go_wp2
      go_roundw
      case rel => exact ⟨k + 1, _, by go_num, by omega, by (try simp only [World.drewN_drewN]); rfl⟩
      case measure => simp [intOf]; omega
    · obtain rfl : k = n := by omega
      go_wp2
      go_ret
      exact ⟨rfl, _, rfl⟩
end Go.Proofs.Ytlbbleomhbjnkaa
