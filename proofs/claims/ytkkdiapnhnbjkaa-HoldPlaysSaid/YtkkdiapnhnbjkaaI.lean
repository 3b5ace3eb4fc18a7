/- The walk of the statement's own told. -/
import Derived.Test.YtkkdiapnhnbjkaaH
namespace Go.Proofs.Ytkkdiapnhnbjkaa
open Go.RowKit
set_option linter.unusedVariables false
attribute [local go_sem ↓] Go.wp_at_zero Go.wp_at_succ

theorem told_any (B b : Nat) (n : Int) (qs : List Q) (id node : Int) (w : World) (hA : HoldAt w B b n qs) (hlen : qs.length ≤ 4) (h2 : n ≤ 5) :
    Calls Try.prog 10 #[.pointer (some ⟨b, 0, none⟩), .int .i64 id, .int .i64 node] w (ToldPost B b n qs id node w) := by
  by_cases h : 0 ≤ node ∧ node < n
  · obtain ⟨k, rfl⟩ := Int.eq_ofNat_of_zero_le h.1
    exact told_some B b n qs id k w hA hlen h.2 h2
  · exact told_none B b n qs id node w hA (by omega)
theorem HoldAt.below {w w' : World} {B b : Nat} {n : Int} {qs : List Q} (hA : HoldAt w B b n qs) (h : Below w.heap.size w w') : HoldAt w' B b n qs := by
  obtain ⟨v, hA⟩ := hA
  exact ⟨v, HoldV.below hA h⟩
theorem HoldAt.le {w : World} {B b : Nat} {n : Int} {qs : List Q} (hA : HoldAt w B b n qs) : B < w.heap.size := by
  obtain ⟨v, h1, h2, h3⟩ := hA
  have := h1.lt
  omega

set_option maxRecDepth 100000 in
set_option maxHeartbeats 1000000 in
theorem doc_any (w : World) : Calls Try.prog 11 #[] w fun e w' => e = .returned (.bool true) ∧ Below w.heap.size w w' := by
  go_enter Try.func11, Try.ntmps11
  go_wp2_with fail
  refine (new_good 3 _ (by omega) (by omega)).mono ?_
  rintro e w1 ⟨rfl, hA1, hB1⟩
  go_wp2_with fail
  refine (new_bad 0 _ (by omega)).mono ?_
  rintro e w2 ⟨rfl, rfl⟩
  have A1 := Lib.hid (show Calls Try.prog 9 #[.pointer (some ⟨w.heap.size, 0, none⟩), .int .i64 10, .int .i64 1] w1 (fun e w' => e = .returned (.int .i64 1) ∧ HoldAt w' w.heap.size w.heap.size 3 [⟨1, 10, 1, false, false, false, false, false⟩] ∧ Below w.heap.size w1 w' ∧ Keep w1 w') from ask_any _ _ 3 [] 10 1 w1 hA1 (by simp) (by decide) (by decide))
  clear hA1
  go_wp2_with fail
  refine A1.out.mono ?_
  rintro e w2 ⟨rfl, hA2, hB2, -⟩
  have hB2 := hB1.trans hB2
  have A2 := Lib.hid (show Calls Try.prog 10 #[.pointer (some ⟨w.heap.size, 0, none⟩), .int .i64 1, .int .i64 0] w2 (fun e w' => e = .returned (.bool true) ∧ HoldAt w' w.heap.size w.heap.size 3 [⟨1, 10, 1, true, false, false, false, false⟩] ∧ Below w.heap.size w2 w' ∧ Keep w2 w') from told_any _ _ 3 [⟨1, 10, 1, false, false, false, false, false⟩] 1 0 w2 hA2 (by simp) (by decide))
  clear hA2 A1 hB1
  go_wp2_with fail
  refine A2.out.mono ?_
  rintro e w3 ⟨rfl, hA3, hB3, -⟩
  have hB3 := hB2.trans hB3
  have V1 := Lib.hid (show Calls Try.prog 12 #[.pointer (some ⟨w.heap.size, 0, none⟩), .int .i64 10, .int .i64 1] w3 (fun e w' => e = .returned (.bool false) ∧ Below w3.heap.size w3 w') from valid_any _ _ 3 [⟨1, 10, 1, true, false, false, false, false⟩] 10 1 w3 hA3 (by simp) (by decide) (by decide) (by simp) (by decide))
  clear A2 hB2
  go_wp2_with fail
  refine V1.out.mono ?_
  rintro e w4 ⟨rfl, hb4⟩
  have hB4 := hB3.trans (hb4.mono (Nat.le_of_lt hA3.le))
  have hA4 := hA3.below hb4
  have A3 := Lib.hid (show Calls Try.prog 10 #[.pointer (some ⟨w.heap.size, 0, none⟩), .int .i64 1, .int .i64 2] w4 (fun e w' => e = .returned (.bool true) ∧ HoldAt w' w.heap.size w.heap.size 3 [⟨1, 10, 1, true, false, true, false, false⟩] ∧ Below w.heap.size w4 w' ∧ Keep w4 w') from told_any _ _ 3 [⟨1, 10, 1, true, false, false, false, false⟩] 1 2 w4 hA4 (by simp) (by decide))
  clear hA3 hA4 hB3 hb4 V1
  go_wp2_with fail
  refine A3.out.mono ?_
  rintro e w5 ⟨rfl, hA5, hB5, -⟩
  have hB5 := hB4.trans hB5
  have V2 := Lib.hid (show ∀ (W : World), HoldAt W w.heap.size w.heap.size 3 [⟨1, 10, 1, true, false, true, false, false⟩] → Calls Try.prog 12 #[.pointer (some ⟨w.heap.size, 0, none⟩), .int .i64 29, .int .i64 1] W (fun e w' => e = .returned (.bool true) ∧ Below W.heap.size W w') from fun W hW => valid_any _ _ 3 [⟨1, 10, 1, true, false, true, false, false⟩] 29 1 W hW (by simp) (by decide) (by decide) (by simp) (by decide))
  have V3 := Lib.hid (show ∀ (W : World), HoldAt W w.heap.size w.heap.size 3 [⟨1, 10, 1, true, false, true, false, false⟩] → Calls Try.prog 12 #[.pointer (some ⟨w.heap.size, 0, none⟩), .int .i64 30, .int .i64 1] W (fun e w' => e = .returned (.bool false) ∧ Below W.heap.size W w') from fun W hW => valid_any _ _ 3 [⟨1, 10, 1, true, false, true, false, false⟩] 30 1 W hW (by simp) (by decide) (by decide) (by simp) (by decide))
  have V4 := Lib.hid (show ∀ (W : World), HoldAt W w.heap.size w.heap.size 3 [⟨1, 10, 1, true, false, true, false, false⟩] → Calls Try.prog 12 #[.pointer (some ⟨w.heap.size, 0, none⟩), .int .i64 29, .int .i64 2] W (fun e w' => e = .returned (.bool false) ∧ Below W.heap.size W w') from fun W hW => valid_any _ _ 3 [⟨1, 10, 1, true, false, true, false, false⟩] 29 2 W hW (by simp) (by decide) (by decide) (by simp) (by decide))
  have V5 := Lib.hid (show ∀ (W : World), HoldAt W w.heap.size w.heap.size 3 [⟨1, 10, 1, true, false, true, false, false⟩] → Calls Try.prog 12 #[.pointer (some ⟨w.heap.size, 0, none⟩), .int .i64 9, .int .i64 1] W (fun e w' => e = .returned (.bool false) ∧ Below W.heap.size W w') from fun W hW => valid_any _ _ 3 [⟨1, 10, 1, true, false, true, false, false⟩] 9 1 W hW (by simp) (by decide) (by decide) (by simp) (by decide))
  have A4 := Lib.hid (show ∀ (W : World), HoldAt W w.heap.size w.heap.size 3 [⟨1, 10, 1, true, false, true, false, false⟩] → Calls Try.prog 10 #[.pointer (some ⟨w.heap.size, 0, none⟩), .int .i64 9, .int .i64 1] W (fun e w' => e = .returned (.bool false) ∧ HoldAt w' w.heap.size w.heap.size 3 [⟨1, 10, 1, true, false, true, false, false⟩] ∧ Below w.heap.size W w' ∧ Keep W w') from fun W hW => told_any _ _ 3 [⟨1, 10, 1, true, false, true, false, false⟩] 9 1 W hW (by simp) (by decide))
  have HA := Lib.hid hA5
  clear hA5 hB4 A3
  go_wp2_with fail
  refine (V2.out _ HA.out).mono ?_
  rintro e w6 ⟨rfl, hb⟩
  have hB6 := hB5.trans (hb.mono (Nat.le_of_lt HA.out.le))
  have HA6 := Lib.hid (HA.out.below hb)
  clear hb
  go_wp2_with fail
  refine (V3.out _ HA6.out).mono ?_
  rintro e w7 ⟨rfl, hb⟩
  have hB7 := hB6.trans (hb.mono (Nat.le_of_lt HA6.out.le))
  have HA7 := Lib.hid (HA6.out.below hb)
  clear hb
  go_wp2_with fail
  refine (V4.out _ HA7.out).mono ?_
  rintro e w8 ⟨rfl, hb⟩
  have hB8 := hB7.trans (hb.mono (Nat.le_of_lt HA7.out.le))
  have HA8 := Lib.hid (HA7.out.below hb)
  clear hb
  go_wp2_with fail
  refine (V5.out _ HA8.out).mono ?_
  rintro e w9 ⟨rfl, hb⟩
  have hB9 := hB8.trans (hb.mono (Nat.le_of_lt HA8.out.le))
  have HA9 := Lib.hid (HA8.out.below hb)
  clear hb
  go_wp2_with fail
  refine (A4.out _ HA9.out).mono ?_
  rintro e w10 ⟨rfl, -, hb, -⟩
  go_wp2
  go_ret
  exact ⟨rfl, hB9.trans hb⟩
end Go.Proofs.Ytkkdiapnhnbjkaa
