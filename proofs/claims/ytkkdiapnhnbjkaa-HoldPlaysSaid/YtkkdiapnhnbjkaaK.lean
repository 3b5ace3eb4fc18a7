/- The walk of HoldFour. -/
import Derived.Test.YtkkdiapnhnbjkaaJ
namespace Go.Proofs.Ytkkdiapnhnbjkaa
open Go.RowKit
set_option linter.unusedVariables false
attribute [local go_sem ↓] Go.wp_at_zero Go.wp_at_succ

/-- The epoch of the question i of k behind the first. -/
def ep4 (k : Nat) (o : Bool) (i : Nat) : Int := if o && i + 1 == k then 2 else 1
def st4 (k : Nat) (o : Bool) : Nat → List Q
  | 0 => [⟨1, 10, 1, false, false, false, false, false⟩]
  | i + 1 => asked (st4 k o i) (10 + i) (ep4 k o i)
def want4 (k : Nat) (o : Bool) : Bool := decide (k < 4) && !(o && decide (0 < k))
theorem st4_ok : ∀ o : Bool, ∀ k, k < 9 → ∀ i, i < 9 → i ≤ k → (lastQ (st4 k o i)).id = i + 1 ∧ (st4 k o i).length ≤ 4 ∧ (i < k → askOk (st4 k o i) (10 + i) (ep4 k o i) = true) := by decide +kernel
theorem end4 : ∀ o : Bool, ∀ k, k < 9 → toldOk 1 (st4 k o k) 1 0 = want4 k o ∧ valid 1 10 1 (toldQs 1 (st4 k o k) 1 0) = want4 k o ∧ (toldQs 1 (st4 k o k) 1 0).length ≤ 4 ∧ askOk (toldQs 1 (st4 k o k) 1 0) 9 1 = false ∧
    askOk (toldQs 1 (st4 k o k) 1 0) 30 0 = false ∧ askOk (toldQs 1 (st4 k o k) 1 0) 30 1073741825 = false ∧ 0 ≤ (lastQ (toldQs 1 (st4 k o k) 1 0)).id ∧ (lastQ (toldQs 1 (st4 k o k) 1 0)).id ≤ 1000000 ∧ (toldQs 1 (st4 k o k) 1 0).all (fun q => decide (0 ≤ q.asked)) = true := by decide +kernel
theorem ask_no (B b : Nat) (n : Int) (qs : List Q) (now epoch : Int) (w : World) (hA : HoldAt w B b n qs) (hlen : qs.length ≤ 4) (hid0 : 0 ≤ (lastQ qs).id) (hid1 : (lastQ qs).id ≤ 1000000) (h : askOk qs now epoch = false) :
    Calls Try.prog 9 #[.pointer (some ⟨b, 0, none⟩), .int .i64 now, .int .i64 epoch] w fun e w' => e = .returned (.int .i64 (-1)) ∧ HoldAt w' B b n qs ∧ Below B w w' ∧ Keep w w' := by
  have := ask_any B b n qs now epoch w hA hlen hid0 hid1
  unfold AskPost asked at this
  rw [h] at this
  exact this
theorem ask_yes (B b : Nat) (n : Int) (qs : List Q) (now epoch : Int) (w : World) (hA : HoldAt w B b n qs) (hlen : qs.length ≤ 4) (hid0 : 0 ≤ (lastQ qs).id) (hid1 : (lastQ qs).id ≤ 1000000) (h : askOk qs now epoch = true) :
    Calls Try.prog 9 #[.pointer (some ⟨b, 0, none⟩), .int .i64 now, .int .i64 epoch] w fun e w' => e = .returned (.int .i64 ((lastQ qs).id + 1)) ∧ HoldAt w' B b n (asked qs now epoch) ∧ Below B w w' ∧ Keep w w' := by
  have := ask_any B b n qs now epoch w hA hlen hid0 hid1
  unfold AskPost at this
  rw [h] at this
  exact this

set_option maxRecDepth 100000 in
set_option maxHeartbeats 2000000 in
theorem four_any (more : Int) (o : Bool) (w : World) : Calls Try.prog 3 #[.int .i64 more, .bool o] w fun e w' => e = .returned (.bool true) ∧ Below w.heap.size w w' := by
  obtain ⟨hk0, hk1⟩ := rem_range more 9 (by omega) (by omega)
  go_enter Try.func3, Try.ntmps3
  go_wp2_with fail
  refine (new_good 1 _ (by omega) (by omega)).mono ?_
  rintro e w1 ⟨rfl, hA1, hB1⟩
  have A1 := Lib.hid (show Calls Try.prog 9 #[.pointer (some ⟨w.heap.size, 0, none⟩), .int .i64 10, .int .i64 1] w1 (fun e w' => e = .returned (.int .i64 1) ∧ HoldAt w' w.heap.size w.heap.size 1 [⟨1, 10, 1, false, false, false, false, false⟩] ∧ Below w.heap.size w1 w' ∧ Keep w1 w') from ask_yes _ _ 1 [] 10 1 w1 hA1 (by simp) (by decide) (by decide) (by decide))
  clear hA1
  go_wp2_with fail
  generalize wrap64 ((IntKind.u64.wrap more).tmod 9) = N at *
  obtain ⟨k, rfl⟩ := Int.eq_ofNat_of_zero_le hk0
  have hk9 : k < 9 := by omega
  refine A1.out.mono ?_
  rintro e w2 ⟨rfl, hA2, hB2, -⟩
  have hB2 := hB1.trans hB2
  have HA2 := Lib.hid (show HoldAt w2 w.heap.size w.heap.size 1 (st4 k o 0) from hA2)
  clear hA2 hB1 A1
  go_wp2_with fail
  go_loopw [9] (fun iv wr => ∃ i : Nat, iv = .int .i64 i ∧ i ≤ k ∧ HoldAt wr w.heap.size w.heap.size 1 (st4 k o i) ∧ Below w.heap.size w wr) (fun iv _ => 10 - (intOf iv).toNat)
  case atStart => exact ⟨0, rfl, by omega, HA2.out, hB2⟩
  case round =>
    obtain ⟨i, rfl, hi, hA, hB⟩ := hrel
    have HA := Lib.hid hA
    clear hA HA2
    have hi0 : (0 : Int) ≤ (i : Int) := by omega
    obtain ⟨s1, s2, s3⟩ := st4_ok o k hk9 i (by omega) hi
    by_cases hik : i < k
    · have hi1 : (i : Int) < (k : Int) := by omega
      have A3 := ask_yes _ _ 1 (st4 k o i) (10 + i) (ep4 k o i) wr HA.out s2 (by omega) (by omega) (s3 hik)
      rw [s1] at A3
      have HST := Lib.hid (show asked (st4 k o i) (10 + i) (ep4 k o i) = st4 k o (i + 1) from rfl)
      rw [HST.out] at A3
      cases o with
      | false =>
        have A3 := Lib.hid (show Calls Try.prog 9 #[.pointer (some ⟨w.heap.size, 0, none⟩), .int .i64 (10 + i), .int .i64 1] wr (fun e w' => e = .returned (.int .i64 ((i : Int) + 1 + 1)) ∧ HoldAt w' w.heap.size w.heap.size 1 (st4 k false (i + 1)) ∧ Below w.heap.size wr w' ∧ Keep wr w') from A3)
        clear s1 s2 s3
        go_wp2_with fail
        refine A3.out.mono ?_
        rintro e w3 ⟨rfl, hA3, hB3, -⟩
        have HA3 := Lib.hid hA3
        have hB4 := hB.trans hB3
        clear hA3 hB3
        go_wp2
        go_roundw
        case rel => exact ⟨i + 1, by go_num, by omega, HA3.out, hB4⟩
        case measure => simp [intOf]; omega
      | true =>
        by_cases hlast : i + 1 = k
        · have hep : ep4 k true i = 2 := by unfold ep4; simp [hlast]
          rw [hep] at A3
          have A3 := Lib.hid A3
          have hl1 : (i : Int) + 1 ≤ (k : Int) := by omega
          have hl2 : (k : Int) ≤ (i : Int) + 1 := by omega
          clear s1 s2 s3 hep hlast
          go_wp2_with fail
          refine A3.out.mono ?_
          rintro e w3 ⟨rfl, hA3, hB3, -⟩
          have HA3 := Lib.hid hA3
          have hB4 := hB.trans hB3
          clear hA3 hB3
          go_wp2
          go_roundw
          case rel => exact ⟨i + 1, by go_num, by omega, HA3.out, hB4⟩
          case measure => simp [intOf]; omega
        · have hep : ep4 k true i = 1 := by unfold ep4; simp [hlast]
          rw [hep] at A3
          have A3 := Lib.hid A3
          have hl1 : ¬ (i : Int) = (k : Int) - 1 := by omega
          clear s1 s2 s3 hep
          go_wp2_with fail
          refine A3.out.mono ?_
          rintro e w3 ⟨rfl, hA3, hB3, -⟩
          have HA3 := Lib.hid hA3
          have hB4 := hB.trans hB3
          clear hA3 hB3
          go_wp2
          go_roundw
          case rel => exact ⟨i + 1, by go_num, by omega, HA3.out, hB4⟩
          case measure => simp [intOf]; omega
    · obtain rfl : i = k := by omega
      clear s1 s2 s3
      obtain ⟨t1, t2, t3, t4, t5, t6, t7, t8, t9⟩ := end4 o i hk9
      have T1 := told_any _ _ 1 (st4 i o i) 1 0 wr HA.out (by have := (st4_ok o i hk9 i hk9 (by omega)).2.1; exact this) (by omega)
      unfold ToldPost at T1
      rw [t1] at T1
      generalize toldQs 1 (st4 i o i) 1 0 = qs at *
      have T9 := Lib.hid (show ∀ q ∈ qs, 0 ≤ q.asked from fun q hq => of_decide_eq_true (List.all_eq_true.1 t9 q hq))
      have hc : ∃ u : Bool, want4 i o = u ∧ ((o = false ∧ (i : Int) < 4 ∧ u = true) ∨ (o = false ∧ ¬ (i : Int) < 4 ∧ u = false) ∨ (o = true ∧ i = 0 ∧ u = true) ∨ (o = true ∧ (0 : Int) < i ∧ (i : Int) < 4 ∧ u = false) ∨ (o = true ∧ (0 : Int) < i ∧ ¬ (i : Int) < 4 ∧ u = false)) := by
        refine ⟨_, rfl, ?_⟩
        cases o
        · by_cases h : i < 4
          · exact .inl ⟨rfl, by omega, by simp [want4, h]⟩
          · exact .inr (.inl ⟨rfl, by omega, by simp [want4, h]⟩)
        · by_cases h0 : i = 0
          · subst h0
            exact .inr (.inr (.inl ⟨rfl, rfl, rfl⟩))
          · by_cases h : i < 4
            · exact .inr (.inr (.inr (.inl ⟨rfl, by omega, by omega, by simp [want4, Nat.pos_of_ne_zero h0]⟩)))
            · exact .inr (.inr (.inr (.inr ⟨rfl, by omega, by omega, by simp [want4, h]⟩)))
      obtain ⟨u, hu, hc⟩ := hc
      rw [hu] at T1 t2
      have HT1 := Lib.hid T1
      have HT2 := Lib.hid t2
      have H4 := Lib.hid t4
      have H5 := Lib.hid t5
      have H6 := Lib.hid t6
      clear t1 t2 T1 hu t4 t5 t6 t9 hik hi
      rcases hc with ⟨rfl, c1, rfl⟩ | ⟨rfl, c1, rfl⟩ | ⟨rfl, rfl, rfl⟩ | ⟨rfl, c0, c1, rfl⟩ | ⟨rfl, c0, c1, rfl⟩
      all_goals
        go_wp2_with fail
        refine HT1.out.mono ?_
        rintro e w3 ⟨rfl, hA3, hB3, -⟩
        have hB3 := hB.trans hB3
        have HA3 := Lib.hid hA3
        clear hA3
        go_wp2_with fail
        refine (doc_any _).mono ?_
        rintro e w4 ⟨rfl, hb⟩
        have hB4 := hB3.trans (hb.mono (Nat.le_of_lt HA3.out.le))
        have HA4 := Lib.hid (HA3.out.below hb)
        clear hb
        have V := valid_any _ _ 1 qs 10 1 w4 HA4.out t3 (by omega) (by omega) T9.out (by omega)
        rw [HT2.out] at V
        have HV := Lib.hid V
        clear V
        go_wp2_with fail
        refine HV.out.mono ?_
        rintro e w5 ⟨rfl, hb⟩
        have hB5 := hB4.trans (hb.mono (Nat.le_of_lt HA4.out.le))
        have HA5 := Lib.hid (HA4.out.below hb)
        clear hb
        go_wp2_with fail
        refine (ask_no _ _ 1 qs 9 1 w5 HA5.out t3 t7 t8 H4.out).mono ?_
        rintro e w6 ⟨rfl, hA6, hB6, -⟩
        have hB6 := hB5.trans hB6
        have HA6 := Lib.hid hA6
        clear hA6
        go_wp2_with fail
        refine (ask_no _ _ 1 qs 30 0 w6 HA6.out t3 t7 t8 H5.out).mono ?_
        rintro e w7 ⟨rfl, hA7, hB7, -⟩
        have hB7 := hB6.trans hB7
        have HA7 := Lib.hid hA7
        clear hA7
        go_wp2_with fail
        refine (ask_no _ _ 1 qs 30 1073741825 w7 HA7.out t3 t7 t8 H6.out).mono ?_
        rintro e w8 ⟨rfl, hA8, hB8, -⟩
        clear hA8
        go_wp2
        go_ret
        exact ⟨rfl, hB7.trans hB8⟩
end Go.Proofs.Ytkkdiapnhnbjkaa
