/- The walks of the document's Fair, and of ClockFair. -/
import Derived.Test.YtphgilkmjkmfaaaF
namespace Go.Proofs.Ytphgilkmjkmfaaa
open Go.RowKit
set_option linter.unusedVariables false

theorem IntsAt.belowB {w w' : World} {B : Nat} {A : Option Addr} {len : Nat} {zs : List Int} (h : IntsAt w A len zs) (hB : ∀ b off, A = some ⟨b, off, none⟩ → b < B) (hb : Below B w w') : IntsAt w' A len zs := by
  obtain ⟨h1, h2, h3, h4⟩ := h
  refine ⟨h1, h2, h3, fun hl => ?_⟩
  obtain ⟨b, off, e, hlt, hc⟩ := h4 hl
  exact ⟨b, off, e, Nat.lt_of_lt_of_le hlt hb.size, fun k hk => (hb.cell (p := ⟨b, off + k, none⟩) (hB b off e)).trans (hc k hk)⟩

set_option maxRecDepth 100000 in
set_option maxHeartbeats 1000000 in
theorem rfair_good (A : Option Addr) (len cap n : Nat) (zs : List Int) (w : World) (hR : IntsAt w A len zs) (h1 : 1 ≤ n) (h2 : n ≤ 9) (hlen : len ≤ 100000) :
    Calls Try.prog 17 #[.slice A len cap, .int .i64 n] w fun e w' => e = .returned (.bool (fairC n zs zeros)) ∧ Below w.heap.size w w' := by
  have hl0 : (len : Int) ≤ 100000 := by omega
  go_enter Try.func17, Try.ntmps17
  go_wp2_with fail
  refine (rnew_good n _ (by omega) (by omega)).mono ?_
  rintro e w1 ⟨b, rfl, hA1, hB1⟩
  go_wp2
  go_loopw [6] (fun i wr => ∃ (k : Nat) (a c : List Int), i = .int .i64 k ∧ k ≤ len ∧ Inv k a c ∧ RefAt wr w.heap.size b n a c ∧ Below w.heap.size w wr ∧ fairC n (zs.drop k) c = fairC n zs zeros)
    (fun i _ => len - (intOf i).toNat)
  case atStart => exact ⟨0, _, _, rfl, Nat.zero_le _, Inv.start, hA1, hB1, rfl⟩
  case round =>
    obtain ⟨k, a, c, rfl, hk, hinv, hA, hB, hf⟩ := hrel
    have HF := Lib.hid hf
    clear hA1 hB1 hf
    have hk0 : (0 : Int) ≤ (k : Int) := by omega
    by_cases hlt : k < len
    · have hk1 : (k : Int) < (len : Int) := by omega
      obtain ⟨bl, off, rfl, hbl, hcell⟩ := hR.2.2.2 (by omega)
      have hcw := hcell k hlt
      have hc := (hB.cell (p := ⟨bl, off + k, none⟩) hbl).trans hcw
      have hdrop : zs.drop k = zs.getD k 0 :: zs.drop (k + 1) := by
        have hkz : k < zs.length := by have := hR.1; omega
        rw [List.drop_eq_getElem_cons hkz]
        simp [List.getD, List.getElem?_eq_getElem hkz]
      have HD := Lib.hid hdrop
      clear hcell hdrop hR
      generalize zs.getD k 0 = x at *
      have HCW := Lib.hid hcw
      have HA := Lib.hid hA
      have HI := Lib.hid hinv
      clear hA hinv hcw
      have T1 := Lib.hid (rtick_any w.heap.size b n a c x k wr HA.out h2 HI.out (by omega))
      cases ht : tickOk n c x with
      | true =>
        rw [ht] at T1
        have HT := Lib.hid ht
        clear ht
        go_wp2_with fail
        refine T1.out.mono ?_
        rintro e w2 ⟨rfl, hA2, hb2⟩
        simp only [if_true] at hA2
        go_wp2
        go_roundw
        case rel => exact ⟨k + 1, _, _, by go_num, by omega, by exact_mod_cast HI.out.tick h2 HT.out, hA2, hB.trans hb2, by rw [← HF.out, HD.out, fairC_cons, HT.out]; rfl⟩
        case measure => simp [intOf]; omega
      | false =>
        rw [ht] at T1
        have HT := Lib.hid ht
        clear ht
        go_wp2_with fail
        refine T1.out.mono ?_
        rintro e w2 ⟨rfl, hA2, hb2⟩
        have hB2 := hB.trans hb2
        simp only [Bool.false_eq_true, if_false] at hA2
        have R1 := Lib.hid (rround_any w.heap.size b n a c w2 hA2 h1 h2)
        clear hA2 hb2
        cases hr : roundOk n c with
        | false =>
          rw [hr] at R1
          have HR := Lib.hid hr
          clear hr
          go_wp2_with fail
          refine R1.out.mono ?_
          rintro e w3 ⟨rfl, hA3, hb3⟩
          have hB3 := hB2.trans hb3
          clear hA3 hb3
          go_wp2
          go_ret
          exact ⟨ret_bool (by rw [← HF.out, HD.out, fairC_cons, HT.out, HR.out]; rfl), hB3⟩
        | true =>
          rw [hr] at R1
          have HR := Lib.hid hr
          clear hr
          go_wp2_with fail
          refine R1.out.mono ?_
          rintro e w3 ⟨rfl, hA3, hb3⟩
          have hB3 := hB2.trans hb3
          have hc3 := (hB3.cell (p := ⟨bl, off + k, none⟩) hbl).trans HCW.out
          simp only [if_true] at hA3
          have T3 := Lib.hid (rtick_any w.heap.size b n a zeros x k w3 hA3 h2 HI.out.round (by omega))
          clear hA3 hb3
          cases ht3 : tickOk n zeros x with
          | false =>
            rw [ht3] at T3
            have HT3 := Lib.hid ht3
            clear ht3
            go_wp2_with fail
            refine T3.out.mono ?_
            rintro e w4 ⟨rfl, hA4, hb4⟩
            have hB4 := hB3.trans hb4
            clear hA4 hb4
            go_wp2
            go_ret
            exact ⟨ret_bool (by rw [← HF.out, HD.out, fairC_cons, HT.out, HR.out, HT3.out]; rfl), hB4⟩
          | true =>
            rw [ht3] at T3
            have HT3 := Lib.hid ht3
            clear ht3
            go_wp2_with fail
            refine T3.out.mono ?_
            rintro e w4 ⟨rfl, hA4, hb4⟩
            have hB4 := hB3.trans hb4
            simp only [if_true] at hA4
            go_wp2
            go_roundw
            case rel => exact ⟨k + 1, _, _, by go_num, by omega, by exact_mod_cast HI.out.round.tick h2 HT3.out, hA4, hB4, by rw [← HF.out, HD.out, fairC_cons, HT.out, HR.out, HT3.out]; rfl⟩
            case measure => simp [intOf]; omega
    · obtain rfl : k = len := by omega
      have HN := Lib.hid hR.1
      clear hR
      go_wp2
      go_ret
      exact ⟨ret_bool (by rw [← HF.out, List.drop_eq_nil_of_le (by have := HN.out; omega)]; rfl), hB⟩

theorem rfair_bad (A : Option Addr) (len cap : Nat) (n : Int) (w : World) (h : n < 1 ∨ 9 < n) :
    Calls Try.prog 17 #[.slice A len cap, .int .i64 n] w fun e w' => e = .returned (.bool false) ∧ w = w' := by
  have H := Lib.hid (rnew_bad n w h)
  clear h
  go_enter Try.func17, Try.ntmps17
  go_wp2_with fail
  refine H.out.mono ?_
  rintro e w1 ⟨rfl, rfl⟩
  go_wp2
  go_ret
  exact ⟨rfl, rfl⟩

theorem rfair_any (A : Option Addr) (len cap : Nat) (n : Int) (zs : List Int) (w : World) (hR : IntsAt w A len zs) (hlen : len ≤ 100000) :
    Calls Try.prog 17 #[.slice A len cap, .int .i64 n] w fun e w' => e = .returned (.bool (fair n zs)) ∧ Below w.heap.size w w' := by
  unfold fair
  by_cases h : 1 ≤ n ∧ n ≤ 9
  · obtain ⟨m, rfl⟩ := Int.eq_ofNat_of_zero_le (show 0 ≤ n by omega)
    rw [if_pos h]
    exact rfair_good A len cap m zs w hR (by omega) (by omega) hlen
  · rw [if_neg h]
    exact (rfair_bad A len cap n w (by omega)).mono fun _ _ ⟨h1, h2⟩ => ⟨h1, h2 ▸ Below.refl _ _⟩

set_option maxHeartbeats 400000 in
theorem clockfair_any (A : Option Addr) (len cap : Nat) (n : Int) (zs : List Int) (w : World) (hR : IntsAt w A len zs) :
    Calls Try.prog 5 #[.slice A len cap, .int .i64 n] w fun e w' => e = .returned (.bool true) ∧ Below w.heap.size w w' := by
  have hlen := hR.2.1
  by_cases hl : 200 < len
  · have hl' : (200 : Int) < (len : Int) := by omega
    clear hR
    go_enter Try.func5, Try.ntmps5
    go_wp2_with fail
    refine (told_any _).mono ?_
    rintro e w2 ⟨rfl, h2⟩
    go_wp2
    go_ret
    exact ⟨rfl, h2⟩
  · have hl' : ¬ (200 : Int) < (len : Int) := by omega
    have HR := Lib.hid hR
    clear hR
    go_enter Try.func5, Try.ntmps5
    go_wp2_with fail
    refine (told_any _).mono ?_
    rintro e w2 ⟨rfl, h2⟩
    have hR2 := HR.out.below h2
    go_wp2_with fail
    refine (fair_any A len cap n zs w2 hR2 (by omega)).mono ?_
    rintro e w3 ⟨rfl, h3⟩
    have hR3 := hR2.below h3
    go_wp2_with fail
    refine (rfair_any A len cap n zs w3 hR3 (by omega)).mono ?_
    rintro e w4 ⟨rfl, h4⟩
    clear hR2 hR3
    go_wp2
    go_ret
    exact ⟨rfl, bt (bt h2 h3) h4⟩
end Go.Proofs.Ytphgilkmjkmfaaa
