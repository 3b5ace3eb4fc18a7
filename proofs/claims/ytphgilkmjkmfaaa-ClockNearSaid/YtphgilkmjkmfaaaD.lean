/- What clocks do, in plain words; Tick, Round and Fair by them. -/
import Derived.Test.YtphgilkmjkmfaaaS
namespace Go.Proofs.Ytphgilkmjkmfaaa
open Go.RowKit
set_option linter.unusedVariables false

def tickOk (n : Nat) (c : List Int) (k : Int) : Bool := decide (0 ≤ k ∧ k < n ∧ c.getD k.toNat 0 ≤ 1)
def inc (l : List Int) (k : Int) : List Int := l.set k.toNat (l.getD k.toNat 0 + 1)
def roundOk (n : Nat) (c : List Int) : Bool := decide (∀ k, k < n → c.getD k 0 ≠ 0)
/-- May such clocks tick in this order? -/
def fairC (n : Nat) : List Int → List Int → Bool
  | [], _ => true
  | k :: r, c => if tickOk n c k then fairC n r (inc c k) else if roundOk n c then (if tickOk n zeros k then fairC n r (inc zeros k) else false) else false
def fair (n : Int) (zs : List Int) : Bool := if 1 ≤ n ∧ n ≤ 9 then fairC n.toNat zs zeros else false

def Inv (M : Int) (a c : List Int) : Prop := a.length = 9 ∧ c.length = 9 ∧ (∀ j, 0 ≤ a.getD j 0 ∧ a.getD j 0 ≤ M) ∧ ∀ j, 0 ≤ c.getD j 0 ∧ c.getD j 0 ≤ 2
theorem getD_set (l : List Int) (i k : Nat) (x : Int) (hi : i < l.length) : (l.set i x).getD k 0 = if k = i then x else l.getD k 0 := by
  by_cases e : k = i
  · subst e; simp [hi]
  · have e' : i ≠ k := fun h => e h.symm
    simp [e, e']
theorem zeros_getD (j : Nat) : zeros.getD j 0 = 0 := by
  match j with
  | 0 | 1 | 2 | 3 | 4 | 5 | 6 | 7 | 8 => rfl
  | j + 9 => simp [zeros]
theorem Inv.start : Inv 0 zeros zeros := ⟨rfl, rfl, fun j => by rw [zeros_getD]; omega, fun j => by rw [zeros_getD]; omega⟩
theorem Inv.round {M : Int} {a c : List Int} (h : Inv M a c) : Inv M a zeros := ⟨h.1, rfl, h.2.2.1, fun j => by rw [zeros_getD]; omega⟩
theorem Inv.more {M M' : Int} {a c : List Int} (h : Inv M a c) (hM : M ≤ M') : Inv M' a c := ⟨h.1, h.2.1, fun j => ⟨(h.2.2.1 j).1, Int.le_trans (h.2.2.1 j).2 hM⟩, h.2.2.2⟩
theorem Inv.tick {n : Nat} {M k : Int} {a c : List Int} (h : Inv M a c) (hn : n ≤ 9) (ht : tickOk n c k = true) : Inv (M + 1) (inc a k) (inc c k) := by
  obtain ⟨h1, h2, h3, h4⟩ := h
  unfold tickOk at ht
  rw [decide_eq_true_iff] at ht
  refine ⟨by simpa [inc] using h1, by simpa [inc] using h2, fun j => ?_, fun j => ?_⟩
  · unfold inc
    rw [getD_set _ _ _ _ (by omega)]
    have := h3 k.toNat
    have := h3 j
    split <;> omega
  · unfold inc
    rw [getD_set _ _ _ _ (by omega)]
    have := h4 k.toNat
    have := h4 j
    split <;> omega

def TickPost (b n : Nat) (a c : List Int) (k : Int) (w : World) (ok : Bool) (e : Ending) (w' : World) : Prop :=
  e = .returned (.bool ok) ∧ ClockAt w' b n (if ok then inc a k else a) (if ok then inc c k else c) ∧ w.grownBy w' (some b)
theorem tick_any (b n : Nat) (a c : List Int) (k M : Int) (w : World) (h : ClockAt w b n a c) (hn : n ≤ 9) (hi : Inv M a c) (hM : M ≤ 1000000) :
    Calls Try.prog 9 #[.pointer (some ⟨b, 0, none⟩), .int .i64 k] w (TickPost b n a c k w (tickOk n c k)) := by
  by_cases hk : 0 ≤ k ∧ k < n
  · obtain ⟨j, rfl⟩ := Int.eq_ofNat_of_zero_le hk.1
    have hj : j < n := by omega
    have hc := hi.2.2.2 j
    have ha := hi.2.2.1 j
    by_cases hf : 1 < c.getD j 0
    · have e : tickOk n c (j : Int) = false := by unfold tickOk; rw [decide_eq_false_iff_not]; simp only [Int.toNat_natCast]; omega
      rw [e]
      exact (tick_full b j n a c w h hj hn hf).mono fun _ _ ⟨h1, h2⟩ => ⟨h1, h2 ▸ h, h2 ▸ World.grownBy.refl _ _⟩
    · have e : tickOk n c (j : Int) = true := by unfold tickOk; rw [decide_eq_true_iff]; simp only [Int.toNat_natCast]; omega
      rw [e]
      exact (tick_ok b j n a c w h hj hn hc.1 (by omega) ha.1 (by omega)).mono fun _ _ ⟨h1, h2, h3⟩ => ⟨h1, by simpa [inc] using h2, h3⟩
  · have e : tickOk n c k = false := by unfold tickOk; rw [decide_eq_false_iff_not]; omega
    rw [e]
    exact (tick_none b n k w h.num (by omega)).mono fun _ _ ⟨h1, h2⟩ => ⟨h1, h2 ▸ h, h2 ▸ World.grownBy.refl _ _⟩
theorem round_ok (b n : Nat) (a c : List Int) (w : World) (h : ClockAt w b n a c) (h1 : 1 ≤ n) (hn : n ≤ 9) :
    Calls Try.prog 11 #[.pointer (some ⟨b, 0, none⟩)] w (RoundPost b n a c w (roundOk n c)) := round_any b n a c w h h1 hn _ rfl

theorem fairC_cons (n : Nat) (k : Int) (r c : List Int) : fairC n (k :: r) c = if tickOk n c k then fairC n r (inc c k) else if roundOk n c then (if tickOk n zeros k then fairC n r (inc zeros k) else false) else false := rfl

set_option maxRecDepth 100000 in
set_option maxHeartbeats 1000000 in
/-- Fair, of the program. -/
theorem fair_good (A : Option Addr) (len cap n : Nat) (zs : List Int) (w : World) (hR : IntsAt w A len zs) (h1 : 1 ≤ n) (h2 : n ≤ 9) (hlen : len ≤ 100000) :
    Calls Try.prog 16 #[.slice A len cap, .int .i64 n] w fun e w' => e = .returned (.bool (fairC n zs zeros)) ∧ Below w.heap.size w w' := by
  have hl0 : (len : Int) ≤ 100000 := by omega
  go_enter Try.func16, Try.ntmps16
  go_wp2_with fail
  refine (new_good n _ (by omega) (by omega)).mono ?_
  rintro e w1 ⟨rfl, hA1, hB1⟩
  go_wp2
  go_loopw [18] (fun i wr => ∃ (k : Nat) (a c : List Int), i = .int .i64 k ∧ k ≤ len ∧ Inv k a c ∧ ClockAt wr w.heap.size n a c ∧ Below w.heap.size w wr ∧ fairC n (zs.drop k) c = fairC n zs zeros)
    (fun i _ => len - (intOf i).toNat)
  case atStart => exact ⟨0, _, _, rfl, Nat.zero_le _, Inv.start, hA1, hB1, rfl⟩
  case round =>
    obtain ⟨k, a, c, rfl, hk, hinv, hA, hB, hf⟩ := hrel
    have HF := Lib.hid hf
    clear hA1 hB1 hf
    have hk0 : (0 : Int) ≤ (k : Int) := by omega
    by_cases hlt : k < len
    · have hk1 : (k : Int) < (len : Int) := by omega
      obtain ⟨bl, off, rfl, hbl, hcell⟩ := (hR.below hB).2.2.2 (by omega)
      have hc := hcell k hlt
      have hdrop : zs.drop k = zs.getD k 0 :: zs.drop (k + 1) := by
        have hkz : k < zs.length := by have := hR.1; omega
        rw [List.drop_eq_getElem_cons hkz]
        simp [List.getD, List.getElem?_eq_getElem hkz]
      have HD := Lib.hid hdrop
      clear hcell hdrop hR
      generalize zs.getD k 0 = x at *
      have HA := Lib.hid hA
      have HI := Lib.hid hinv
      clear hA hinv
      have T1 := Lib.hid (tick_any w.heap.size n a c x k wr HA.out h2 HI.out (by omega))
      cases ht : tickOk n c x with
      | true =>
        rw [ht] at T1
        have HT := Lib.hid ht
        clear ht
        go_wp2_with fail
        refine T1.out.mono ?_
        rintro e w2 ⟨rfl, hA2, hg2⟩
        have hB2 := hB.trans (Below.of_grownBy hg2 (Nat.le_refl _) HA.out.lt)
        simp only [if_true] at hA2
        go_wp2
        go_roundw
        case rel => exact ⟨k + 1, _, _, by go_num, by omega, by exact_mod_cast HI.out.tick h2 HT.out, hA2, hB2, by rw [← HF.out, HD.out, fairC_cons, HT.out]; rfl⟩
        case measure => simp [intOf]; omega
      | false =>
        rw [ht] at T1
        have HT := Lib.hid ht
        clear ht
        go_wp2_with fail
        refine T1.out.mono ?_
        rintro e w2 ⟨rfl, hA2, hg2⟩
        have hB2 := hB.trans (Below.of_grownBy hg2 (Nat.le_refl _) HA.out.lt)
        simp only [Bool.false_eq_true, if_false] at hA2
        have R1 := Lib.hid (round_ok w.heap.size n a c w2 hA2 h1 h2)
        have HA2 := Lib.hid hA2
        clear hA2 hg2
        cases hr : roundOk n c with
        | false =>
          rw [hr] at R1
          have HR := Lib.hid hr
          clear hr
          go_wp2_with fail
          refine R1.out.mono ?_
          rintro e w3 ⟨rfl, hA3, hg3⟩
          have hB3 := hB2.trans (Below.of_grownBy hg3 (Nat.le_refl _) HA2.out.lt)
          clear hA3 hg3
          go_wp2
          go_ret
          exact ⟨ret_bool (by rw [← HF.out, HD.out, fairC_cons, HT.out, HR.out]; rfl), hB3⟩
        | true =>
          rw [hr] at R1
          have HR := Lib.hid hr
          clear hr
          go_wp2_with fail
          refine R1.out.mono ?_
          rintro e w3 ⟨rfl, hA3, hg3⟩
          have hB3 := hB2.trans (Below.of_grownBy hg3 (Nat.le_refl _) HA2.out.lt)
          simp only [if_true] at hA3
          have T3 := Lib.hid (tick_any w.heap.size n a zeros x k w3 hA3 h2 HI.out.round (by omega))
          have HA3 := Lib.hid hA3
          clear hA3 hg3
          cases ht3 : tickOk n zeros x with
          | false =>
            rw [ht3] at T3
            have HT3 := Lib.hid ht3
            clear ht3
            go_wp2_with fail
            refine T3.out.mono ?_
            rintro e w4 ⟨rfl, hA4, hg4⟩
            have hB4 := hB3.trans (Below.of_grownBy hg4 (Nat.le_refl _) HA3.out.lt)
            clear hA4 hg4
            go_wp2
            go_ret
            exact ⟨ret_bool (by rw [← HF.out, HD.out, fairC_cons, HT.out, HR.out, HT3.out]; rfl), hB4⟩
          | true =>
            rw [ht3] at T3
            have HT3 := Lib.hid ht3
            clear ht3
            go_wp2_with fail
            refine T3.out.mono ?_
            rintro e w4 ⟨rfl, hA4, hg4⟩
            have hB4 := hB3.trans (Below.of_grownBy hg4 (Nat.le_refl _) HA3.out.lt)
            simp only [if_true] at hA4
            go_wp2
            go_roundw
            case rel => exact ⟨k + 1, _, _, by go_num, by omega, by exact_mod_cast HI.out.round.tick h2 HT3.out, hA4, hB4, by rw [← HF.out, HD.out, fairC_cons, HT.out, HR.out, HT3.out]; rfl⟩
            case measure => simp [intOf]; omega
    · obtain rfl : k = len := by omega
      have HN := Lib.hid hR.1
      clear hR
      go_wp2
      go_ret
      exact ⟨ret_bool (by rw [← HF.out, List.drop_eq_nil_of_le (by have := HN.out; omega)]; rfl), hB⟩

theorem fair_bad (A : Option Addr) (len cap : Nat) (n : Int) (w : World) (h : n < 1 ∨ 9 < n) :
    Calls Try.prog 16 #[.slice A len cap, .int .i64 n] w fun e w' => e = .returned (.bool false) ∧ w = w' := by
  have H := Lib.hid (new_bad n w h)
  clear h
  go_enter Try.func16, Try.ntmps16
  go_wp2_with fail
  refine H.out.mono ?_
  rintro e w1 ⟨rfl, rfl⟩
  go_wp2
  go_ret
  exact ⟨rfl, rfl⟩

theorem fair_any (A : Option Addr) (len cap : Nat) (n : Int) (zs : List Int) (w : World) (hR : IntsAt w A len zs) (hlen : len ≤ 100000) :
    Calls Try.prog 16 #[.slice A len cap, .int .i64 n] w fun e w' => e = .returned (.bool (fair n zs)) ∧ Below w.heap.size w w' := by
  unfold fair
  by_cases h : 1 ≤ n ∧ n ≤ 9
  · obtain ⟨m, rfl⟩ := Int.eq_ofNat_of_zero_le (show 0 ≤ n by omega)
    rw [if_pos h]
    exact fair_good A len cap m zs w hR (by omega) (by omega) hlen
  · rw [if_neg h]
    exact (fair_bad A len cap n w (by omega)).mono fun _ _ ⟨h1, h2⟩ => ⟨h1, h2 ▸ Below.refl _ _⟩
end Go.Proofs.Ytphgilkmjkmfaaa
