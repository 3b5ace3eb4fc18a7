/- The walk of ClockPlays. -/
import Derived.Test.YtphgilkmjkmfaaaG
import Derived.Deep.RegionHeld3
import Derived.Deep.DrawnRows
namespace Go.Proofs.Ytphgilkmjkmfaaa
open Go.RowKit
set_option linter.unusedVariables false
attribute [local go_sem ↓] Go.wp_at_zero Go.wp_at_succ

theorem quiet2 {P : Program} {f : FuncId} {args : Array Value} {w : World} {a n : Nat} {v : Value} (h : ∀ q, Calls P f args (w.drewN q) fun e w' => e = .returned v ∧ w.drewN q = w') :
    Calls P f args (w.drewN (a + n)) fun e w'' => e = .returned v ∧ ∃ m, w'' = w.drewN (a + m) := (h (a + n)).mono fun _ _ ⟨he, hm⟩ => ⟨he, n, hm.symm⟩
theorem quiet1 {P : Program} {f : FuncId} {args : Array Value} {w : World} {n : Nat} {v : Value} (h : ∀ q, Calls P f args (w.drewN q) fun e w' => e = .returned v ∧ w.drewN q = w') :
    Calls P f args (w.drewN n) fun e w'' => e = .returned v ∧ ∃ m, w'' = w.drewN m := (h n).mono fun _ _ ⟨he, hm⟩ => ⟨he, n, hm.symm⟩
theorem RefAt.drew {w : World} {B b n : Nat} {a c : List Int} (h : RefAt w B b n a c) : RefAt w.drew B b n a c := h
theorem RefAt.drewN {w : World} {B b n : Nat} {a c : List Int} (h : RefAt w B b n a c) (q : Nat) : RefAt (w.drewN q) B b n a c := h

set_option maxHeartbeats 400000 in
theorem plays_bad (n : Int) (A : Option Addr) (len cap : Nat) (w : World) (h : n < 1 ∨ 9 < n) :
    Calls Try.prog 4 #[.int .i64 n, .slice A len cap] w fun e w' => e = .returned (.bool true) ∧ Below w.heap.size w w' := by
  have H1 := Lib.hid (new_bad n w h)
  have H2 := Lib.hid (rnew_bad n w h)
  clear h
  go_enter Try.func4, Try.ntmps4
  go_wp2_with fail
  refine H1.out.mono ?_
  rintro e w1 ⟨rfl, rfl⟩
  go_wp2_with fail
  refine H2.out.mono ?_
  rintro e w1 ⟨rfl, rfl⟩
  go_wp2_with fail
  refine (told_any _).mono ?_
  rintro e w1 ⟨rfl, h1⟩
  go_wp2
  go_ret
  exact ⟨rfl, h1⟩

set_option maxRecDepth 100000 in
set_option maxHeartbeats 2000000 in
theorem plays_good (n : Nat) (A : Option Addr) (len cap : Nat) (zs : List Int) (w : World) (hR : IntsAt w A len zs) (h1 : 1 ≤ n) (h2 : n ≤ 9) :
    Calls Try.prog 4 #[.int .i64 n, .slice A len cap] w fun e w' => e = .returned (.bool true) ∧ Below w.heap.size w w' := by
  have hlen := hR.2.1
  have hn1 : (1 : Int) ≤ (n : Int) := by omega
  have hn9 : (n : Int) ≤ 9 := by omega
  go_enter Try.func4, Try.ntmps4
  go_wp2_with fail
  refine (new_good n _ hn1 hn9).mono ?_
  rintro e w1 ⟨rfl, hA1, hB1⟩
  have hs1 : w.heap.size < w1.heap.size := hA1.lt
  go_wp2_with fail
  refine (rnew_good n w1 h1 h2).mono ?_
  rintro e w2 ⟨b, rfl, hr2, hb2⟩
  have hA2 := hA1.below hb2
  have hB2 := bt hB1 hb2
  clear hA1 hB1 hb2
  go_wp2
  go_loopw [8] (fun i wr => ∃ (k : Nat) (a c : List Int), i = .int .i64 k ∧ k ≤ 100 ∧ k ≤ len ∧ Inv k a c ∧ ClockAt wr w.heap.size n a c ∧ RefAt wr w1.heap.size b n a c ∧ Below w.heap.size w wr)
    (fun i _ => 101 - (intOf i).toNat)
  case atStart => exact ⟨0, _, _, rfl, by omega, by omega, Inv.start, hA2, hr2, hB2⟩
  case round =>
    obtain ⟨k, a, c, rfl, hk, hkl, hI, hA, hr, hB⟩ := hrel
    clear hA2 hr2 hB2
    by_cases hgo : k < len ∧ k < 100
    · obtain ⟨hg1, hg2⟩ := hgo
      obtain ⟨bl, off, rfl, hbl, hcell⟩ := hR.2.2.2 (by omega)
      have hcw := hcell k hg1
      have c0 := (hB.cell (p := ⟨bl, off + k, none⟩) hbl).trans hcw
      have hk0 : (0 : Int) ≤ (k : Int) := by omega
      have hk1 : (k : Int) < (len : Int) := by omega
      clear hcell hR
      generalize zs.getD k 0 = x at *
      have HA := Lib.hid hA
      have HR := Lib.hid hr
      have HI := Lib.hid hI
      have HCW := Lib.hid hcw
      clear hA hr hI hcw
      by_cases hx : x < 0
      · have R1 := Lib.hid (round_ok w.heap.size n a c wr HA.out h1 h2)
        go_wp2_with fail
        refine R1.out.mono ?_
        rintro e w2 ⟨rfl, hA2, hg2⟩
        have hB2 := hB.trans (Below.of_grownBy hg2 (Nat.le_refl _) HA.out.lt)
        have R2 := Lib.hid (rround_any w1.heap.size b n a c w2 (HR.out.kept hg2 hs1) h1 h2)
        have HA2 := Lib.hid hA2
        clear hA2 hg2
        go_wp2_with fail
        refine R2.out.mono ?_
        rintro e w3 ⟨rfl, hR3, hb3⟩
        have hA3 := HA2.out.belowB hb3 hs1
        have hB3 := hB2.trans (hb3.mono (by omega))
        have hI3 : Inv ((k + 1 : Nat) : Int) a (if roundOk n c = true then zeros else c) := by
          split
          · exact HI.out.round.more (by omega)
          · exact HI.out.more (by omega)
        clear hb3
        have HA3 := Lib.hid hA3
        have HR3 := Lib.hid hR3
        have HI3 := Lib.hid hI3
        clear hA3 hR3 hI3
        go_wp2_with fail
        go_loopw [9] (fun i wr => ∃ (j q : Nat), i = .int .i64 j ∧ j ≤ n ∧ wr = w3.drewN q) (fun i _ => 10 - (intOf i).toNat)
        case atStart => exact ⟨0, 0, rfl, Nat.zero_le _, rfl⟩
        case round =>
          obtain ⟨j, q, rfl, hj, rfl⟩ := hrel
          have hj0 : (0 : Int) ≤ (j : Int) := by omega
          by_cases hjn : j < n
          · have hj1 : (j : Int) < (n : Int) := by omega
            obtain ⟨g1, g2, p0, p1, p2, p3, p4, p5, p6, p7, p8, p9, p10⟩ := HR3.out
            have d0 := p0.cell 0
            have d1 := row_cell p1 hjn p9
            have AT := Lib.hid (fun m => at_yes w.heap.size j n _ _ (w3.drewN m) ⟨Blk.drewN HA3.out.1 m, HA3.out.2⟩ hjn h2)
            clear p0 p1 p2 p3 p4 p5 p6 p7 p8 p9 p10
            generalize a.getD j 0 = y at *
            go_wp2
            go_quiet ((go_at_call 10; first | exact quiet1 AT.out | exact quiet2 AT.out))
            go_wp2
            go_roundw
            case rel => exact ⟨j + 1, _, by go_num, by omega, by (try simp only [World.drewN_drewN]); rfl⟩
            case measure => simp [intOf]; omega
          · obtain rfl : j = n := by omega
            go_wp2
            go_roundw
            case rel => exact ⟨k + 1, _, _, by go_num, by omega, by omega, HI3.out, ⟨Blk.drewN HA3.out.1 q, HA3.out.2⟩, RefAt.drewN HR3.out q, below_drewN' hB3 q⟩
            case measure => simp [intOf]; omega

      · have hx0 : ¬ x < 0 := hx
        have T1 := Lib.hid (tick_any w.heap.size n a c x k wr.drew HA.out h2 HI.out (by omega))
        go_wp2_with fail
        go_region_with (first | (go_at_call 9; refine T1.out.mono ?_; rintro e w2 ⟨rfl, hA2, hg2⟩; have hB2 : Below w.heap.size w w2 := (hB.drew.trans (Below.of_grownBy hg2 (Nat.le_refl _) HA.out.lt)); have c2 := (hB2.cell (p := ⟨bl, off + k, none⟩) hbl).trans HCW.out) | (go_at_call 15; refine (rtick_any w1.heap.size b n a c x k w2 (RefAt.kept (RefAt.drew HR.out) hg2 hs1) h2 HI.out (by omega)).mono ?_; rintro e w3 ⟨rfl, hR3, hb3⟩; have hB3 : Below w.heap.size w w3 := (hB2.trans (hb3.mono (by omega)))))
        all_goals
          have hA3 := hA2.belowB hb3 hs1
          have hI3 : Inv ((k + 1 : Nat) : Int) (if tickOk n c x = true then inc a x else a) (if tickOk n c x = true then inc c x else c) := by
            cases ht : tickOk n c x
            · exact HI.out.more (by omega)
            · exact_mod_cast HI.out.tick h2 ht
          clear hA2 hg2 hb3 hB2 T1
          have HA3 := Lib.hid hA3
          have HR3 := Lib.hid hR3
          have HI3 := Lib.hid hI3
          clear hA3 hR3 hI3
          go_wp2_with fail
          go_loopw [9] (fun i wr => ∃ (j q : Nat), i = .int .i64 j ∧ j ≤ n ∧ wr = w3.drewN q) (fun i _ => 10 - (intOf i).toNat)
          case atStart => exact ⟨0, 0, rfl, Nat.zero_le _, rfl⟩
          case round =>
            obtain ⟨j, q, rfl, hj, rfl⟩ := hrel
            have hj0 : (0 : Int) ≤ (j : Int) := by omega
            by_cases hjn : j < n
            · have hj1 : (j : Int) < (n : Int) := by omega
              obtain ⟨g1, g2, p0, p1, p2, p3, p4, p5, p6, p7, p8, p9, p10⟩ := HR3.out
              have d0 := p0.cell 0
              have d1 := row_cell p1 hjn p9
              have AT := Lib.hid (fun m => at_yes w.heap.size j n _ _ (w3.drewN m) ⟨Blk.drewN HA3.out.1 m, HA3.out.2⟩ hjn h2)
              clear p0 p1 p2 p3 p4 p5 p6 p7 p8 p9 p10
              generalize (if tickOk n c x = true then inc a x else a).getD j 0 = y at *
              go_wp2
              go_quiet ((go_at_call 10; first | exact quiet1 AT.out | exact quiet2 AT.out))
              go_wp2
              go_roundw
              case rel => exact ⟨j + 1, _, by go_num, by omega, by (try simp only [World.drewN_drewN]); rfl⟩
              case measure => simp [intOf]; omega
            · obtain rfl : j = n := by omega
              go_wp2
              go_roundw
              case rel => exact ⟨k + 1, _, _, by go_num, by omega, by omega, HI3.out, ⟨Blk.drewN HA3.out.1 q, HA3.out.2⟩, RefAt.drewN HR3.out q, below_drewN' hB3 q⟩
              case measure => simp [intOf]; omega
    · have hcase : (¬ (k : Int) < (len : Int)) ∨ ((k : Int) < (len : Int) ∧ ¬ (k : Int) < 100) := by omega
      have HA := Lib.hid hA
      have HI := Lib.hid hI
      clear hgo hR hA hr hI
      rcases hcase with h3 | ⟨h3, h4⟩
      all_goals
        go_wp2_with fail
        refine (told_any _).mono ?_
        rintro e w2 ⟨rfl, hb2⟩
        have hA2 := HA.out.below hb2
        have A1 := Lib.hid (at_no w.heap.size n (-1) w2 hA2.num (by omega))
        have A2 := Lib.hid (at_no w.heap.size n n w2 hA2.num (by omega))
        have T1 := Lib.hid (tick_none w.heap.size n n w2 hA2.num (by omega))
        have T2 := Lib.hid (tick_none w.heap.size n (-1) w2 hA2.num (by omega))
        clear hA2
        go_wp2_with fail
        refine A1.out.mono ?_
        rintro e w3 ⟨rfl, rfl⟩
        go_wp2_with fail
        refine A2.out.mono ?_
        rintro e w3 ⟨rfl, rfl⟩
        go_wp2_with fail
        refine T1.out.mono ?_
        rintro e w3 ⟨rfl, rfl⟩
        go_wp2_with fail
        refine T2.out.mono ?_
        rintro e w3 ⟨rfl, rfl⟩
        go_wp2
        go_ret
        exact ⟨rfl, bt hB hb2⟩
end Go.Proofs.Ytphgilkmjkmfaaa
