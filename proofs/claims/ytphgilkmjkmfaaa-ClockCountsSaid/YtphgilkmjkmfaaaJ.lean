/- The walk of ClockCounts. -/
import Derived.Test.YtphgilkmjkmfaaaI
import Derived.Test.YtphgilkmjkmfaaaH
namespace Go.Proofs.Ytphgilkmjkmfaaa
open Go.RowKit
set_option linter.unusedVariables false
attribute [local go_sem ↓] Go.wp_at_zero Go.wp_at_succ

/-- Clocks in block w.heap.size, and two rows of the statement's own that show the same. -/
def CS (w wr : World) (n g1 g2 : Nat) (a c : List Int) : Prop :=
  ClockAt wr w.heap.size n a c ∧ Blk wr g1 3 ((a.take n).map (Value.int .i64)).toArray ∧ Blk wr g2 3 ((c.take n).map (Value.int .i64)).toArray ∧ w.heap.size < g1 ∧ w.heap.size < g2 ∧ g1 ≠ g2 ∧ Below w.heap.size w wr
theorem CS.drewN {w wr : World} {n g1 g2 : Nat} {a c : List Int} (h : CS w wr n g1 g2 a c) (m : Nat) : CS w (wr.drewN m) n g1 g2 a c :=
  ⟨⟨Blk.drewN h.1.1 m, h.1.2⟩, Blk.drewN h.2.1 m, Blk.drewN h.2.2.1 m, h.2.2.2.1, h.2.2.2.2.1, h.2.2.2.2.2.1, below_drewN' h.2.2.2.2.2.2 m⟩
theorem and_three : ∀ k : Nat, k < 100 → (bits BinOp.and IntKind.i64 (k : Int) 3 = 3 ∧ k % 4 = 3) ∨ (bits BinOp.and IntKind.i64 (k : Int) 3 ≠ 3) := by decide
theorem roundOk_zero (c : List Int) : roundOk 0 c = true := by unfold roundOk; rw [decide_eq_true_iff]; intro k hk; omega
theorem roundOk_succ (j : Nat) (c : List Int) (h : ∀ j, 0 ≤ c.getD j 0 ∧ c.getD j 0 ≤ 2) : roundOk (j + 1) c = (roundOk j c && decide (0 < c.getD j 0)) := by
  unfold roundOk
  rw [Bool.eq_iff_iff]
  simp only [decide_eq_true_eq, Bool.and_eq_true]
  have hj := h j
  constructor
  · intro hh
    exact ⟨fun k hk => hh k (by omega), by have := hh j (by omega); omega⟩
  · rintro ⟨h1, h2⟩ k hk
    by_cases e : k = j
    · subst e; omega
    · exact h1 k (by omega)

set_option maxRecDepth 100000 in
set_option maxHeartbeats 2000000 in
theorem counts_any (n : Int) (A : Option Addr) (len cap : Nat) (zs : List Int) (w : World) (hR : IntsAt w A len zs) :
    Calls Try.prog 3 #[.int .i64 n, .slice A len cap] w fun e w' => e = .returned (.bool true) ∧ Below w.heap.size w w' := by
  have hlen := hR.2.1
  have hr := rem_range n 9 (by omega) (by omega)
  have hn0 : 1 ≤ wrap64 (1 + wrap64 ((IntKind.u64.wrap n).tmod 9)) ∧ wrap64 (1 + wrap64 ((IntKind.u64.wrap n).tmod 9)) ≤ 9 := by
    generalize wrap64 ((IntKind.u64.wrap n).tmod 9) = N at *
    unfold wrap64
    omega
  obtain ⟨hn0, hn1⟩ := hn0
  clear hr
  go_enter Try.func3, Try.ntmps3
  go_wp2_with fail
  generalize wrap64 (1 + wrap64 ((IntKind.u64.wrap n).tmod 9)) = N at *
  obtain ⟨k, rfl⟩ := Int.eq_ofNat_of_zero_le (show 0 ≤ N by omega)
  have hk1 : 1 ≤ k := by omega
  have hk9 : k ≤ 9 := by omega
  have hmk := run_mk k hk9
  have ek : IntKind.u64.wrap (k : Int) = k := by rw [IntKind.wrap_u64]; omega
  have ek0 : (k : Int) ≠ 0 := by omega
  refine (new_good k _ hn0 hn1).mono ?_
  rintro e w1 ⟨rfl, hA1, hB1⟩
  have hs1 : w.heap.size < w1.heap.size := hA1.lt
  go_wp2
  have hz := zeros_take k hk9
  have hs2 : (w1.alloc (.cells (row0 k) 3)).heap.size = w1.heap.size + 1 := World.size_alloc _ _
  have hS0 : CS w ((w1.alloc (.cells (row0 k) 3)).alloc (.cells (row0 k) 3)) k w1.heap.size (w1.heap.size + 1) zeros zeros := by
    refine ⟨⟨(hA1.1.alloc _).alloc _, hA1.2⟩, ?_, ?_, hs1, by omega, by omega, (hB1.alloc hB1.size _).alloc (by have := hB1.size; simp; omega) _⟩
    · rw [hz]; exact (Blk.new w1 3 (row0 k)).alloc _
    · rw [hz, ← hs2]; exact Blk.new _ 3 (row0 k)
  have HS0 := Lib.hid hS0
  have HZ := Lib.hid hz
  clear hS0 hA1 hB1 hz
  go_loopw [9, 10] (fun nv i wr => ∃ (j g2 : Nat) (a c : List Int), i = .int .i64 j ∧ nv = .slice (some ⟨g2, 0, none⟩) k k ∧ j ≤ 100 ∧ j ≤ len ∧ Inv j a c ∧ CS w wr k w1.heap.size g2 a c)
    (fun _ i _ => 101 - (intOf i).toNat)
  case atStart => exact ⟨0, _, _, _, rfl, rfl, by omega, by omega, Inv.start, HS0.out⟩
  case round =>
    obtain ⟨j, g2, a, c, rfl, rfl, hj, hjl, hI, hS⟩ := hrel
    clear HS0
    by_cases hgo : j < len ∧ j < 100
    · obtain ⟨hg1, hg2⟩ := hgo
      obtain ⟨bl, off, rfl, hbl, hcell⟩ := hR.2.2.2 (by omega)
      have hcw := hcell j hg1
      have c0 := (hS.2.2.2.2.2.2.cell (p := ⟨bl, off + j, none⟩) hbl).trans hcw
      have hj0 : (0 : Int) ≤ (j : Int) := by omega
      have hj1 : (j : Int) < (len : Int) := by omega
      clear hcell hR hcw
      generalize zs.getD j 0 = x at *
      have HS := Lib.hid hS
      have HI := Lib.hid hI
      have hw := rem_range x k (by omega) (by omega)
      obtain ⟨hw0, hw1⟩ := hw
      clear hS hI
      go_wp2_with fail
      generalize wrap64 ((IntKind.u64.wrap x).tmod k) = P at *
      obtain ⟨p, rfl⟩ := Int.eq_ofNat_of_zero_le hw0
      have hpk : p < k := by omega
      have T1 := Lib.hid (tick_any w.heap.size k a c p j wr HS.out.1 hk9 HI.out (by omega))
      obtain ⟨-, r1, r2, q1, q2, q3, hB⟩ := HS.out
      have ga := HI.out.2.2.1 p
      have gc := HI.out.2.2.2 p
      have hla := HI.out.1
      have hlc := HI.out.2.1
      have hx : ∃ x y, c.getD p 0 = x ∧ a.getD p 0 = y := ⟨_, _, rfl, rfl⟩
      obtain ⟨x, y, hx, hy⟩ := hx
      have c1 := row_cell r1 hpk (by omega)
      have c2 := row_cell r2 hpk (by omega)
      rw [hx] at c2 gc
      rw [hy] at c1 ga
      have f1 := r1.frozen p
      have f2 := r2.frozen p
      obtain ⟨ga0, ga1⟩ := ga
      obtain ⟨gc0, gc1⟩ := gc
      have HX := Lib.hid hx
      have HY := Lib.hid hy
      have hsl : w.heap.size < wr.heap.size := HS.out.1.lt
      have R1 := Lib.hid r1
      have R2 := Lib.hid r2
      clear hx hy r1 r2 hla hlc
      cases ht : tickOk k c p with
      | true =>
        rw [ht] at T1
        have hx2 : x < 2 := by
          unfold tickOk at ht
          rw [decide_eq_true_iff] at ht
          have := ht.2.2
          rw [Int.toNat_natCast, HX.out] at this
          omega
        have HT := Lib.hid ht
        clear ht
        refine T1.out.mono ?_
        rintro e w2 ⟨rfl, hA2, hg2⟩
        simp only [if_true] at hA2
        have c1' := hg2.cell c1 (by simp; omega)
        have c2' := hg2.cell c2 (by simp; omega)
        have R1' := Lib.hid (R1.out.kept hg2 (by omega))
        have R2' := Lib.hid (R2.out.kept hg2 (by omega))
        have f1' := R1'.out.frozen p
        have f2' := R2'.out.frozen p
        have HA2 := Lib.hid hA2
        have hB2 := hB.trans (Below.of_grownBy hg2 (Nat.le_refl _) hsl)
        clear hA2 hg2 c1 c2 f1 f2 R1 R2 hB T1
        have hS3 : CS w ((w2.setCell ⟨w1.heap.size, p, none⟩ (.int .i64 (y + 1))).setCell ⟨g2, p, none⟩ (.int .i64 (x + 1))) k w1.heap.size g2 (inc a p) (inc c p) := by
          have e1 : inc a (p : Int) = a.set p (y + 1) := by simp only [inc, Int.toNat_natCast, HY.out]
          have e2 : inc c (p : Int) = c.set p (x + 1) := by simp only [inc, Int.toNat_natCast, HX.out]
          refine ⟨?_, ?_, ?_, q1, q2, q3, (hB2.setCell (p := ⟨w1.heap.size, p, none⟩) (by simp; omega) _).setCell (p := ⟨g2, p, none⟩) (by simp; omega) _⟩
          · exact (HA2.out.kept (grownBy_set _ _ _ _) (by omega)).kept (grownBy_set _ _ _ _) (by omega)
          · rw [e1]; exact (row_set R1'.out (y + 1)).far (p := ⟨g2, p, none⟩) q3 _
          · rw [e2]; exact row_set (Blk.far R2'.out (p := ⟨w1.heap.size, p, none⟩) (Ne.symm q3) _) (x + 1)
        have hI3 : Inv ((j + 1 : Nat) : Int) (inc a p) (inc c p) := by exact_mod_cast HI.out.tick hk9 HT.out
        have HS3 := Lib.hid hS3
        have HI3 := Lib.hid hI3
        clear hS3 hI3
        go_wp2_with fail
        go_loopw [13, 14] (fun al i wr => ∃ m : Nat, i = .int .i64 m ∧ al = .bool (roundOk m (inc c p)) ∧ m ≤ k ∧ CS w wr k w1.heap.size g2 (inc a p) (inc c p)) (fun _ i _ => 10 - (intOf i).toNat)
        case atStart => exact ⟨0, rfl, by rw [roundOk_zero], by omega, HS3.out⟩
        case round =>
          obtain ⟨m, rfl, rfl, hm, hS⟩ := hrel
          clear HS3
          by_cases hmn : m < k
          · have hm0 : (0 : Int) ≤ (m : Int) := by omega
            have hm1 : (m : Int) < (k : Int) := by omega
            have d1 := row_cell hS.2.1 hmn (by have := HI3.out.1; omega)
            have d2 := row_cell hS.2.2.1 hmn (by have := HI3.out.2.1; omega)
            have HRS := Lib.hid (roundOk_succ m _ HI3.out.2.2.2)
            have AT := Lib.hid (fun q => at_yes w.heap.size m k _ _ (wr.drewN q) (hS.drewN q).1 hmn hk9)
            have HSS := Lib.hid hS
            clear hS
            generalize ((inc a p)).getD m 0 = ya at *
            generalize ((inc c p)).getD m 0 = yc at *
            cases hr : roundOk m (inc c p)
            all_goals
              rw [hr] at HRS
              go_wp2
              go_quiet ((go_at_call 10; first | exact quiet1 AT.out | exact quiet2 AT.out))
              go_wp2
              go_roundw
              case rel => exact ⟨m + 1, by go_num, by rw [HRS.out]; simp, by omega, HSS.out.drewN _⟩
              case measure => simp [intOf]; omega
          · obtain rfl : m = k := by omega
            have HSS := Lib.hid hS
            clear hS
            rcases and_three j hg2 with ⟨e3, e4⟩ | e3
            · have RD := Lib.hid (round_ok w.heap.size m _ _ wr HSS.out.1 hk1 hk9)
              have hsl3 : w.heap.size < wr.heap.size := HSS.out.1.lt
              clear e4
              cases hr : roundOk m (inc c p)
              · rw [hr] at RD
                go_wp2_with fail
                refine RD.out.mono ?_
                rintro e w3 ⟨rfl, hA3, hg3⟩
                simp only [Bool.false_eq_true, if_false] at hA3
                have hS4 : CS w w3 m w1.heap.size g2 (inc a p) (inc c p) := ⟨hA3, HSS.out.2.1.kept hg3 (by omega), HSS.out.2.2.1.kept hg3 (by omega), q1, q2, q3, HSS.out.2.2.2.2.2.2.trans (Below.of_grownBy hg3 (Nat.le_refl _) hsl3)⟩
                have HS4 := Lib.hid hS4
                clear hS4 hA3 hg3
                go_wp2
                go_roundw
                case rel => exact ⟨j + 1, g2, _, _, by go_num, rfl, by omega, by omega, HI3.out, HS4.out⟩
                case measure => simp [intOf]; omega
              · rw [hr] at RD
                go_wp2_with fail
                refine RD.out.mono ?_
                rintro e w3 ⟨rfl, hA3, hg3⟩
                simp only [if_true] at hA3
                have hB3 := HSS.out.2.2.2.2.2.2.trans (Below.of_grownBy hg3 (Nat.le_refl _) hsl3)
                have hg1l : w1.heap.size < w3.heap.size := Nat.lt_of_lt_of_le HSS.out.2.1.lt hg3.size
                have hS4 : CS w (w3.alloc (.cells (row0 m) 3)) m w1.heap.size w3.heap.size (inc a p) zeros := ⟨⟨hA3.1.alloc _, hA3.2⟩, (HSS.out.2.1.kept hg3 (by omega)).alloc _, by rw [HZ.out]; exact Blk.new _ _ _, q1, by omega, by omega, hB3.alloc hB3.size _⟩
                have HS4 := Lib.hid hS4
                have HI4 := Lib.hid HI3.out.round
                clear hS4 hA3 hg3
                go_wp2
                go_roundw
                case rel => exact ⟨j + 1, _, _, _, by go_num, rfl, by omega, by omega, HI4.out, HS4.out⟩
                case measure => simp [intOf]; omega
            · go_wp2
              go_roundw
              case rel => exact ⟨j + 1, g2, _, _, by go_num, rfl, by omega, by omega, HI3.out, HSS.out⟩
              case measure => simp [intOf]; omega
      | false =>
        rw [ht] at T1
        have hx2 : 2 ≤ x := by
          unfold tickOk at ht
          rw [decide_eq_false_iff_not] at ht
          rw [Int.toNat_natCast, HX.out] at ht
          omega
        have HT := Lib.hid ht
        clear ht
        refine T1.out.mono ?_
        rintro e w2 ⟨rfl, hA2, hg2⟩
        simp only [Bool.false_eq_true, if_false] at hA2
        have c1' := hg2.cell c1 (by simp; omega)
        have c2' := hg2.cell c2 (by simp; omega)
        have R1' := Lib.hid (R1.out.kept hg2 (by omega))
        have R2' := Lib.hid (R2.out.kept hg2 (by omega))
        have hB2 := hB.trans (Below.of_grownBy hg2 (Nat.le_refl _) hsl)
        have hS3 : CS w w2 k w1.heap.size g2 a c := ⟨hA2, R1'.out, R2'.out, q1, q2, q3, hB2⟩
        have hI3 : Inv ((j + 1 : Nat) : Int) a c := HI.out.more (by omega)
        have HS3 := Lib.hid hS3
        have HI3 := Lib.hid hI3
        clear hS3 hI3 hA2 hg2 c1 c2 f1 f2 R1 R2 hB T1
        go_wp2_with fail
        go_loopw [13, 14] (fun al i wr => ∃ m : Nat, i = .int .i64 m ∧ al = .bool (roundOk m c) ∧ m ≤ k ∧ CS w wr k w1.heap.size g2 a c) (fun _ i _ => 10 - (intOf i).toNat)
        case atStart => exact ⟨0, rfl, by rw [roundOk_zero], by omega, HS3.out⟩
        case round =>
          obtain ⟨m, rfl, rfl, hm, hS⟩ := hrel
          clear HS3
          by_cases hmn : m < k
          · have hm0 : (0 : Int) ≤ (m : Int) := by omega
            have hm1 : (m : Int) < (k : Int) := by omega
            have d1 := row_cell hS.2.1 hmn (by have := HI3.out.1; omega)
            have d2 := row_cell hS.2.2.1 hmn (by have := HI3.out.2.1; omega)
            have HRS := Lib.hid (roundOk_succ m _ HI3.out.2.2.2)
            have AT := Lib.hid (fun q => at_yes w.heap.size m k _ _ (wr.drewN q) (hS.drewN q).1 hmn hk9)
            have HSS := Lib.hid hS
            clear hS
            generalize (a).getD m 0 = ya at *
            generalize (c).getD m 0 = yc at *
            cases hr : roundOk m c
            all_goals
              rw [hr] at HRS
              go_wp2
              go_quiet ((go_at_call 10; first | exact quiet1 AT.out | exact quiet2 AT.out))
              go_wp2
              go_roundw
              case rel => exact ⟨m + 1, by go_num, by rw [HRS.out]; simp, by omega, HSS.out.drewN _⟩
              case measure => simp [intOf]; omega
          · obtain rfl : m = k := by omega
            have HSS := Lib.hid hS
            clear hS
            rcases and_three j hg2 with ⟨e3, e4⟩ | e3
            · have RD := Lib.hid (round_ok w.heap.size m _ _ wr HSS.out.1 hk1 hk9)
              have hsl3 : w.heap.size < wr.heap.size := HSS.out.1.lt
              clear e4
              cases hr : roundOk m c
              · rw [hr] at RD
                go_wp2_with fail
                refine RD.out.mono ?_
                rintro e w3 ⟨rfl, hA3, hg3⟩
                simp only [Bool.false_eq_true, if_false] at hA3
                have hS4 : CS w w3 m w1.heap.size g2 a c := ⟨hA3, HSS.out.2.1.kept hg3 (by omega), HSS.out.2.2.1.kept hg3 (by omega), q1, q2, q3, HSS.out.2.2.2.2.2.2.trans (Below.of_grownBy hg3 (Nat.le_refl _) hsl3)⟩
                have HS4 := Lib.hid hS4
                clear hS4 hA3 hg3
                go_wp2
                go_roundw
                case rel => exact ⟨j + 1, g2, _, _, by go_num, rfl, by omega, by omega, HI3.out, HS4.out⟩
                case measure => simp [intOf]; omega
              · rw [hr] at RD
                go_wp2_with fail
                refine RD.out.mono ?_
                rintro e w3 ⟨rfl, hA3, hg3⟩
                simp only [if_true] at hA3
                have hB3 := HSS.out.2.2.2.2.2.2.trans (Below.of_grownBy hg3 (Nat.le_refl _) hsl3)
                have hg1l : w1.heap.size < w3.heap.size := Nat.lt_of_lt_of_le HSS.out.2.1.lt hg3.size
                have hS4 : CS w (w3.alloc (.cells (row0 m) 3)) m w1.heap.size w3.heap.size a zeros := ⟨⟨hA3.1.alloc _, hA3.2⟩, (HSS.out.2.1.kept hg3 (by omega)).alloc _, by rw [HZ.out]; exact Blk.new _ _ _, q1, by omega, by omega, hB3.alloc hB3.size _⟩
                have HS4 := Lib.hid hS4
                have HI4 := Lib.hid HI3.out.round
                clear hS4 hA3 hg3
                go_wp2
                go_roundw
                case rel => exact ⟨j + 1, _, _, _, by go_num, rfl, by omega, by omega, HI4.out, HS4.out⟩
                case measure => simp [intOf]; omega
            · go_wp2
              go_roundw
              case rel => exact ⟨j + 1, g2, _, _, by go_num, rfl, by omega, by omega, HI3.out, HSS.out⟩
              case measure => simp [intOf]; omega
    · have hcase : (¬ (j : Int) < (len : Int)) ∨ ((j : Int) < (len : Int) ∧ ¬ (j : Int) < 100) := by omega
      have HS := Lib.hid hS
      clear hgo hR hI hS
      rcases hcase with h3 | ⟨h3, h4⟩
      all_goals
        go_wp2_with fail
        refine (told_any _).mono ?_
        rintro e w2 ⟨rfl, hb2⟩
        have hB2 := bt HS.out.2.2.2.2.2.2 hb2
        go_wp2
        go_ret
        exact ⟨rfl, hB2⟩
end Go.Proofs.Ytphgilkmjkmfaaa
