/- The walk of WatchPlays. -/
import Derived.Test.YtlbbleomhbjnkaaI
import Derived.Test.YtlbbleomhbjnkaaT
namespace Go.Proofs.Ytlbbleomhbjnkaa
open Go.RowKit
set_option linter.unusedVariables false
attribute [local go_sem ↓] Go.wp_at_zero Go.wp_at_succ

/-- The five times agree with the document's n ones. -/
def Agree (n : Nat) (hs hs' : List Int) : Prop := hs.length = 5 ∧ hs'.length = n ∧ (∀ k, k < n → hs.getD k 0 = hs'.getD k 0) ∧ (∀ k, 0 ≤ hs.getD k 0) ∧ (∀ k, 0 ≤ hs'.getD k 0)
theorem Agree.start {n : Nat} {now : Int} (hn : n ≤ 5) (h : 0 ≤ now) : Agree n (times n now) (List.replicate n now) := by
  refine ⟨times_length _ _, by simp, fun k hk => ?_, fun k => ?_, fun k => ?_⟩
  · have h5 : k < 5 := by omega
    simp [times, h5, hk]
  · by_cases h5 : k < 5
    · simp [times, h5]
      split <;> omega
    · simp [times, h5]
  · by_cases hk : k < n
    · simp [hk, h]
    · simp [hk]
theorem getD_set (l : List Int) (i k : Nat) (x : Int) (hi : i < l.length) : (l.set i x).getD k 0 = if k = i then x else l.getD k 0 := by
  by_cases e : k = i
  · subst e; simp [hi]
  · have e' : i ≠ k := fun h => e h.symm
    simp [e, e']
theorem maxZ_nonneg {a b : Int} (h : 0 ≤ a) : 0 ≤ maxZ a b := by unfold maxZ; split <;> omega
theorem Agree.set {n d : Nat} {hs hs' : List Int} (h : Agree n hs hs') (hn : n ≤ 5) (hd : d < n) (now : Int) : Agree n (hs.set d (maxZ (hs.getD d 0) now)) (hs'.set d (maxZ (hs'.getD d 0) now)) := by
  obtain ⟨h1, h2, h3, h4, h5⟩ := h
  refine ⟨by simpa using h1, by simpa using h2, fun k hk => ?_, fun k => ?_, fun k => ?_⟩
  · rw [getD_set _ _ _ _ (by omega), getD_set _ _ _ _ (by omega), h3 d hd, h3 k hk]
  · rw [getD_set _ _ _ _ (by omega)]
    split
    · exact maxZ_nonneg (h4 d)
    · exact h4 k
  · rw [getD_set _ _ _ _ (by omega)]
    split
    · exact maxZ_nonneg (h5 d)
    · exact h5 k
theorem Agree.gone {n : Nat} {hs hs' : List Int} (h : Agree n hs hs') (self now : Int) : ∀ k, k ≤ n → goneTo self now hs k = goneTo self now hs' k
  | 0, _ => rfl
  | k + 1, hk => by rw [goneTo_succ, goneTo_succ, Agree.gone h self now k (by omega), h.2.2.1 k (by omega)]

theorem WatchAt.far {w w' : World} {b x : Nat} {n self : Int} {hs : List Int} (h : WatchAt w b n self hs) (hb : w.grownBy w' (some x)) (hne : b ≠ x) : WatchAt w' b n self hs :=
  (hb.block b (Blk.lt h) (by intro e; exact hne (Option.some.inj e))).trans h

theorem gone_eq {n : Nat} {hs hs' : List Int} {self N : Int} {W : World} {base : Nat} {v : Value} (h : Agree n hs hs') (ho : W.ownsRow base 3 1 v (goneTo self N hs' n).length ((goneTo self N hs' n).map (Value.int .i64))) : W.ownsRow base 3 1 v (goneTo self N hs n).length ((goneTo self N hs n).map (Value.int .i64)) := by
  rw [Agree.gone h self N n (Nat.le_refl n)]
  exact ho

theorem ints_below (n : Nat) (v1 v2 : Value) (xs : List Int) (b1 b2 : Nat) (w : World) (hn : xs.length = n) (hs : n ≤ 1000) (h1 : w.ownsRow b1 3 1 v1 n (xs.map (Value.int .i64))) (h2 : w.ownsRow b2 3 1 v2 n (xs.map (Value.int .i64))) :
    Calls Try.prog 12 #[v1, v2] w fun e w' => e = .returned (.bool true) ∧ Below w.heap.size w w' :=
  (ints_same n v1 v2 xs b1 b2 w hn hs h1 h2).mono fun _ _ ⟨he, q, hw⟩ => ⟨he, by rw [hw]; exact below_drewN' (Below.refl _ _) q⟩

section
variable {w W : World} {b g bo b2 n : Nat} {self N D : Int} {hs hs' : List Int}
theorem keepP {W' : World} {x y : Value} (hb : Below W.heap.size W W') (h : W.cell? ⟨bo, 1, none⟩ = some x ∧ W.cell? ⟨bo, 2, none⟩ = some y ∧ bo < W.heap.size ∧ Below w.heap.size w W ∧ WatchAt W b n self hs ∧ RefAt W b2 g n self hs') :
    W'.cell? ⟨bo, 1, none⟩ = some x ∧ W'.cell? ⟨bo, 2, none⟩ = some y ∧ bo < W'.heap.size ∧ Below w.heap.size w W' ∧ WatchAt W' b n self hs ∧ RefAt W' b2 g n self hs' := by
  obtain ⟨h1, h2, h3, h4, h5, h6⟩ := h
  exact ⟨(hb.cell (p := ⟨bo, 1, none⟩) h3).trans h1, (hb.cell (p := ⟨bo, 2, none⟩) h3).trans h2, Nat.lt_of_lt_of_le h3 hb.size, bt h4 hb, Blk.below h5 hb, h6.below hb⟩
theorem Sw {x y : Value} (h : W.cell? ⟨bo, 1, none⟩ = some x ∧ W.cell? ⟨bo, 2, none⟩ = some y ∧ bo < W.heap.size ∧ Below w.heap.size w W ∧ WatchAt W b n self hs ∧ RefAt W b2 g n self hs') : WatchAt W b n self hs := h.2.2.2.2.1
theorem Sr {x y : Value} (h : W.cell? ⟨bo, 1, none⟩ = some x ∧ W.cell? ⟨bo, 2, none⟩ = some y ∧ bo < W.heap.size ∧ Below w.heap.size w W ∧ WatchAt W b n self hs ∧ RefAt W b2 g n self hs') : RefAt W b2 g n self hs' := h.2.2.2.2.2
theorem gone_S {x y : Value} (hag : Agree n hs hs') (hn : n ≤ 5) (hN : N ≤ 9223372036854775807) (h : W.cell? ⟨bo, 1, none⟩ = some x ∧ W.cell? ⟨bo, 2, none⟩ = some y ∧ bo < W.heap.size ∧ Below w.heap.size w W ∧ WatchAt W b n self hs ∧ RefAt W b2 g n self hs') :
    Calls Try.prog 13 #[.pointer (some ⟨b, 0, none⟩), .int .i64 N] W (GonePost (goneTo self N hs n) W) := gone_any b n self N hs W (Sw h) hag.1 hn hag.2.2.2.1 hN
theorem rgone_S {x y : Value} (hag : Agree n hs hs') (hn : n ≤ 5) (hN : N ≤ 9223372036854775807) (h : W.cell? ⟨bo, 1, none⟩ = some x ∧ W.cell? ⟨bo, 2, none⟩ = some y ∧ bo < W.heap.size ∧ Below w.heap.size w W ∧ WatchAt W b n self hs ∧ RefAt W b2 g n self hs') :
    Calls Try.prog 14 #[.pointer (some ⟨b2, 0, none⟩), .int .i64 N] W (GonePost (goneTo self N hs' n) W) := rgone_any b2 g n self N hs' W (Sr h) hn hag.2.2.2.2 hN
end

set_option maxHeartbeats 400000 in
theorem plays_bad (n self now : Int) (A : Option Addr) (len cap : Nat) (w : World) (h : n < 1 ∨ 5 < n ∨ self < 0 ∨ n ≤ self ∨ now < 0 ∨ 1099511627776 < now) :
    Calls Try.prog 3 #[.int .i64 n, .int .i64 self, .int .i64 now, .slice A len cap] w fun e w' => e = .returned (.bool true) ∧ Below w.heap.size w w' := by
  have H1 := Lib.hid (new_bad n self now w h)
  have H2 := Lib.hid (rnew_bad n self now w h)
  clear h
  go_enter Try.func3, Try.ntmps3
  go_wp2_with fail
  refine H1.out.mono ?_
  rintro e w1 ⟨rfl, rfl⟩
  go_wp2_with fail
  refine H2.out.mono ?_
  rintro e w1 ⟨rfl, rfl⟩
  go_wp2_with fail
  refine (told_any _).mono ?_
  rintro e w1 ⟨rfl, h1⟩
  go_wp2
  go_ret
  exact ⟨rfl, h1⟩

set_option maxRecDepth 100000 in
set_option maxHeartbeats 1000000 in
theorem plays_good (n : Nat) (self now : Int) (A : Option Addr) (len cap : Nat) (f : Nat → Nat → Int) (w : World) (hR : StructsAt w 3 A len f) (h1 : 1 ≤ n) (h2 : n ≤ 5) (h3 : 0 ≤ self) (h4 : self < n) (h5 : 0 ≤ now) (h6 : now ≤ 1099511627776) :
    Calls Try.prog 3 #[.int .i64 n, .int .i64 self, .int .i64 now, .slice A len cap] w fun e w' => e = .returned (.bool true) ∧ Below w.heap.size w w' := by
  have hlen := hR.1
  have H1 := Lib.hid (new_good n self now w h1 h2 h3 h4 h5 h6)
  go_enter Try.func3, Try.ntmps3
  go_wp2_with fail
  refine H1.out.mono ?_
  rintro e w1 ⟨rfl, hw1⟩
  have hA1 : WatchAt w1 w.heap.size n self (times n now) := by rw [hw1]; exact Blk.new _ _ _
  have hB1 : Below w.heap.size w w1 := by rw [hw1]; exact (Below.refl _ _).alloc (Nat.le_refl _) _
  have hs1 : w.heap.size < w1.heap.size := by rw [hw1]; simp
  have H2 := Lib.hid (rnew_good n self now w1 h1 h2 h3 h4 h5 h6)
  clear hw1
  go_wp2_with fail
  refine H2.out.mono ?_
  rintro e w2 ⟨g, rfl, hr2, hb2, hg⟩
  have hA2 : WatchAt w2 w.heap.size n self (times n now) := Blk.below hA1 hb2
  have hB2 := bt hB1 hb2
  have hag := Agree.start (n := n) h2 h5
  clear hA1 hB1 hb2 H1 H2
  go_wp2
  go_loopw [12] (fun i wr => ∃ (k : Nat) (hs hs' : List Int), i = .int .i64 k ∧ k ≤ 80 ∧ k ≤ len ∧ Agree n hs hs' ∧ WatchAt wr w.heap.size n self hs ∧ RefAt wr w1.heap.size g n self hs' ∧ Below w.heap.size w wr)
    (fun i _ => 81 - (intOf i).toNat)
  case atStart => exact ⟨0, _, _, rfl, by omega, by omega, hag, hA2, hr2, hB2⟩
  case round =>
    obtain ⟨k, hs, hs', rfl, hk, hkl, hag, hA, hr, hB⟩ := hrel
    clear hA2 hr2 hB2
    by_cases hgo : k < len ∧ k < 80
    · obtain ⟨hg1, hg2⟩ := hgo
      obtain ⟨bl, off, rfl, hbl, hcell⟩ := (hR.below hB).2.2 (by omega)
      have c0 : wr.cell? ⟨bl, off + k * 3, none⟩ = some (.int .i64 (f k 0)) := hcell k 0 hg1 (by omega)
      have c1 : wr.cell? ⟨bl, off + k * 3 + 1, none⟩ = some (.int .i64 (f k 1)) := hcell k 1 hg1 (by omega)
      have c2 : wr.cell? ⟨bl, off + k * 3 + 2, none⟩ = some (.int .i64 (f k 2)) := hcell k 2 hg1 (by omega)
      have r1 := (hR.2.1 k 1).2
      have hk0 : (0 : Int) ≤ (k : Int) := by omega
      have hk1 : (k : Int) < (len : Int) := by omega
      clear hcell hR
      generalize f k 0 = K at *
      generalize f k 1 = N at *
      generalize f k 2 = D at *
      have HA := Lib.hid hA
      have HR := Lib.hid hr
      have HAG := Lib.hid hag
      clear hA hr hag
      have hlw := Blk.lt HA.out
      have hne1 : wr.heap.size ≠ w.heap.size := by omega
      have hop := Blk.new wr 30 #[.int .i64 K, .int .i64 N, .int .i64 D]
      have hA1 := Blk.alloc HA.out (.cells #[.int .i64 K, .int .i64 N, .int .i64 D] 30)
      have hr1 := HR.out.below (Below.alloc (Below.refl _ _) (Nat.le_refl _) (.cells #[.int .i64 K, .int .i64 N, .int .i64 D] 30))
      have hB1 := hB.alloc hB.size (.cells #[.int .i64 K, .int .i64 N, .int .i64 D] 30)
      have HOP := Lib.hid hop
      have HA1 := Lib.hid hA1
      have HR1 := Lib.hid hr1
      clear hop hA1 hr1
      by_cases hK : K = 0
      · have hKb : (K == 0) = true := by simp [hK]
        clear hK
        by_cases hD : 0 ≤ D ∧ D < n
        · obtain ⟨hD0, hD1⟩ := hD
          obtain ⟨d, rfl⟩ := Int.eq_ofNat_of_zero_le hD0
          have hdn : d < n := by omega
          go_wp2_with fail
          refine (heard_at _ d n self N hs _ HA1.out HAG.out.1 hdn h2).mono ?_
          rintro e w3 ⟨rfl, hA3, hg3⟩
          have hop3 : Blk w3 wr.heap.size 30 _ := (hg3.block _ (Blk.lt HOP.out) (by intro e; exact hne1 (Option.some.inj e))).trans HOP.out
          have d1 := Blk.cell hop3 1
          have d2 := Blk.cell hop3 2
          have hr3 := HR1.out.far hg3 (by omega) (by omega)
          have hB3 := hB1.trans (Below.of_grownBy hg3 (Nat.le_refl _) (Blk.lt HA1.out))
          have HA3 := Lib.hid hA3
          have HR3 := Lib.hid hr3
          clear hA3 hr3 hop3 hg3
          go_wp2_with fail
          refine (rheard_yes _ g d n self N _ hs' _ HR3.out rfl hdn).mono ?_
          rintro e w4 ⟨rfl, hr4, hg4⟩
          have hA4 := HA3.out.far hg4 (by omega)
          have hB4 := hB3.trans (Below.of_grownBy hg4 (by omega) HR3.out.glt)
          have hag4 := HAG.out.set h2 hdn N
          go_wp2
          go_roundw
          case rel => exact ⟨k + 1, _, _, by go_num, by omega, by omega, hag4, hA4, hr4, hB4⟩
          case measure => simp [intOf]; omega
        · have hD' : D < 0 ∨ (n : Int) ≤ D := by omega
          have HD := Lib.hid hD'
          clear hD hD'
          go_wp2_with fail
          refine (heard_no _ n N D _ (WatchAt.n HA1.out) HD.out).mono ?_
          rintro e w3 ⟨rfl, rfl⟩
          go_wp2_with fail
          refine (rheard_no _ g n self N D hs' _ HR1.out HD.out).mono ?_
          rintro e w3 ⟨rfl, rfl⟩
          go_wp2
          go_roundw
          case rel => exact ⟨k + 1, hs, hs', by go_num, by omega, by omega, HAG.out, HA1.out, HR1.out, hB1⟩
          case measure => simp [intOf]; omega
      · have hKb : (K == 0) = false := by simp [hK]
        clear hK
        have hT : ∃ tb : Bool, (∀ W, WatchAt W w.heap.size n self hs → Calls Try.prog 15 #[.pointer (some ⟨w.heap.size, 0, none⟩), .int .i64 N, .int .i64 D] W fun e w' => e = .returned (.bool tb) ∧ W = w') ∧ (∀ W, RefAt W w1.heap.size g n self hs' → Calls Try.prog 16 #[.pointer (some ⟨w1.heap.size, 0, none⟩), .int .i64 N, .int .i64 D] W fun e w' => e = .returned (.bool tb) ∧ W = w') := by
          have hagk := HAG.out
          by_cases hD : 0 ≤ D ∧ D < n
          · obtain ⟨hD0, hD1⟩ := hD
            obtain ⟨d, rfl⟩ := Int.eq_ofNat_of_zero_le hD0
            have hdn : d < n := by omega
            refine ⟨thereB self N d (hs.getD d 0), fun W hW => ?_, fun W hW => ?_⟩
            · exact there_yes _ d n self N _ W hW.n hW.self (hW.at_ (by have := hagk.1; omega)) hD1 (by omega) (hagk.2.2.2.1 d) r1
            · exact rthere_yes _ g d n self N _ hs' W hW (hagk.2.2.1 d hdn).symm hdn h2 (hagk.2.2.2.1 d) r1
          · have hD' : D < 0 ∨ (n : Int) ≤ D := by omega
            exact ⟨false, fun W hW => there_no _ n N D W hW.n hD', fun W hW => rthere_no _ g n self N D hs' W hW hD'⟩
        obtain ⟨tb, hT1, hT2⟩ := hT
        have HT1 := Lib.hid hT1
        have HT2 := Lib.hid hT2
        clear hT1 hT2
        go_wp2_with fail
        go_region_held3 (fun w' => w'.cell? ⟨wr.heap.size, 1, none⟩ = some (.int .i64 N) ∧ w'.cell? ⟨wr.heap.size, 2, none⟩ = some (.int .i64 D) ∧ wr.heap.size < w'.heap.size ∧ Below w.heap.size w w' ∧ WatchAt w' w.heap.size n self hs ∧ RefAt w' w1.heap.size g n self hs')
          (first | (assumption) | (exact keepP hb (by assumption)) | (exact ⟨Blk.cell HOP.out 1, Blk.cell HOP.out 2, Blk.lt HOP.out, hB1.drew, HA1.out, HR1.out⟩))
          (first | (go_at_call 13; (with_reducible refine (gone_S HAG.out h2 r1 (by assumption)).mono ?_); rintro e w' ⟨v1, rfl, ho1, hb⟩) | (go_at_call 14; (with_reducible refine (rgone_S HAG.out h2 r1 (by assumption)).mono ?_); rintro e w' ⟨v2, rfl, ho2, hb⟩; have ho3 := own_below ho1 hb; have ho4 := (gone_eq HAG.out ho2)) | (go_at_call 12; (with_reducible refine (ints_below _ _ _ _ _ _ _ rfl (Nat.le_trans (goneTo_length _ _ _ _) (Nat.le_trans h2 (by omega))) ho3 ho4).mono ?_); rintro e w' ⟨rfl, hb⟩) | (go_at_call 15; (with_reducible refine (HT1.out _ (Sw (by assumption))).mono ?_); rintro e w' ⟨rfl, rfl⟩) | (go_at_call 16; (with_reducible refine (HT2.out _ (Sr (by assumption))).mono ?_); rintro e w' ⟨rfl, rfl⟩))
        go_wp2
        go_roundw
        case rel =>
          have hS := (by assumption : _ ∧ _ ∧ wr.heap.size < _ ∧ Below w.heap.size w _ ∧ WatchAt _ w.heap.size n self hs ∧ RefAt _ w1.heap.size g n self hs')
          exact ⟨k + 1, hs, hs', by go_num, by omega, by omega, HAG.out, hS.2.2.2.2.1, hS.2.2.2.2.2, hS.2.2.2.1⟩
        case measure => simp [intOf]; omega
    · have hcase : (¬ (k : Int) < (len : Int)) ∨ ((k : Int) < (len : Int) ∧ ¬ (k : Int) < 80) := by omega
      clear hgo hR hA hr hag
      rcases hcase with h1 | ⟨h1, h2⟩
      all_goals
        go_wp2_with fail
        refine (told_any _).mono ?_
        rintro e w2 ⟨rfl, hb2⟩
        go_wp2
        go_ret
        exact ⟨rfl, bt hB hb2⟩

theorem plays_any (n self now : Int) (A : Option Addr) (len cap : Nat) (f : Nat → Nat → Int) (w : World) (hR : StructsAt w 3 A len f) :
    Calls Try.prog 3 #[.int .i64 n, .int .i64 self, .int .i64 now, .slice A len cap] w fun e w' => e = .returned (.bool true) ∧ Below w.heap.size w w' := by
  by_cases h : n < 1 ∨ 5 < n ∨ self < 0 ∨ n ≤ self ∨ now < 0 ∨ 1099511627776 < now
  · exact plays_bad n self now A len cap w h
  · obtain ⟨m, rfl⟩ := Int.eq_ofNat_of_zero_le (show 0 ≤ n by omega)
    exact plays_good m self now A len cap f w hR (by omega) (by omega) (by omega) (by omega) (by omega) (by omega)
end Go.Proofs.Ytlbbleomhbjnkaa
