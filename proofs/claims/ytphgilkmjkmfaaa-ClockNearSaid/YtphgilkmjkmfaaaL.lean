/- The walk of ClockNear. -/
import Derived.Test.YtphgilkmjkmfaaaK
import Derived.Test.YtphgilkmjkmfaaaH
import Derived.Maps.AppendAt
namespace Go.Proofs.Ytphgilkmjkmfaaa
open Go.RowKit
set_option linter.unusedVariables false
attribute [local go_sem ↓] Go.wp_at_zero Go.wp_at_succ

def Dis (l f : Value) : Prop := l.ownBlock = none ∨ l.ownBlock ≠ f.ownBlock
theorem Dis.symm {l f : Value} (h : Dis l f) : Dis f l := by
  by_cases e : f.ownBlock = none
  · exact .inl e
  · refine .inr fun h2 => ?_
    rcases h with h | h
    · exact e (h2.trans h)
    · exact h h2.symm
/-- Clocks, and two rows of the statement's own. -/
def RS (w wr : World) (k : Nat) (f l : Value) (a c xs ys : List Int) : Prop :=
  ClockAt wr w.heap.size k a c ∧ Below w.heap.size w wr ∧ wr.ownsRow (w.heap.size + 1) 3 1 f xs.length (xs.map (Value.int .i64)) ∧ wr.ownsRow (w.heap.size + 1) 3 1 l ys.length (ys.map (Value.int .i64)) ∧ Dis l f
theorem RS.symm {w wr : World} {k : Nat} {f l : Value} {a c xs ys : List Int} (h : RS w wr k f l a c xs ys) : RS w wr k l f a c ys xs := ⟨h.1, h.2.1, h.2.2.2.1, h.2.2.1, h.2.2.2.2.symm⟩
theorem RS.app {w wr W' : World} {k : Nat} {f l f' : Value} {a c xs ys : List Int} {x : Int} {o : Obj} (h : RS w wr k f l a c xs ys)
    (hown' : W'.ownsRow (w.heap.size + 1) 3 1 f' (xs.length + 1) (xs.map (Value.int .i64) ++ [.int .i64 x])) (hgrow : (wr.alloc o).grownBy W' f.ownBlock)
    (hat : f'.ownBlock = f.ownBlock ∨ f'.ownBlock = some (wr.alloc o).heap.size) : RS w W' k f' l a c (xs ++ [x]) ys := by
  obtain ⟨h1, h2, h3, h4, h5⟩ := h
  have hs : (wr.alloc o).heap.size = wr.heap.size + 1 := World.size_alloc _ _
  have hge : ∀ j, f.ownBlock = some j → w.heap.size + 1 ≤ j := fun j e => (h3.lt j e).1
  refine ⟨⟨?_, h1.2⟩, ?_, by simpa using hown', ?_, ?_⟩
  · refine (hgrow.block _ ?_ ?_).trans (h1.1.alloc o)
    · have := h1.1.lt; omega
    · intro e
      have := hge _ e.symm
      omega
  · exact (h2.alloc h2.size o).grown hgrow (by have := h2.size; omega) (fun j e => by have := hge j e; omega)
  · exact (h4.alloc o).kept hgrow h5
  · rcases hat with e | e
    · rw [Dis, e]; exact h5
    · refine .inr fun h6 => ?_
      rw [e] at h6
      have := (h4.lt _ h6).2
      omega
theorem RS.clock {w wr W' : World} {k : Nat} {f l : Value} {a c a' c' xs ys : List Int} (h : RS w wr k f l a c xs ys) (hA : ClockAt W' w.heap.size k a' c') (hg : wr.grownBy W' (some w.heap.size)) : RS w W' k f l a' c' xs ys := by
  obtain ⟨h1, h2, h3, h4, h5⟩ := h
  have key : ∀ {v : Value} {n : Nat} {zs : List Value}, wr.ownsRow (w.heap.size + 1) 3 1 v n zs → v.ownBlock = none ∨ v.ownBlock ≠ some w.heap.size := fun hh => .inr fun e => by
    have := (hh.lt _ e).1
    omega
  exact ⟨hA, h2.trans (Below.of_grownBy hg (Nat.le_refl _) h1.lt), h3.kept hg (key h3), h4.kept hg (key h4), h5⟩
theorem RS.drewN {w wr : World} {k : Nat} {f l : Value} {a c xs ys : List Int} (h : RS w wr k f l a c xs ys) (m : Nat) : RS w (wr.drewN m) k f l a c xs ys :=
  ⟨⟨Blk.drewN h.1.1 m, h.1.2⟩, below_drewN' h.2.1 m, h.2.2.1, h.2.2.2.1, h.2.2.2.2⟩

theorem take_succ_getD (a : List Int) (j : Nat) (hj : j < a.length) : a.take (j + 1) = a.take j ++ [a.getD j 0] := by
  rw [List.take_add_one, List.getD_eq_getElem?_getD, List.getElem?_eq_getElem hj]
  rfl
theorem tickOk_zeros (k p : Nat) (hp : p < k) : tickOk k zeros (p : Int) = true := by
  unfold tickOk
  rw [decide_eq_true_iff, Int.toNat_natCast, zeros_getD]
  omega

theorem own_cells {w : World} {base n : Nat} {v : Value} {zs : List Int} (h : w.ownsRow base 3 1 v n (zs.map (Value.int .i64))) :
    ∃ A cap, v = .slice A n cap ∧ (0 < n → ∃ g, A = some ⟨g, 0, none⟩ ∧ ∀ k, k < n → w.cell? ⟨g, k, none⟩ = some (.int .i64 (zs.getD k 0))) := by
  have h1 := h.1
  simp at h1
  have h' := h
  rcases h.2 with ⟨rfl, rfl⟩ | ⟨g, cap, cur, rfl, h2, h3, h4, h5, h6, h7⟩
  · exact ⟨none, 0, rfl, fun h => absurd h (by omega)⟩
  · refine ⟨_, cap, rfl, fun _ => ⟨g, rfl, fun k hk => ?_⟩⟩
    have := h'.cells (g := g) rfl k (.int .i64 (zs.getD k 0)) (by simp [h1, hk])
    rw [Addr.add_lit, Nat.zero_add] at this
    exact this

set_option maxRecDepth 100000 in
set_option maxHeartbeats 4000000 in
theorem near_any (n : Int) (A : Option Addr) (len cap : Nat) (fa ta : Int) (zs : List Int) (w : World) (hR : IntsAt w A len zs) :
    Calls Try.prog 6 #[.int .i64 n, .slice A len cap, .int .i64 fa, .int .i64 ta] w fun e w' => e = .returned (.bool true) ∧ Below w.heap.size w w' := by
  have hlen := hR.2.1
  obtain ⟨i0, hi, hz0, hz1, hz2⟩ := info_parts info3
  have hr := rem_range n 5 (by omega) (by omega)
  have hn0 : 1 ≤ wrap64 (1 + wrap64 ((IntKind.u64.wrap n).tmod 5)) ∧ wrap64 (1 + wrap64 ((IntKind.u64.wrap n).tmod 5)) ≤ 5 := by
    generalize wrap64 ((IntKind.u64.wrap n).tmod 5) = N at *
    unfold wrap64
    omega
  obtain ⟨hn0, hn1⟩ := hn0
  clear hr
  go_enter Try.func6, Try.ntmps6
  go_wp2_with fail
  generalize wrap64 (1 + wrap64 ((IntKind.u64.wrap n).tmod 5)) = N at *
  obtain ⟨k, rfl⟩ := Int.eq_ofNat_of_zero_le (show 0 ≤ N by omega)
  have hk1 : 1 ≤ k := by omega
  have hk5 : k ≤ 5 := by omega
  have hk9 : (k : Int) ≤ 9 := by omega
  have ek : IntKind.u64.wrap (k : Int) = k := by rw [IntKind.wrap_u64]; omega
  have ek0 : (k : Int) ≠ 0 := by omega
  refine (new_good k _ hn0 hk9).mono ?_
  rintro e w1 ⟨rfl, hA1, hB1⟩
  by_cases hl : 120 < len
  · have hl0 : (120 : Int) < (len : Int) := by omega
    clear hR hA1
    go_wp2_with fail
    refine (told_any _).mono ?_
    rintro e w2 ⟨rfl, hb2⟩
    go_wp2
    go_ret
    exact ⟨rfl, bt hB1 hb2⟩
  · have hl0 : (len : Int) ≤ 120 := by omega
    obtain ⟨hf0, hf1⟩ := rem_range fa 121 (by omega) (by omega)
    obtain ⟨ht0, ht1⟩ := rem_range ta 121 (by omega) (by omega)
    have HR := Lib.hid hR
    have HS0 := Lib.hid (show RS w w1 k (.slice none 0 0) (.slice none 0 0) zeros zeros [] [] from ⟨hA1, hB1, World.ownsRow_nil _ _ _ _, World.ownsRow_nil _ _ _ _, .inl rfl⟩)
    have hs1 : w.heap.size < w1.heap.size := hA1.lt
    clear hR hA1 hB1
    go_wp2_with fail
    generalize wrap64 ((IntKind.u64.wrap fa).tmod 121) = F at *
    generalize wrap64 ((IntKind.u64.wrap ta).tmod 121) = T at *
    obtain ⟨fr, rfl⟩ := Int.eq_ofNat_of_zero_le hf0
    obtain ⟨to, rfl⟩ := Int.eq_ofNat_of_zero_le ht0
    go_loopw [14, 15, 16] (fun f l iv wr => ∃ (i : Nat) (a c xs ys : List Int), iv = .int .i64 i ∧ i ≤ len + 1 ∧ Inv i a c ∧ RS w wr k f l a c xs ys ∧ Facts k fr to i a c xs ys)
      (fun _ _ iv _ => 200 - (intOf iv).toNat)
    case atStart => exact ⟨0, _, _, _, _, rfl, by omega, Inv.start, HS0.out, facts_start k fr to⟩
    case round =>
      obtain ⟨i, a, c, fl, ll, rfl, hi1, hI, hS, hF⟩ := hrel
      clear HS0
      have HI := Lib.hid hI
      have HF := Lib.hid hF
      clear hI hF
      by_cases hil : i ≤ len
      · have hil0 : (i : Int) ≤ (len : Int) := by omega
        have HS := Lib.hid hS
        clear hS
        go_wp2_with fail
        go_loopw [14, 15, 17] (fun f l jv wr => ∃ (j : Nat) (xs ys : List Int), jv = .int .i64 j ∧ j ≤ k ∧ xs = (if i = fr then a.take j else fl) ∧ ys = (if i = to then a.take j else ll) ∧ RS w wr k f l a c xs ys)
          (fun _ _ jv _ => 10 - (intOf jv).toNat)
        case atStart =>
          refine ⟨0, fl, ll, rfl, by omega, ?_, ?_, HS.out⟩
          · split
            · rename_i e
              rcases HF.out.1 with ⟨_, h⟩ | ⟨h, _⟩
              · simpa using h
              · omega
            · rfl
          · split
            · rename_i e
              rcases HF.out.2 with ⟨_, h⟩ | ⟨h, _⟩
              · simpa using h
              · omega
            · rfl
        case round =>
          obtain ⟨j, xs, ys, rfl, hj, hx, hy, hS⟩ := hrel
          clear HS
          have hws : w.heap.size < wr.heap.size := hS.1.lt
          have hla : a.length = 9 := HI.out.1
          have HLA := Lib.hid hla
          by_cases hgo : j < k ∧ (i = fr ∨ i = to)
          · obtain ⟨hjk, hor⟩ := hgo
            have hj0 : (0 : Int) ≤ (j : Int) := by omega
            have hj1 : (j : Int) < (k : Int) := by omega
            obtain ⟨y, hyy⟩ : ∃ y, a.getD j 0 = y := ⟨_, rfl⟩
            have AT := Lib.hid (at_yes w.heap.size j k _ _ wr hS.1 hjk (by omega))
            rw [hyy] at AT
            have HTK := Lib.hid (take_succ_getD a j (by omega))
            rw [hyy] at HTK
            have HYY := Lib.hid hyy
            have hxl : i = fr → xs.length ≤ 9 := fun e => by rw [hx, if_pos e, List.length_take]; omega
            have hyl : i = to → ys.length ≤ 9 := fun e => by rw [hy, if_pos e, List.length_take]; omega
            have HX := Lib.hid hx
            have HY := Lib.hid hy
            have HXL := Lib.hid hxl
            have HYL := Lib.hid hyl
            have HS := Lib.hid hS
            clear hx hy hyy hla hxl hyl hS
            by_cases e1 : i = fr
            · have hxl := HXL.out e1
              subst e1
              by_cases e2 : i = to
              · have hyl := HYL.out e2
                subst e2
                clear hor
                go_wp2_with fail
                refine AT.out.mono ?_
                rintro e w2 ⟨rfl, rfl⟩
                go_wp2_with (at_builtin; go_loud (refine wpList_append_own_at _ rfl _ _ 22 rfl (w.heap.size + 1) 3 i0 (.int .i64 0) 1 8 Try.underlying22 hi hz0 hz1 hz2 rfl (by decide) _ _ _ rfl (HS.out.2.2.1.alloc _) ⟨wr.heap.size, 0, none⟩ 1 1 [_] rfl rfl (cell_one_new _ _ _) (by simp [Value.oneCell']) (by unfold maxLen; omega) (by omega) (by simp only [World.size_alloc]; omega) ?_; intro f' w3 fown fgrow _ fat))
                have hS3 := HS.out.app fown fgrow fat
                have AT3 := Lib.hid (at_yes w.heap.size j k _ _ w3 hS3.1 hjk (by omega))
                rw [HYY.out] at AT3
                have HS3 := Lib.hid hS3
                have hs3 : w.heap.size < w3.heap.size := hS3.1.lt
                clear fown fgrow fat hS3
                refine AT3.out.mono ?_
                rintro e w4 ⟨rfl, rfl⟩
                go_wp2_with (at_builtin; go_loud (refine wpList_append_own_at _ rfl _ _ 22 rfl (w.heap.size + 1) 3 i0 (.int .i64 0) 1 8 Try.underlying22 hi hz0 hz1 hz2 rfl (by decide) _ _ _ rfl (HS3.out.2.2.2.1.alloc _) ⟨w3.heap.size, 0, none⟩ 1 1 [_] rfl rfl (cell_one_new _ _ _) (by simp [Value.oneCell']) (by unfold maxLen; omega) (by omega) (by simp only [World.size_alloc]; omega) ?_; intro l' w5 lown lgrow _ lat))
                have HS5 := Lib.hid (HS3.out.symm.app lown lgrow lat).symm
                clear lown lgrow lat
                go_roundw
                case rel => exact ⟨j + 1, _, _, by go_num, by omega, by simp [HX.out, HTK.out], by simp [HY.out, HTK.out], HS5.out⟩
                case measure => simp [intOf]; omega
              · have e2' : (i : Int) ≠ (to : Int) := by omega
                clear hor
                go_wp2_with fail
                refine AT.out.mono ?_
                rintro e w2 ⟨rfl, rfl⟩
                go_wp2_with (at_builtin; go_loud (refine wpList_append_own_at _ rfl _ _ 22 rfl (w.heap.size + 1) 3 i0 (.int .i64 0) 1 8 Try.underlying22 hi hz0 hz1 hz2 rfl (by decide) _ _ _ rfl (HS.out.2.2.1.alloc _) ⟨wr.heap.size, 0, none⟩ 1 1 [_] rfl rfl (cell_one_new _ _ _) (by simp [Value.oneCell']) (by unfold maxLen; omega) (by omega) (by simp only [World.size_alloc]; omega) ?_; intro f' w3 fown fgrow _ fat))
                have HS3 := Lib.hid (HS.out.app fown fgrow fat)
                clear fown fgrow fat
                go_roundw
                case rel => exact ⟨j + 1, _, _, by go_num, by omega, by simp [HX.out, HTK.out], by rw [HY.out, if_neg e2, if_neg e2], HS3.out⟩
                case measure => simp [intOf]; omega
            · have e1' : (i : Int) ≠ (fr : Int) := by omega
              have e2 : i = to := by omega
              have hyl := HYL.out e2
              subst e2
              clear hor
              go_wp2_with fail
              refine AT.out.mono ?_
              rintro e w2 ⟨rfl, rfl⟩
              go_wp2_with (at_builtin; go_loud (refine wpList_append_own_at _ rfl _ _ 22 rfl (w.heap.size + 1) 3 i0 (.int .i64 0) 1 8 Try.underlying22 hi hz0 hz1 hz2 rfl (by decide) _ _ _ rfl (HS.out.2.2.2.1.alloc _) ⟨wr.heap.size, 0, none⟩ 1 1 [_] rfl rfl (cell_one_new _ _ _) (by simp [Value.oneCell']) (by unfold maxLen; omega) (by omega) (by simp only [World.size_alloc]; omega) ?_; intro l' w3 lown lgrow _ lat))
              have HS3 := Lib.hid (HS.out.symm.app lown lgrow lat).symm
              clear lown lgrow lat
              go_roundw
              case rel => exact ⟨j + 1, _, _, by go_num, by omega, by rw [HX.out, if_neg e1, if_neg e1], by simp [HY.out, HTK.out], HS3.out⟩
              case measure => simp [intOf]; omega
          · have hx2 : xs = if i = fr then a.take k else fl := by
              by_cases e1 : i = fr
              · obtain rfl : j = k := by omega
                exact hx
              · rw [hx, if_neg e1, if_neg e1]
            have hy2 : ys = if i = to then a.take k else ll := by
              by_cases e1 : i = to
              · obtain rfl : j = k := by omega
                exact hy
              · rw [hy, if_neg e1, if_neg e1]
            have hF2 := facts_mid HI.out (by omega) (by omega) HF.out
            rw [← hx2, ← hy2] at hF2
            have HF2 := Lib.hid hF2
            have HS := Lib.hid hS
            clear hx hy hx2 hy2 hF2 hS
            have hcase : (¬ (j : Int) < (k : Int)) ∨ ((j : Int) < (k : Int) ∧ ((i : Int) == (fr : Int)) = false ∧ ((i : Int) == (to : Int)) = false) := by simp only [beq_eq_false_iff_ne]; omega
            clear hgo
            by_cases hil2 : i < len
            · have hil3 : (i : Int) < (len : Int) := by omega
              obtain ⟨bl, off, rfl, hbl, hcell⟩ := HR.out.2.2.2 (by omega)
              have hcw := hcell i hil2
              have c0 := (HS.out.2.1.cell (p := ⟨bl, off + i, none⟩) hbl).trans hcw
              have hi0 : (0 : Int) ≤ (i : Int) := by omega
              clear hcell hcw
              generalize zs.getD i 0 = x at *
              obtain ⟨hw0, hw1⟩ := rem_range x k (by omega) (by omega)
              rcases hcase with h3 | ⟨h3, h4, h5⟩
              all_goals
                go_wp2_with fail
                generalize wrap64 ((IntKind.u64.wrap x).tmod k) = P at *
                obtain ⟨p, rfl⟩ := Int.eq_ofNat_of_zero_le hw0
                have hpk : p < k := by omega
                have T1 := Lib.hid (tick_any w.heap.size k a c p i wr HS.out.1 (by omega) HI.out (by omega))
                cases ht : tickOk k c p with
                | true =>
                  rw [ht] at T1
                  refine T1.out.mono ?_
                  rintro e w2 ⟨rfl, hA2, hg2⟩
                  simp only [if_true] at hA2
                  have HS2 := Lib.hid (HS.out.clock hA2 hg2)
                  have HI2 := Lib.hid (HI.out.tick (n := k) (by omega) ht)
                  have HF3 := Lib.hid (facts_near (fun f hn => near_inc k f a c i HI.out p (by omega) hn) HF2.out)
                  clear hA2 hg2 ht
                  go_wp2
                  go_roundw
                  case rel => exact ⟨i + 1, _, _, _, _, by go_num, by omega, by exact_mod_cast HI2.out, HS2.out, HF3.out⟩
                  case measure => simp [intOf]; omega
                | false =>
                  rw [ht] at T1
                  refine T1.out.mono ?_
                  rintro e w2 ⟨rfl, hA2, hg2⟩
                  simp only [Bool.false_eq_true, if_false] at hA2
                  have HS2 := Lib.hid (HS.out.clock hA2 hg2)
                  have R1 := Lib.hid (round_ok w.heap.size k a c w2 hA2 hk1 (by omega))
                  clear hA2 hg2 ht
                  cases ho : roundOk k c with
                  | false =>
                    rw [ho] at R1
                    clear ho
                    go_wp2_with fail
                    refine R1.out.mono ?_
                    rintro e w3 ⟨rfl, hA3, hg3⟩
                    simp only [Bool.false_eq_true, if_false] at hA3
                    have HS3 := Lib.hid (HS2.out.clock hA3 hg3)
                    have HI3 := Lib.hid (HI.out.more (M' := ((i + 1 : Nat) : Int)) (by omega))
                    clear hA3 hg3
                    go_wp2
                    go_roundw
                    case rel => exact ⟨i + 1, _, _, _, _, by go_num, by omega, HI3.out, HS3.out, HF2.out⟩
                    case measure => simp [intOf]; omega
                  | true =>
                    rw [ho] at R1
                    have HF3 := Lib.hid (facts_near (fun f hn => near_inc k f a zeros i HI.out.round p (by omega) (near_round k f a c i HI.out ho hn)) HF2.out)
                    clear ho
                    go_wp2_with fail
                    refine R1.out.mono ?_
                    rintro e w3 ⟨rfl, hA3, hg3⟩
                    simp only [if_true] at hA3
                    have HS3 := Lib.hid (HS2.out.clock hA3 hg3)
                    have T3 := Lib.hid (tick_any w.heap.size k a zeros p i w3 hA3 (by omega) HI.out.round (by omega))
                    rw [tickOk_zeros k p hpk] at T3
                    clear hA3 hg3
                    go_wp2_with fail
                    refine T3.out.mono ?_
                    rintro e w4 ⟨rfl, hA4, hg4⟩
                    simp only [if_true] at hA4
                    have HS4 := Lib.hid (HS3.out.clock hA4 hg4)
                    have HI4 := Lib.hid (HI.out.round.tick (n := k) (by omega) (tickOk_zeros k p hpk))
                    clear hA4 hg4
                    go_wp2
                    go_roundw
                    case rel => exact ⟨i + 1, _, _, _, _, by go_num, by omega, by exact_mod_cast HI4.out, HS4.out, HF3.out⟩
                    case measure => simp [intOf]; omega
            · have hil3 : ¬ (i : Int) < (len : Int) := by omega
              have HI3 := Lib.hid (HI.out.more (M' := ((i + 1 : Nat) : Int)) (by omega))
              rcases hcase with h3 | ⟨h3, h4, h5⟩
              all_goals
                go_wp2
                go_roundw
                case rel => exact ⟨i + 1, _, _, _, _, by go_num, by omega, HI3.out, HS.out, HF2.out⟩
                case measure => simp [intOf]; omega
      · have hil0 : ¬ (i : Int) ≤ (len : Int) := by omega
        obtain ⟨A1, cap1, hv1, hc1⟩ := own_cells hS.2.2.1
        obtain ⟨A2, cap2, hv2, hc2⟩ := own_cells hS.2.2.2.1
        subst hv1
        subst hv2
        have hB := hS.2.1
        have hF := HF.out
        by_cases hg : fl.length = k ∧ ll.length = k ∧ fr ≤ to
        · obtain ⟨g1, g2, g3⟩ := hg
          have hG : Bd fl ∧ Bd ll ∧ Good k fl ll := by
            obtain ⟨hF1, hF2⟩ := hF
            rcases hF1 with ⟨_, h⟩ | ⟨_, _, hb1, _⟩
            · rw [h] at g1; simp at g1; omega
            · rcases hF2 with ⟨_, h⟩ | ⟨_, _, hb2, hgd⟩
              · rw [h] at g2; simp at g2; omega
              · exact ⟨hb1, hb2, hgd g3⟩
          obtain ⟨q1, rfl, hd1⟩ := hc1 (by omega)
          obtain ⟨q2, rfl, hd2⟩ := hc2 (by omega)
          clear hc1 hc2
          rw [g1] at hd1
          rw [g2] at hd2
          have HC1 := Lib.hid hd1
          have HC2 := Lib.hid hd2
          have HG := Lib.hid hG
          have g3' : (fr : Int) ≤ (to : Int) := by omega
          have hB := hS.2.1
          rw [g1, g2] at *
          clear hd1 hd2 hG hF hS HF HI g1 g2
          go_wp2_with fail
          go_loopw [19] (fun iv W => ∃ i q : Nat, iv = .int .i64 i ∧ i ≤ k ∧ W = wr.drewN q) (fun iv _ => 10 - (intOf iv).toNat)
          case atStart => exact ⟨0, 0, rfl, by omega, rfl⟩
          case round =>
            obtain ⟨x, q, rfl, hx, rfl⟩ := hrel
            have hx0 : (0 : Int) ≤ (x : Int) := by omega
            by_cases hxk : x < k
            · have hx1 : (x : Int) < (k : Int) := by omega
              go_wp2_with fail
              go_loopw [20] (fun jv W => ∃ y q : Nat, jv = .int .i64 y ∧ y ≤ k ∧ W = wr.drewN q) (fun jv _ => 10 - (intOf jv).toNat)
              case atStart => exact ⟨0, q, rfl, by omega, rfl⟩
              case round =>
                obtain ⟨y, q, rfl, hy, rfl⟩ := hrel
                have hy0 : (0 : Int) ≤ (y : Int) := by omega
                by_cases hyk : y < k
                · have hy1 : (y : Int) < (k : Int) := by omega
                  have d1 := HC1.out x hxk
                  have d2 := HC1.out y hyk
                  have d3 := HC2.out x hxk
                  have d4 := HC2.out y hyk
                  have b1 := HG.out.1 x
                  have b2 := HG.out.1 y
                  have b3 := HG.out.2.1 x
                  have b4 := HG.out.2.1 y
                  have hgood := HG.out.2.2 x hxk y hyk
                  generalize fl.getD x 0 = v1 at *
                  generalize fl.getD y 0 = v2 at *
                  generalize ll.getD x 0 = v3 at *
                  generalize ll.getD y 0 = v4 at *
                  have e1 : IntKind.i64.wrap (v3 - v1) = v3 - v1 := by rw [IntKind.wrap_i64]; omega
                  have e2 : IntKind.i64.wrap (v4 - v2) = v4 - v2 := by rw [IntKind.wrap_i64]; omega
                  have e3 : IntKind.i64.wrap (2 * (v4 - v2)) = 2 * (v4 - v2) := by rw [IntKind.wrap_i64]; omega
                  have e4 : IntKind.i64.wrap (2 * (v4 - v2) + 4) = 2 * (v4 - v2) + 4 := by rw [IntKind.wrap_i64]; omega
                  have hle : ¬ 2 * (v4 - v2) + 4 < v3 - v1 := by omega
                  clear b1 b2 b3 b4 hgood
                  go_wp2
                  go_quiet (fail)
                  go_wp2
                  go_roundw
                  case rel => exact ⟨y + 1, _, by go_num, by omega, by (try simp only [World.drewN_drewN]); rfl⟩
                  case measure => simp [intOf]; omega
                · obtain rfl : y = k := by omega
                  go_wp2
                  go_roundw
                  case rel => exact ⟨x + 1, q, by go_num, by omega, rfl⟩
                  case measure => simp [intOf]; omega
            · obtain rfl : x = k := by omega
              go_wp2_with fail
              refine (told_any _).mono ?_
              rintro e w3 ⟨rfl, hb3⟩
              go_wp2
              go_ret
              exact ⟨rfl, bt (below_drewN' hB q) hb3⟩
        · have hcase : ¬ (fl.length : Int) = (k : Int) ∨ (fl.length = k ∧ ¬ (ll.length : Int) = (k : Int)) ∨ (fl.length = k ∧ ll.length = k ∧ (to : Int) < (fr : Int)) := by
            omega
          generalize fl.length = p1 at *
          generalize ll.length = p2 at *
          clear hg hc1 hc2 hF hS HF HI
          rcases hcase with h3 | ⟨rfl, h4⟩ | ⟨rfl, rfl, h5⟩
          all_goals
            go_wp2_with fail
            refine (told_any _).mono ?_
            rintro e w3 ⟨rfl, hb3⟩
            go_wp2
            go_ret
            exact ⟨rfl, bt hB hb3⟩
end Go.Proofs.Ytphgilkmjkmfaaa
