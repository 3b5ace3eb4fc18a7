/- The walk of ClockRounds. -/
import Derived.Test.YtphgilkmjkmfaaaG
import Derived.Deep.RegionHeld3
import Derived.Deep.DrawnRows
import Derived.Laws.AppendOwnNone
namespace Go.Proofs.Ytphgilkmjkmfaaa
open Go.RowKit
set_option linter.unusedVariables false

theorem rem_range (a m : Int) (h0 : 0 < m) (h1 : m ≤ 1000000) : 0 ≤ wrap64 ((IntKind.u64.wrap a).tmod m) ∧ wrap64 ((IntKind.u64.wrap a).tmod m) < m := by
  have h := IntKind.wrap_u64 a
  have h2 : 0 ≤ IntKind.u64.wrap a := by rw [h]; omega
  rw [Int.tmod_eq_emod_of_nonneg h2]
  have h3 := Int.emod_nonneg (IntKind.u64.wrap a) (show m ≠ 0 by omega)
  have h4 := Int.emod_lt_of_pos (IntKind.u64.wrap a) h0
  unfold wrap64
  omega

/-- Each clock once, in turn. -/
def seqZ (k : Nat) : List Int := (List.range k).map Int.ofNat
def turns (k : Nat) : Nat → List Int
  | 0 => []
  | t + 1 => turns k t ++ seqZ k
theorem seqZ_len (k : Nat) : (seqZ k).length = k := by simp [seqZ]
theorem seqZ_succ (k : Nat) : seqZ (k + 1) = seqZ k ++ [(k : Int)] := by simp [seqZ, List.range_succ]
theorem turns_len (k t : Nat) (hk : k ≤ 9) : (turns k t).length ≤ 9 * t := by
  induction t with
  | zero => simp [turns]
  | succ t ih => simp only [turns, List.length_append, seqZ_len]; omega
theorem turns_mem (k t : Nat) (hk : k ≤ 9) : ∀ x ∈ turns k t, 0 ≤ x ∧ x ≤ 9 := by
  induction t with
  | zero => simp [turns]
  | succ t ih =>
    intro x hx
    rw [turns, List.mem_append] at hx
    rcases hx with h | h
    · exact ih x h
    · simp [seqZ] at h
      obtain ⟨y, hy, rfl⟩ := h
      omega
theorem turns_pos (k t : Nat) (hk : 1 ≤ k) (ht : 0 < t) : 0 < (turns k t).length := by
  cases t with
  | zero => omega
  | succ t => simp only [turns, List.length_append, seqZ_len]; omega
theorem turns_front (k t : Nat) (r : List Int) : turns k (t + 1) ++ r = seqZ k ++ (turns k t ++ r) := by
  induction t generalizing r with
  | zero => simp [turns]
  | succ t ih =>
    rw [turns, List.append_assoc, ih, turns]
    simp [List.append_assoc]

def fill (k : Nat) (x : Int) : List Int := List.replicate k x ++ List.replicate (9 - k) 0
theorem fair01 (k : Nat) (h1 : 1 ≤ k) (h2 : k ≤ 9) (r : List Int) : fairC k (seqZ k ++ r) zeros = fairC k r (fill k 1) := by
  have : k = 1 ∨ k = 2 ∨ k = 3 ∨ k = 4 ∨ k = 5 ∨ k = 6 ∨ k = 7 ∨ k = 8 ∨ k = 9 := by omega
  rcases this with rfl | rfl | rfl | rfl | rfl | rfl | rfl | rfl | rfl <;> rfl
theorem fair12 (k : Nat) (h1 : 1 ≤ k) (h2 : k ≤ 9) (r : List Int) : fairC k (seqZ k ++ r) (fill k 1) = fairC k r (fill k 2) := by
  have : k = 1 ∨ k = 2 ∨ k = 3 ∨ k = 4 ∨ k = 5 ∨ k = 6 ∨ k = 7 ∨ k = 8 ∨ k = 9 := by omega
  rcases this with rfl | rfl | rfl | rfl | rfl | rfl | rfl | rfl | rfl <;> rfl
theorem fair21 (k : Nat) (h1 : 1 ≤ k) (h2 : k ≤ 9) (r : List Int) : fairC k (seqZ k ++ r) (fill k 2) = fairC k r (fill k 1) := by
  have : k = 1 ∨ k = 2 ∨ k = 3 ∨ k = 4 ∨ k = 5 ∨ k = 6 ∨ k = 7 ∨ k = 8 ∨ k = 9 := by omega
  rcases this with rfl | rfl | rfl | rfl | rfl | rfl | rfl | rfl | rfl <;> rfl
theorem fair_turns12 (k : Nat) (h1 : 1 ≤ k) (h2 : k ≤ 9) (r : List Int) (t : Nat) : (∃ x, (x = 1 ∨ x = 2) ∧ fairC k (turns k t ++ r) (fill k 1) = fairC k r (fill k x)) ∧ ∃ x, (x = 1 ∨ x = 2) ∧ fairC k (turns k t ++ r) (fill k 2) = fairC k r (fill k x) := by
  induction t with
  | zero => exact ⟨⟨1, .inl rfl, rfl⟩, ⟨2, .inr rfl, rfl⟩⟩
  | succ t ih => rw [turns_front, fair12 k h1 h2, fair21 k h1 h2]; exact ⟨ih.2, ih.1⟩
theorem fair_turns (k t : Nat) (h1 : 1 ≤ k) (h2 : k ≤ 9) (r : List Int) : ∃ x, (x = 0 ∨ x = 1 ∨ x = 2) ∧ fairC k (turns k t ++ r) zeros = fairC k r (fill k x) := by
  cases t with
  | zero =>
    refine ⟨0, .inl rfl, ?_⟩
    have : fill k 0 = zeros := by unfold fill zeros; rw [List.replicate_append_replicate]; congr 1; omega
    rw [this]; rfl
  | succ t =>
    rw [turns_front, fair01 k h1 h2]
    obtain ⟨x, hx, e⟩ := (fair_turns12 k h1 h2 r t).1
    exact ⟨x, .inr hx, e⟩
theorem fair_good_turns (k t : Nat) (h1 : 1 ≤ k) (h2 : k ≤ 9) : fair k (turns k t) = true := by
  obtain ⟨x, _, e⟩ := fair_turns k t h1 h2 []
  rw [List.append_nil] at e
  unfold fair
  rw [if_pos (by omega), Int.toNat_natCast, e]
  rfl
theorem five_bad : ∀ k, k < 10 → ∀ j, j < k → fairC k [(j : Int), j, j, j, j] (fill k 0) = decide (k = 1) ∧ fairC k [(j : Int), j, j, j, j] (fill k 1) = decide (k = 1) ∧ fairC k [(j : Int), j, j, j, j] (fill k 2) = decide (k = 1) := by decide +kernel
theorem fair_bad_turns (k t j : Nat) (h1 : 1 ≤ k) (h2 : k ≤ 9) (hj : j < k) : fair k (turns k t ++ [(j : Int), j, j, j, j]) = decide (k = 1) := by
  obtain ⟨x, hx, e⟩ := fair_turns k t h1 h2 [(j : Int), j, j, j, j]
  unfold fair
  rw [if_pos (by omega), Int.toNat_natCast, e]
  have := five_bad k (by omega) j hj
  rcases hx with rfl | rfl | rfl
  · exact this.1
  · exact this.2.1
  · exact this.2.2
theorem fair_out : ∀ k : Nat, k < 10 → fair k [(k : Int)] = false := by decide +kernel
theorem fair_zero (l : List Int) : fair 0 l = false := rfl

theorem own_ints {w : World} {base n : Nat} {v : Value} {zs : List Int} (h : w.ownsRow base 3 1 v n (zs.map (Value.int .i64))) (hr : ∀ x ∈ zs, 0 ≤ x ∧ x ≤ 9) : n = zs.length ∧ ∃ A cap, v = .slice A n cap ∧ IntsAt w A n zs := by
  have h1 := h.1
  simp at h1
  refine ⟨h1.symm, ?_⟩
  have h' := h
  rcases h.2 with ⟨rfl, rfl⟩ | ⟨g, cap, cur, rfl, h2, h3, h4, h5, h6, h7⟩
  · obtain rfl : zs = [] := List.eq_nil_of_length_eq_zero h1
    exact ⟨none, 0, rfl, rfl, by omega, by simp, fun h => absurd h (by omega)⟩
  · refine ⟨_, cap, rfl, h1, by unfold maxLen at h5; omega, fun x hx => by have := hr x hx; omega, fun _ => ⟨g, 0, rfl, (h'.lt g rfl).2, fun k hk => ?_⟩⟩
    have := h'.cells (g := g) rfl k (.int .i64 (zs.getD k 0)) (by simp [h1, hk])
    rw [Addr.add_lit] at this
    exact this
theorem own_below {w w' : World} {base : Nat} {e : TypeId} {size : Nat} {v : Value} {n : Nat} {xs : List Value} (h : w.ownsRow base e size v n xs) (hb : Below w.heap.size w w') : w'.ownsRow base e size v n xs := by
  refine ⟨h.1, ?_⟩
  rcases h.2 with h2 | ⟨g, cap, cur, h1, h2, h3, rest⟩
  · exact .inl h2
  · exact .inr ⟨g, cap, cur, h1, h2, (hb.block g (Array.getElem?_eq_some_iff.1 h3).1).trans h3, rest⟩
theorem ownsRow_succ {w : World} {base n : Nat} {e : TypeId} {size : Nat} {v : Value} {xs : List Value} (h : w.ownsRow base e size v (n + 1) xs) : ∃ g cap, v = .slice (some ⟨g, 0, none⟩) (n + 1) cap := by
  rcases h.2 with ⟨_, h2⟩ | ⟨g, cap, cur, rfl, _⟩
  · omega
  · exact ⟨g, cap, rfl⟩
theorem cell_one_new (w : World) (t : TypeId) (v : Value) : ∀ j u, [v][j]? = some u → (w.alloc (.cells #[v] t)).cell? ((⟨w.heap.size, 0, none⟩ : Addr).add j) = some u := by
  intro j u h
  rw [Addr.add_lit, (Blk.new w t #[v]).cell]
  simpa using h

theorem cells_new (w : World) (t : TypeId) (vs : List Value) : ∀ j u, vs[j]? = some u → (w.alloc (.cells vs.toArray t)).cell? ((⟨w.heap.size, 0, none⟩ : Addr).add j) = some u := by
  intro j u h
  rw [Addr.add_lit, (Blk.new w t vs.toArray).cell]
  simpa using h

set_option maxRecDepth 100000 in
set_option maxHeartbeats 1000000 in
theorem rounds_any (n turns0 who : Int) (w : World) :
    Calls Try.prog 7 #[.int .i64 n, .int .i64 turns0, .int .i64 who] w fun e w' => e = .returned (.bool true) ∧ Below w.heap.size w w' := by
  obtain ⟨i0, hi, hz0, hz1, hz2⟩ := info_parts info3
  have hr := rem_range n 9 (by omega) (by omega)
  obtain ⟨ht0, ht1⟩ := rem_range turns0 31 (by omega) (by omega)
  have hn0 : 1 ≤ wrap64 (1 + wrap64 ((IntKind.u64.wrap n).tmod 9)) ∧ wrap64 (1 + wrap64 ((IntKind.u64.wrap n).tmod 9)) ≤ 9 := by
    generalize wrap64 ((IntKind.u64.wrap n).tmod 9) = N at *
    unfold wrap64
    omega
  obtain ⟨hn0, hn1⟩ := hn0
  clear hr
  go_enter Try.func7, Try.ntmps7
  go_wp2_with fail
  generalize wrap64 (1 + wrap64 ((IntKind.u64.wrap n).tmod 9)) = N at *
  generalize wrap64 ((IntKind.u64.wrap turns0).tmod 31) = T at *
  obtain ⟨k, rfl⟩ := Int.eq_ofNat_of_zero_le (show 0 ≤ N by omega)
  obtain ⟨t, rfl⟩ := Int.eq_ofNat_of_zero_le ht0
  go_loopw [9, 10] (fun out i wr => ∃ (j c : Nat), i = .int .i64 j ∧ j ≤ t ∧ c ≤ 9 * j ∧ wr.ownsRow w.heap.size 3 1 out c ((turns k j).map (Value.int .i64)) ∧ Below w.heap.size w wr)
    (fun _ i _ => 40 - (intOf i).toNat)
  case atStart => exact ⟨0, 0, rfl, by omega, by omega, World.ownsRow_nil _ _ _ _, Below.refl _ _⟩
  case round =>
    obtain ⟨j, c, rfl, hj, hc, hown, hb⟩ := hrel
    by_cases hjt : j < t
    · have hj1 : (j : Int) < (t : Int) := by omega
      go_wp2_with fail
      go_loopw [9, 11] (fun out i wr => ∃ (x c : Nat), i = .int .i64 x ∧ x ≤ k ∧ c ≤ 9 * j + x ∧ wr.ownsRow w.heap.size 3 1 out c ((turns k j ++ seqZ x).map (Value.int .i64)) ∧ Below w.heap.size w wr)
        (fun _ i _ => 10 - (intOf i).toNat)
      case atStart => exact ⟨0, c, rfl, by omega, by omega, by simpa [seqZ] using hown, hb⟩
      case round =>
        obtain ⟨x, c, rfl, hx, hc, hown, hb⟩ := hrel
        by_cases hxk : x < k
        · have hx1 : (x : Int) < (k : Int) := by omega
          go_wp2_with (at_builtin; refine wpList_append_own _ rfl _ _ 22 rfl w.heap.size 3 i0 (.int .i64 0) 1 8 Try.underlying22 hi hz0 hz1 hz2 rfl (by decide) _ _ _ rfl (hown.alloc _) ⟨wr.heap.size, 0, none⟩ 1 1 [_] rfl rfl (cell_one_new _ _ _) (by simp [Value.oneCell']) (by unfold maxLen; omega) (by omega) (by have := hb.size; simp; omega) ?_; intro v' w1 hown' hgrow _; try trivial)
          go_roundw
          case rel => exact ⟨x + 1, c + 1, by go_num, by omega, by omega, by rw [seqZ_succ]; simpa using hown', (hb.alloc hb.size _).grown hgrow (by have := hb.size; simp; omega) (fun j e => (hown.lt j e).1)⟩
          case measure => simp [intOf]; omega
        · obtain rfl : x = k := by omega
          go_wp2
          go_roundw
          case rel => exact ⟨j + 1, c, by go_num, by omega, by omega, hown, hb⟩
          case measure => simp [intOf]; omega
    · obtain rfl : j = t := by omega
      obtain ⟨hw0, hw1⟩ := rem_range who k (by omega) (by omega)
      have ek : IntKind.u64.wrap (k : Int) = k := by rw [IntKind.wrap_u64]; omega
      have ek0 : (k : Int) ≠ 0 := by omega
      have hmem := turns_mem k j (by omega)
      obtain ⟨hcl, A, cap, rfl, hI⟩ := own_ints hown hmem
      have HCL := Lib.hid hcl
      have HM := Lib.hid hmem
      have HI := Lib.hid hI
      have hsz : w.heap.size ≤ wr.heap.size := hb.size
      clear hcl hmem hI
      have hmade := World.ownsRow_made (base := wr.heap.size) (e := 3) (size := 1) wr #[] 0 (Nat.le_refl _) (by unfold maxLen; omega) rfl
      rcases hown.2 with ⟨hnil, rfl⟩ | ⟨g, cap, cur, hnil, -⟩
      · cases hnil
        have hc5 := Lib.hid (cells_new (wr.alloc (.cells #[] 3)) 3 [.int .i64 (wrap64 ((IntKind.u64.wrap who).tmod k)), .int .i64 (wrap64 ((IntKind.u64.wrap who).tmod k)), .int .i64 (wrap64 ((IntKind.u64.wrap who).tmod k)), .int .i64 (wrap64 ((IntKind.u64.wrap who).tmod k)), .int .i64 (wrap64 ((IntKind.u64.wrap who).tmod k))])
        rw [World.size_alloc] at hc5
        go_wp2_with (at_builtin; first | (refine wpList_append_own_none _ rfl _ _ 22 rfl wr.heap.size 3 i0 1 Try.underlying22 hi _ 0 [] rfl hmade rfl ?_) | (refine wpList_append_own _ rfl _ _ 22 rfl wr.heap.size 3 i0 (.int .i64 0) 1 8 Try.underlying22 hi hz0 hz1 hz2 rfl (by decide) _ _ _ rfl (hmade.alloc _) ⟨wr.heap.size + 1, 0, none⟩ 5 5 [_, _, _, _, _] rfl rfl hc5.out (by simp [Value.oneCell']) (by unfold maxLen; omega) (by omega) (by simp only [World.size_alloc]; omega) ?_; intro v' w1 hown' hgrow _))
        generalize wrap64 ((IntKind.u64.wrap who).tmod k) = P at *
        obtain ⟨p, rfl⟩ := Int.eq_ofNat_of_zero_le hw0
        have hB2 : Below wr.heap.size wr w1 := ((((Below.refl _ wr).alloc (Nat.le_refl _) _).alloc (by simp) _).grown hgrow (by simp only [World.size_alloc]; omega) (fun j e => by cases e; exact Nat.le_refl _))
        obtain ⟨hq1, A2, cap2, rfl, hI2⟩ := own_ints (w := w1) (n := 0 + 5) (zs := turns k j ++ [(p : Int), p, p, p, p]) (by rw [List.eq_nil_of_length_eq_zero HCL.out.symm]; exact hown') (by intro x hx; rw [List.mem_append] at hx; rcases hx with hx | hx; exact HM.out x hx; simp at hx; omega)
        have HI1 := Lib.hid (HI.out.below hB2)
        have HI2 := Lib.hid hI2
        have hk9 : k ≤ 9 := by omega
        have hpk : p < k := by omega
        have hB0 : Below w.heap.size w w1 := hb.trans (hB2.mono hsz)
        clear hown hown' hgrow hB2 hI2 hq1 HCL HM HI hb
        refine (told_any _).mono ?_
        rintro e w3 ⟨rfl, hb3⟩
        have hB3 := bt hB0 hb3
        have F1 := fair_any none 0 0 k (turns k j) w3 (HI1.out.below hb3) (by omega)
        rw [fair_good_turns k j (by omega) hk9] at F1
        have HF1 := Lib.hid F1
        clear F1
        go_wp2_with fail
        refine HF1.out.mono ?_
        rintro e w4 ⟨rfl, hb4⟩
        have hB4 := bt hB3 hb4
        have F2 := fair_any A2 _ cap2 k _ w4 ((HI2.out.below hb3).below hb4) (by omega)
        rw [fair_bad_turns k j p (by omega) hk9 hpk, show decide (k = 1) = ((k : Int) == 1) from by rw [Bool.eq_iff_iff]; simp; omega] at F2
        have HF2 := Lib.hid F2
        clear F2
        go_wp2_with fail
        refine HF2.out.mono ?_
        rintro e w5 ⟨rfl, hb5⟩
        have hB5 := bt hB4 hb5
        have F3 := fair_any (some ⟨w5.heap.size, 0, none⟩) 1 1 k [(k : Int)] _ (ints_lit (w5.alloc (.cells #[.int .i64 k] 3)) [(k : Int)] 3 (by simp) (by simp) (by simp; omega) w5.heap.size (Blk.new _ _ _)) (by omega)
        rw [fair_out k (by omega)] at F3
        have HF3 := Lib.hid F3
        clear F3
        go_wp2_with fail
        refine HF3.out.mono ?_
        rintro e w6 ⟨rfl, hb6⟩
        have hB6 := bt (hB5.alloc hB5.size _) hb6
        have I6 := ((((HI1.out.below hb3).below hb4).below hb5).below ((Below.refl _ w5).alloc (Nat.le_refl _) (.cells #[.int .i64 k] 3))).below hb6
        have F4 := fair_any none 0 0 0 (turns k j) w6 I6 (by omega)
        rw [fair_zero] at F4
        have HF4 := Lib.hid F4
        clear F4 I6
        go_wp2_with fail
        refine HF4.out.mono ?_
        rintro e w7 ⟨rfl, hb7⟩
        have hB7 := bt hB6 hb7
        go_wp2
        go_ret
        exact ⟨rfl, hB7⟩
      · cases hnil
        go_wp2_with (at_builtin; first | (refine wpList_append_own _ rfl _ _ 22 rfl wr.heap.size 3 i0 (.int .i64 0) 1 8 Try.underlying22 hi hz0 hz1 hz2 rfl (by decide) _ _ _ rfl hmade ⟨g, 0, none⟩ c cap _ rfl hown.1 ((hown.alloc _).cells (g := g) rfl) (by simp [Value.oneCell']) (by unfold maxLen; omega) (by omega) (by simp) ?_; intro v1 w1 hown1 hgrow1 _) | (refine wpList_append_own _ rfl _ _ 22 rfl wr.heap.size 3 i0 (.int .i64 0) 1 8 Try.underlying22 hi hz0 hz1 hz2 rfl (by decide) _ _ _ rfl (hown1.alloc _) ⟨w1.heap.size, 0, none⟩ 5 5 [_, _, _, _, _] rfl rfl (cells_new _ _ _) (by simp [Value.oneCell']) (by unfold maxLen; omega) (by omega) (by have := hgrow1.size; simp only [World.size_alloc] at this ⊢; omega) ?_; intro v' w2 hown' hgrow _))
        generalize wrap64 ((IntKind.u64.wrap who).tmod k) = P at *
        obtain ⟨p, rfl⟩ := Int.eq_ofNat_of_zero_le hw0
        have hB1 : Below wr.heap.size wr w1 := (((Below.refl _ wr).alloc (Nat.le_refl _) _).grown hgrow1 (by simp only [World.size_alloc]; omega) (fun j e => by cases e; exact Nat.le_refl _))
        have hB2 : Below wr.heap.size wr w2 := ((hB1.alloc hB1.size _).grown hgrow (by have := hB1.size; simp only [World.size_alloc]; omega) (fun j e => (hown1.lt j e).1))
        obtain ⟨hq1, A2, cap2, rfl, hI2⟩ := own_ints (w := w2) (n := c + 5) (zs := turns k j ++ [(p : Int), p, p, p, p]) (by simpa using hown') (by intro x hx; rw [List.mem_append] at hx; rcases hx with hx | hx; exact HM.out x hx; simp at hx; omega)
        have HI1 := Lib.hid (HI.out.below hB2)
        have HI2 := Lib.hid hI2
        have hk9 : k ≤ 9 := by omega
        have hpk : p < k := by omega
        have hB0 : Below w.heap.size w w2 := hb.trans (hB2.mono hsz)
        clear hown hown' hgrow hB2 hI2 hq1 HCL HM HI hb
        refine (told_any _).mono ?_
        rintro e w3 ⟨rfl, hb3⟩
        have hB3 := bt hB0 hb3
        have F1 := fair_any (some ⟨g, 0, none⟩) c cap k (turns k j) w3 (HI1.out.below hb3) (by omega)
        rw [fair_good_turns k j (by omega) hk9] at F1
        have HF1 := Lib.hid F1
        clear F1
        go_wp2_with fail
        refine HF1.out.mono ?_
        rintro e w4 ⟨rfl, hb4⟩
        have hB4 := bt hB3 hb4
        have F2 := fair_any A2 _ cap2 k _ w4 ((HI2.out.below hb3).below hb4) (by omega)
        rw [fair_bad_turns k j p (by omega) hk9 hpk, show decide (k = 1) = ((k : Int) == 1) from by rw [Bool.eq_iff_iff]; simp; omega] at F2
        have HF2 := Lib.hid F2
        clear F2
        go_wp2_with fail
        refine HF2.out.mono ?_
        rintro e w5 ⟨rfl, hb5⟩
        have hB5 := bt hB4 hb5
        have F3 := fair_any (some ⟨w5.heap.size, 0, none⟩) 1 1 k [(k : Int)] _ (ints_lit (w5.alloc (.cells #[.int .i64 k] 3)) [(k : Int)] 3 (by simp) (by simp) (by simp; omega) w5.heap.size (Blk.new _ _ _)) (by omega)
        rw [fair_out k (by omega)] at F3
        have HF3 := Lib.hid F3
        clear F3
        go_wp2_with fail
        refine HF3.out.mono ?_
        rintro e w6 ⟨rfl, hb6⟩
        have hB6 := bt (hB5.alloc hB5.size _) hb6
        have I6 := ((((HI1.out.below hb3).below hb4).below hb5).below ((Below.refl _ w5).alloc (Nat.le_refl _) (.cells #[.int .i64 k] 3))).below hb6
        have F4 := fair_any (some ⟨g, 0, none⟩) c cap 0 (turns k j) w6 I6 (by omega)
        rw [fair_zero] at F4
        have HF4 := Lib.hid F4
        clear F4 I6
        go_wp2_with fail
        refine HF4.out.mono ?_
        rintro e w7 ⟨rfl, hb7⟩
        have hB7 := bt hB6 hb7
        go_wp2
        go_ret
        exact ⟨rfl, hB7⟩
end Go.Proofs.Ytphgilkmjkmfaaa
