/- The walk of HoldNone. -/
import Derived.Test.YtkkdiapnhnbjkaaI
namespace Go.Proofs.Ytkkdiapnhnbjkaa
open Go.RowKit
set_option linter.unusedVariables false
attribute [local go_sem ↓] Go.wp_at_zero Go.wp_at_succ

theorem rem_range (a m : Int) (h0 : 0 < m) (h1 : m ≤ 1000000) : 0 ≤ wrap64 ((IntKind.u64.wrap a).tmod m) ∧ wrap64 ((IntKind.u64.wrap a).tmod m) < m := by
  have h := IntKind.wrap_u64 a
  have h2 : 0 ≤ IntKind.u64.wrap a := by rw [h]; omega
  rw [Int.tmod_eq_emod_of_nonneg h2]
  have h3 := Int.emod_nonneg (IntKind.u64.wrap a) (show m ≠ 0 by omega)
  have h4 := Int.emod_lt_of_pos (IntKind.u64.wrap a) h0
  unfold wrap64
  omega
def Q.bit (q : Q) : Nat → Bool
  | 0 => q.t0
  | 1 => q.t1
  | 2 => q.t2
  | 3 => q.t3
  | _ => q.t4
theorem tell_bit (q : Q) (i j : Nat) (hi : i < 5) (hj : j < 5) (h : i ≠ j) : (q.tell i).bit j = q.bit j := by
  match i, hi, j, hj with
  | 0, _, 0, _ | 1, _, 1, _ | 2, _, 2, _ | 3, _, 3, _ | 4, _, 4, _ => exact absurd rfl h
  | 0, _, 1, _ | 0, _, 2, _ | 0, _, 3, _ | 0, _, 4, _ | 1, _, 0, _ | 1, _, 2, _ | 1, _, 3, _ | 1, _, 4, _ | 2, _, 0, _ | 2, _, 1, _ | 2, _, 3, _ | 2, _, 4, _ | 3, _, 0, _ | 3, _, 1, _ | 3, _, 2, _ | 3, _, 4, _ | 4, _, 0, _ | 4, _, 1, _ | 4, _, 2, _ | 4, _, 3, _ => rfl
theorem tell_cnt (q : Q) (i : Nat) (hi : i < 5) (h : q.bit i = false) : (q.tell i).cnt = q.cnt + 1 := by
  obtain ⟨id, asked, ep, t0, t1, t2, t3, t4⟩ := q
  match i, hi with
  | 0, _ | 1, _ | 2, _ | 3, _ | 4, _ =>
    simp only [Q.bit] at h
    subst h
    simp [Q.tell, Q.cnt, b2z]
    try omega
theorem tell_id (q : Q) (i : Nat) : (q.tell i).id = q.id ∧ (q.tell i).asked = q.asked ∧ (q.tell i).epoch = q.epoch := by
  match i with
  | 0 | 1 | 2 | 3 | _ + 4 => exact ⟨rfl, rfl, rfl⟩
theorem cnt_range (q : Q) : 0 ≤ q.cnt ∧ q.cnt ≤ 5 := by
  have h0 := b2z_range q.t0
  have h1 := b2z_range q.t1
  have h2 := b2z_range q.t2
  have h3 := b2z_range q.t3
  have h4 := b2z_range q.t4
  unfold Q.cnt
  omega

theorem told_one (n : Int) (q : Q) (i : Nat) (h : (i : Int) < n) : toldOk n [q] q.id i = true ∧ toldQs n [q] q.id i = [q.tell i] := by
  have e : meant q.id (lastQ [q]).epoch q = true := by unfold meant; rw [decide_eq_true_iff]; exact ⟨rfl, rfl⟩
  constructor
  · unfold toldOk
    rw [decide_eq_true (by omega), List.any_cons, e]; rfl
  · unfold toldQs
    rw [if_pos (by omega), tellGo, e, Int.toNat_natCast]; rfl

set_option maxRecDepth 100000 in
set_option maxHeartbeats 2000000 in
theorem none_any (n who at_ later : Int) (w : World) :
    Calls Try.prog 7 #[.int .i64 n, .int .i64 who, .int .i64 at_, .int .i64 later] w fun e w' => e = .returned (.bool true) ∧ Below w.heap.size w w' := by
  have hr := rem_range n 5 (by omega) (by omega)
  have hn0 : 1 ≤ wrap64 (1 + wrap64 ((IntKind.u64.wrap n).tmod 5)) ∧ wrap64 (1 + wrap64 ((IntKind.u64.wrap n).tmod 5)) ≤ 5 := by
    generalize wrap64 ((IntKind.u64.wrap n).tmod 5) = N at *
    unfold wrap64
    omega
  obtain ⟨hn0, hn1⟩ := hn0
  obtain ⟨ha0, ha1⟩ := rem_range at_ 1000 (by omega) (by omega)
  obtain ⟨hl0, hl1⟩ := rem_range later 40 (by omega) (by omega)
  clear hr
  go_enter Try.func7, Try.ntmps7
  go_wp2_with fail
  generalize wrap64 (1 + wrap64 ((IntKind.u64.wrap n).tmod 5)) = N at *
  obtain ⟨k, rfl⟩ := Int.eq_ofNat_of_zero_le (show 0 ≤ N by omega)
  refine (new_good k _ hn0 hn1).mono ?_
  rintro e w1 ⟨rfl, hA1, hB1⟩
  have HA1 := Lib.hid hA1
  clear hA1
  go_wp2_with fail
  generalize wrap64 ((IntKind.u64.wrap at_).tmod 1000) = T at *
  have hask : askOk [] T 3 = true := by unfold askOk; rw [decide_eq_true_iff]; simp [lastQ, Q.zero]; omega
  have A1 := ask_any _ _ k [] T 3 w1 HA1.out (by simp) (by decide) (by decide)
  unfold AskPost asked at A1
  rw [hask] at A1
  have A1 := Lib.hid (show Calls Try.prog 9 #[.pointer (some ⟨w.heap.size, 0, none⟩), .int .i64 T, .int .i64 3] w1 (fun e w' => e = .returned (.int .i64 1) ∧ HoldAt w' w.heap.size w.heap.size k [⟨1, T, 3, false, false, false, false, false⟩] ∧ Below w.heap.size w1 w' ∧ Keep w1 w') from A1)
  clear hask
  refine A1.out.mono ?_
  rintro e w2 ⟨rfl, hA2, hB2, -⟩
  have hB2 := hB1.trans hB2
  have HA2 := Lib.hid (show HoldAt w2 w.heap.size w.heap.size k [⟨1, T, 3, false, false, false, false, false⟩] from hA2)
  clear hA2 hB1
  show _
  go_wp2_with fail
  go_loopw [14, 15] (fun mv iv wr => ∃ (i : Nat) (q : Q), iv = .int .i64 i ∧ mv = .int .i64 q.cnt ∧ i ≤ k ∧ q.id = 1 ∧ q.asked = T ∧ q.epoch = 3 ∧ (∀ j, i ≤ j → j < 5 → q.bit j = false) ∧ HoldAt wr w.heap.size w.heap.size k [q] ∧ Below w.heap.size w wr)
    (fun _ iv _ => 10 - (intOf iv).toNat)
  case atStart => exact ⟨0, _, rfl, rfl, by omega, rfl, rfl, rfl, fun j _ hj => by match j, hj with | 0, _ | 1, _ | 2, _ | 3, _ | 4, _ => rfl, HA2.out, hB2⟩
  case round =>
    obtain ⟨i, q, rfl, rfl, hi, q1, q2, q3, q4, hA, hB⟩ := hrel
    have HQ := Lib.hid (⟨q1, q2, q3, q4⟩ : q.id = 1 ∧ q.asked = T ∧ q.epoch = 3 ∧ ∀ j, i ≤ j → j < 5 → q.bit j = false)
    have HA := Lib.hid hA
    clear q1 q2 q3 q4 hA HA2
    have hcr := cnt_range q
    have HC := Lib.hid (show ∃ m, q.cnt = m from ⟨_, rfl⟩)
    obtain ⟨m, hm⟩ := HC.out
    have HM := Lib.hid hm
    rw [hm] at hcr ⊢
    clear HC hm
    have hi0 : (0 : Int) ≤ (i : Int) := by omega
    by_cases hik : i < k
    · have hi1 : (i : Int) < (k : Int) := by omega
      have ei : IntKind.u64.wrap (i : Int) = i := by rw [IntKind.wrap_u64]; omega
      have T1 := told_any _ _ k [q] q.id i wr HA.out (by simp) hn1
      unfold ToldPost at T1
      rw [(told_one k q i hi1).1, (told_one k q i hi1).2] at T1
      rw [HQ.out.1] at T1
      have HT := Lib.hid T1
      clear T1
      go_wp2_with fail
      · refine HT.out.mono ?_
        rintro e w3 ⟨rfl, hA3, hB3, -⟩
        have hB4 := hB.trans hB3
        have HA3 := Lib.hid hA3
        have hbit := HQ.out.2.2.2 i (by omega) (by omega)
        have hcnt := tell_cnt q i (by omega) hbit
        have HCN := Lib.hid hcnt
        clear hA3 hB3 hbit hcnt
        go_wp2
        go_roundw
        case rel => exact ⟨i + 1, q.tell i, by go_num, by rw [HCN.out, HM.out], by omega, (tell_id q i).1.trans HQ.out.1, (tell_id q i).2.1.trans HQ.out.2.1, (tell_id q i).2.2.trans HQ.out.2.2.1, fun j h1 h2 => by rw [tell_bit q i j (by omega) h2 (by omega)]; exact HQ.out.2.2.2 j (by omega) h2, HA3.out, hB4⟩
        case measure => simp [intOf]; omega
      · go_roundw
        case rel => exact ⟨i + 1, q, by go_num, by rw [HM.out], by omega, HQ.out.1, HQ.out.2.1, HQ.out.2.2.1, fun j h1 h2 => HQ.out.2.2.2 j (by omega) h2, HA.out, hB⟩
        case measure => simp [intOf]; omega
    · obtain rfl : i = k := by omega
      go_wp2_with fail
      generalize wrap64 ((IntKind.u64.wrap later).tmod 40) = L at *
      have hv : valid i (T + L) 3 [q] = decide (i / 2 + 1 ≤ m ∧ L < 20) := by
        unfold valid
        rw [List.any_cons, List.any_nil, Bool.or_false]
        unfold validQ
        rw [HQ.out.2.1, HQ.out.2.2.1, HM.out, Bool.eq_iff_iff]
        simp only [decide_eq_true_eq]
        exact ⟨fun h => ⟨h.2.1, by have := h.2.2.2; omega⟩, fun h => ⟨trivial, h.1, by omega, by have := h.2; omega⟩⟩
      have V1 := valid_any _ _ i [q] (T + L) 3 wr HA.out (by simp) hn0 hn1 (fun q' h' => by simp at h'; rw [h', HQ.out.2.1]; exact ha0) (by omega)
      rw [hv] at V1
      have hlv : valid i (T + L) 3 (lost [q]) = false := by
        have : (q.lose).cnt = 0 := rfl
        unfold valid lost
        rw [List.map_cons, List.map_nil, List.any_cons, List.any_nil, Bool.or_false]
        unfold validQ
        rw [this, decide_eq_false]
        omega
      have HV1 := Lib.hid V1
      have HLV := Lib.hid hlv
      clear V1 hv hlv
      refine HV1.out.mono ?_
      rintro e w3 ⟨rfl, hb3⟩
      have hB3 := hB.trans (hb3.mono (Nat.le_of_lt HA.out.le))
      have HA3 := Lib.hid (HA.out.below hb3)
      clear hb3
      go_wp2_with fail
      refine (lost_any _ _ i [q] w3 HA3.out (by simp)).mono ?_
      rintro e w4 ⟨rfl, hA4, hB4, -⟩
      have hB4 := hB3.trans hB4
      have HA4 := Lib.hid hA4
      clear hA4
      go_wp2_with fail
      refine (doc_any _).mono ?_
      rintro e w5 ⟨rfl, hb5⟩
      have hB5 := hB4.trans (hb5.mono (Nat.le_of_lt HA4.out.le))
      have HA5 := Lib.hid (HA4.out.below hb5)
      clear hb5
      have V2 := valid_any _ _ i (lost [q]) (T + L) 3 w5 HA5.out (by simp [lost]) hn0 hn1 (fun q' h' => by simp [lost] at h'; rw [h']; show 0 ≤ q.asked; rw [HQ.out.2.1]; exact ha0) (by omega)
      rw [HLV.out] at V2
      have HV2 := Lib.hid V2
      clear V2
      have e1 : IntKind.i64.wrap (2 * m) = 2 * m := by rw [IntKind.wrap_i64]; omega
      have hc : ((i : Int) / 2 + 1 ≤ m ∧ (i : Int) < 2 * m) ∨ (¬ (i : Int) / 2 + 1 ≤ m ∧ ¬ (i : Int) < 2 * m) := by omega
      have hd : (L < 20 ∧ T + L < T + 20) ∨ (¬ L < 20 ∧ ¬ T + L < T + 20) := by omega
      rcases hc with ⟨x1, x2⟩ | ⟨x1, x2⟩ <;> rcases hd with ⟨y1, y2⟩ | ⟨y1, y2⟩
      all_goals
        go_wp2_with fail
        refine HV2.out.mono ?_
        rintro e w6 ⟨rfl, hb6⟩
        go_wp2
        go_ret
        first
          | exact ⟨rfl, hB5.trans (hb6.mono (Nat.le_of_lt HA5.out.le))⟩
          | exact ⟨ret_bool (by rw [decide_eq_false (show ¬ (i : Int) / 2 + 1 ≤ m by omega)]; rfl), hB5.trans (hb6.mono (Nat.le_of_lt HA5.out.le))⟩
end Go.Proofs.Ytkkdiapnhnbjkaa
