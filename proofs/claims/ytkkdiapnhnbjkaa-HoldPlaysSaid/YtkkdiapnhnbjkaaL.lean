/- The walk of HoldRenews. -/
import Derived.Test.YtkkdiapnhnbjkaaS
namespace Go.Proofs.Ytkkdiapnhnbjkaa
open Go.RowKit
set_option linter.unusedVariables false
attribute [local go_sem ↓] Go.wp_at_zero Go.wp_at_succ

theorem push_form (qs : List Q) (q : Q) (h : qs.length ≤ 4) : ∃ r, push qs q = r ++ [q] ∧ (∀ x ∈ r, x ∈ qs) ∧ r.length ≤ 3 := by
  unfold push
  by_cases h4 : 4 < qs.length + 1
  · rw [if_pos h4]
    cases qs with
    | nil => simp at h4
    | cons p r => exact ⟨r, rfl, fun x hx => List.mem_cons_of_mem _ hx, by simp at h; omega⟩
  · rw [if_neg h4]
    exact ⟨qs, rfl, fun x hx => hx, by omega⟩
theorem lastQ_append (r : List Q) (q : Q) : lastQ (r ++ [q]) = q := by
  unfold lastQ
  rw [List.getLastD_eq_getLast?, List.getLast?_append]
  rfl
theorem tellGo_last (id ep : Int) (node : Nat) (r : List Q) (q : Q) (hr : ∀ x ∈ r, x.id ≠ id) (h1 : q.id = id) (h2 : q.epoch = ep) : tellGo id ep node (r ++ [q]) = r ++ [q.tell node] := by
  induction r with
  | nil =>
    have : meant id ep q = true := by unfold meant; rw [decide_eq_true_iff]; exact ⟨h1, h2⟩
    rw [List.nil_append, tellGo, this]; rfl
  | cons x r ih =>
    have : meant id ep x = false := by unfold meant; rw [decide_eq_false_iff_not]; exact fun h => hr x (by simp) h.1
    rw [List.cons_append, tellGo, this, ih (fun y hy => hr y (List.mem_cons_of_mem _ hy))]; rfl
theorem told_last (n : Int) (r : List Q) (q : Q) (node : Nat) (hr : ∀ x ∈ r, x.id ≠ q.id) (h : (node : Int) < n) : toldOk n (r ++ [q]) q.id node = true ∧ toldQs n (r ++ [q]) q.id node = r ++ [q.tell node] := by
  constructor
  · unfold toldOk
    have : meant q.id (lastQ (r ++ [q])).epoch q = true := by unfold meant; rw [decide_eq_true_iff, lastQ_append]; exact ⟨rfl, rfl⟩
    rw [decide_eq_true (by omega), List.any_append, List.any_cons, this]
    simp
  · unfold toldQs
    rw [if_pos (by omega), Int.toNat_natCast, lastQ_append]
    exact tellGo_last _ _ node r q hr rfl rfl
theorem valid_last (n now ep : Int) (r : List Q) (q : Q) (h : validQ n now ep q = true) : valid n now ep (r ++ [q]) = true := by
  unfold valid
  rw [List.any_append, List.any_cons, h]
  simp
theorem valid_none (n now ep : Int) (qs : List Q) (h : ∀ q ∈ qs, validQ n now ep q = false) : valid n now ep qs = false := by
  unfold valid
  rw [List.any_eq_false]
  intro q hq
  rw [h q hq]
  simp

/-- The questions of one who renews. -/
def RI (M now : Int) (qs : List Q) : Prop := qs.length ≤ 4 ∧ (∀ q ∈ qs, q.id ≤ M ∧ 0 ≤ q.asked ∧ q.asked ≤ now ∧ q.epoch = 5) ∧ (lastQ qs).id = M ∧ (lastQ qs).asked ≤ now
def fresh (M now : Int) (a b : Bool) : Q := ⟨M + 1, now, 5, a, b, false, false, false⟩
theorem RI.ask {M now : Int} {qs : List Q} (h : RI M now qs) (h0 : 0 ≤ now) (h1 : now ≤ 1000) : askOk qs now 5 = true ∧ ∃ r, asked qs now 5 = r ++ [fresh M now false false] ∧ (∀ x ∈ r, x.id ≤ M ∧ 0 ≤ x.asked ∧ x.asked ≤ now ∧ x.epoch = 5) ∧ r.length ≤ 3 := by
  obtain ⟨q1, q2, q3, q4⟩ := h
  have hok : askOk qs now 5 = true := by unfold askOk; rw [decide_eq_true_iff]; omega
  refine ⟨hok, ?_⟩
  obtain ⟨r, e, hr, hl⟩ := push_form qs (fresh M now false false) q1
  refine ⟨r, ?_, fun x hx => q2 x (hr x hx), hl⟩
  unfold asked
  rw [if_pos hok, q3]
  exact e
theorem RI.next {M now p : Int} {r : List Q} (hr : ∀ x ∈ r, x.id ≤ M ∧ 0 ≤ x.asked ∧ x.asked ≤ now ∧ x.epoch = 5) (hl : r.length ≤ 3) (h0 : 0 ≤ now) (hp : 0 ≤ p) : RI (M + 1) (now + p) (r ++ [fresh M now true true]) := by
  refine ⟨by simp; omega, fun q hq => ?_, by rw [lastQ_append]; rfl, by rw [lastQ_append]; show now ≤ now + p; omega⟩
  rw [List.mem_append] at hq
  rcases hq with hq | hq
  · have := hr q hq
    exact ⟨by omega, this.2.1, by omega, this.2.2.2⟩
  · simp at hq
    subst hq
    exact ⟨Int.le_refl _, h0, by show now ≤ now + p; omega, rfl⟩

set_option maxRecDepth 100000 in
set_option maxHeartbeats 2000000 in
theorem renews_any (A : Option Addr) (len cap : Nat) (zs : List Int) (w : World) (hR : IntsAt w A len zs) : Calls Try.prog 5 #[.slice A len cap] w fun e w' => e = .returned (.bool true) ∧ Below w.heap.size w w' := by
  have hlen := hR.2.1
  have HR := Lib.hid hR
  clear hR
  go_enter Try.func5, Try.ntmps5
  go_wp2_with fail
  refine (new_good 3 _ (by omega) (by omega)).mono ?_
  rintro e w1 ⟨rfl, hA1, hB1⟩
  have HA1 := Lib.hid hA1
  clear hA1
  go_wp2_with fail
  go_loopw [5, 6] (fun nv iv wr => ∃ (i : Nat) (now : Int) (qs : List Q), iv = .int .i64 i ∧ nv = .int .i64 now ∧ i ≤ 30 ∧ i ≤ len ∧ 0 ≤ now ∧ now ≤ 20 * i ∧ RI i now qs ∧ HoldAt wr w.heap.size w.heap.size 3 qs ∧ Below w.heap.size w wr)
    (fun _ iv _ => 40 - (intOf iv).toNat)
  case atStart => exact ⟨0, 0, [], rfl, rfl, by omega, by omega, by omega, by omega, ⟨by simp, by simp, rfl, by decide⟩, HA1.out, hB1⟩
  case round =>
    obtain ⟨i, now, qs, rfl, rfl, hi, hil, hn0, hn1, hRI, hA, hB⟩ := hrel
    have HRI := Lib.hid hRI
    have HA := Lib.hid hA
    clear hRI hA HA1
    have hi0 : (0 : Int) ≤ (i : Int) := by omega
    by_cases hgo : i < len ∧ i < 30
    · obtain ⟨hg1, hg2⟩ := hgo
      have hi1 : (i : Int) < (len : Int) := by omega
      obtain ⟨bl, off, rfl, hbl, hcell⟩ := HR.out.2.2.2 (by omega)
      have hcw := hcell i hg1
      have HCW := Lib.hid hcw
      clear hcell hcw
      generalize zs.getD i 0 = x at *
      obtain ⟨hp0, hp1⟩ := rem_range x 20 (by omega) (by omega)
      obtain ⟨hok, r, hr1, hr2, hr3⟩ := HRI.out.ask hn0 (by omega)
      have A1 := ask_yes _ _ 3 qs now 5 wr HA.out HRI.out.1 (by rw [HRI.out.2.2.1]; omega) (by rw [HRI.out.2.2.1]; omega) hok
      rw [HRI.out.2.2.1, hr1] at A1
      have A1 := Lib.hid A1
      have HR2 := Lib.hid hr2
      have hne : ∀ y ∈ r, y.id ≠ (i : Int) + 1 := fun y hy => by have := (hr2 y hy).1; omega
      have HNE := Lib.hid hne
      clear hok hr1 hr2 hne
      go_wp2_with fail
      refine A1.out.mono ?_
      rintro e w2 ⟨rfl, hA2, hB2, -⟩
      have hB2 := hB.trans hB2
      have T1 := told_any _ _ 3 _ ((i : Int) + 1) (0 : Nat) w2 hA2 (by simp; omega) (by omega)
      unfold ToldPost at T1
      have tl := told_last 3 r (fresh i now false false) 0 HNE.out (by omega)
      rw [show (fresh i now false false).id = (i : Int) + 1 from rfl] at tl
      rw [tl.1, tl.2] at T1
      have T1 := Lib.hid (show Calls Try.prog 10 #[.pointer (some ⟨w.heap.size, 0, none⟩), .int .i64 ((i : Int) + 1), .int .i64 0] w2 (fun e w' => e = .returned (.bool true) ∧ HoldAt w' w.heap.size w.heap.size 3 (r ++ [fresh i now true false]) ∧ Below w.heap.size w2 w' ∧ Keep w2 w') from T1)
      clear hA2 tl
      go_wp2_with fail
      refine T1.out.mono ?_
      rintro e w3 ⟨rfl, hA3, hB3, -⟩
      have hB3 := hB2.trans hB3
      have T2 := told_any _ _ 3 _ ((i : Int) + 1) (1 : Nat) w3 hA3 (by simp; omega) (by omega)
      unfold ToldPost at T2
      have tl := told_last 3 r (fresh i now true false) 1 HNE.out (by omega)
      rw [show (fresh i now true false).id = (i : Int) + 1 from rfl] at tl
      rw [tl.1, tl.2] at T2
      have T2 := Lib.hid (show Calls Try.prog 10 #[.pointer (some ⟨w.heap.size, 0, none⟩), .int .i64 ((i : Int) + 1), .int .i64 1] w3 (fun e w' => e = .returned (.bool true) ∧ HoldAt w' w.heap.size w.heap.size 3 (r ++ [fresh i now true true]) ∧ Below w.heap.size w3 w' ∧ Keep w3 w') from T2)
      clear hA3 tl
      go_wp2_with fail
      refine T2.out.mono ?_
      rintro e w4 ⟨rfl, hA4, hB4, -⟩
      have hB4 := hB3.trans hB4
      have HA4 := Lib.hid hA4
      have c4 := (hB4.cell (p := ⟨bl, off + i, none⟩) hbl).trans HCW.out
      clear hA4
      go_wp2_with fail
      generalize wrap64 ((IntKind.u64.wrap x).tmod 20) = P at *
      obtain ⟨p, rfl⟩ := Int.eq_ofNat_of_zero_le hp0
      have HN := Lib.hid (RI.next (p := (p : Int)) HR2.out hr3 hn0 hp0)
      go_loopw [9] (fun kv W => ∃ y : Nat, kv = .int .i64 y ∧ y ≤ p + 1 ∧ HoldAt W w.heap.size w.heap.size 3 (r ++ [fresh i now true true]) ∧ Below w.heap.size w W) (fun kv _ => 30 - (intOf kv).toNat)
      case atStart => exact ⟨0, rfl, by omega, HA4.out, hB4⟩
      case round =>
        obtain ⟨y, rfl, hy, hA, hBw⟩ := hrel
        have HAw := Lib.hid hA
        clear hA HA4
        have hy0 : (0 : Int) ≤ (y : Int) := by omega
        by_cases hyp : y ≤ p
        · have hy1 : (y : Int) ≤ (p : Int) := by omega
          have v1 : valid 3 (now + y) 5 (r ++ [fresh i now true true]) = true := valid_last _ _ _ _ _ (by unfold validQ; rw [decide_eq_true_iff]; refine ⟨rfl, (show (3 : Int) / 2 + 1 ≤ b2z true + b2z true + b2z false + b2z false + b2z false from by decide), ?_, ?_⟩; show now ≤ now + y; omega; show now + y - now < 20; omega)
          have hep : ∀ q ∈ r ++ [fresh i now true true], q.epoch = 5 ∧ 0 ≤ q.asked := fun q hq => ⟨(HN.out.2.1 q hq).2.2.2, (HN.out.2.1 q hq).2.1⟩
          have v2 : valid 3 (now + y) 6 (r ++ [fresh i now true true]) = false := valid_none _ _ _ _ (fun q hq => by unfold validQ; rw [(hep q hq).1, decide_eq_false]; omega)
          have V := Lib.hid (fun (W : World) (hW : HoldAt W w.heap.size w.heap.size 3 (r ++ [fresh i now true true])) ep => valid_any _ _ 3 _ (now + y) ep W hW (by simp; omega) (by omega) (by omega) (fun q hq => (hep q hq).2) (by omega))
          have V1 := V.out wr HAw.out 5
          rw [v1] at V1
          have V1 := Lib.hid V1
          have HV2 := Lib.hid v2
          clear v1 v2 hep
          go_wp2_with fail
          refine V1.out.mono ?_
          rintro e w5 ⟨rfl, hb⟩
          have hB5 := hBw.trans (hb.mono (Nat.le_of_lt HAw.out.le))
          have HA5 := Lib.hid (HAw.out.below hb)
          have V2 := V.out w5 HA5.out 6
          rw [HV2.out] at V2
          have V2 := Lib.hid V2
          clear hb
          go_wp2_with fail
          refine V2.out.mono ?_
          rintro e w6 ⟨rfl, hb⟩
          have hB6 := hB5.trans (hb.mono (Nat.le_of_lt HA5.out.le))
          have HA6 := Lib.hid (HA5.out.below hb)
          clear hb
          go_wp2
          go_roundw
          case rel => exact ⟨y + 1, by go_num, by omega, HA6.out, hB6⟩
          case measure => simp [intOf]; omega
        · have hy1 : ¬ (y : Int) ≤ (p : Int) := by omega
          have HN2 := Lib.hid (show RI ((i + 1 : Nat) : Int) (now + p) (r ++ [fresh i now true true]) from by exact_mod_cast HN.out)
          go_wp2
          go_roundw
          case rel => exact ⟨i + 1, now + p, _, by go_num, rfl, by omega, by omega, by omega, by omega, HN2.out, HAw.out, hBw⟩
          case measure => simp [intOf]; omega
    · have hcase : (¬ (i : Int) < (len : Int)) ∨ ((i : Int) < (len : Int) ∧ ¬ (i : Int) < 30) := by omega
      have hq : ∀ q ∈ qs, 0 ≤ q.asked := fun q hq => (HRI.out.2.1 q hq).2.1
      have hv : valid 3 (now + 20) 5 qs = false := valid_none _ _ _ _ (fun q hq => by
        have := (HRI.out.2.1 q hq).2.2.1
        unfold validQ
        rw [decide_eq_false]
        omega)
      have V := Lib.hid (fun (W : World) (hW : HoldAt W w.heap.size w.heap.size 3 qs) => valid_any _ _ 3 qs (now + 20) 5 W hW HRI.out.1 (by omega) (by omega) hq (by omega))
      have HV := Lib.hid hv
      clear hgo hq hv
      rcases hcase with h3 | ⟨h3, h4⟩
      all_goals
        go_wp2_with fail
        refine (doc_any _).mono ?_
        rintro e w2 ⟨rfl, hb⟩
        have hB2 := hB.trans (hb.mono (Nat.le_of_lt HA.out.le))
        have HA2 := Lib.hid (HA.out.below hb)
        have V2 := V.out w2 HA2.out
        rw [HV.out] at V2
        have V2 := Lib.hid V2
        clear hb
        go_wp2_with fail
        refine V2.out.mono ?_
        rintro e w3 ⟨rfl, hb⟩
        go_wp2
        go_ret
        exact ⟨rfl, hB2.trans (hb.mono (Nat.le_of_lt HA2.out.le))⟩
end Go.Proofs.Ytkkdiapnhnbjkaa
