/- Questions of a lease: the walks of Most and Valid. -/
import Derived.Test.YtkkdiapnhnbjkaaE
namespace Go.Proofs.Ytkkdiapnhnbjkaa
open Go.RowKit
set_option linter.unusedVariables false
attribute [local go_sem ↓] Go.wp_at_zero Go.wp_at_succ

theorem most_any (n : Int) (w : World) (h1 : 1 ≤ n) (h2 : n ≤ 5) : Calls Try.prog 23 #[.int .i64 n] w fun e w' => e = .returned (.int .i64 (n / 2 + 1)) ∧ w = w' := by
  have : n = 1 ∨ n = 2 ∨ n = 3 ∨ n = 4 ∨ n = 5 := by omega
  rcases this with rfl | rfl | rfl | rfl | rfl
  all_goals
    go_enter Try.func23, Try.ntmps23
    go_wp2
    go_ret
    exact ⟨rfl, rfl⟩

def b2z (t : Bool) : Int := if t then 1 else 0
def Q.cnt (q : Q) : Int := b2z q.t0 + b2z q.t1 + b2z q.t2 + b2z q.t3 + b2z q.t4
def validQ (n now epoch : Int) (q : Q) : Bool := decide (q.epoch = epoch ∧ n / 2 + 1 ≤ q.cnt ∧ q.asked ≤ now ∧ now - q.asked < 20)
def valid (n now epoch : Int) (qs : List Q) : Bool := qs.any (validQ n now epoch)
theorem b2z_range (t : Bool) : 0 ≤ b2z t ∧ b2z t ≤ 1 := by cases t <;> simp [b2z]

set_option maxRecDepth 100000 in
set_option maxHeartbeats 2000000 in
theorem valid_any (B b : Nat) (n : Int) (qs : List Q) (now epoch : Int) (w : World) (hA : HoldAt w B b n qs) (hlen : qs.length ≤ 4) (h1 : 1 ≤ n) (h2 : n ≤ 5) (hq : ∀ q ∈ qs, 0 ≤ q.asked) (hnow : now ≤ 9223372036854775807) :
    Calls Try.prog 12 #[.pointer (some ⟨b, 0, none⟩), .int .i64 now, .int .i64 epoch] w fun e w' => e = .returned (.bool (valid n now epoch qs)) ∧ Below w.heap.size w w' := by
  obtain ⟨v, hA⟩ := hA
  obtain ⟨hb, hrow, hBb⟩ := hA
  have c0 := hb.cell 0
  have c1 := hb.cell 1
  simp at c0 c1
  have hlb := hb.lt
  have hMO := Lib.hid (fun W => most_any n W h1 h2)
  rcases hrow with ⟨rfl, rfl⟩ | ⟨g, off, cap, cs, rfl, k2, k3, k4, k5, k6, k7⟩
  · go_enter Try.func12, Try.ntmps12
    go_wp2_with fail
    refine wp_loop_rounds 1 ?_
    rw [rounds_succ]
    go_wp2
    go_ret
    exact ⟨rfl, Below.refl _ _⟩
  · have hcell : ∀ (k : Nat) (q : Q), qs[k]? = some q → ∀ j, j < 8 → w.cell? ⟨g, off + k * 8 + j, none⟩ = q.cells[j]? := fun k q hk j hj => by
      rw [k3.cell, Nat.add_assoc, ← flat_get qs k q hk j hj]
      have hlt : k * 8 + j < (flat qs).length := by
        have := (List.getElem?_eq_some_iff.1 hk).1
        rw [flat_len]
        omega
      rw [List.getElem?_eq_getElem hlt]
      exact k7 _ _ (List.getElem?_eq_getElem hlt)
    have HC := Lib.hid hcell
    have hlg := k3.lt
    clear hcell k2 k3 k4 k5 k6 k7 hb
    go_enter Try.func12, Try.ntmps12
    go_wp2_with fail
    go_loopw [20] (fun iv wr => ∃ i : Nat, iv = .int .i64 i ∧ i ≤ qs.length ∧ (qs.drop i).any (validQ n now epoch) = valid n now epoch qs ∧ Below w.heap.size w wr) (fun iv _ => 10 - (intOf iv).toNat)
    case atStart => exact ⟨0, rfl, by omega, rfl, Below.refl _ _⟩
    case round =>
      obtain ⟨i, rfl, hi, hv, hB⟩ := hrel
      have HV := Lib.hid hv
      clear hv
      have hi0 : (0 : Int) ≤ (i : Int) := by omega
      have cw0 := (hB.cell (p := ⟨b, 0, none⟩) hlb).trans c0
      by_cases hin : i < qs.length
      · have hi1 : (i : Int) < (qs.length : Int) := by omega
        have hq2 := hq _ (List.getElem_mem hin)
        have hdrop : qs.drop i = qs[i] :: qs.drop (i + 1) := List.drop_eq_getElem_cons hin
        have HD := Lib.hid hdrop
        have hcc := HC.out i _ (List.getElem?_eq_getElem hin)
        generalize qs[i] = q at *
        obtain ⟨id, asked, ep, t0, t1, t2, t3, t4⟩ := q
        have d0 := (hB.cell (p := ⟨g, off + i * 8, none⟩) hlg).trans (hcc 0 (by omega))
        have d1 := (hB.cell (p := ⟨g, off + i * 8 + 1, none⟩) hlg).trans (hcc 1 (by omega))
        have d2 := (hB.cell (p := ⟨g, off + i * 8 + 2, none⟩) hlg).trans (hcc 2 (by omega))
        have d3 := (hB.cell (p := ⟨g, off + i * 8 + 3, none⟩) hlg).trans (hcc 3 (by omega))
        have d4 := (hB.cell (p := ⟨g, off + i * 8 + 4, none⟩) hlg).trans (hcc 4 (by omega))
        have d5 := (hB.cell (p := ⟨g, off + i * 8 + 5, none⟩) hlg).trans (hcc 5 (by omega))
        have d6 := (hB.cell (p := ⟨g, off + i * 8 + 6, none⟩) hlg).trans (hcc 6 (by omega))
        have d7 := (hB.cell (p := ⟨g, off + i * 8 + 7, none⟩) hlg).trans (hcc 7 (by omega))
        simp [Q.cells] at d0 d1 d2 d3 d4 d5 d6 d7 hq2
        clear hcc hdrop hq
        go_wp2_with fail
        have b0 := b2z_range t0
        have b1 := b2z_range t1
        have b2 := b2z_range t2
        have b3 := b2z_range t3
        have b4 := b2z_range t4
        obtain ⟨m1, g1⟩ : ∃ m, m = b2z t0 := ⟨_, rfl⟩
        obtain ⟨m2, g2⟩ : ∃ m, m = m1 + b2z t1 := ⟨_, rfl⟩
        obtain ⟨m3, g3⟩ : ∃ m, m = m2 + b2z t2 := ⟨_, rfl⟩
        obtain ⟨m4, g4⟩ : ∃ m, m = m3 + b2z t3 := ⟨_, rfl⟩
        obtain ⟨m5, g5⟩ : ∃ m, m = m4 + b2z t4 := ⟨_, rfl⟩
        have G := Lib.hid (⟨g1, g2, g3, g4, g5⟩ : m1 = b2z t0 ∧ m2 = m1 + b2z t1 ∧ m3 = m2 + b2z t2 ∧ m4 = m3 + b2z t3 ∧ m5 = m4 + b2z t4)
        have r1 : 0 ≤ m1 ∧ m1 ≤ 1 := by omega
        have r2 : 0 ≤ m2 ∧ m2 ≤ 2 := by omega
        have r3 : 0 ≤ m3 ∧ m3 ≤ 3 := by omega
        have r4 : 0 ≤ m4 ∧ m4 ≤ 4 := by omega
        have r5 : 0 ≤ m5 ∧ m5 ≤ 5 := by omega
        clear b0 b1 b2 b3 b4 g1 g2 g3 g4 g5
        have hlbw : b < wr.heap.size := Nat.lt_of_lt_of_le hlb hB.size
        go_loopw [9, 26] (fun mv xv W => W = wr.alloc (.cells #[.int .i64 id, .int .i64 asked, .int .i64 ep, .bool t0, .bool t1, .bool t2, .bool t3, .bool t4] 53) ∧ ((xv = .int .i64 0 ∧ mv = .int .i64 0) ∨ (xv = .int .i64 1 ∧ mv = .int .i64 m1) ∨ (xv = .int .i64 2 ∧ mv = .int .i64 m2) ∨ (xv = .int .i64 3 ∧ mv = .int .i64 m3) ∨ (xv = .int .i64 4 ∧ mv = .int .i64 m4) ∨ (xv = .int .i64 5 ∧ mv = .int .i64 m5))) (fun _ xv _ => 10 - (intOf xv).toNat)
        case atStart => exact ⟨rfl, .inl ⟨rfl, rfl⟩⟩
        case round =>
          obtain ⟨rfl, h | h | h | h | h | h⟩ := hrel
          · obtain ⟨rfl, rfl⟩ := h
            have ix : ∀ w, (Instr.index 51 (.agg #[.bool t0, .bool t1, .bool t2, .bool t3, .bool t4]) (.int .i64 0)).run Try.prog w = .ok (.bool t0) w := fun _ => by kernel_rfl
            cases t0
            all_goals
              go_wp2
              go_roundw
              case rel => exact ⟨by trivial, .inr (.inl ⟨rfl, by have := G.out; simp [b2z] at this; simp [this.1]⟩)⟩
              case measure => simp [intOf]
          · obtain ⟨rfl, rfl⟩ := h
            have ix : ∀ w, (Instr.index 51 (.agg #[.bool t0, .bool t1, .bool t2, .bool t3, .bool t4]) (.int .i64 1)).run Try.prog w = .ok (.bool t1) w := fun _ => by kernel_rfl
            cases t1
            all_goals
              go_wp2
              go_roundw
              case rel => exact ⟨by trivial, .inr (.inr (.inl ⟨rfl, by have := G.out.2.1; simp [b2z] at this; simp [this]⟩))⟩
              case measure => simp [intOf]
          · obtain ⟨rfl, rfl⟩ := h
            have ix : ∀ w, (Instr.index 51 (.agg #[.bool t0, .bool t1, .bool t2, .bool t3, .bool t4]) (.int .i64 2)).run Try.prog w = .ok (.bool t2) w := fun _ => by kernel_rfl
            cases t2
            all_goals
              go_wp2
              go_roundw
              case rel => exact ⟨by trivial, .inr (.inr (.inr (.inl ⟨rfl, by have := G.out.2.2.1; simp [b2z] at this; simp [this]⟩)))⟩
              case measure => simp [intOf]
          · obtain ⟨rfl, rfl⟩ := h
            have ix : ∀ w, (Instr.index 51 (.agg #[.bool t0, .bool t1, .bool t2, .bool t3, .bool t4]) (.int .i64 3)).run Try.prog w = .ok (.bool t3) w := fun _ => by kernel_rfl
            cases t3
            all_goals
              go_wp2
              go_roundw
              case rel => exact ⟨by trivial, .inr (.inr (.inr (.inr (.inl ⟨rfl, by have := G.out.2.2.2.1; simp [b2z] at this; simp [this]⟩))))⟩
              case measure => simp [intOf]
          · obtain ⟨rfl, rfl⟩ := h
            have ix : ∀ w, (Instr.index 51 (.agg #[.bool t0, .bool t1, .bool t2, .bool t3, .bool t4]) (.int .i64 4)).run Try.prog w = .ok (.bool t4) w := fun _ => by kernel_rfl
            cases t4
            all_goals
              go_wp2
              go_roundw
              case rel => exact ⟨by trivial, .inr (.inr (.inr (.inr (.inr ⟨rfl, by have := G.out.2.2.2.2; simp [b2z] at this; simp [this]⟩))))⟩
              case measure => simp [intOf]
          · obtain ⟨rfl, rfl⟩ := h
            have hcnt : m5 = (⟨id, asked, ep, t0, t1, t2, t3, t4⟩ : Q).cnt := by have := G.out; simp only [Q.cnt]; omega
            have hstep : (qs.drop i).any (validQ n now epoch) = (validQ n now epoch ⟨id, asked, ep, t0, t1, t2, t3, t4⟩ || (qs.drop (i + 1)).any (validQ n now epoch)) := by rw [HD.out]; rfl
            have hvq : validQ n now epoch ⟨id, asked, ep, t0, t1, t2, t3, t4⟩ = decide (ep = epoch ∧ n / 2 + 1 ≤ m5 ∧ asked ≤ now ∧ now - asked < 20) := by rw [hcnt]; rfl
            rw [hvq, HV.out] at hstep
            have HST := Lib.hid hstep
            have hB2 := Lib.hid (hB.alloc hB.size (.cells #[.int .i64 id, .int .i64 asked, .int .i64 ep, .bool t0, .bool t1, .bool t2, .bool t3, .bool t4] 53))
            clear hstep hvq hcnt
            by_cases hyes : ep = epoch ∧ n / 2 + 1 ≤ m5 ∧ asked ≤ now ∧ now - asked < 20
            · obtain ⟨y1, y2, y3, y4⟩ := hyes
              have e1 : IntKind.i64.wrap (now - asked) = now - asked := by rw [IntKind.wrap_i64]; omega
              subst y1
              go_wp2_with (go_at_call 23; refine (hMO.out _).mono ?_; rintro e w' ⟨rfl, rfl⟩)
              go_ret
              exact ⟨ret_bool (HST.out.trans (by simp [y2, y3, y4])).symm, hB2.out⟩
            · have hc : ep ≠ epoch ∨ (ep = epoch ∧ m5 < n / 2 + 1) ∨ (ep = epoch ∧ n / 2 + 1 ≤ m5 ∧ now < asked) ∨ (ep = epoch ∧ n / 2 + 1 ≤ m5 ∧ asked ≤ now ∧ 20 ≤ now - asked) := by omega
              rw [decide_eq_false hyes, Bool.false_or] at HST
              clear hyes
              rcases hc with y1 | ⟨rfl, y2⟩ | ⟨rfl, y2, y3⟩ | ⟨rfl, y2, y3, y4⟩
              · go_wp2_with (go_at_call 23; refine (hMO.out _).mono ?_; rintro e w' ⟨rfl, rfl⟩)
                go_roundw
                case rel => exact ⟨i + 1, by go_num, by omega, HST.out.symm, hB2.out⟩
                case measure => simp [intOf]; omega
              · go_wp2_with (go_at_call 23; refine (hMO.out _).mono ?_; rintro e w' ⟨rfl, rfl⟩)
                go_roundw
                case rel => exact ⟨i + 1, by go_num, by omega, HST.out.symm, hB2.out⟩
                case measure => simp [intOf]; omega
              · go_wp2_with (go_at_call 23; refine (hMO.out _).mono ?_; rintro e w' ⟨rfl, rfl⟩)
                go_roundw
                case rel => exact ⟨i + 1, by go_num, by omega, HST.out.symm, hB2.out⟩
                case measure => simp [intOf]; omega
              · have e1 : IntKind.i64.wrap (now - asked) = now - asked := by rw [IntKind.wrap_i64]; omega
                go_wp2_with (go_at_call 23; refine (hMO.out _).mono ?_; rintro e w' ⟨rfl, rfl⟩)
                go_roundw
                case rel => exact ⟨i + 1, by go_num, by omega, HST.out.symm, hB2.out⟩
                case measure => simp [intOf]; omega
      · obtain rfl : i = qs.length := by omega
        go_wp2
        go_ret
        exact ⟨ret_bool (by rw [← HV.out, List.drop_eq_nil_of_le (Nat.le_refl _)]; rfl), hB⟩
end Go.Proofs.Ytkkdiapnhnbjkaa
