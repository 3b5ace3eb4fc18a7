/- The document's lease: the walk of Ask. -/
import Derived.Test.YtkkdiapnhnbjkaaV
namespace Go.Proofs.Ytkkdiapnhnbjkaa
open Go.RowKit
set_option linter.unusedVariables false
attribute [local go_sem ↓] Go.wp_at_zero Go.wp_at_succ

set_option maxRecDepth 100000 in
set_option maxHeartbeats 2000000 in
theorem rask_no (B b : Nat) (n last : Int) (ps : List (Q × Value)) (now epoch : Int) (w : World) (hA : RefAt w B b n last ps) (hlen : ps.length ≤ 4) (h : askOk (ps.map Prod.fst) now epoch = false) :
    Calls Try.prog 16 #[.pointer (some ⟨b, 0, none⟩), .int .i64 now, .int .i64 epoch] w fun e w' => e = .returned (.int .i64 (-1)) ∧ ∃ m, w' = w.drewN m := by
  obtain ⟨v, hb, hrow, hts, hBb, -⟩ := hA
  have c2 := hb.cell 2
  simp at c2
  have hlb := hb.lt
  unfold askOk at h
  have h := of_decide_eq_false h
  have hk : ∃ la, (lastQ (ps.map Prod.fst)).asked = la ∧ ((ps = [] ∧ la = 0) ∨ ∃ g off cap k, v = .slice (some ⟨g, off, none⟩) (k + 1) cap ∧ ps.length = k + 1 ∧ w.cell? ⟨g, off + k * 4 + 1, none⟩ = some (.int .i64 la)) := by
    refine ⟨_, rfl, ?_⟩
    rcases hrow.2 with ⟨rfl, hz⟩ | ⟨g, off, cap, cs, rfl, k2, k3, k4, k5, k6, k7⟩
    · obtain rfl : ps = [] := List.eq_nil_of_length_eq_zero hz
      exact .inl ⟨rfl, rfl⟩
    · by_cases h0 : ps.length = 0
      · obtain rfl : ps = [] := List.eq_nil_of_length_eq_zero h0
        exact .inl ⟨rfl, rfl⟩
      · obtain ⟨k, hk⟩ : ∃ k, ps.length = k + 1 := ⟨ps.length - 1, by omega⟩
        refine .inr ⟨g, off, cap, k, by rw [hk], hk, ?_⟩
        have hl := lastQ_get (ps.map Prod.fst) (by simp; omega)
        have hpk : ps[k]? = some ps[k] := List.getElem?_eq_getElem (by omega)
        have e : lastQ (ps.map Prod.fst) = (ps[k]).1 := by
          rw [List.length_map, hk, Nat.add_sub_cancel, List.getElem?_map, hpk] at hl
          exact (Option.some.inj hl).symm
        rw [e, Nat.add_assoc, (hrow.cell (k * 4 + 1) (by omega)).1, rflat_get ps k _ hpk 1 (by omega)]
        rfl
  obtain ⟨la, hla, hk⟩ := hk
  rw [hla] at h
  clear hla hts hrow hb
  have hc : now < 0 ∨ (0 ≤ now ∧ 1099511627776 < now) ∨ (0 ≤ now ∧ now ≤ 1099511627776 ∧ epoch < 1) ∨ (0 ≤ now ∧ now ≤ 1099511627776 ∧ 1 ≤ epoch ∧ 1073741824 < epoch) ∨ (0 ≤ now ∧ now ≤ 1099511627776 ∧ 1 ≤ epoch ∧ epoch ≤ 1073741824 ∧ now < la) := by omega
  clear h
  rcases hc with o1 | ⟨o1, o2⟩ | ⟨o1, o2, o3⟩ | ⟨o1, o2, o3, o4⟩ | ⟨o1, o2, o3, o4, o5⟩
  · clear hk
    have g1 : decide (now < 0) = true := decide_eq_true (by omega)
    go_enter Try.func16, Try.ntmps16
    go_wp2
    go_quiet (fail)
    go_wp2
    go_ret
    exact ⟨rfl, _, rfl⟩
  · clear hk
    have g1 : decide (now < 0) = false := decide_eq_false (by omega)
    have g2 : decide (1099511627776 < now) = true := decide_eq_true (by omega)
    go_enter Try.func16, Try.ntmps16
    go_wp2
    go_quiet (fail)
    go_wp2
    go_ret
    exact ⟨rfl, _, rfl⟩
  · clear hk
    have g1 : decide (now < 0) = false := decide_eq_false (by omega)
    have g2 : decide (1099511627776 < now) = false := decide_eq_false (by omega)
    have g3 : decide (epoch < 1) = true := decide_eq_true (by omega)
    go_enter Try.func16, Try.ntmps16
    go_wp2
    go_quiet (fail)
    go_wp2
    go_ret
    exact ⟨rfl, _, rfl⟩
  · clear hk
    have g1 : decide (now < 0) = false := decide_eq_false (by omega)
    have g2 : decide (1099511627776 < now) = false := decide_eq_false (by omega)
    have g3 : decide (epoch < 1) = false := decide_eq_false (by omega)
    have g4 : decide (1073741824 < epoch) = true := decide_eq_true (by omega)
    go_enter Try.func16, Try.ntmps16
    go_wp2
    go_quiet (fail)
    go_wp2
    go_ret
    exact ⟨rfl, _, rfl⟩
  · rcases hk with ⟨_, rfl⟩ | ⟨g, off, cap, k, rfl, hk, d1⟩
    · omega
    · have hk0 : (0 : Int) ≤ (k : Int) := by omega
      have hk4 : (k : Int) ≤ 3 := by omega
      have e1 : IntKind.i64.wrap ((k : Int) + 1 - 1) = k := by rw [IntKind.wrap_i64]; omega
      clear hk
      have g1 : decide (now < 0) = false := decide_eq_false (by omega)
      have g2 : decide (1099511627776 < now) = false := decide_eq_false (by omega)
      have g3 : decide (epoch < 1) = false := decide_eq_false (by omega)
      have g4 : decide (1073741824 < epoch) = false := decide_eq_false (by omega)
      have g5 : decide (now < la) = true := decide_eq_true (by omega)
      have g6 : decide ((0 : Int) < (k : Int) + 1) = true := decide_eq_true (by omega)
      go_enter Try.func16, Try.ntmps16
      go_wp2
      go_quiet (fail)
      go_wp2
      go_ret
      exact ⟨rfl, _, rfl⟩
end Go.Proofs.Ytkkdiapnhnbjkaa
