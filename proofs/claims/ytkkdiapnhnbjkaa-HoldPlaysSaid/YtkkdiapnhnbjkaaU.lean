/- The document's lease: the walk of Valid. -/
import Derived.Test.YtkkdiapnhnbjkaaR
namespace Go.Proofs.Ytkkdiapnhnbjkaa
open Go.RowKit
set_option linter.unusedVariables false
attribute [local go_sem ↓] Go.wp_at_zero Go.wp_at_succ

theorem quiet2 {P : Program} {f : FuncId} {args : Array Value} {w : World} {a n : Nat} {v : Value} (h : ∀ q, Calls P f args (w.drewN q) fun e w' => e = .returned v ∧ w.drewN q = w') :
    Calls P f args (w.drewN (a + n)) fun e w'' => e = .returned v ∧ ∃ m, w'' = w.drewN (a + m) := (h (a + n)).mono fun _ _ ⟨he, hm⟩ => ⟨he, n, hm.symm⟩
theorem quiet1 {P : Program} {f : FuncId} {args : Array Value} {w : World} {n : Nat} {v : Value} (h : ∀ q, Calls P f args (w.drewN q) fun e w' => e = .returned v ∧ w.drewN q = w') :
    Calls P f args (w.drewN n) fun e w'' => e = .returned v ∧ ∃ m, w'' = w.drewN m := (h n).mono fun _ _ ⟨he, hm⟩ => ⟨he, n, hm.symm⟩

set_option maxRecDepth 100000 in
set_option maxHeartbeats 2000000 in
theorem rvalid_any (B b : Nat) (n last : Int) (ps : List (Q × Value)) (now epoch : Int) (w : World) (hA : RefAt w B b n last ps) (hlen : ps.length ≤ 4) (h1 : 1 ≤ n) (h2 : n ≤ 5) (hq : ∀ p ∈ ps, 0 ≤ p.1.asked) (hnow : now ≤ 9223372036854775807) :
    Calls Try.prog 18 #[.pointer (some ⟨b, 0, none⟩), .int .i64 now, .int .i64 epoch] w fun e w' => e = .returned (.bool (valid n now epoch (ps.map Prod.fst))) ∧ Below w.heap.size w w' := by
  obtain ⟨v, hb, hrow, hts, hBb, -⟩ := hA
  have c0 := hb.cell 0
  have c2 := hb.cell 2
  simp at c0 c2
  have hlb := hb.lt
  rcases hrow.2 with ⟨rfl, hz⟩ | ⟨g, off, cap, cs, rfl, k2, k3, k4, k5, k6, k7⟩
  · obtain rfl : ps = [] := List.eq_nil_of_length_eq_zero hz
    clear hb hrow hts hz
    go_enter Try.func18, Try.ntmps18
    go_wp2_with fail
    refine wp_loop_rounds 1 ?_
    rw [rounds_succ]
    go_wp2
    go_ret
    exact ⟨rfl, Below.refl _ _⟩
  · have hcell : ∀ (k : Nat) (p : Q × Value), ps[k]? = some p → ∀ j, j < 4 → w.cell? ⟨g, off + k * 4 + j, none⟩ = (rcells p)[j]? := fun k p hk j hj => by
      have hlt : k < ps.length := (List.getElem?_eq_some_iff.1 hk).1
      rw [Nat.add_assoc, (hrow.cell (k * 4 + j) (by omega)).1, rflat_get ps k p hk j hj]
    have HC := Lib.hid hcell
    have HTS := Lib.hid hts
    have hlg := k3.lt
    clear hcell k2 k3 k4 k5 k6 k7 hb hrow hts
    go_enter Try.func18, Try.ntmps18
    go_wp2_with fail
    go_loopw [7] (fun iv wr => ∃ i : Nat, iv = .int .i64 i ∧ i ≤ ps.length ∧ ((ps.drop i).map Prod.fst).any (validQ n now epoch) = valid n now epoch (ps.map Prod.fst) ∧ Below w.heap.size w wr) (fun iv _ => 10 - (intOf iv).toNat)
    case atStart => exact ⟨0, rfl, by omega, rfl, Below.refl _ _⟩
    case round =>
      obtain ⟨i, rfl, hi, hv, hB⟩ := hrel
      have HV := Lib.hid hv
      clear hv
      have hi0 : (0 : Int) ≤ (i : Int) := by omega
      have cw0 := (hB.cell (p := ⟨b, 0, none⟩) hlb).trans c0
      have cw2 := (hB.cell (p := ⟨b, 2, none⟩) hlb).trans c2
      have hlbw : b < wr.heap.size := Nat.lt_of_lt_of_le hlb hB.size
      by_cases hin : i < ps.length
      · have hi1 : (i : Int) < (ps.length : Int) := by omega
        have hq2 := hq _ (List.getElem_mem hin)
        have hdrop : ps.drop i = ps[i] :: ps.drop (i + 1) := List.drop_eq_getElem_cons hin
        have HD := Lib.hid hdrop
        have hcc := HC.out i _ (List.getElem?_eq_getElem hin)
        have ht := HTS.out _ (List.getElem_mem hin)
        generalize ps[i] = p at *
        obtain ⟨⟨id, asked, ep, t0, t1, t2, t3, t4⟩, tv⟩ := p
        obtain ⟨A, tcap, zs, rfl, hcnt, -⟩ := ht
        simp only at hcnt hq2
        have d0 := (hB.cell (p := ⟨g, off + i * 4, none⟩) hlg).trans (hcc 0 (by omega))
        have d1 := (hB.cell (p := ⟨g, off + i * 4 + 1, none⟩) hlg).trans (hcc 1 (by omega))
        have d2 := (hB.cell (p := ⟨g, off + i * 4 + 2, none⟩) hlg).trans (hcc 2 (by omega))
        have d3 := (hB.cell (p := ⟨g, off + i * 4 + 3, none⟩) hlg).trans (hcc 3 (by omega))
        simp [rcells] at d0 d1 d2 d3
        generalize zs.length = m5 at *
        have hstep : ((ps.drop i).map Prod.fst).any (validQ n now epoch) = (validQ n now epoch ⟨id, asked, ep, t0, t1, t2, t3, t4⟩ || ((ps.drop (i + 1)).map Prod.fst).any (validQ n now epoch)) := by rw [HD.out]; rfl
        have hvq : validQ n now epoch ⟨id, asked, ep, t0, t1, t2, t3, t4⟩ = decide (ep = epoch ∧ n / 2 + 1 ≤ (m5 : Int) ∧ asked ≤ now ∧ now - asked < 20) := by rw [hcnt]; rfl
        rw [hvq, HV.out] at hstep
        have HST := Lib.hid hstep
        have HDD := Lib.hid hB
        clear hstep hvq hcnt hcc hdrop hq
        have MO := Lib.hid (fun q => rmost_any n (((wr.alloc (.cells #[.int .i64 id, .int .i64 asked, .int .i64 ep, .slice A m5 tcap] 62))).drewN q) h1 h2)
        have hB2 := Lib.hid (hB.alloc hB.size (.cells #[.int .i64 id, .int .i64 asked, .int .i64 ep, .slice A m5 tcap] 62))
        by_cases hyes : ep = epoch ∧ n / 2 + 1 ≤ (m5 : Int) ∧ asked ≤ now ∧ now - asked < 20
        · obtain ⟨y1, y2, y3, y4⟩ := hyes
          have e1 : IntKind.i64.wrap (now - asked) = now - asked := by rw [IntKind.wrap_i64]; omega
          subst y1
          go_wp2_with fail
          go_quiet ((go_at_call 26; first | exact quiet1 MO.out | exact quiet2 MO.out))
          go_wp2
          go_ret
          exact ⟨ret_bool (HST.out.trans (by simp [y2, y3, y4])).symm, below_drewN' hB2.out _⟩
        · have hc : ep ≠ epoch ∨ (ep = epoch ∧ (m5 : Int) < n / 2 + 1) ∨ (ep = epoch ∧ n / 2 + 1 ≤ (m5 : Int) ∧ now < asked) ∨ (ep = epoch ∧ n / 2 + 1 ≤ (m5 : Int) ∧ asked ≤ now ∧ 20 ≤ now - asked) := by omega
          rw [decide_eq_false hyes, Bool.false_or] at HST
          clear hyes
          rcases hc with y1 | ⟨rfl, y2⟩ | ⟨rfl, y2, y3⟩ | ⟨rfl, y2, y3, y4⟩
          · have y1' : (ep == epoch) = false := by simpa using y1
            go_wp2_with fail
            go_quiet ((go_at_call 26; first | exact quiet1 MO.out | exact quiet2 MO.out))
            go_wp2
            go_roundw
            case rel => exact ⟨i + 1, by go_num, by omega, HST.out.symm, (below_drewN' hB2.out _)⟩
            case measure => simp [intOf]; omega
          · have y2' : decide (n / 2 + 1 ≤ (m5 : Int)) = false := decide_eq_false (by omega)
            go_wp2_with fail
            go_quiet ((go_at_call 26; first | exact quiet1 MO.out | exact quiet2 MO.out))
            go_wp2
            go_roundw
            case rel => exact ⟨i + 1, by go_num, by omega, HST.out.symm, (below_drewN' hB2.out _)⟩
            case measure => simp [intOf]; omega
          · have y3' : decide (asked ≤ now) = false := decide_eq_false (by omega)
            go_wp2_with fail
            go_quiet ((go_at_call 26; first | exact quiet1 MO.out | exact quiet2 MO.out))
            go_wp2
            go_roundw
            case rel => exact ⟨i + 1, by go_num, by omega, HST.out.symm, (below_drewN' hB2.out _)⟩
            case measure => simp [intOf]; omega
          · have e1 : IntKind.i64.wrap (now - asked) = now - asked := by rw [IntKind.wrap_i64]; omega
            go_wp2_with fail
            go_quiet ((go_at_call 26; first | exact quiet1 MO.out | exact quiet2 MO.out))
            go_wp2
            go_roundw
            case rel => exact ⟨i + 1, by go_num, by omega, HST.out.symm, (below_drewN' hB2.out _)⟩
            case measure => simp [intOf]; omega
      · obtain rfl : i = ps.length := by omega
        go_wp2
        go_ret
        exact ⟨ret_bool (by rw [← HV.out, List.drop_eq_nil_of_le (Nat.le_refl _)]; rfl), hB⟩
end Go.Proofs.Ytkkdiapnhnbjkaa
