/- Questions of a lease: the walk of Told. -/
import Derived.Test.YtkkdiapnhnbjkaaF
namespace Go.Proofs.Ytkkdiapnhnbjkaa
open Go.RowKit
set_option linter.unusedVariables false
attribute [local go_sem ↓] Go.wp_at_zero Go.wp_at_succ

theorem flat_set (qs : List Q) (i j : Nat) (q q' : Q) (u : Value) (h : qs[i]? = some q) (hc : q'.cells = q.cells.set j u) (hj : j < 8) : flat (qs.set i q') = (flat qs).set (i * 8 + j) u := by
  induction qs generalizing i with
  | nil => simp at h
  | cons p r ih =>
    cases i with
    | zero =>
      simp at h
      subst h
      rw [List.set_cons_zero, flat_cons, flat_cons, hc, Nat.zero_mul, Nat.zero_add, List.set_append_left _ _ (by rw [cells_len]; omega)]
    | succ i =>
      simp at h
      rw [List.set_cons_succ, flat_cons, flat_cons, ih i h, List.set_append_right _ _ (by rw [cells_len]; omega), cells_len, show (i + 1) * 8 + j - 8 = i * 8 + j by omega]
theorem Row.setQ {w : World} {B g off len cap i j : Nat} {qs : List Q} {q q' : Q} {u : Value} (h : Row w B (.slice (some ⟨g, off, none⟩) len cap) qs) (hi : qs[i]? = some q) (hc : q'.cells = q.cells.set j u) (hj : j < 8) :
    Row (w.setCell ⟨g, off + i * 8 + j, none⟩ u) B (.slice (some ⟨g, off, none⟩) len cap) (qs.set i q') := by
  rcases h with ⟨h, _⟩ | ⟨g', off', cap', cs, e, h2, h3, h4, h5, h6, h7⟩
  · cases h
  · simp at e
    obtain ⟨⟨rfl, rfl⟩, rfl, rfl⟩ := e
    refine .inr ⟨g, off, cap, _, by simp, h2, h3.set (off + i * 8 + j) u, by simpa using h4, h5, by simpa using h6, fun x y hxy => ?_⟩
    rw [flat_set qs i j q q' u hi hc hj, List.getElem?_set] at hxy
    rw [Array.getElem?_setIfInBounds]
    have hlt : i < qs.length := (List.getElem?_eq_some_iff.1 hi).1
    split at hxy
    · rename_i e
      rw [if_pos (by omega)]
      split at hxy
      · rw [if_pos (by omega)]; exact hxy
      · cases hxy
    · rw [if_neg (by omega)]
      exact h7 x y hxy
def Q.tell (q : Q) : Nat → Q
  | 0 => { q with t0 := true }
  | 1 => { q with t1 := true }
  | 2 => { q with t2 := true }
  | 3 => { q with t3 := true }
  | _ => { q with t4 := true }
theorem tell_cells (q : Q) (k : Nat) (hk : k < 5) : (q.tell k).cells = q.cells.set (3 + k) (.bool true) := by
  match k, hk with
  | 0, _ | 1, _ | 2, _ | 3, _ | 4, _ => rfl
def meant (id ep : Int) (q : Q) : Bool := decide (q.id = id ∧ q.epoch = ep)
def tellGo (id ep : Int) (node : Nat) : List Q → List Q
  | [] => []
  | q :: r => if meant id ep q then q.tell node :: r else q :: tellGo id ep node r
def toldOk (n : Int) (qs : List Q) (id node : Int) : Bool := decide (0 ≤ node ∧ node < n) && qs.any (meant id (lastQ qs).epoch)
def toldQs (n : Int) (qs : List Q) (id node : Int) : List Q := if 0 ≤ node ∧ node < n then tellGo id (lastQ qs).epoch node.toNat qs else qs
def ToldPost (B b : Nat) (n : Int) (qs : List Q) (id node : Int) (w : World) (e : Ending) (w' : World) : Prop :=
  e = .returned (.bool (toldOk n qs id node)) ∧ HoldAt w' B b n (toldQs n qs id node) ∧ Below B w w' ∧ Keep w w'

theorem told_none (B b : Nat) (n : Int) (qs : List Q) (id node : Int) (w : World) (hA : HoldAt w B b n qs) (h : node < 0 ∨ n ≤ node) :
    Calls Try.prog 10 #[.pointer (some ⟨b, 0, none⟩), .int .i64 id, .int .i64 node] w (ToldPost B b n qs id node w) := by
  have h1 : toldOk n qs id node = false := by unfold toldOk; rw [decide_eq_false (by omega)]; rfl
  have h2 : toldQs n qs id node = qs := by unfold toldQs; rw [if_neg (by omega)]
  unfold ToldPost
  rw [h1, h2]
  have HA := Lib.hid hA
  obtain ⟨v, hb, hrow, hBb⟩ := hA
  have c0 := hb.cell 0
  simp at c0
  clear h1 h2 hb hrow
  rcases h with h | h
  · go_enter Try.func10, Try.ntmps10
    go_wp2
    go_ret
    exact ⟨rfl, HA.out, Below.refl _ _, Keep.refl _⟩
  · by_cases h0 : node < 0
    · go_enter Try.func10, Try.ntmps10
      go_wp2
      go_ret
      exact ⟨rfl, HA.out, Below.refl _ _, Keep.refl _⟩
    · go_enter Try.func10, Try.ntmps10
      go_wp2
      go_ret
      exact ⟨rfl, HA.out, Below.refl _ _, Keep.refl _⟩

set_option maxRecDepth 100000 in
set_option maxHeartbeats 2000000 in
theorem told_some (B b : Nat) (n : Int) (qs : List Q) (id : Int) (node : Nat) (w : World) (hA : HoldAt w B b n qs) (hlen : qs.length ≤ 4) (h1 : (node : Int) < n) (h2 : n ≤ 5) :
    Calls Try.prog 10 #[.pointer (some ⟨b, 0, none⟩), .int .i64 id, .int .i64 node] w (ToldPost B b n qs id node w) := by
  have k1 : toldOk n qs id node = qs.any (meant id (lastQ qs).epoch) := by unfold toldOk; rw [decide_eq_true (by omega)]; rfl
  have k2 : toldQs n qs id node = tellGo id (lastQ qs).epoch node qs := by unfold toldQs; rw [if_pos (by omega)]; rfl
  unfold ToldPost
  rw [k1, k2]
  clear k1 k2
  have hn0 : (0 : Int) ≤ (node : Int) := by omega
  have hn5 : (node : Int) < 5 := by omega
  obtain ⟨v, hA0⟩ := hA
  have hA : HoldV w B b n v qs := hA0
  clear hA0
  have HA := Lib.hid hA
  have hBb := hA.2.2
  have hlb := hA.1.lt
  have c0 := hA.1.cell 0
  have c1 := hA.1.cell 1
  simp at c0 c1
  have L := Lib.hid (fun W (hW : Below w.heap.size w W) => last_any B b n v qs W (HA.out.below hW) hlen)
  have hq : ∃ q, q = lastQ qs := ⟨_, rfl⟩
  obtain ⟨q, hq⟩ := hq
  rw [← hq] at L ⊢
  clear hq
  obtain ⟨lid, lasked, lep, t0, t1, t2, t3, t4⟩ := q
  have L := Lib.hid (show ∀ W : World, Below w.heap.size w W → Calls Try.prog 21 #[.pointer (some ⟨b, 0, none⟩)] W fun e w' => e = .returned (.agg #[.int .i64 lid, .int .i64 lasked, .int .i64 lep, .bool t0, .bool t1, .bool t2, .bool t3, .bool t4]) ∧ Below W.heap.size W w' from L.out)
  simp only
  rcases hA.2.1 with ⟨rfl, rfl⟩ | ⟨g, off, cap, cs, rfl, q2, q3, q4, q5, q6, q7⟩
  · clear hA
    go_enter Try.func10, Try.ntmps10
    go_wp2_with fail
    refine wp_loop_rounds 1 ?_
    rw [rounds_succ]
    go_wp2
    go_ret
    exact ⟨rfl, ⟨_, HA.out⟩, Below.refl _ _, Keep.refl _⟩
  · clear hA
    have hcell : ∀ (k : Nat) (q : Q), qs[k]? = some q → ∀ j, j < 8 → w.cell? ⟨g, off + k * 8 + j, none⟩ = q.cells[j]? := fun k q hk j hj => by
      rw [q3.cell, Nat.add_assoc, ← flat_get qs k q hk j hj]
      have hlt : k * 8 + j < (flat qs).length := by
        have := (List.getElem?_eq_some_iff.1 hk).1
        rw [flat_len]
        omega
      rw [List.getElem?_eq_getElem hlt]
      exact q7 _ _ (List.getElem?_eq_getElem hlt)
    have HC := Lib.hid hcell
    have hlg := q3.lt
    have HF := Lib.hid (fun (W : World) (hW : Below w.heap.size w W) i => (q3.below hW).frozen i)
    clear hcell q3 q4 q5 q6 q7
    go_enter Try.func10, Try.ntmps10
    go_wp2_with fail
    go_loopw [29] (fun iv wr => ∃ i : Nat, iv = .int .i64 i ∧ i ≤ qs.length ∧ (qs.drop i).any (meant id lep) = qs.any (meant id lep) ∧ qs.take i ++ tellGo id lep node (qs.drop i) = tellGo id lep node qs ∧ Below w.heap.size w wr) (fun iv _ => 10 - (intOf iv).toNat)
    case atStart => exact ⟨0, rfl, by omega, rfl, rfl, Below.refl _ _⟩
    case round =>
      obtain ⟨i, rfl, hi, hv, hv2, hB⟩ := hrel
      have HV := Lib.hid hv
      have HV2 := Lib.hid hv2
      clear hv hv2
      have hi0 : (0 : Int) ≤ (i : Int) := by omega
      have cw0 := (hB.cell (p := ⟨b, 0, none⟩) hlb).trans c0
      have cw1 := (hB.cell (p := ⟨b, 1, none⟩) hlb).trans c1
      by_cases hin : i < qs.length
      · have hi1 : (i : Int) < (qs.length : Int) := by omega
        have hgi := List.getElem?_eq_getElem hin
        have hdrop : qs.drop i = qs[i] :: qs.drop (i + 1) := List.drop_eq_getElem_cons hin
        have HD := Lib.hid hdrop
        have HGI := Lib.hid hgi
        have HTK := Lib.hid (show qs.take (i + 1) = qs.take i ++ [qs[i]] from List.take_succ_eq_append_getElem hin)
        have hcc := HC.out i _ hgi
        generalize qs[i] = q at *
        have d0 := (hB.cell (p := ⟨g, off + i * 8, none⟩) hlg).trans (hcc 0 (by omega))
        have d2 := (hB.cell (p := ⟨g, off + i * 8 + 2, none⟩) hlg).trans (hcc 2 (by omega))
        have hot : ∃ t, q.cells[3 + node]? = some (.bool t) := by
          have : node = 0 ∨ node = 1 ∨ node = 2 ∨ node = 3 ∨ node = 4 := by omega
          rcases this with rfl | rfl | rfl | rfl | rfl <;> exact ⟨_, rfl⟩
        obtain ⟨ot, hot⟩ := hot
        have d3 := (hcc (3 + node) (by omega)).trans hot
        have ed0 : q.cells[0]? = some (.int .i64 q.id) := rfl
        have ed2 : q.cells[2]? = some (.int .i64 q.epoch) := rfl
        rw [ed0] at d0
        rw [ed2] at d2
        have hme : meant id lep q = decide (q.id = id ∧ q.epoch = lep) := rfl
        have HME := Lib.hid hme
        obtain ⟨qid, qep, eqid, eqep⟩ : ∃ x y, q.id = x ∧ q.epoch = y := ⟨_, _, rfl, rfl⟩
        rw [eqid] at d0 HME
        rw [eqep] at d2 HME
        clear hcc hdrop hgi hot ed0 ed2 hme eqid eqep
        by_cases hid : qid = id
        · subst hid
          have hlgw : g < wr.heap.size := Nat.lt_of_lt_of_le hlg hB.size
          have HDD := Lib.hid (fun (W : World) (hW : Below wr.drew.heap.size wr.drew W) => show W.cell? ⟨g, off + i * 8 + 2, none⟩ = some (.int .i64 qep) from (hW.cell (p := ⟨g, off + i * 8 + 2, none⟩) hlgw).trans d2)
          have FX := fun W => (show (Instr.field 53 (.agg #[.int .i64 lid, .int .i64 lasked, .int .i64 lep, .bool t0, .bool t1, .bool t2, .bool t3, .bool t4]) 2).run Try.prog W = .ok (.int .i64 lep) W from by kernel_rfl)
          by_cases hep : qep = lep
          · subst hep
            have hme2 : meant qid qep q = true := by rw [HME.out]; simp
            have HM2 := Lib.hid hme2
            have hnode : node < 5 := by omega
            have HQB := Lib.hid (fun (w2 : World) (hb2 : Below wr.drew.heap.size wr.drew w2) => show HoldAt (w2.setCell ⟨g, off + i * 8 + (3 + node), none⟩ (.bool true)) B b n (tellGo qid qep node qs) ∧ Below B w (w2.setCell ⟨g, off + i * 8 + (3 + node), none⟩ (.bool true)) ∧ Keep w (w2.setCell ⟨g, off + i * 8 + (3 + node), none⟩ (.bool true)) ∧ w2.cell? ⟨g, off + i * 8 + (3 + node), none⟩ = some (.bool ot) ∧ w2.frozen? ⟨g, off + i * 8 + (3 + node), none⟩ = false from by
              have hB2 : Below w.heap.size w w2 := hB.drew.trans (hb2.mono hB.size)
              have hA2 := HA.out.below hB2
              have hne := hA2.2.1.ne hA2.1 g rfl
              refine ⟨⟨_, hA2.1.far (p := ⟨g, off + i * 8 + (3 + node), none⟩) (Ne.symm hne) _, ?_, hBb⟩, (hB2.mono (by omega)).setCell (p := ⟨g, off + i * 8 + (3 + node), none⟩) q2 _, fun k t cs h1 h2 h3 => ?_, (hB2.cell (p := ⟨g, off + i * 8 + (3 + node), none⟩) hlg).trans d3, HF.out w2 hB2 _⟩
              · have := hA2.2.1.setQ HGI.out (tell_cells q node hnode) (by omega) (u := .bool true)
                rw [← HV2.out, HD.out, tellGo, HM2.out]
                have e : qs.set i (q.tell node) = qs.take i ++ (q.tell node :: qs.drop (i + 1)) := by rw [List.set_eq_take_append_cons_drop, if_pos hin]
                rw [e] at this
                exact this
              · have h4 := h3.below hB2
                refine h4.far (p := ⟨g, off + i * 8 + (3 + node), none⟩) ?_ _
                intro e
                obtain ⟨cs', hb'⟩ := hA2.2.1.own k (congrArg some (show g = k from e.symm))
                exact h2 (h4.type_ne hb'))
            have HOK := Lib.hid (show qs.any (meant qid qep) = true from by rw [← HV.out, HD.out, List.any_cons, HM2.out]; rfl)
            have ea : off + i * 8 + (3 + node) = off + i * 8 + 3 + node := by omega
            rw [ea] at HQB
            clear hme2 ea d3
            go_wp2_with fail
            go_region_with (go_at_call 21; refine (L.out _ hB.drew).mono ?_; rintro e w2 ⟨rfl, hb2⟩; have d5 := HDD.out w2 hb2; obtain ⟨r1, r2, r3, r4, r5⟩ := HQB.out w2 hb2)
            all_goals
              go_wp2
              go_ret
              exact ⟨ret_bool HOK.out.symm, r1, r2, r3⟩
          · have hep' : (qep == lep) = false := by simpa using hep
            have hme2 : meant qid lep q = false := by rw [HME.out]; simp [hep]
            have HM2 := Lib.hid hme2
            clear hme2
            go_wp2_with fail
            go_region_with (go_at_call 21; refine (L.out _ hB.drew).mono ?_; rintro e w2 ⟨rfl, hb2⟩; have d5 := HDD.out w2 hb2)
            all_goals
              go_wp2
              go_roundw
              case rel => exact ⟨i + 1, by go_num, by omega, by rw [← HV.out, HD.out, List.any_cons, HM2.out, Bool.false_or], by rw [← HV2.out, HD.out, tellGo, HM2.out, HTK.out, List.append_assoc]; rfl, hB.drew.trans (hb2.mono hB.size)⟩
              case measure => simp [intOf]; omega
        · have hid' : (qid == id) = false := by simpa using hid
          have hme2 : meant id lep q = false := by rw [HME.out]; simp [hid]
          have HM2 := Lib.hid hme2
          clear hme2
          go_wp2_with fail
          go_region
          all_goals
            go_wp2
            go_roundw
            case rel => exact ⟨i + 1, by go_num, by omega, by rw [← HV.out, HD.out, List.any_cons, HM2.out, Bool.false_or], by rw [← HV2.out, HD.out, tellGo, HM2.out, HTK.out, List.append_assoc]; rfl, hB.drew⟩
            case measure => simp [intOf]; omega
      · obtain rfl : i = qs.length := by omega
        have e1 := HV.out
        have e2 := HV2.out
        rw [List.drop_eq_nil_of_le (Nat.le_refl _)] at e1 e2
        rw [List.take_length] at e2
        rw [tellGo, List.append_nil] at e2
        have HE1 := Lib.hid e1
        have HE2 := Lib.hid e2
        clear e1 e2
        go_wp2
        go_ret
        exact ⟨ret_bool HE1.out, ⟨_, by rw [← HE2.out]; exact HA.out.below hB⟩, hB.mono (by omega), Keep.below hB⟩
end Go.Proofs.Ytkkdiapnhnbjkaa
