/- The document's lease: the walk of Told (1). -/
import Derived.Test.YtkkdiapnhnbjkaaAA
namespace Go.Proofs.Ytkkdiapnhnbjkaa
open Go.RowKit
set_option linter.unusedVariables false
attribute [local go_sem ↓] Go.wp_at_zero Go.wp_at_succ

set_option maxRecDepth 100000 in
set_option maxHeartbeats 8000000 in
theorem rtold_1 (B b : Nat) (n last : Int) (ps : List (Q × Value)) (id : Int) (node : Nat) (w : World) (hA : RefAt w B b n last ps) (hlen : ps.length ≤ 4) (h1 : (node : Int) < n) (h2 : n ≤ 5) (hcase : ∀ p, ps.find? (fun p => meant id (lastQ (ps.map Prod.fst)).epoch p.1) = some p → p.1.bit node = true) :
    Calls Try.prog 17 #[.pointer (some ⟨b, 0, none⟩), .int .i64 id, .int .i64 node] w (RToldPost B b n last ps id node w) := by
  have k1 : toldOk n (ps.map Prod.fst) id node = (ps.map Prod.fst).any (meant id (lastQ (ps.map Prod.fst)).epoch) := by unfold toldOk; rw [decide_eq_true (by omega)]; rfl
  have k2 : toldQs n (ps.map Prod.fst) id node = tellGo id (lastQ (ps.map Prod.fst)).epoch node (ps.map Prod.fst) := by unfold toldQs; rw [if_pos (by omega)]; rfl
  unfold RToldPost
  rw [k1, k2]
  clear k1 k2
  have hn0 : (0 : Int) ≤ (node : Int) := by omega
  have hn5 : (node : Int) < 5 := by omega
  have HA := Lib.hid hA
  obtain ⟨v, hV⟩ := hA
  have hV : RefV w B b n last v ps := hV
  have HV := Lib.hid hV
  obtain ⟨hb, hrow, hts, hBb, hnil⟩ := hV
  have hlb := hb.lt
  have c0 := hb.cell 0
  have c2 := hb.cell 2
  simp at c0 c2
  by_cases hps : ps = []
  · obtain rfl := hnil hps
    subst hps
    clear hb hrow hts hnil
    go_enter Try.func17, Try.ntmps17
    go_wp2_with fail
    refine wp_loop_rounds 1 ?_
    rw [rounds_succ]
    go_wp2
    go_ret
    exact ⟨rfl, ⟨[], HA.out, rfl⟩, Below.refl _ _, KeepR.refl _⟩
  · obtain ⟨k, hk⟩ : ∃ k, ps.length = k + 1 := ⟨ps.length - 1, by have := List.length_pos_iff.2 hps; omega⟩
    rw [hk] at hrow
    obtain ⟨g, off, cap, rfl, hcap, hBg⟩ := hrow.form (by omega)
    have hcell : ∀ (i : Nat) (p : Q × Value), ps[i]? = some p → ∀ j, j < 4 → w.cell? ⟨g, off + i * 4 + j, none⟩ = (rcells p)[j]? := fun i p hi j hj => by
      have hlt : i < ps.length := (List.getElem?_eq_some_iff.1 hi).1
      rw [Nat.add_assoc, (hrow.cell (i * 4 + j) (by omega)).1, rflat_get ps i p hi j hj]
    have hpk : ps[k]? = some ps[k] := List.getElem?_eq_getElem (by omega)
    have el : lastQ (ps.map Prod.fst) = (ps[k]).1 := by
      have hl := lastQ_get (ps.map Prod.fst) (by simp; omega)
      rw [List.length_map, hk, Nat.add_sub_cancel, List.getElem?_map, hpk] at hl
      exact (Option.some.inj hl).symm
    have l2a := hcell k _ hpk 2 (by omega)
    have hlep : ∃ lep, (lastQ (ps.map Prod.fst)).epoch = lep ∧ w.cell? ⟨g, off + k * 4 + 2, none⟩ = some (.int .i64 lep) := ⟨_, rfl, by rw [l2a, el]; rfl⟩
    obtain ⟨lep, hlep, l2⟩ := hlep
    rw [hlep] at hcase ⊢
    have HCS := Lib.hid hcase
    clear hcase
    obtain ⟨_, csg, hbg⟩ := hrow.own g rfl
    have hlg := hbg.lt
    have hgb1 : ¬ g = b := hrow.ne hb (by decide) g rfl
    have hgb2 : ¬ b = g := fun e => hgb1 e.symm
    have HC := Lib.hid hcell
    have HTS := Lib.hid hts
    have HF := Lib.hid (fun (W : World) (hW : Below w.heap.size w W) i => (hbg.below hW).frozen i)
    have hk0 : (0 : Int) ≤ (k : Int) := by omega
    have hk4 : (k : Int) ≤ 3 := by omega
    have e0 : IntKind.i64.wrap ((k : Int) + 1 - 1) = k := by rw [IntKind.wrap_i64]; omega
    have HK := Lib.hid hk
    clear l2a hb hrow hts hnil hcell hpk el hlep hbg hps hcap hk hlen
    go_enter Try.func17, Try.ntmps17
    go_wp2_with fail
    go_loopw [7] (fun iv wr => ∃ i : Nat, iv = .int .i64 i ∧ i ≤ k + 1 ∧ ((ps.drop i).map Prod.fst).any (meant id lep) = (ps.map Prod.fst).any (meant id lep) ∧ (ps.take i).map Prod.fst ++ tellGo id lep node ((ps.drop i).map Prod.fst) = tellGo id lep node (ps.map Prod.fst) ∧ (ps.drop i).find? (fun p => meant id lep p.1) = ps.find? (fun p => meant id lep p.1) ∧ Below w.heap.size w wr) (fun iv _ => 10 - (intOf iv).toNat)
    case atStart => exact ⟨0, rfl, by omega, rfl, rfl, rfl, Below.refl _ _⟩
    case round =>
      obtain ⟨i, rfl, hi, hv, hv2, hv3, hB⟩ := hrel
      have HV3 := Lib.hid hv3
      clear hv3
      have HV1 := Lib.hid hv
      have HV2 := Lib.hid hv2
      clear hv hv2
      have hi0 : (0 : Int) ≤ (i : Int) := by omega
      have cw2 := (hB.cell (p := ⟨b, 2, none⟩) hlb).trans c2
      have lw2 := (hB.cell (p := ⟨g, off + k * 4 + 2, none⟩) hlg).trans l2
      by_cases hin : i < k + 1
      · have hi1 : (i : Int) < (k : Int) + 1 := by omega
        have hin' : i < ps.length := by rw [HK.out]; exact hin
        have hgi := List.getElem?_eq_getElem hin'
        have hdrop : ps.drop i = ps[i] :: ps.drop (i + 1) := List.drop_eq_getElem_cons hin'
        have HD := Lib.hid hdrop
        have HGI := Lib.hid hgi
        have HTK := Lib.hid (show ps.take (i + 1) = ps.take i ++ [ps[i]] from List.take_succ_eq_append_getElem hin')
        have hcc := HC.out i _ hgi
        have hT := HTS.out _ (List.getElem_mem hin')
        generalize ps[i] = p at *
        have d0 := (hB.cell (p := ⟨g, off + i * 4, none⟩) hlg).trans (hcc 0 (by omega))
        have d2 := (hB.cell (p := ⟨g, off + i * 4 + 2, none⟩) hlg).trans (hcc 2 (by omega))
        have d3 := (hB.cell (p := ⟨g, off + i * 4 + 3, none⟩) hlg).trans (hcc 3 (by omega))
        have ed0 : (rcells p)[0]? = some (.int .i64 p.1.id) := rfl
        have ed2 : (rcells p)[2]? = some (.int .i64 p.1.epoch) := rfl
        have ed3 : (rcells p)[3]? = some p.2 := rfl
        rw [ed0] at d0
        rw [ed2] at d2
        rw [ed3] at d3
        have hme : meant id lep p.1 = decide (p.1.id = id ∧ p.1.epoch = lep) := rfl
        have HME := Lib.hid hme
        obtain ⟨qid, qep, eqid, eqep⟩ : ∃ x y, p.1.id = x ∧ p.1.epoch = y := ⟨_, _, rfl, rfl⟩
        rw [eqid] at d0 HME
        rw [eqep] at d2 HME
        clear hcc hdrop hgi ed0 ed2 ed3 hme eqid eqep hin'
        by_cases hid : qid = id
        · subst hid
          have hlgw : g < wr.heap.size := Nat.lt_of_lt_of_le hlg hB.size
          by_cases hep : qep = lep
          · subst hep
            have hme2 : meant qid qep p.1 = true := by rw [HME.out]; simp
            have HM2 := Lib.hid hme2
            clear hme2
            go_wp2_with fail
            go_quiet (fail)
            have hBn := below_drewN' hB nq
            have y2 : (wr.drewN nq).cell? ⟨b, 2, none⟩ = some (.slice (some ⟨g, off, none⟩) (k + 1) cap) := cw2
            have y3 : (wr.drewN nq).cell? ⟨g, off + i * 4 + 3, none⟩ = some p.2 := d3
            clear cw2 lw2 d0 d2 d3
            generalize wr.drewN nq = W at *
            clear hB hlgw wr
            have hs := hBn.size
            have hbW : b < W.heap.size := by omega
            have hgW : g < W.heap.size := by omega
            have hTW := hT.keep (KeepR.below hBn).keep3
            have HOK := Lib.hid (show (ps.map Prod.fst).any (meant qid qep) = true from by rw [← HV1.out, HD.out, List.map_cons, List.any_cons, HM2.out]; rfl)
            have hQ : tellGo qid qep node (ps.map Prod.fst) = (ps.map Prod.fst).set i (p.1.tell node) := by
              rw [← HV2.out, HD.out, List.map_cons, tellGo, HM2.out, if_pos rfl, List.set_eq_take_append_cons_drop, if_pos (by rw [List.length_map, HK.out]; exact hin), List.map_take, List.map_drop]
            obtain ⟨A, tcap, zs, hp2, hl, hbits, hz5, hr, hz0, hzc⟩ := hTW
            rw [hp2] at y3
            have hnode : node < 5 := by omega
            have hbn := hbits node hnode
            have hcs := HCS.out p (by rw [← HV3.out, HD.out]; simp [HM2.out])
            have HAS := has_any A zs.length tcap zs node W ⟨rfl, by omega, fun x hx => by have := hr x hx; omega, fun h0 => by
              obtain ⟨tg, toff, tcs, e, hb, hc⟩ := hzc h0
              exact ⟨tg, toff, e, hb.lt, fun j hj => by rw [hb.cell]; exact hc j hj⟩⟩ (by omega)
            have hmem : (node : Int) ∈ zs := of_decide_eq_true (hbn.symm.trans hcs)
            rw [decide_eq_true hmem] at HAS hbn
            have HAS := Lib.hid HAS
            have HQ := Lib.hid (show ps.map Prod.fst = tellGo qid qep node (ps.map Prod.fst) from by
              rw [hQ, tell_same _ _ hnode hbn, set_same (by rw [List.getElem?_map, HGI.out]; rfl)])
            have HBN := Lib.hid hBn
            clear hQ hbits hzc hr hz0 hl hbn hT
            go_wp2_with fail
            refine HAS.out.mono ?_
            rintro e w2 ⟨rfl, rfl⟩
            go_wp2
            go_ret
            exact ⟨ret_bool HOK.out.symm, ⟨ps, ⟨_, HV.out.below HBN.out⟩, HQ.out⟩, HBN.out.mono (by omega), KeepR.below HBN.out⟩
          · have hep' : (qep == lep) = false := by simpa using hep
            have hme2 : meant qid lep p.1 = false := by rw [HME.out]; simp [hep]
            have HM2 := Lib.hid hme2
            clear hme2
            go_wp2_with fail
            go_quiet (fail)
            go_wp2
            go_roundw
            case rel => exact ⟨i + 1, by go_num, by omega, by rw [← HV1.out, HD.out, List.map_cons, List.any_cons, HM2.out, Bool.false_or], by rw [← HV2.out, HD.out, List.map_cons, tellGo, HM2.out, HTK.out, List.map_append, List.append_assoc]; rfl, by rw [← HV3.out, HD.out]; simp [HM2.out], below_drewN' hB _⟩
            case measure => simp [intOf]; omega
        · have hid' : (qid == id) = false := by simpa using hid
          have hme2 : meant id lep p.1 = false := by rw [HME.out]; simp [hid]
          have HM2 := Lib.hid hme2
          clear hme2
          go_wp2_with fail
          go_quiet (fail)
          go_wp2
          go_roundw
          case rel => exact ⟨i + 1, by go_num, by omega, by rw [← HV1.out, HD.out, List.map_cons, List.any_cons, HM2.out, Bool.false_or], by rw [← HV2.out, HD.out, List.map_cons, tellGo, HM2.out, HTK.out, List.map_append, List.append_assoc]; rfl, by rw [← HV3.out, HD.out]; simp [HM2.out], below_drewN' hB _⟩
          case measure => simp [intOf]; omega
      · obtain rfl : i = k + 1 := by omega
        have e1 := HV1.out
        have e2 := HV2.out
        rw [List.drop_eq_nil_of_le (by rw [HK.out]; exact Nat.le_refl _)] at e1 e2
        rw [List.take_of_length_le (by rw [HK.out]; exact Nat.le_refl _)] at e2
        rw [List.map_nil, tellGo, List.append_nil] at e2
        have HE1 := Lib.hid e1
        have HE2 := Lib.hid e2
        clear e1 e2
        go_wp2
        go_ret
        exact ⟨ret_bool HE1.out, ⟨ps, ⟨_, HV.out.below hB⟩, HE2.out⟩, hB.mono (by omega), KeepR.below hB⟩
end Go.Proofs.Ytkkdiapnhnbjkaa
