/- Questions of a lease: the walk of Lost. -/
import Derived.Test.YtkkdiapnhnbjkaaG
namespace Go.Proofs.Ytkkdiapnhnbjkaa
open Go.RowKit
set_option linter.unusedVariables false
attribute [local go_sem ↓] Go.wp_at_zero Go.wp_at_succ

def Q.lose (q : Q) : Q := ⟨q.id, q.asked, q.epoch, false, false, false, false, false⟩
def lost (qs : List Q) : List Q := qs.map Q.lose
def wipe (w : World) (g o : Nat) : World := ((((w.setCell ⟨g, o, none⟩ (.bool false)).setCell ⟨g, o + 1, none⟩ (.bool false)).setCell ⟨g, o + 2, none⟩ (.bool false)).setCell ⟨g, o + 3, none⟩ (.bool false)).setCell ⟨g, o + 4, none⟩ (.bool false)
theorem Row.wipe {w : World} {B g off len cap i : Nat} {qs : List Q} {q : Q} (h : Row w B (.slice (some ⟨g, off, none⟩) len cap) qs) (hi : qs[i]? = some q) :
    Row (wipe w g (off + i * 8 + 3)) B (.slice (some ⟨g, off, none⟩) len cap) (qs.set i q.lose) := by
  have hl : i < qs.length := (List.getElem?_eq_some_iff.1 hi).1
  have s1 := h.setQ (q' := ⟨q.id, q.asked, q.epoch, false, q.t1, q.t2, q.t3, q.t4⟩) (j := 3) (u := .bool false) hi rfl (by omega)
  have s2 := s1.setQ (i := i) (q := ⟨q.id, q.asked, q.epoch, false, q.t1, q.t2, q.t3, q.t4⟩) (q' := ⟨q.id, q.asked, q.epoch, false, false, q.t2, q.t3, q.t4⟩) (j := 4) (u := .bool false) (by simp [hl]) rfl (by omega)
  have s3 := s2.setQ (i := i) (q := ⟨q.id, q.asked, q.epoch, false, false, q.t2, q.t3, q.t4⟩) (q' := ⟨q.id, q.asked, q.epoch, false, false, false, q.t3, q.t4⟩) (j := 5) (u := .bool false) (by simp [hl]) rfl (by omega)
  have s4 := s3.setQ (i := i) (q := ⟨q.id, q.asked, q.epoch, false, false, false, q.t3, q.t4⟩) (q' := ⟨q.id, q.asked, q.epoch, false, false, false, false, q.t4⟩) (j := 6) (u := .bool false) (by simp [hl]) rfl (by omega)
  have s5 := s4.setQ (i := i) (q := ⟨q.id, q.asked, q.epoch, false, false, false, false, q.t4⟩) (q' := q.lose) (j := 7) (u := .bool false) (by simp [hl]) rfl (by omega)
  simp only [List.set_set] at s5
  exact s5
theorem grownBy_wipe (w : World) (g o : Nat) : w.grownBy (wipe w g o) (some g) :=
  grownBy_trans (grownBy_trans (grownBy_trans (grownBy_trans (grownBy_set _ _ _ _) (grownBy_set _ _ _ _)) (grownBy_set _ _ _ _)) (grownBy_set _ _ _ _)) (grownBy_set _ _ _ _)
theorem HoldV.wipe {w : World} {B b g off len cap i : Nat} {n : Int} {qs : List Q} {q : Q} (h : HoldV w B b n (.slice (some ⟨g, off, none⟩) len cap) qs) (hi : qs[i]? = some q) :
    HoldV (wipe w g (off + i * 8 + 3)) B b n (.slice (some ⟨g, off, none⟩) len cap) (qs.set i q.lose) ∧ Below B w (wipe w g (off + i * 8 + 3)) ∧ Keep w (wipe w g (off + i * 8 + 3)) := by
  obtain ⟨h1, h2, h3⟩ := h
  have hne := h2.ne h1 g rfl
  have hlt := h2.lt g rfl
  have hg := grownBy_wipe w g (off + i * 8 + 3)
  refine ⟨⟨h1.kept hg (Ne.symm hne), h2.wipe hi, h3⟩, Below.of_grownBy hg hlt.1 hlt.2, fun k t cs t1 t2 hk => hk.kept hg ?_⟩
  intro e
  obtain ⟨cs', hb'⟩ := h2.own k (congrArg some e.symm)
  exact t2 (hk.type_ne hb')

set_option maxRecDepth 100000 in
set_option maxHeartbeats 2000000 in
theorem lost_any (B b : Nat) (n : Int) (qs : List Q) (w : World) (hA : HoldAt w B b n qs) (hlen : qs.length ≤ 4) :
    Calls Try.prog 19 #[.pointer (some ⟨b, 0, none⟩)] w fun e w' => e = .returned (.tuple #[]) ∧ HoldAt w' B b n (lost qs) ∧ Below B w w' ∧ Keep w w' := by
  obtain ⟨v, hA0⟩ := hA
  have hA : HoldV w B b n v qs := hA0
  clear hA0
  have HA := Lib.hid hA
  have hlb := hA.1.lt
  have c1 := hA.1.cell 1
  simp at c1
  rcases hA.2.1 with ⟨rfl, rfl⟩ | ⟨g, off, cap, cs, rfl, q2, q3, q4, q5, q6, q7⟩
  · clear hA
    go_enter Try.func19, Try.ntmps19
    go_wp2_with fail
    refine wp_loop_rounds 1 ?_
    rw [rounds_succ]
    go_wp2
    go_end0
    exact ⟨rfl, ⟨_, HA.out⟩, Below.refl _ _, Keep.refl _⟩
  · clear hA q2 q3 q4 q5 q6 q7 c1
    go_enter Try.func19, Try.ntmps19
    have c1 := HA.out.1.cell 1
    simp at c1
    go_wp2_with fail
    go_loopw [11] (fun iv wr => ∃ i : Nat, iv = .int .i64 i ∧ i ≤ qs.length ∧ HoldV wr B b n (.slice (some ⟨g, off, none⟩) qs.length cap) ((qs.take i).map Q.lose ++ qs.drop i) ∧ Below B w wr ∧ Keep w wr) (fun iv _ => 10 - (intOf iv).toNat)
    case atStart => exact ⟨0, rfl, by omega, by simpa using HA.out, Below.refl _ _, Keep.refl _⟩
    case round =>
      obtain ⟨i, rfl, hi, hV, hB, hK⟩ := hrel
      have hi0 : (0 : Int) ≤ (i : Int) := by omega
      by_cases hin : i < qs.length
      · have hi1 : (i : Int) < (qs.length : Int) := by omega
        have hl : ((qs.take i).map Q.lose).length = i := by simp; omega
        have hgi : ((qs.take i).map Q.lose ++ qs.drop i)[i]? = some qs[i] := by
          rw [List.getElem?_append_right (by omega), hl, Nat.sub_self, List.getElem?_drop, Nat.add_zero, List.getElem?_eq_getElem hin]
        have hW := hV.wipe hgi
        have hset : ((qs.take i).map Q.lose ++ qs.drop i).set i qs[i].lose = (qs.take (i + 1)).map Q.lose ++ qs.drop (i + 1) := by
          rw [List.set_append_right _ _ (by omega), hl, Nat.sub_self, List.drop_eq_getElem_cons hin, List.set_cons_zero, List.take_succ_eq_append_getElem hin, List.map_append, List.append_assoc]
          rfl
        rw [hset] at hW
        have HW := Lib.hid hW
        have cb : ∀ j, j < 5 → ∃ t, wr.cell? ⟨g, off + i * 8 + 3 + j, none⟩ = some (.bool t) := fun j hj => by
          rcases hV.2.1 with ⟨h, _⟩ | ⟨g', off', cap', cs', e, h2, h3, h4, h5, h6, h7⟩
          · cases h
          · simp at e
            obtain ⟨⟨rfl, rfl⟩, -, -⟩ := e
            have hf := flat_get _ i _ hgi (3 + j) (by omega)
            have : ∃ t, (qs[i]).cells[3 + j]? = some (.bool t) := by
              match j, hj with
              | 0, _ | 1, _ | 2, _ | 3, _ | 4, _ => exact ⟨_, rfl⟩
            obtain ⟨t, ht⟩ := this
            refine ⟨t, ?_⟩
            rw [h3.cell, show off + i * 8 + 3 + j = off + (i * 8 + (3 + j)) by omega]
            exact h7 _ _ (hf.trans ht)
        have fb : ∀ j, wr.frozen? ⟨g, j, none⟩ = false := fun j => by
          rcases hV.2.1 with ⟨h, _⟩ | ⟨g', off', cap', cs', e, h2, h3, h4, h5, h6, h7⟩
          · cases h
          · simp at e
            obtain ⟨⟨rfl, rfl⟩, -, -⟩ := e
            exact h3.frozen j
        have cw1 := hV.1.cell 1
        simp at cw1
        obtain ⟨x0, y0⟩ := cb 0 (by omega)
        obtain ⟨x1, y1⟩ := cb 1 (by omega)
        obtain ⟨x2, y2⟩ := cb 2 (by omega)
        obtain ⟨x3, y3⟩ := cb 3 (by omega)
        obtain ⟨x4, y4⟩ := cb 4 (by omega)
        rw [Nat.add_zero] at y0
        have z0 := fb (off + i * 8 + 3)
        have z1 := fb (off + i * 8 + 3 + 1)
        have z2 := fb (off + i * 8 + 3 + 2)
        have z3 := fb (off + i * 8 + 3 + 3)
        have z4 := fb (off + i * 8 + 3 + 4)
        have HB := Lib.hid hB
        have HK := Lib.hid hK
        clear cb fb hW hset hgi hl hV hB hK
        go_wp2
        go_roundw
        case rel => exact ⟨i + 1, by go_num, by omega, HW.out.1, HB.out.trans HW.out.2.1, HK.out.trans HW.out.2.2⟩
        case measure => simp [intOf]; omega
      · obtain rfl : i = qs.length := by omega
        have hV2 : HoldV wr B b n (.slice (some ⟨g, off, none⟩) qs.length cap) (lost qs) := by
          simpa [lost] using hV
        have HV2 := Lib.hid hV2
        clear hV hV2
        go_wp2
        go_end0
        exact ⟨rfl, ⟨_, HV2.out⟩, hB, hK⟩
end Go.Proofs.Ytkkdiapnhnbjkaa
