/- The document's lease: the walk of Lost. -/
import Derived.Test.YtkkdiapnhnbjkaaU
namespace Go.Proofs.Ytkkdiapnhnbjkaa
open Go.RowKit
set_option linter.unusedVariables false
attribute [local go_sem ↓] Go.wp_at_zero Go.wp_at_succ

/-- All but blocks of the document's own kinds are as they were. -/
def KeepR (w w' : World) : Prop := ∀ (k : Nat) (t : TypeId) (cs : Array Value), t ≠ 41 → t ≠ 62 → Blk w k t cs → Blk w' k t cs
theorem KeepR.refl (w : World) : KeepR w w := fun _ _ _ _ _ h => h
theorem KeepR.trans {a b c : World} (h : KeepR a b) (k : KeepR b c) : KeepR a c := fun i t cs h1 h2 h3 => k i t cs h1 h2 (h i t cs h1 h2 h3)
theorem KeepR.below {w w' : World} (h : Below w.heap.size w w') : KeepR w w' := fun _ _ _ _ _ hb => hb.below h
theorem KeepR.keep3 {w w' : World} (h : KeepR w w') : Keep3 w w' := fun k cs hb => h k 3 cs (by decide) (by decide) hb
theorem rflat_set (ps : List (Q × Value)) (i j : Nat) (p p' : Q × Value) (u : Value) (h : ps[i]? = some p) (hc : rcells p' = (rcells p).set j u) (hj : j < 4) : rflat (ps.set i p') = (rflat ps).set (i * 4 + j) u := by
  induction ps generalizing i with
  | nil => simp at h
  | cons a r ih =>
    have e : ∀ (x : Q × Value) (y : List (Q × Value)), rflat (x :: y) = rcells x ++ rflat y := fun _ _ => rfl
    have hl : (rcells a).length = 4 := rfl
    cases i with
    | zero =>
      simp at h
      subst h
      rw [List.set_cons_zero, e, e, hc, Nat.zero_mul, Nat.zero_add, List.set_append_left _ _ (by omega)]
    | succ i =>
      simp at h
      rw [List.set_cons_succ, e, e, ih i h, List.set_append_right _ _ (by omega), hl, show (i + 1) * 4 + j - 4 = i * 4 + j by omega]
def rl (p : Q × Value) : Q × Value := (p.1.lose, .slice none 0 0)
theorem TS.nil (w : World) (q : Q) : TS w (.slice none 0 0) q.lose := by
  refine ⟨none, 0, [], rfl, rfl, fun j hj => ?_, by simp, by simp, fun _ => ⟨rfl, rfl⟩, fun h => absurd h (by simp)⟩
  match j, hj with
  | 0, _ | 1, _ | 2, _ | 3, _ | 4, _ => rfl

set_option maxRecDepth 100000 in
set_option maxHeartbeats 2000000 in
theorem rlost_any (B b : Nat) (n last : Int) (ps : List (Q × Value)) (w : World) (hA : RefAt w B b n last ps) (hlen : ps.length ≤ 4) :
    Calls Try.prog 20 #[.pointer (some ⟨b, 0, none⟩)] w fun e w' => e = .returned (.tuple #[]) ∧ RefAt w' B b n last (ps.map rl) ∧ Below B w w' ∧ KeepR w w' := by
  obtain ⟨v, hb, hrow, hts, hBb, hnil⟩ := hA
  have c2 := hb.cell 2
  simp at c2
  have hlb := hb.lt
  have HT := Lib.hid (show ∀ p ∈ ps.map rl, TS w p.2 p.1 from fun p hp => by
    rw [List.mem_map] at hp
    obtain ⟨p', -, rfl⟩ := hp
    exact TS.nil w p'.1)
  rcases hrow.2 with ⟨rfl, hz⟩ | ⟨g, off, cap, cs, rfl, k2, k3, k4, k5, k6, k7⟩
  · obtain rfl : ps = [] := List.eq_nil_of_length_eq_zero hz
    clear hnil
    have HR := Lib.hid (show RefAt w B b n last ([].map rl) from ⟨_, hb, hrow, by simp, hBb, fun _ => rfl⟩)
    clear hb hrow hts hz
    go_enter Try.func20, Try.ntmps20
    go_wp2_with fail
    refine wp_loop_rounds 1 ?_
    rw [rounds_succ]
    go_wp2
    go_end0
    exact ⟨rfl, HR.out, Below.refl _ _, KeepR.refl _⟩
  · have HNIL := Lib.hid hnil
    clear hnil
    have HRW := Lib.hid hrow
    have HB0 := Lib.hid hb
    have hlg := k3.lt
    have hne := hrow.ne hb (by decide) g rfl
    have HK3 := Lib.hid k3
    clear k3 k4 k5 k6 k7 hb hrow hts
    go_enter Try.func20, Try.ntmps20
    go_wp2_with fail
    go_loopw [2] (fun iv wr => ∃ i : Nat, iv = .int .i64 i ∧ i ≤ ps.length ∧ Blk wr b 41 #[.int .i64 n, .int .i64 last, .slice (some ⟨g, off, none⟩) ps.length cap] ∧ GRow wr 62 4 B (.slice (some ⟨g, off, none⟩) ps.length cap) ps.length (rflat ((ps.take i).map rl ++ ps.drop i)) ∧ w.grownBy wr (some g)) (fun iv _ => 10 - (intOf iv).toNat)
    case atStart => exact ⟨0, rfl, by omega, HB0.out, by simpa using HRW.out, World.grownBy.refl _ _⟩
    case round =>
      obtain ⟨i, rfl, hi, hbw, hrw, hgw⟩ := hrel
      have hi0 : (0 : Int) ≤ (i : Int) := by omega
      have cw2 := hbw.cell 2
      simp at cw2
      by_cases hin : i < ps.length
      · have hi1 : (i : Int) < (ps.length : Int) := by omega
        have hl : ((ps.take i).map rl).length = i := by simp; omega
        have hgi : ((ps.take i).map rl ++ ps.drop i)[i]? = some ps[i] := by
          rw [List.getElem?_append_right (by omega), hl, Nat.sub_self, List.getElem?_drop, Nat.add_zero, List.getElem?_eq_getElem hin]
        have hc := hrw.cell (i * 4 + 3) (by omega)
        rw [rflat_get _ i _ hgi 3 (by omega)] at hc
        have hW := hrw.setI (i * 4 + 3) (by omega) (.slice none 0 0)
        have hset : ((ps.take i).map rl ++ ps.drop i).set i (rl ps[i]) = (ps.take (i + 1)).map rl ++ ps.drop (i + 1) := by
          rw [List.set_append_right _ _ (by omega), hl, Nat.sub_self, List.drop_eq_getElem_cons hin, List.set_cons_zero, List.take_succ_eq_append_getElem hin, List.map_append, List.append_assoc]
          rfl
        have hfs := rflat_set _ i 3 ps[i] (rl ps[i]) (.slice none 0 0) hgi rfl (by omega)
        rw [hset] at hfs
        rw [← hfs] at hW
        have e3 : (rcells ps[i])[3]? = some ps[i].2 := rfl
        rw [e3] at hc
        obtain ⟨d3, f3⟩ := hc
        rw [← Nat.add_assoc] at d3 f3 hW
        have HW := Lib.hid hW
        have HBW := Lib.hid (hbw.far (p := ⟨g, off + i * 4 + 3, none⟩) (Ne.symm hne) (.slice none 0 0))
        have HG := Lib.hid (grownBy_trans hgw (grownBy_set wr g (off + i * 4 + 3) (.slice none 0 0)))
        generalize ps[i].2 = old at *
        clear hW hset hfs hgi hl hbw hrw hgw e3
        go_wp2
        go_roundw
        case rel => exact ⟨i + 1, by go_num, by omega, HBW.out, HW.out, HG.out⟩
        case measure => simp [intOf]; omega
      · obtain rfl : i = ps.length := by omega
        have hrw2 : GRow wr 62 4 B (.slice (some ⟨g, off, none⟩) ps.length cap) ps.length (rflat (ps.map rl)) := by simpa using hrw
        have HR2 := Lib.hid hrw2
        have HBW := Lib.hid hbw
        have HG := Lib.hid hgw
        clear hrw hrw2 hbw hgw
        have hkr : KeepR w wr := fun k t cs t1 t2 hk => hk.kept HG.out (fun e => t2 (by subst e; exact hk.type_ne HK3.out))
        have HKR := Lib.hid hkr
        clear hkr
        go_wp2
        go_end0
        exact ⟨rfl, ⟨_, HBW.out, by simpa using HR2.out, fun p hp => (HT.out p hp).keep HKR.out.keep3, hBb, fun e => HNIL.out (List.map_eq_nil_iff.1 e)⟩, Below.of_grownBy HG.out k2 hlg, HKR.out⟩
end Go.Proofs.Ytkkdiapnhnbjkaa
