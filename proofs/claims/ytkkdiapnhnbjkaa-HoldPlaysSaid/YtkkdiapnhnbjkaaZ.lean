/- The document's lease: the walk of Ask, where there are questions. -/
import Derived.Test.YtkkdiapnhnbjkaaW
namespace Go.Proofs.Ytkkdiapnhnbjkaa
open Go.RowKit
set_option linter.unusedVariables false
attribute [local go_sem ↓] Go.wp_at_zero Go.wp_at_succ

set_option maxRecDepth 100000 in
set_option maxHeartbeats 4000000 in
theorem rask_some (B b : Nat) (n last : Int) (ps : List (Q × Value)) (now epoch : Int) (w : World) (hA : RefAt w B b n last ps) (hlen : ps.length ≤ 4) (hne : ps ≠ []) (hla : (lastQ (ps.map Prod.fst)).asked ≤ now) (hl0 : 0 ≤ last) (hl1 : last ≤ 1000000) (h1 : 0 ≤ now) (h2 : now ≤ 1099511627776) (h3 : 1 ≤ epoch) (h4 : epoch ≤ 1073741824) :
    Calls Try.prog 16 #[.pointer (some ⟨b, 0, none⟩), .int .i64 now, .int .i64 epoch] w fun e w' => e = .returned (.int .i64 (last + 1)) ∧ RefAt w' B b n (last + 1) (pushR ps (⟨last + 1, now, epoch, false, false, false, false, false⟩, .slice none 0 0)) ∧ Below B w w' ∧ KeepR w w' := by
  obtain ⟨v, hb, hrow, hts, hBb, hnil⟩ := hA
  have h1c := rflat_one ps hts
  obtain ⟨k, hk⟩ : ∃ k, ps.length = k + 1 := ⟨ps.length - 1, by have := List.length_pos_iff.2 hne; omega⟩
  rw [hk] at hrow
  obtain ⟨g, off, cap, rfl, hcap, hBg⟩ := hrow.form (by omega)
  have d1 : ∃ la, la ≤ now ∧ w.cell? ⟨g, off + k * 4 + 1, none⟩ = some (.int .i64 la) := by
    refine ⟨_, hla, ?_⟩
    have hl := lastQ_get (ps.map Prod.fst) (by simp; omega)
    have hpk : ps[k]? = some ps[k] := List.getElem?_eq_getElem (by omega)
    have e : lastQ (ps.map Prod.fst) = (ps[k]).1 := by
      rw [List.length_map, hk, Nat.add_sub_cancel, List.getElem?_map, hpk] at hl
      exact (Option.some.inj hl).symm
    rw [e, Nat.add_assoc, (hrow.cell (k * 4 + 1) (by omega)).1, rflat_get ps k _ hpk 1 (by omega)]
    rfl
  obtain ⟨la, hla, d1⟩ := d1
  have g1 : decide (now < 0) = false := decide_eq_false (by omega)
  have g2 : decide (1099511627776 < now) = false := decide_eq_false (by omega)
  have g3 : decide (epoch < 1) = false := decide_eq_false (by omega)
  have g4 : decide (1073741824 < epoch) = false := decide_eq_false (by omega)
  have g5 : decide (now < la) = false := decide_eq_false (by omega)
  have g6 : decide ((0 : Int) < (k : Int) + 1) = true := decide_eq_true (by omega)
  have hk0 : (0 : Int) ≤ (k : Int) := by omega
  have hk4 : (k : Int) ≤ 3 := by omega
  have e0 : IntKind.i64.wrap ((k : Int) + 1 - 1) = k := by rw [IntKind.wrap_i64]; omega
  have e1 : IntKind.i64.wrap (last + 1) = last + 1 := by rw [IntKind.wrap_i64]; omega
  have c1 := hb.cell 1
  have c2 := hb.cell 2
  have f1 := hb.frozen 1
  simp at c1 c2
  have hlb := hb.lt
  have hB : B ≤ w.heap.size := by omega
  have hgb := hrow.ne hb (by decide)
  have HB1 := Lib.hid (show ∀ m, Blk ((w.drewN m).setCell ⟨b, 1, none⟩ (.int .i64 (last + 1))) b 41 #[.int .i64 n, .int .i64 (last + 1), .slice (some ⟨g, off, none⟩) (k + 1) cap] ∧ KeepR w ((w.drewN m).setCell ⟨b, 1, none⟩ (.int .i64 (last + 1))) ∧ Below B w ((w.drewN m).setCell ⟨b, 1, none⟩ (.int .i64 (last + 1))) ∧ GRow ((w.drewN m).setCell ⟨b, 1, none⟩ (.int .i64 (last + 1))) 62 4 B (.slice (some ⟨g, off, none⟩) (k + 1) cap) (k + 1) (rflat ps) from fun m => ⟨(Blk.drewN hb m).set 1 _, KeepR.set (KeepR.refl w) (hb.drewN m) 1 _, (below_drewN' (Below.refl _ _) m).setCell hBb _, (hrow.drewN m).far hgb _⟩)
  have HTS := Lib.hid hts
  have HK := Lib.hid hk
  have H1C := Lib.hid h1c
  clear hb hrow hts hnil h1c hne hlen hk hgb
  go_enter Try.func16, Try.ntmps16
  go_wp2
  go_quiet (fail)
  go_wp2
  have Z := HB1.out nq
  clear HB1 c1 c2 f1 g1 g2 g3 g4 g5 g6 d1 hla
  generalize (w.drewN nq).setCell ⟨b, 1, none⟩ (.int .i64 (last + 1)) = W at *
  have c1 := Z.1.cell 1
  have c2 := Z.1.cell 2
  have hs := Z.2.2.1.size
  simp at c1 c2
  have hBW : B ≤ W.heap.size := by omega
  have hbW : b < W.heap.size := by omega
  have HZ := Lib.hid Z
  clear Z
  go_region_law (first
    | (refine step_rowR w rfl (.tmp 54) (.tmp 58) rfl B b #[.int .i64 n, .int .i64 (last + 1), .slice (some ⟨g, off, none⟩) (k + 1) cap] ?q1 hB ?q2 ?q3 0 _ 0 0 [] rfl ?q4 (k + 1) g off cap (rflat ps) rfl ?q6 H1C.out (by omega) (k + 1) (by omega) (by omega) (rflat ps) rfl ?_; (case q1 => first | exact ((HZ.out.1.alloc _).drew) | exact (((HZ.out.1.alloc _).alloc _).drew)); (case q2 => first | exact ((HZ.out.2.1.alloc _).drew) | exact (((HZ.out.2.1.alloc _).alloc _).drew)); (case q3 => first | exact ((HZ.out.2.2.1.alloc hBW _).drew) | exact (((HZ.out.2.2.1.alloc hBW _).alloc (by simp; omega) _).drew)); (case q4 => first | exact (GRow.drew (GRow.empty (Blk.new W 62 #[]) hBW)) | exact (GRow.drew (GRow.alloc (GRow.empty (Blk.new W 62 #[]) hBW) _)) | exact (GRow.drew (GRow.empty (Blk.newK (by simp)) (by omega)))); (case q6 => first | exact (GRow.drew (GRow.alloc HZ.out.2.2.2 _)) | exact (GRow.drew (GRow.alloc (GRow.alloc HZ.out.2.2.2 _) _))); intro g' off' cap' w1 k1 k2 k3 k4 k5 k6 k7; have y1 := k4.cell 1; have y2 := k4.cell 2; have z2 := k4.frozen 2; have hs1 := k6.size; have HX := Lib.hid (And.intro k3 (And.intro k4 (And.intro k5 k6))); simp at y1 y2; (first | (have kc := Lib.hid (Blk.kept (Blk.drew (Blk.newK (t := 62) (cs := #[.int .i64 (last + 1), .int .i64 now, .int .i64 epoch, .slice none 0 0]) (K := W.heap.size + 1) (by simp))) k7 (by simp))) | (have kc := Lib.hid (Blk.kept (Blk.drew (Blk.alloc (Blk.new W 62 #[.int .i64 (last + 1), .int .i64 now, .int .i64 epoch, .slice none 0 0]) _)) k7 (by simp))) | skip); clear k2 k3 k4 k5 k6 k7)
    | (refine step_rowR w rfl (.tmp 59) (.tmp 67) rfl B b #[.int .i64 n, .int .i64 (last + 1), .slice (some ⟨g, off, none⟩) (k + 1) cap] ?q1 hB ?q2 ?q3 (k + 1) g' off' cap' (rflat ps) rfl ?q4 1 _ 0 1 [.int .i64 (last + 1), .int .i64 now, .int .i64 epoch, .slice none 0 0] rfl ?q6 ?q7 (by decide) (k + 2) (by omega) (by omega) (rflat ps ++ [.int .i64 (last + 1), .int .i64 now, .int .i64 epoch, .slice none 0 0]) rfl ?_; (case q1 => first | exact HX.out.2.1 | exact HX.out.2.1.alloc _); (case q2 => first | exact HX.out.2.2.1 | exact HX.out.2.2.1.alloc _); (case q3 => first | exact HX.out.2.2.2 | exact HX.out.2.2.2.alloc (by omega) _); (case q4 => first | exact HX.out.1 | exact GRow.alloc HX.out.1 _); (case q6 => first | exact GRow.one kc.out (by omega) | exact GRow.one (Blk.new w1 62 _) (by omega)); (case q7 => simp [Value.oneCell']); intro g'' off'' cap'' w2 k1' k2 k3 k4 k5 k6 k7; have y2' := k4.cell 2; have y1' := k4.cell 1; have z2' := k4.frozen 2; have HF := Lib.hid (ask_end k3 (by rw [HK.out]) k4 k5 k6 HTS.out hBb); simp at y1' y2'; clear k2 k3 k4 k5 k6 k7))
  all_goals
    by_cases hk3 : k = 3
    · subst hk3
      have HG := Lib.hid (show RefV _ _ _ _ _ _ _ ∧ Below _ _ _ ∧ KeepR _ _ from ask_cut HF.out.1 (by rw [List.length_append, HK.out]; rfl) (by omega) HF.out.2.2 HF.out.2.1)
      go_wp2
      go_ret
      exact ⟨rfl, ⟨_, by rw [pushR_cut HK.out]; exact HG.out.1⟩, HG.out.2.1, HG.out.2.2⟩
    · have hk5 : (k : Int) ≤ 2 := by omega
      go_wp2
      go_ret
      exact ⟨rfl, ⟨_, by rw [pushR_add (by rw [HK.out]; omega)]; exact HF.out.1⟩, HF.out.2.1, HF.out.2.2⟩
end Go.Proofs.Ytkkdiapnhnbjkaa
