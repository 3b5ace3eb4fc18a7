/- The document's lease: the walk of Ask, where it may be asked. -/
import Derived.Test.YtkkdiapnhnbjkaaW
namespace Go.Proofs.Ytkkdiapnhnbjkaa
open Go.RowKit
set_option linter.unusedVariables false
attribute [local go_sem ↓] Go.wp_at_zero Go.wp_at_succ

set_option maxRecDepth 100000 in
set_option maxHeartbeats 2000000 in
theorem rask_nil (B b : Nat) (n last : Int) (now epoch : Int) (w : World) (hA : RefAt w B b n last []) (hl0 : 0 ≤ last) (hl1 : last ≤ 1000000) (h1 : 0 ≤ now) (h2 : now ≤ 1099511627776) (h3 : 1 ≤ epoch) (h4 : epoch ≤ 1073741824) :
    Calls Try.prog 16 #[.pointer (some ⟨b, 0, none⟩), .int .i64 now, .int .i64 epoch] w fun e w' => e = .returned (.int .i64 (last + 1)) ∧ RefAt w' B b n (last + 1) [(⟨last + 1, now, epoch, false, false, false, false, false⟩, .slice none 0 0)] ∧ Below B w w' ∧ KeepR w w' := by
  obtain ⟨v, hb, hrow, hts, hBb, hnil⟩ := hA
  obtain rfl := hnil rfl
  have g1 : decide (now < 0) = false := decide_eq_false (by omega)
  have g2 : decide (1099511627776 < now) = false := decide_eq_false (by omega)
  have g3 : decide (epoch < 1) = false := decide_eq_false (by omega)
  have g4 : decide (1073741824 < epoch) = false := decide_eq_false (by omega)
  have e1 : IntKind.i64.wrap (last + 1) = last + 1 := by rw [IntKind.wrap_i64]; omega
  have c1 := hb.cell 1
  have c2 := hb.cell 2
  have f1 := hb.frozen 1
  have f2 := hb.frozen 2
  simp at c1 c2
  have hlb := hb.lt
  have hB : B ≤ w.heap.size := by omega
  have HB1 := Lib.hid (show ∀ m, Blk ((w.drewN m).setCell ⟨b, 1, none⟩ (.int .i64 (last + 1))) b 41 #[.int .i64 n, .int .i64 (last + 1), .slice none 0 0] ∧ KeepR w ((w.drewN m).setCell ⟨b, 1, none⟩ (.int .i64 (last + 1))) ∧ Below B w ((w.drewN m).setCell ⟨b, 1, none⟩ (.int .i64 (last + 1))) from fun m => ⟨(Blk.drewN hb m).set 1 _, KeepR.set (KeepR.refl w) (hb.drewN m) 1 _, (below_drewN' (Below.refl _ _) m).setCell hBb _⟩)
  clear hb hrow hts hnil
  go_enter Try.func16, Try.ntmps16
  go_wp2
  go_quiet (fail)
  go_wp2
  have Z := HB1.out nq
  clear HB1 c1 c2 f1 f2 g1 g2 g3 g4
  generalize (w.drewN nq).setCell ⟨b, 1, none⟩ (.int .i64 (last + 1)) = W at *
  have c1 := Z.1.cell 1
  have c2 := Z.1.cell 2
  have f2 := Z.1.frozen 2
  have hs := Z.2.2.size
  simp at c1 c2
  have hBW : B ≤ W.heap.size := by omega
  have hbW : b < W.heap.size := by omega
  have HZ := Lib.hid Z
  clear Z
  go_region_law (refine step_rowR w rfl (.tmp 59) (.tmp 67) rfl B b #[.int .i64 n, .int .i64 (last + 1), .slice none 0 0] ?q1 hB ?q2 ?q3 0 _ 0 0 [] rfl ?q4 1 _ 0 1 [.int .i64 (last + 1), .int .i64 now, .int .i64 epoch, .slice none 0 0] rfl ?q6 ?q7 (by decide) 1 rfl (by decide) [.int .i64 (last + 1), .int .i64 now, .int .i64 epoch, .slice none 0 0] rfl ?_; (case q1 => exact (((HZ.out.1.alloc _).alloc _).drew)); (case q2 => exact (((HZ.out.2.1.alloc _).alloc _).drew)); (case q3 => exact (((HZ.out.2.2.alloc hBW _).alloc (by simp; omega) _).drew)); (case q4 => first | exact (GRow.drew (GRow.alloc (GRow.empty (Blk.new W 62 #[]) hBW) _)) | exact (GRow.drew (GRow.empty (Blk.newK (by simp)) (by omega)))); (case q6 => first | exact (GRow.drew (GRow.one (Blk.newK (by simp)) (by omega))) | exact (GRow.drew (GRow.alloc (GRow.one (Blk.new W 62 _) hBW) _))); (case q7 => simp [Value.oneCell']); intro g' off' cap' w1 k1 k2 k3 k4 k5 k6 k7; have HF := Lib.hid (ask_end (ps := []) k3 rfl k4 k5 k6 (by simp) hBb); have z2 := k4.frozen 2; have y2 := k4.cell 2; have y1 := k4.cell 1; simp at y1 y2; clear k2 k3 k4 k5 k6 k7)
  all_goals
    go_wp2
    go_ret
    exact ⟨rfl, ⟨_, HF.out.1⟩, HF.out.2.1, HF.out.2.2⟩
end Go.Proofs.Ytkkdiapnhnbjkaa
