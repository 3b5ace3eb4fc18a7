/- The walk of Gone: a range over a function. -/
import Derived.Test.YtlbbleomhbjnkaaB
namespace Go.Proofs.Ytlbbleomhbjnkaa
open Go.RowKit Go.Shelf
set_option linter.unusedVariables false
attribute [local go_sem] Oper.semAt_some

theorem info3 : (Try.prog.info? 3).map (fun i => (i.zero, i.size, i.bytes)) = some (some (.int .i64 0), 1, 8) := by kernel_rfl

theorem missing_any (p : Option Addr) (now : Int) (w : World) :
    Calls Try.prog 18 #[.pointer p, .int .i64 now] w fun e w' => e = .returned (.func (.func 19) #[] #[.pointer (some ⟨w.heap.size, 0, none⟩), .pointer (some ⟨w.heap.size + 1, 0, none⟩)]) ∧ w' = (w.alloc (.cells #[.pointer p] 23)).alloc (.cells #[.int .i64 now] 3) := by
  go_enter Try.func18, Try.ntmps18
  go_wp2
  go_ret
  exact ⟨rfl, rfl⟩

theorem stops (m : Nat) (hm : 1 ≤ m) (Bw Bn b n₀ B n : Nat) (self now : Int) (hs : List Int) (w : World) (hBw : w.cell? ⟨Bw, 0, none⟩ = some (.pointer (some ⟨b, 0, none⟩))) (hBn : w.cell? ⟨Bn, 0, none⟩ = some (.int .i64 now)) (hwt : WatchAt w b n self hs)
    (hl : hs.length = 5) (hn5 : n ≤ 5) (hpos : ∀ k, 0 ≤ hs.getD k 0) (hnow : now ≤ 9223372036854775807) (g1 : Bw < n₀ ∧ Bw ≠ B) (g2 : Bn < n₀ ∧ Bn ≠ B) (g3 : b < n₀ ∧ b ≠ B) (k1 : Bw < w.heap.size) (k2 : Bn < w.heap.size) :
    SeqStopsK Fence.wide m Try.prog 19 #[.pointer (some ⟨Bw, 0, none⟩), .pointer (some ⟨Bn, 0, none⟩)] (fun x : Int => #[Value.int .i64 x]) (KeepB n₀ B) (fun ys => ys = goneTo self now hs n) (fun pre => pre <+: goneTo self now hs n) (goneTo self now hs n).length w := fun l J Jx W hW _ _ hY h0 =>
  miss1_in m hm l Bw Bn b n₀ B n self now hs J Jx hY W ((hW.cell (p := ⟨Bw, 0, none⟩) k1).trans hBw) ((hW.cell (p := ⟨Bn, 0, none⟩) k2).trans hBn) (Blk.below hwt hW) hl hn5 hpos hnow g1 g2 g3 h0

/-- Where the detector is none. -/
theorem miss_nil (m : Nat) (hm : 1 ≤ m) (l Bw Bn : Nat) (J : World → Prop) (W : World) (hBw : W.cell? ⟨Bw, 0, none⟩ = some (.pointer none)) (h0 : J W) :
    CallsIn Fence.wide m Try.prog 19 #[.func (.yield l) #[] #[], .pointer (some ⟨Bw, 0, none⟩), .pointer (some ⟨Bn, 0, none⟩)] W fun e W' => (∃ v, e = .returned v) ∧ J W' := by
  have h17 : Fence.wide.fn 17 := trivial
  refine callsIn_of_wp Try.func19 rfl trivial ?_ rfl
  simp only [Try.ntmps19, List.size_toArray, List.length_cons, List.length_nil, Nat.reduceAdd, Nat.reduceSub, Array.replicate_succ, Array.replicate_zero, List.push_toArray, List.append_toArray, List.nil_append, List.cons_append]
  have C17 := Lib.hid (fun q => callsIn_wide (n := q).2 (is_nil 0 W))
  gi_wp2
  gi_loopw [4] (fun i wr => i = .int .i64 0 ∧ wr = W) (fun i wr => 0)
  case atStart => exact ⟨rfl, rfl⟩
  case round =>
    obtain ⟨rfl, rfl⟩ := hrel
    gi_wp2_with (gi_at_call 17; refine (C17.out _).mono ?_; rintro e w' ⟨rfl, rfl⟩)
    go_end0
    exact ⟨⟨_, rfl⟩, h0⟩
theorem stops_nil (m : Nat) (hm : 1 ≤ m) (Bw Bn n₀ B : Nat) (w : World) (hBw : w.cell? ⟨Bw, 0, none⟩ = some (.pointer none)) (k1 : Bw < w.heap.size) :
    SeqStopsK Fence.wide m Try.prog 19 #[.pointer (some ⟨Bw, 0, none⟩), .pointer (some ⟨Bn, 0, none⟩)] (fun x : Int => #[Value.int .i64 x]) (KeepB n₀ B) (fun ys => ys = []) (fun pre => pre <+: []) 0 w := fun l J Jx W hW _ _ hY h0 =>
  (miss_nil m hm l Bw Bn (J []) W ((hW.cell (p := ⟨Bw, 0, none⟩) k1).trans hBw) h0).mono fun _ _ ⟨h1, h2⟩ => ⟨h1, .inl ⟨[], rfl, h2⟩⟩

/-- Behind 'out = append(out, x)', the box below the rows. -/
theorem appended {W w1 : World} {base B : Nat} {t e : TypeId} {size : Nat} {v v' : Value} {k m : Nat} {xs ys : List Value} {tmp : Obj}
    (hv : Boxed W B t v) (hte : t ≠ e) (hrow : W.ownsRow base e size v k xs) (hbase : base ≤ W.heap.size)
    (hown' : w1.ownsRow base e size v' m ys) (hgrow : (W.alloc tmp).grownBy w1 v.ownBlock) :
    Boxed w1 B t v ∧ Boxed (w1.setCell ⟨B, 0, none⟩ v') B t v' ∧ (w1.setCell ⟨B, 0, none⟩ v').ownsRow base e size v' m ys ∧ KeepsOthers W (w1.setCell ⟨B, 0, none⟩ v') ∧ KeepB base B W (w1.setCell ⟨B, 0, none⟩ v') ∧ (∀ C, C ≤ base → C ≤ B → Below C W (w1.setCell ⟨B, 0, none⟩ v')) := by
  have hv1 : Boxed w1 B t v := (hv.alloc tmp).kept hgrow (hv.not_row hte hrow)
  have hge : ∀ j, v.ownBlock = some j → base ≤ j := fun j ej => (hrow.lt j ej).1
  refine ⟨hv1, hv1.set v', hown'.kept (grownBy_setCell' w1 B v') (.inr (hv1.not_row hte hown').symm), ?_, ?_, ?_⟩
  · refine ((KeepsOthers.alloc W tmp).trans (KeepsOthers.of_grownBy hgrow fun j o ej hj => ?_)).trans (KeepsOthers.setCell _ _ _)
    rcases (hrow.alloc tmp).2 with ⟨rfl, _⟩ | ⟨g, cap, cur, rfl, _, hgb, _⟩
    · simp [Value.ownBlock] at ej
    · obtain rfl : g = j := by simpa [Value.ownBlock] using ej
      rw [hgb] at hj; cases hj; rfl
  · intro i hi hB
    refine ((grownBy_setCell' w1 B v').block i ?_ (fun e => hB (by cases e; rfl))).trans ((hgrow.block i ?_ (fun e => by have := hge i e.symm; omega)).trans (Below.heap_alloc W tmp i (by omega)))
    · have := hgrow.size; simp at this; omega
    · simp; omega
  · intro C h1 h2
    exact (((Below.refl C W).alloc (by omega) tmp).grown hgrow (by simp; omega) fun j ej => by have := hge j ej; omega).setCell (p := ⟨B, 0, none⟩) h2 v'

def GonePost (xs : List Int) (w : World) (e : Ending) (w' : World) : Prop := ∃ v, e = .returned v ∧ w'.ownsRow w.heap.size 3 1 v xs.length (xs.map (Value.int .i64)) ∧ Below w.heap.size w w'
theorem ownsRow_mono {w : World} {base base' : Nat} {e : TypeId} {size : Nat} {v : Value} {n : Nat} {xs : List Value} (h : w.ownsRow base e size v n xs) (hb : base' ≤ base) : w.ownsRow base' e size v n xs := by
  refine ⟨h.1, ?_⟩
  rcases h.2 with h2 | ⟨g, cap, cur, h1, h2, rest⟩
  · exact .inl h2
  · exact .inr ⟨g, cap, cur, h1, by omega, rest⟩

set_option maxRecDepth 100000 in
set_option maxHeartbeats 2000000 in
/-- Gone, of whatever detector, by what its iterator gives: xs. -/
theorem gone_of (p : Option Addr) (now : Int) (xs : List Int) (hlen : xs.length ≤ 5) (w : World)
    (hst : SeqStopsK Fence.wide 2 Try.prog 19 #[.pointer (some ⟨w.heap.size + 1, 0, none⟩), .pointer (some ⟨w.heap.size + 1 + 1, 0, none⟩)] (fun x : Int => #[Value.int .i64 x]) (KeepB (w.heap.size + 3) w.heap.size) (fun ys => ys = xs) (fun pre => pre <+: xs) xs.length (((w.alloc (.cells #[.slice none 0 0] 33)).alloc (.cells #[.pointer p] 23)).alloc (.cells #[.int .i64 now] 3))) :
    Calls Try.prog 13 #[.pointer p, .int .i64 now] w (GonePost xs w) := by
  refine (callsIn_wide (n := 3)).1 ?_
  have h18 : Fence.wide.fn 18 := trivial
  have HS := Lib.hid hst
  have HLEN := Lib.hid hlen
  clear hst hlen
  obtain ⟨i0, hi, hz0, hz1, hz2⟩ := info_parts info3
  refine callsIn_of_wp_marks Try.func13 rfl trivial ?_ rfl
  simp only [Try.ntmps13, List.size_toArray, List.length_cons, List.length_nil, Nat.reduceAdd, Nat.reduceSub, Array.replicate_succ, Array.replicate_zero, List.push_toArray, List.append_toArray, List.nil_append, List.cons_append]
  gi_wp2_with (gi_at_call 18; refine (callsIn_wide.2 (missing_any _ _ _)).mono ?_; rintro e w' ⟨rfl, rfl⟩)
  have bO := Boxed.new w 33 (.slice none 0 0)
  have hB0 : Below w.heap.size w (((w.alloc (.cells #[.slice none 0 0] 33)).alloc (.cells #[.pointer p] 23)).alloc (.cells #[.int .i64 now] 3)) := (((Below.refl _ w).alloc (Nat.le_refl _) _).alloc (by simp) _).alloc (by simp; omega) _
  refine wpIn_rangeFunc_ownG rfl (by omega) (gf := 19) (lb := #[.pointer (some ⟨w.heap.size + 1, 0, none⟩), .pointer (some ⟨w.heap.size + 1 + 1, 0, none⟩)]) rfl trivial (enters_of Try.func19 (by kernel_rfl) rfl)
    HS.out KeepB.trans (keepB_b (by simp)) (Below.refl _ _) (fun _ => rfl)
    (fun pre W => (∃ v, Boxed W w.heap.size 33 v ∧ W.ownsRow (w.heap.size + 3) 3 1 v pre.length (pre.map (Value.int .i64)) ∧ True) ∧ Below w.heap.size w W ∧ w.heap.size + 3 ≤ W.heap.size)
    (fun _ _ _ => False)
    ?own
    (fun _ _ _ _ _ hs _ _ => hs)
    ⟨⟨_, (bO.alloc _).alloc _, World.ownsRow_nil _ _ _ _, trivial⟩, hB0, by simp⟩
    (fun x => { tmps := #[.pointer p, .int .i64 now, undef, undef, .slice none 0 0, .pointer (some ⟨w.heap.size, 0, none⟩), .int .i64 x, .pointer p, .int .i64 now, .func (.func 19) #[] #[.pointer (some ⟨w.heap.size + 1, 0, none⟩), .pointer (some ⟨w.heap.size + 1 + 1, 0, none⟩)], .int .i64 x, undef, undef, undef, undef, undef], defers := [] }) ?assign ?body ?done ?stop
  case own =>
    refine OwnFrom.and (Own.from (holdsRow_own (w.heap.size + 3) w.heap.size 33 3 1 (fun pre : List Int => pre.length) (fun pre => pre.map (Value.int .i64)) (fun pre v => True)) _) (OwnFrom.and (ownFrom_below (Nat.le_refl _) (by simp; omega)) ?_)
    intro s W W' row hs hg _
    exact Nat.le_trans hs hg.size
  case assign =>
    intro l x W K hK
    gi_wp2
    exact hK
  case body =>
    rintro l pre x W ⟨⟨v, hv, hrow, _⟩, hB, hsz⟩ hlt
    have hc := hv.cell
    have hp5 : pre.length ≤ 4 := by have := HLEN.out; omega
    gi_wp2_with (gi_at_builtin; refine wpListIn_append_own _ rfl _ _ 33 rfl (w.heap.size + 3) 3 i0 (.int .i64 0) 1 8 Try.underlying33 hi hz0 hz1 hz2 rfl (by decide) _ _ _ rfl (hrow.alloc _) ⟨W.heap.size, 0, none⟩ 1 1 [.int .i64 x] rfl rfl (cell_one_new _ _ _) (by simp [Value.oneCell']) (by unfold maxLen; omega) (by omega) (by simp; omega) ?_; intro v' w1 hown' hgrow _; obtain ⟨g', cap', rfl⟩ := ownsRow_succ hown'; obtain ⟨hv1, hv2, hr2, hk2, hb2, hc2⟩ := appended hv (by decide) hrow hsz hown' hgrow; have hc1 := hv1.cell; have hf1 := hv1.frozen)
    exact ⟨hk2.from _, hb2, ⟨_, hv2, by simpa using hr2, trivial⟩, hB.trans (hc2 _ (by omega) (Nat.le_refl _)), by have := (hc2 0 (by omega) (by omega)).size; omega⟩
  case done =>
    rintro D ys W hD rfl ⟨⟨v, hv, hrow, _⟩, hB, hsz⟩ hK
    have hc := hv.cell
    gi_wp2
    refine ⟨by simp, .inl ⟨_, _, rfl, run_takeDeferred hK, ?_⟩⟩
    exact ⟨_, results_tmp rfl _ _ _, v, rfl, ownsRow_mono (ownsRow_putObj hrow _ hK rfl) (by omega), hB.trans (belowK_b (w := w) (Nat.le_refl _) W D _ _ (by simp at hD; omega) hK rfl rfl)⟩
  case stop =>
    rintro D c pre W _ _ h _
    exact h.elim
end Go.Proofs.Ytlbbleomhbjnkaa
