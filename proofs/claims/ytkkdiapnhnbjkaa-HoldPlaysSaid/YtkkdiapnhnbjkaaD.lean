/- Questions of a lease: the walks of add and Ask. -/
import Derived.Test.YtkkdiapnhnbjkaaC
import Derived.Deep.RegionHeld3
import Derived.Deep.DrawnRows
namespace Go.Proofs.Ytkkdiapnhnbjkaa
open Go.RowKit
set_option linter.unusedVariables false
attribute [local go_sem ↓] Go.wp_at_zero Go.wp_at_succ

theorem Row.alloc {w : World} {B : Nat} {v : Value} {qs : List Q} (h : Row w B v qs) (o : Obj) : Row (w.alloc o) B v qs := by
  rcases h with h | ⟨g, off, cap, cs, h1, h2, h3, h4⟩
  · exact .inl h
  · exact .inr ⟨g, off, cap, cs, h1, h2, h3.alloc o, h4⟩
theorem Row.drew {w : World} {B : Nat} {v : Value} {qs : List Q} (h : Row w B v qs) : Row w.drew B v qs := h
theorem Row.kept {w w' : World} {B : Nat} {v : Value} {qs : List Q} {x : Nat} (h : Row w B v qs) (hg : w.grownBy w' (some x)) (hne : ∀ g, v.ownBlock = some g → g ≠ x) : Row w' B v qs := by
  rcases h with h | ⟨g, off, cap, cs, rfl, h2, h3, h4⟩
  · exact .inl h
  · exact .inr ⟨g, off, cap, cs, rfl, h2, h3.kept hg (hne g rfl), h4⟩
theorem Row.ne {w : World} {B b : Nat} {v : Value} {qs : List Q} {cs : Array Value} (h : Row w B v qs) (hb : Blk w b 50 cs) : ∀ g, v.ownBlock = some g → g ≠ b := by
  rintro g e rfl
  rcases h with ⟨rfl, _⟩ | ⟨g', off, cap, cs', rfl, h2, h3, h4⟩
  · cases e
  · cases e
    unfold Blk at hb h3
    rw [hb] at h3
    cases h3
theorem Row.lt {w : World} {B : Nat} {v : Value} {qs : List Q} (h : Row w B v qs) : ∀ g, v.ownBlock = some g → B ≤ g ∧ g < w.heap.size := by
  rintro g e
  rcases h with ⟨rfl, _⟩ | ⟨g', off, cap, cs', rfl, h2, h3, h4⟩
  · cases e
  · cases e
    exact ⟨h2, h3.lt⟩
theorem Row.form {w : World} {B : Nat} {v : Value} {qs : List Q} {q : Q} (h : Row w B v (qs ++ [q])) : ∃ g off cap, v = .slice (some ⟨g, off, none⟩) (qs.length + 1) cap ∧ qs.length + 1 ≤ cap ∧ B ≤ g := by
  rcases h with ⟨_, h⟩ | ⟨g, off, cap, cs, rfl, h2, h3, h4, h5⟩
  · simp at h
  · exact ⟨g, off, cap, by simp, by simpa using h4, h2⟩
theorem Row.tail {w : World} {B g off n cap : Nat} {p : Q} {r : List Q} (h : Row w B (.slice (some ⟨g, off, none⟩) n cap) (p :: r)) : Row w B (.slice (some ⟨g, off + 8, none⟩) r.length (cap - 1)) r := by
  rcases h with ⟨_, h⟩ | ⟨g', off', cap', cs, e, h2, h3, h4, h5, h6, h7⟩
  · simp at h
  · simp at e
    obtain ⟨⟨rfl, rfl⟩, rfl, rfl⟩ := e
    simp at h4
    refine .inr ⟨g, off + 8, cap - 1, cs, rfl, h2, h3, by omega, by omega, by omega, fun i u hu => ?_⟩
    rw [Nat.add_assoc]
    refine h7 (8 + i) u ?_
    rw [flat_cons, List.getElem?_append_right (by rw [cells_len]; omega), cells_len, show 8 + i - 8 = i by omega]
    exact hu
theorem hold_set {w : World} {b : Nat} {n v : Value} (h : Blk w b 50 #[n, v]) (u : Value) : Blk (w.setCell ⟨b, 1, none⟩ u) b 50 #[n, u] := h.set 1 u
def HoldV (w : World) (B b : Nat) (n : Int) (v : Value) (qs : List Q) : Prop := Blk w b 50 #[.int .i64 n, v] ∧ Row w B v qs ∧ B ≤ b
/-- Only block b, v's own row and new blocks have turned. -/
def Fine (w w' : World) (b : Nat) (v : Value) : Prop := ∀ k, k < w.heap.size → k ≠ b → v.ownBlock ≠ some k → w'.heap[k]? = w.heap[k]?
theorem Fine.set {w w' : World} {b : Nat} {v : Value} (h : Fine w w' b v) (i : Nat) (u : Value) : Fine w (w'.setCell ⟨b, i, none⟩ u) b v :=
  fun k h1 h2 h3 => (Below.heap_setCell w' _ u k h2).trans (h k h1 h2 h3)
def push (qs : List Q) (q : Q) : List Q := if 4 < qs.length + 1 then (qs ++ [q]).drop 1 else qs ++ [q]

set_option maxHeartbeats 1000000 in
theorem add_any (B b : Nat) (n : Int) (v : Value) (qs : List Q) (q : Q) (w : World) (hA : HoldV w B b n v qs) (hlen : qs.length ≤ 4) :
    Calls Try.prog 22 #[.pointer (some ⟨b, 1, none⟩), q.val] w fun e w' => e = .returned (.tuple #[]) ∧ HoldAt w' B b n (push qs q) ∧ Below B w w' ∧ Fine w w' b v := by
  obtain ⟨hb, hrow, hBb⟩ := hA
  have c1 := hb.cell 1
  simp at c1
  have f1 := hb.frozen 1
  have hlb := hb.lt
  have hne := Lib.hid (hrow.ne hb)
  have hlt := Lib.hid hrow.lt
  obtain ⟨id, asked, epoch, t0, t1, t2, t3, t4⟩ := q
  show Calls Try.prog 22 #[.pointer (some ⟨b, 1, none⟩), .agg #[.int .i64 id, .int .i64 asked, .int .i64 epoch, .bool t0, .bool t1, .bool t2, .bool t3, .bool t4]] w _
  have hnew : ∀ W : World, W.heap.size = w.heap.size + 1 → Blk (W.alloc (.cells #[.int .i64 id, .int .i64 asked, .int .i64 epoch, .bool t0, .bool t1, .bool t2, .bool t3, .bool t4] 53)) (w.heap.size + 1) 53 #[.int .i64 id, .int .i64 asked, .int .i64 epoch, .bool t0, .bool t1, .bool t2, .bool t3, .bool t4] := fun W e => e ▸ Blk.new W 53 _
  have HN := Lib.hid hnew
  have hk : ∀ W w1 : World, Below w.heap.size w W → W.grownBy w1 v.ownBlock → Blk w1 b 50 #[.int .i64 n, v] ∧ Below B w w1 ∧ Fine w w1 b v := fun W w1 hB hg => by
    refine ⟨(hg.block b (Nat.lt_of_lt_of_le hlb hB.size) (fun e => hne.out b e.symm rfl)).trans (hb.below hB), ?_⟩
    refine ⟨(hB.mono (by omega)).grown hg (by have := hB.size; omega) (fun j e => (hlt.out j e).1), fun k h1 h2 h3 => ?_⟩
    exact (hg.block k (Nat.lt_of_lt_of_le h1 hB.size) (fun e => h3 e.symm)).trans (hB.block k h1)
  have HK := Lib.hid hk
  clear hnew hk
  go_enter Try.func22, Try.ntmps22
  go_wp2
  have hl2 : qs.length = 4 ∨ qs.length ≤ 3 := by omega
  go_region_law (refine step_row rfl (.tmp 8) (.tmp 10) rfl B v qs ⟨id, asked, epoch, t0, t1, t2, t3, t4⟩ rfl ((hrow.alloc _).drew.alloc _) _ rfl (HN.out _ (by simp)) (by simp; omega) hlen ?_; intro v' w1 hrow' hgrow; obtain ⟨g, off, cap, rfl, hcap, hBg⟩ := hrow'.form; obtain ⟨hb1, hB1, hF1⟩ := HK.out _ _ (((Below.refl _ w).alloc (Nat.le_refl _) _).drew.alloc (by simp) _) hgrow; have c2 := hb1.cell 1; have f2 := hb1.frozen 1; simp at c2)
  all_goals
    have hgb := (hrow'.ne hb1) g rfl
    have HB1 := Lib.hid hb1
    have HR1 := Lib.hid hrow'
    have HNE := Lib.hid (hrow'.ne hb1)
    rcases hl2 with hl3 | hl3
    · have hl4 : ((qs.length : Nat) : Int) = 4 := by omega
      clear hb1 hrow' hrow hlen
      go_wp2
      go_end0
      refine ⟨rfl, ⟨_, hold_set (hold_set HB1.out _) _, ?_, hBb⟩, (hB1.setCell (p := ⟨b, 1, none⟩) hBb _).setCell (p := ⟨b, 1, none⟩) hBb _, (hF1.set 1 _).set 1 _⟩
      obtain ⟨p, r, e⟩ : ∃ p r, qs ++ [(⟨id, asked, epoch, t0, t1, t2, t3, t4⟩ : Q)] = p :: r := by
        cases qs with
        | nil => exact ⟨_, _, rfl⟩
        | cons p r => exact ⟨_, _, rfl⟩
      have e2 : push qs ⟨id, asked, epoch, t0, t1, t2, t3, t4⟩ = r := by unfold push; rw [if_pos (by omega), e]; rfl
      have e3 : r.length = 4 := by have := congrArg List.length e; simp at this; omega
      have hr := HR1.out
      rw [e] at hr
      have ht := hr.tail
      rw [e3] at ht
      rw [e2]
      exact (ht.kept (grownBy_set _ b 1 _) (fun g' e => HNE.out g' e)).kept (grownBy_set _ b 1 _) (fun g' e => HNE.out g' e)
    · have hl4 : ((qs.length : Nat) : Int) ≤ 3 := by omega
      clear hb1 hrow' hrow hlen
      go_wp2
      go_end0
      refine ⟨rfl, ⟨_, hold_set HB1.out _, ?_, hBb⟩, hB1.setCell (p := ⟨b, 1, none⟩) hBb _, hF1.set 1 _⟩
      have e2 : push qs ⟨id, asked, epoch, t0, t1, t2, t3, t4⟩ = qs ++ [⟨id, asked, epoch, t0, t1, t2, t3, t4⟩] := by unfold push; rw [if_neg (by omega)]
      rw [e2]
      exact HR1.out.kept (grownBy_set _ b 1 _) HNE.out
end Go.Proofs.Ytkkdiapnhnbjkaa
