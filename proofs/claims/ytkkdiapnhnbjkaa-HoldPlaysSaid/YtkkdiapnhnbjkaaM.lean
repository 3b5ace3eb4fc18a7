/- The walks of the document's grants: NewGrants, Give, Veto, Place. -/
import Derived.Test.YtkkdiapnhnbjkaaK
namespace Go.Proofs.Ytkkdiapnhnbjkaa
open Go.RowKit
set_option linter.unusedVariables false

theorem info3 : (Try.prog.info? 3).map (fun i => (i.zero, i.size, i.bytes)) = some (some (.int .i64 0), 1, 8) := by kernel_rfl
theorem own_below {w w' : World} {base : Nat} {e : TypeId} {size : Nat} {v : Value} {n : Nat} {xs : List Value} (h : w.ownsRow base e size v n xs) (hb : Below w.heap.size w w') : w'.ownsRow base e size v n xs := by
  refine ⟨h.1, ?_⟩
  rcases h.2 with h2 | ⟨g, cap, cur, h1, h2, h3, rest⟩
  · exact .inl h2
  · exact .inr ⟨g, cap, cur, h1, h2, (hb.block g (Array.getElem?_eq_some_iff.1 h3).1).trans h3, rest⟩

theorem own_store {w : World} {base : Nat} {e : TypeId} {g cap n k : Nat} {xs : List Value} (h : w.ownsRow base e 1 (.slice (some ⟨g, 0, none⟩) n cap) n xs) (u : Value) : (w.setCell ⟨g, k, none⟩ u).ownsRow base e 1 (.slice (some ⟨g, 0, none⟩) n cap) n (xs.set k u) := by
  refine ⟨by simpa using h.1, ?_⟩
  rcases h.2 with ⟨h2, _⟩ | ⟨g', cap', cur, h1, h2, h3, h4, h5, h6, h7⟩
  · cases h2
  · simp at h1
    obtain ⟨rfl, rfl⟩ := h1
    refine .inr ⟨g, cap, cur.setIfInBounds k u, rfl, h2, Blk.set h3 k u, h4, h5, by simpa using h6, ?_⟩
    rw [← h7]
    simp [List.take_set]

theorem own_far {w : World} {base : Nat} {e : TypeId} {size g cap n : Nat} {xs : List Value} (h : w.ownsRow base e size (.slice (some ⟨g, 0, none⟩) n cap) n xs) {p : Addr} (hp : g ≠ p.block) (u : Value) : (w.setCell p u).ownsRow base e size (.slice (some ⟨g, 0, none⟩) n cap) n xs := by
  refine ⟨h.1, ?_⟩
  rcases h.2 with ⟨h2, _⟩ | ⟨g', cap', cur, h1, h2, h3, rest⟩
  · cases h2
  · simp at h1
    obtain ⟨rfl, rfl⟩ := h1
    exact .inr ⟨g, cap, cur, rfl, h2, (Below.heap_setCell w p u g hp).trans h3, rest⟩

theorem ownsRow_succ {w : World} {base n : Nat} {e : TypeId} {size : Nat} {v : Value} {xs : List Value} (h : w.ownsRow base e size v (n + 1) xs) : ∃ g cap, v = .slice (some ⟨g, 0, none⟩) (n + 1) cap := by
  rcases h.2 with ⟨_, h2⟩ | ⟨g, cap, cur, rfl, _⟩
  · omega
  · exact ⟨g, cap, rfl⟩
theorem ownsRow_mono {w : World} {base base' : Nat} {e : TypeId} {size : Nat} {v : Value} {n : Nat} {xs : List Value} (h : w.ownsRow base e size v n xs) (hb : base' ≤ base) : w.ownsRow base' e size v n xs := by
  refine ⟨h.1, ?_⟩
  rcases h.2 with h2 | ⟨g, cap, cur, h1, h2, rest⟩
  · exact .inl h2
  · exact .inr ⟨g, cap, cur, h1, by omega, rest⟩
theorem cell_one_new (w : World) (t : TypeId) (v : Value) : ∀ j u, [v][j]? = some u → (w.alloc (.cells #[v] t)).cell? ((⟨w.heap.size, 0, none⟩ : Addr).add j) = some u := by
  intro j u h
  rw [Addr.add_lit, (Blk.new w t #[v]).cell]
  simpa using h

/-- The document's grants: a struct in block b, its times in block g. -/
def GrantAt (w : World) (b g n : Nat) (began : Int) (hs : List Int) : Prop :=
  hs.length = n ∧ ∃ cap, Blk w b 59 #[.int .i64 n, .int .i64 began, .slice (some ⟨g, 0, none⟩) n cap] ∧ w.ownsRow 0 3 1 (.slice (some ⟨g, 0, none⟩) n cap) n (hs.map (Value.int .i64))
theorem GrantAt.below {w w' : World} {b g n : Nat} {began : Int} {hs : List Int} (h : GrantAt w b g n began hs) (hb : Below w.heap.size w w') : GrantAt w' b g n began hs := by
  obtain ⟨h0, cap, h1, h2⟩ := h
  exact ⟨h0, cap, h1.below hb, own_below h2 hb⟩
theorem GrantAt.keep {w w' : World} {b g n : Nat} {began : Int} {hs : List Int} (h : GrantAt w b g n began hs) (hb : Keep w w') : GrantAt w' b g n began hs := by
  obtain ⟨h0, cap, h1, h2⟩ := h
  refine ⟨h0, cap, hb b 59 _ (by decide) (by decide) h1, h2.1, ?_⟩
  rcases h2.2 with h2 | ⟨g', cap', cur, k1, k2, k3, rest⟩
  · exact .inl h2
  · exact .inr ⟨g', cap', cur, k1, k2, hb g' 3 _ (by decide) (by decide) k3, rest⟩
theorem GrantAt.ne {w : World} {b g n : Nat} {began : Int} {hs : List Int} (h : GrantAt w b g n began hs) : g ≠ b := by
  obtain ⟨_, cap, h1, h2⟩ := h
  rcases h2.2 with ⟨h2, _⟩ | ⟨g', cap', cur, h3, _, h4, _⟩
  · cases h2
  · simp at h3
    obtain ⟨rfl, rfl⟩ := h3
    rintro rfl
    unfold Blk at h1
    rw [h1] at h4
    cases h4
theorem GrantAt.cellg {w : World} {b g n : Nat} {began : Int} {hs : List Int} (h : GrantAt w b g n began hs) {k : Nat} (hk : k < n) : w.cell? ⟨g, k, none⟩ = some (.int .i64 (hs.getD k 0)) ∧ w.frozen? ⟨g, k, none⟩ = false := by
  obtain ⟨h0, cap, h1, h2⟩ := h
  have := h2.cells (g := g) rfl k (.int .i64 (hs.getD k 0)) (by simp [h0, hk])
  rw [Addr.add_lit] at this
  refine ⟨by simpa using this, ?_⟩
  rcases h2.2 with ⟨h2, _⟩ | ⟨g', cap', cur, h3, _, h4, _⟩
  · cases h2
  · simp at h3
    obtain ⟨rfl, rfl⟩ := h3
    exact Blk.frozen h4 k

def NewPost (n : Nat) (now : Int) (w : World) (e : Ending) (w' : World) : Prop :=
  ∃ g, e = .returned (.pointer (some ⟨w.heap.size, 0, none⟩)) ∧ GrantAt w' w.heap.size g n now (List.replicate n (now + 50)) ∧ Below w.heap.size w w' ∧ w.heap.size ≤ g

set_option maxRecDepth 100000 in
set_option maxHeartbeats 1000000 in
theorem rnew_good (n : Nat) (now : Int) (w : World) (h1 : 1 ≤ n) (h2 : n ≤ 5) (h5 : 0 ≤ now) (h6 : now ≤ 1099511627776) :
    Calls Try.prog 13 #[.int .i64 n, .int .i64 now] w (NewPost n now w) := by
  obtain ⟨i0, hi, hz0, hz1, hz2⟩ := info_parts info3
  have hn1 : (1 : Int) ≤ n := by omega
  have hn5 : (n : Int) ≤ 5 := by omega
  go_enter Try.func13, Try.ntmps13
  go_wp2
  go_loopw [6] (fun i wr => ∃ (k : Nat) (v : Value), i = .int .i64 k ∧ k ≤ n ∧ Blk wr w.heap.size 59 #[.int .i64 n, .int .i64 now, v] ∧ wr.ownsRow w.heap.size 3 1 v k ((List.replicate k (now + 50)).map (Value.int .i64)) ∧ Below w.heap.size w wr)
    (fun i _ => 6 - (intOf i).toNat)
  case atStart => exact ⟨0, _, rfl, Nat.zero_le _, Blk.new _ _ _, World.ownsRow_nil _ _ _ _, (Below.refl _ _).alloc (Nat.le_refl _) _⟩
  case round =>
    obtain ⟨k, v, rfl, hk, hb, hown, hB⟩ := hrel
    have hk0 : (0 : Int) ≤ (k : Int) := by omega
    have hne : v.ownBlock ≠ some w.heap.size := by
      rcases hown.2 with ⟨rfl, _⟩ | ⟨g, cap, cur, rfl, _, h4, _⟩
      · simp [Value.ownBlock]
      · intro e
        simp [Value.ownBlock] at e
        subst e
        unfold Blk at hb
        rw [hb] at h4
        cases h4
    have hlb := Blk.lt hb
    by_cases hlt : k < n
    · have hk1 : (k : Int) < (n : Int) := by omega
      have c2 := Blk.cell hb 2
      have f2 := Blk.frozen hb 2
      have HB := Lib.hid hb
      clear hb
      go_wp2_with (at_builtin; refine wpList_append_own _ rfl _ _ 32 rfl w.heap.size 3 i0 (.int .i64 0) 1 8 Try.underlying32 hi hz0 hz1 hz2 rfl (by decide) v k _ rfl (hown.alloc _) ⟨wr.heap.size, 0, none⟩ 1 1 [.int .i64 (now + 50)] rfl rfl (cell_one_new _ _ _) (by simp [Value.oneCell']) (by unfold maxLen; omega) (by omega) (by have := hB.size; simp; omega) ?_; intro v' w1 hown' hgrow _; obtain ⟨g', cap', rfl⟩ := ownsRow_succ hown'; have hb1 : Blk w1 w.heap.size 59 #[.int .i64 n, .int .i64 now, v] := (hgrow.block _ (by simp; omega) hne.symm).trans (Blk.alloc HB.out _); have c3 := Blk.cell hb1 2; have f3 := Blk.frozen hb1 2; have HB1 := Lib.hid hb1; clear hb1)
      go_roundw
      case rel =>
        have hb3 := Blk.set HB1.out 2 (.slice (some ⟨g', 0, none⟩) (k + 1) cap')
        have hne' : g' ≠ w.heap.size := by
          rcases hown'.2 with ⟨h0, _⟩ | ⟨g2, cap2, cur, e, _, h4, _⟩
          · cases h0
          · simp at e
            obtain ⟨rfl, rfl⟩ := e
            rintro rfl
            have := HB1.out
            unfold Blk at this
            rw [this] at h4
            cases h4
        refine ⟨k + 1, _, by go_num, by omega, hb3, ?_, ?_⟩
        · have e : (List.replicate (k + 1) (now + 50)).map (Value.int .i64) = (List.replicate k (now + 50)).map (Value.int .i64) ++ [.int .i64 (now + 50)] := by rw [List.replicate_succ']; simp
          rw [e]
          exact own_far hown' (by simpa using hne') _
        · exact ((hB.alloc hB.size _).grown hgrow (by have := hB.size; simp; omega) (fun j e => (hown.lt j e).1)).setCell (by simp) _
      case measure => simp [intOf]; omega
    · obtain rfl : k = n := by omega
      have HB := Lib.hid hb
      clear hb
      go_wp2
      go_ret
      rcases hown.2 with ⟨_, h0⟩ | ⟨g, cap, cur, rfl, hg, _⟩
      · omega
      · exact ⟨g, rfl, ⟨by simp, cap, HB.out, ownsRow_mono hown (Nat.zero_le _)⟩, hB, hg⟩

set_option maxHeartbeats 400000 in
theorem give_one (b g : Nat) (w : World) (hr : GrantAt w b g 2 0 [50, 50]) :
    Calls Try.prog 14 #[.pointer (some ⟨b, 0, none⟩), .int .i64 500, .int .i64 1] w fun e w' => e = .returned (.bool true) ∧ GrantAt w' b g 2 0 [50, 550] ∧ w.grownBy w' (some g) := by
  have hc := (hr.cellg (k := 1) (by omega)).1
  have hf := (hr.cellg (k := 1) (by omega)).2
  simp at hc
  have HR := Lib.hid hr
  obtain ⟨_, cap, hb, _⟩ := hr
  have c0 := hb.cell 0
  have c1 := hb.cell 1
  have c2 := hb.cell 2
  simp at c0 c1 c2
  clear hb
  go_enter Try.func14, Try.ntmps14
  go_wp2
  go_region
  all_goals
    go_wp2
    go_ret
    obtain ⟨h0, cap', k1, k2⟩ := HR.out
    have hne := HR.out.ne
    refine ⟨rfl, ⟨by simp, cap', Blk.far (p := ⟨g, 1, none⟩) k1 (by simpa using hne.symm) _, ?_⟩, grownBy_drew (grownBy_set _ _ _ _)⟩
    exact own_store (k := 1) k2 (.int .i64 550)
end Go.Proofs.Ytkkdiapnhnbjkaa
