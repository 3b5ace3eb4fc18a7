/- The walks of the document's detector: NewWatch, Heard, There, Gone; and of Ints. -/
import Derived.Test.YtlbbleomhbjnkaaF
namespace Go.Proofs.Ytlbbleomhbjnkaa
open Go.RowKit
set_option linter.unusedVariables false

theorem own_below {w w' : World} {base : Nat} {e : TypeId} {size : Nat} {v : Value} {n : Nat} {xs : List Value} (h : w.ownsRow base e size v n xs) (hb : Below w.heap.size w w') : w'.ownsRow base e size v n xs := by
  refine ⟨h.1, ?_⟩
  rcases h.2 with h2 | ⟨g, cap, cur, h1, h2, h3, rest⟩
  · exact .inl h2
  · exact .inr ⟨g, cap, cur, h1, h2, (hb.block g (Array.getElem?_eq_some_iff.1 h3).1).trans h3, rest⟩

theorem own_store {w : World} {base : Nat} {e : TypeId} {g cap n k : Nat} {xs : List Value} (h : w.ownsRow base e 1 (.slice (some ⟨g, 0, none⟩) n cap) n xs) (u : Value) : (w.setCell ⟨g, k, none⟩ u).ownsRow base e 1 (.slice (some ⟨g, 0, none⟩) n cap) n (xs.set k u) := by
  refine ⟨by simpa using h.1, ?_⟩
  rcases h.2 with ⟨h2, _⟩ | ⟨g', cap', cur, h1, h2, h3, h4, h5, h6, h7⟩
  · cases h2
  · simp at h1
    obtain ⟨rfl, rfl⟩ := h1
    refine .inr ⟨g, cap, cur.setIfInBounds k u, rfl, h2, Blk.set h3 k u, h4, h5, by simpa using h6, ?_⟩
    rw [← h7]
    simp [List.take_set]

/-- The document's detector: a struct in block b, its times in block g. -/
def RefAt (w : World) (b g n : Nat) (self : Int) (hs : List Int) : Prop :=
  hs.length = n ∧ ∃ cap, Blk w b 44 #[.int .i64 n, .int .i64 self, .slice (some ⟨g, 0, none⟩) n cap] ∧ w.ownsRow 0 3 1 (.slice (some ⟨g, 0, none⟩) n cap) n (hs.map (Value.int .i64))
theorem RefAt.below {w w' : World} {b g n : Nat} {self : Int} {hs : List Int} (h : RefAt w b g n self hs) (hb : Below w.heap.size w w') : RefAt w' b g n self hs := by
  obtain ⟨h0, cap, h1, h2⟩ := h
  exact ⟨h0, cap, Blk.below h1 hb, own_below h2 hb⟩
theorem RefAt.far {w w' : World} {b g n x : Nat} {self : Int} {hs : List Int} (h : RefAt w b g n self hs) (hb : w.grownBy w' (some x)) (h1 : b ≠ x) (h2 : g ≠ x) : RefAt w' b g n self hs := by
  obtain ⟨h0, cap, k1, k2⟩ := h
  exact ⟨h0, cap, (hb.block b (Blk.lt k1) (by intro e; exact h1 (Option.some.inj e))).trans k1, k2.kept hb (.inr (by simp [Value.ownBlock]; exact h2))⟩
theorem RefAt.lt {w : World} {b g n : Nat} {self : Int} {hs : List Int} (h : RefAt w b g n self hs) : b < w.heap.size := by
  obtain ⟨_, cap, h1, _⟩ := h
  exact Blk.lt h1
theorem RefAt.glt {w : World} {b g n : Nat} {self : Int} {hs : List Int} (h : RefAt w b g n self hs) : g < w.heap.size := by
  obtain ⟨_, cap, _, h2⟩ := h
  exact (h2.lt g rfl).2
theorem RefAt.ne {w : World} {b g n : Nat} {self : Int} {hs : List Int} (h : RefAt w b g n self hs) : g ≠ b := by
  obtain ⟨_, cap, h1, h2⟩ := h
  rcases h2.2 with ⟨h2, _⟩ | ⟨g', cap', cur, h3, _, h4, _⟩
  · cases h2
  · simp at h3
    obtain ⟨rfl, rfl⟩ := h3
    rintro rfl
    unfold Blk at h1
    rw [h1] at h4
    cases h4
theorem RefAt.cellg {w : World} {b g n : Nat} {self : Int} {hs : List Int} (h : RefAt w b g n self hs) {k : Nat} (hk : k < n) : w.cell? ⟨g, k, none⟩ = some (.int .i64 (hs.getD k 0)) ∧ w.frozen? ⟨g, k, none⟩ = false := by
  obtain ⟨h0, cap, h1, h2⟩ := h
  have := h2.cells (g := g) rfl k (.int .i64 (hs.getD k 0)) (by simp [h0, hk])
  rw [Addr.add_lit] at this
  refine ⟨by simpa using this, ?_⟩
  rcases h2.2 with ⟨h2, _⟩ | ⟨g', cap', cur, h3, _, h4, _⟩
  · cases h2
  · simp at h3
    obtain ⟨rfl, rfl⟩ := h3
    exact Blk.frozen h4 k

set_option maxHeartbeats 400000 in
theorem rthere_yes (b g k n : Nat) (self now h : Int) (hs : List Int) (w : World) (hr : RefAt w b g n self hs) (hh : hs.getD k 0 = h)
    (h1 : k < n) (h5 : n ≤ 5) (hh0 : 0 ≤ h) (hw : now ≤ 9223372036854775807) :
    Calls Try.prog 16 #[.pointer (some ⟨b, 0, none⟩), .int .i64 now, .int .i64 k] w fun e w' => e = .returned (.bool (thereB self now k h)) ∧ w = w' := by
  have hB : thereB self now k h = decide ((k : Int) = self ∨ now ≤ h ∨ now - h < 12) := rfl
  have hk0 : (0 : Int) ≤ (k : Int) := by omega
  have hk5 : (k : Int) < (n : Int) := by omega
  have hc := (hr.cellg h1).1
  rw [hh] at hc
  obtain ⟨_, cap, hb, _⟩ := hr
  have c0 := Blk.cell hb 0
  have c1 := Blk.cell hb 1
  have c2 := Blk.cell hb 2
  generalize thereB self now k h = r at *
  have HB := Lib.hid hB
  clear hB hh hb
  go_enter Try.func16, Try.ntmps16
  go_wp2
  all_goals
    go_ret
    exact ⟨ret_bool (by rw [HB.out, Bool.eq_iff_iff]; simp; omega), rfl⟩
theorem rthere_no (b g n : Nat) (self now node : Int) (hs : List Int) (w : World) (hr : RefAt w b g n self hs) (h : node < 0 ∨ (n : Int) ≤ node) :
    Calls Try.prog 16 #[.pointer (some ⟨b, 0, none⟩), .int .i64 now, .int .i64 node] w fun e w' => e = .returned (.bool false) ∧ w = w' := by
  obtain ⟨_, cap, hb, _⟩ := hr
  have c0 := Blk.cell hb 0
  clear hb
  by_cases h0 : node < 0
  · clear h
    go_enter Try.func16, Try.ntmps16
    go_wp2
    go_ret
    exact ⟨rfl, rfl⟩
  · have h1 : (n : Int) ≤ node := by omega
    clear h
    go_enter Try.func16, Try.ntmps16
    go_wp2
    go_ret
    exact ⟨ret_bool (by first | rfl | (simp; omega)), rfl⟩

set_option maxHeartbeats 400000 in
theorem rheard_yes (b g k n : Nat) (self now h : Int) (hs : List Int) (w : World) (hr : RefAt w b g n self hs) (hh : hs.getD k 0 = h) (h1 : k < n) :
    Calls Try.prog 11 #[.pointer (some ⟨b, 0, none⟩), .int .i64 now, .int .i64 k] w fun e w' => e = .returned (.tuple #[]) ∧ RefAt w' b g n self (hs.set k (maxZ h now)) ∧ w.grownBy w' (some g) := by
  have hk0 : (0 : Int) ≤ (k : Int) := by omega
  have hk5 : (k : Int) < (n : Int) := by omega
  have hc := (hr.cellg h1).1
  have hf := (hr.cellg h1).2
  rw [hh] at hc
  have HR := Lib.hid hr
  have HH := Lib.hid hh
  obtain ⟨_, cap, hb, _⟩ := hr
  have c0 := Blk.cell hb 0
  have c2 := Blk.cell hb 2
  clear hb hh
  by_cases hlt : h < now
  · go_enter Try.func11, Try.ntmps11
    go_wp2
    go_end0
    have e : maxZ h now = now := by unfold maxZ; rw [if_pos hlt]
    rw [e]
    obtain ⟨h0, cap', k1, k2⟩ := HR.out
    have hne := HR.out.ne
    refine ⟨rfl, ⟨by simpa using h0, cap', Blk.far k1 (by simpa using hne.symm) _, ?_⟩, ⟨rfl, rfl, rfl, by simp [World.setCell], fun j hj hn => Below.heap_setCell w _ _ j (fun e => hn (by rw [e]))⟩⟩
    have := own_store (k := k) k2 (.int .i64 now)
    rwa [← List.map_set] at this
  · go_enter Try.func11, Try.ntmps11
    go_wp2
    go_end0
    have e : maxZ h now = h := by unfold maxZ; rw [if_neg (by omega)]
    rw [e]
    obtain ⟨h0, cap', k1, k2⟩ := HR.out
    have e2 : hs.set k h = hs := by rw [← HH.out]; apply List.ext_getElem (by simp); intro i h1 h2; by_cases e : k = i <;> simp [e]; subst e; simp [List.getElem?_eq_getElem h2]
    exact ⟨rfl, by rw [e2]; exact HR.out, World.grownBy.refl w _⟩
theorem rheard_no (b g n : Nat) (self now node : Int) (hs : List Int) (w : World) (hr : RefAt w b g n self hs) (h : node < 0 ∨ (n : Int) ≤ node) :
    Calls Try.prog 11 #[.pointer (some ⟨b, 0, none⟩), .int .i64 now, .int .i64 node] w fun e w' => e = .returned (.tuple #[]) ∧ w = w' := by
  obtain ⟨_, cap, hb, _⟩ := hr
  have c0 := Blk.cell hb 0
  clear hb
  by_cases h0 : node < 0
  · clear h
    go_enter Try.func11, Try.ntmps11
    go_wp2
    go_end0
    exact ⟨rfl, rfl⟩
  · have h1 : (n : Int) ≤ node := by omega
    clear h
    go_enter Try.func11, Try.ntmps11
    go_wp2
    go_end0
    exact ⟨rfl, rfl⟩
end Go.Proofs.Ytlbbleomhbjnkaa
