/- Between any two moments clocks differ by no more than a factor of two and four more: in plain words. -/
import Derived.Test.YtphgilkmjkmfaaaI
namespace Go.Proofs.Ytphgilkmjkmfaaa
set_option linter.unusedVariables false

/-- r rounds passed since the clocks showed f. -/
def Near (k : Nat) (f a c : List Int) : Prop :=
  ∃ r : Nat, ∀ j, j < k → f.getD j 0 ≤ a.getD j 0 ∧ a.getD j 0 - f.getD j 0 ≤ 2 * r + c.getD j 0 ∧ (1 ≤ r → r - 1 + c.getD j 0 ≤ a.getD j 0 - f.getD j 0)
def Good (k : Nat) (f l : List Int) : Prop := ∀ i, i < k → ∀ j, j < k → l.getD i 0 - f.getD i 0 ≤ 2 * (l.getD j 0 - f.getD j 0) + 4
def Bd (x : List Int) : Prop := ∀ j, 0 ≤ x.getD j 0 ∧ x.getD j 0 ≤ 1000
def Facts (k fr to i : Nat) (a c fl ll : List Int) : Prop :=
  ((i ≤ fr ∧ fl = []) ∨ (fr < i ∧ fl.length = k ∧ Bd fl ∧ Near k fl a c)) ∧ ((i ≤ to ∧ ll = []) ∨ (to < i ∧ ll.length = k ∧ Bd ll ∧ (fr ≤ to → Good k fl ll)))

theorem take_getD (a : List Int) (k j : Nat) (hj : j < k) : (a.take k).getD j 0 = a.getD j 0 := by
  simp [List.getD, hj]
theorem take_getD_ge (a : List Int) (k j : Nat) (hj : k ≤ j) : (a.take k).getD j 0 = 0 := by
  rw [List.getD_eq_getElem?_getD, List.getElem?_eq_none (by rw [List.length_take]; omega)]; rfl
theorem near_start (k : Nat) (a c : List Int) (M : Int) (h : Inv M a c) : Near k (a.take k) a c := by
  refine ⟨0, fun j hj => ?_⟩
  rw [take_getD a k j hj]
  have := h.2.2.2 j
  exact ⟨by omega, by omega, by omega⟩
theorem near_good (k : Nat) (f a c : List Int) (M : Int) (h : Inv M a c) (hn : Near k f a c) : Good k f (a.take k) := by
  obtain ⟨r, hr⟩ := hn
  intro i hi j hj
  rw [take_getD a k i hi, take_getD a k j hj]
  have h1 := hr i hi
  have h2 := hr j hj
  have h3 := h.2.2.2 i
  have h4 := h.2.2.2 j
  by_cases e : 1 ≤ r
  · have := h2.2.2 e
    omega
  · omega
theorem good_self (k : Nat) (a : List Int) : Good k a a := by
  intro i hi j hj
  omega
theorem near_inc (k : Nat) (f a c : List Int) (M : Int) (h : Inv M a c) (p : Nat) (hp : p < 9) (hn : Near k f a c) : Near k f (inc a p) (inc c p) := by
  obtain ⟨r, hr⟩ := hn
  refine ⟨r, fun j hj => ?_⟩
  unfold inc
  rw [getD_set _ _ _ _ (by have := h.1; rw [Int.toNat_natCast]; omega), getD_set _ _ _ _ (by have := h.2.1; rw [Int.toNat_natCast]; omega), Int.toNat_natCast]
  have := hr j hj
  split
  · rename_i e
    subst e
    exact ⟨by omega, by omega, fun e => by have := this.2.2 e; omega⟩
  · exact this
theorem near_round (k : Nat) (f a c : List Int) (M : Int) (h : Inv M a c) (ho : roundOk k c = true) (hn : Near k f a c) : Near k f a zeros := by
  obtain ⟨r, hr⟩ := hn
  unfold roundOk at ho
  rw [decide_eq_true_iff] at ho
  refine ⟨r + 1, fun j hj => ?_⟩
  rw [zeros_getD]
  have h1 := hr j hj
  have h2 := ho j hj
  have h3 := h.2.2.2 j
  by_cases e : 1 ≤ r
  · have := h1.2.2 e
    exact ⟨by omega, by omega, by omega⟩
  · exact ⟨by omega, by omega, by omega⟩
theorem bd_take (k : Nat) (a c : List Int) (M : Int) (h : Inv M a c) (hM : M ≤ 1000) : Bd (a.take k) := by
  intro j
  by_cases hj : j < k
  · rw [take_getD a k j hj]
    have := h.2.2.1 j
    omega
  · rw [take_getD_ge a k j (by omega)]
    omega
theorem facts_start (k fr to : Nat) : Facts k fr to 0 zeros zeros [] [] := ⟨.inl ⟨by omega, rfl⟩, .inl ⟨by omega, rfl⟩⟩
theorem facts_mid {k fr to i : Nat} {a c fl ll : List Int} {M : Int} (h : Inv M a c) (hM : M ≤ 1000) (hk : k ≤ 9) (hf : Facts k fr to i a c fl ll) :
    Facts k fr to (i + 1) a c (if i = fr then a.take k else fl) (if i = to then a.take k else ll) := by
  have hl : (a.take k).length = k := by simp [h.1]; omega
  have hb := bd_take k a c M h hM
  have hs := near_start k a c M h
  obtain ⟨h1, h2⟩ := hf
  have h1' : (i + 1 ≤ fr ∧ (if i = fr then a.take k else fl) = []) ∨ (fr < i + 1 ∧ (if i = fr then a.take k else fl).length = k ∧ Bd (if i = fr then a.take k else fl) ∧ Near k (if i = fr then a.take k else fl) a c) := by
    by_cases e : i = fr
    · rw [if_pos e]
      exact .inr ⟨by omega, hl, hb, hs⟩
    · rw [if_neg e]
      rcases h1 with ⟨g1, g2⟩ | ⟨g1, g2⟩
      · exact .inl ⟨by omega, g2⟩
      · exact .inr ⟨by omega, g2⟩
  refine ⟨h1', ?_⟩
  by_cases e : i = to
  · rw [if_pos e]
    refine .inr ⟨by omega, hl, hb, fun hft => ?_⟩
    rcases h1' with ⟨g1, _⟩ | ⟨_, _, _, g4⟩
    · omega
    · exact near_good k _ a c M h g4
  · rw [if_neg e]
    rcases h2 with ⟨g1, g2⟩ | ⟨g1, g2, g3, g4⟩
    · exact .inl ⟨by omega, g2⟩
    · refine .inr ⟨by omega, g2, g3, fun hft => ?_⟩
      rw [if_neg (by omega)]
      exact g4 hft
theorem facts_near {k fr to i : Nat} {a c a' c' fl ll : List Int} (h : ∀ f, Near k f a c → Near k f a' c') (hf : Facts k fr to i a c fl ll) : Facts k fr to i a' c' fl ll := by
  obtain ⟨h1, h2⟩ := hf
  refine ⟨?_, h2⟩
  rcases h1 with h1 | ⟨g1, g2, g3, g4⟩
  · exact .inl h1
  · exact .inr ⟨g1, g2, g3, h _ g4⟩
end Go.Proofs.Ytphgilkmjkmfaaa
