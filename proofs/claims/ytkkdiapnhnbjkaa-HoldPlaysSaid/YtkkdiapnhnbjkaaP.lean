/- A row with an offset, of whatever cells; append onto it as a step. -/
import Derived.Test.YtkkdiapnhnbjkaaL
import Derived.Test.YtkkdiapnhnbjkaaM
namespace Go.Proofs.Ytkkdiapnhnbjkaa
open Go.RowKit
set_option linter.unusedVariables false

/-- The slice v, of n elements of T of S cells each, reads as the cells xs; it is nil or lies in a block of its own from B on. -/
def GRow (w : World) (T : TypeId) (S B : Nat) (v : Value) (n : Nat) (xs : List Value) : Prop :=
  xs.length = n * S ∧ ((v = .slice none 0 0 ∧ n = 0) ∨ ∃ g off cap cs, v = .slice (some ⟨g, off, none⟩) n cap ∧ B ≤ g ∧ Blk w g T cs ∧ n ≤ cap ∧ cap ≤ maxLen ∧ cs.size = off + cap * S ∧
    ∀ (i : Nat) (u : Value), xs[i]? = some u → cs[off + i]? = some u)
section
variable {w w' : World} {T : TypeId} {S B n : Nat} {v : Value} {xs : List Value}
theorem GRow.alloc (h : GRow w T S B v n xs) (o : Obj) : GRow (w.alloc o) T S B v n xs := by
  obtain ⟨h0, h | ⟨g, off, cap, cs, h1, h2, h3, h4⟩⟩ := h
  · exact ⟨h0, .inl h⟩
  · exact ⟨h0, .inr ⟨g, off, cap, cs, h1, h2, h3.alloc o, h4⟩⟩
theorem GRow.drew (h : GRow w T S B v n xs) : GRow w.drew T S B v n xs := h
theorem GRow.kept {x : Nat} (h : GRow w T S B v n xs) (hg : w.grownBy w' (some x)) (hne : ∀ g, v.ownBlock = some g → g ≠ x) : GRow w' T S B v n xs := by
  obtain ⟨h0, h | ⟨g, off, cap, cs, rfl, h2, h3, h4⟩⟩ := h
  · exact ⟨h0, .inl h⟩
  · exact ⟨h0, .inr ⟨g, off, cap, cs, rfl, h2, h3.kept hg (hne g rfl), h4⟩⟩
theorem GRow.own (h : GRow w T S B v n xs) : ∀ g, v.ownBlock = some g → B ≤ g ∧ ∃ cs, Blk w g T cs := by
  rintro g e
  obtain ⟨h0, ⟨rfl, _⟩ | ⟨g', off, cap, cs, rfl, h2, h3, h4⟩⟩ := h
  · cases e
  · cases e
    exact ⟨h2, cs, h3⟩
theorem GRow.ne {b t : Nat} {cs : Array Value} (h : GRow w T S B v n xs) (hb : Blk w b t cs) (ht : t ≠ T) : ∀ g, v.ownBlock = some g → g ≠ b := by
  rintro g e rfl
  obtain ⟨_, cs', hb'⟩ := h.own g e
  exact ht (hb.type_ne hb')
theorem GRow.cell {g off cap : Nat} (h : GRow w T S B (.slice (some ⟨g, off, none⟩) n cap) n xs) (i : Nat) (hi : i < n * S) : w.cell? ⟨g, off + i, none⟩ = xs[i]? ∧ w.frozen? ⟨g, off + i, none⟩ = false := by
  obtain ⟨h0, ⟨h, _⟩ | ⟨g', off', cap', cs, e, h2, h3, h4, h5, h6, h7⟩⟩ := h
  · cases h
  · simp at e
    obtain ⟨⟨rfl, rfl⟩, rfl⟩ := e
    have hlt : i < xs.length := by omega
    refine ⟨?_, h3.frozen _⟩
    rw [h3.cell, List.getElem?_eq_getElem hlt]
    exact h7 _ _ (List.getElem?_eq_getElem hlt)
theorem GRow.setI {g off cap : Nat} (h : GRow w T S B (.slice (some ⟨g, off, none⟩) n cap) n xs) (i : Nat) (hi : i < n * S) (u : Value) : GRow (w.setCell ⟨g, off + i, none⟩ u) T S B (.slice (some ⟨g, off, none⟩) n cap) n (xs.set i u) := by
  obtain ⟨h0, ⟨h, _⟩ | ⟨g', off', cap', cs, e, h2, h3, h4, h5, h6, h7⟩⟩ := h
  · cases h
  · simp at e
    obtain ⟨⟨rfl, rfl⟩, rfl⟩ := e
    have hm : n * S ≤ cap * S := Nat.mul_le_mul_right S h4
    refine ⟨by simpa using h0, .inr ⟨g, off, cap, _, rfl, h2, h3.set (off + i) u, h4, h5, by simpa using h6, fun j y hy => ?_⟩⟩
    rw [List.getElem?_set] at hy
    rw [Array.getElem?_setIfInBounds]
    split at hy
    · rename_i e
      rw [if_pos (by omega)]
      split at hy
      · rw [if_pos (by omega)]; exact hy
      · cases hy
    · rw [if_neg (by omega)]
      exact h7 j y hy
end

/-- append of m elements, as a step. -/
theorem step_grow {ops : Array Oper} {o : Oper} {a : Act} {w : World} {K : Act → World → Prop} {R : Exit → Act → World → Prop} {E : Prop}
    (hg : o.guard = none) (s x : Operand) (t : TypeId) (hop : o.op = Op.call { callee := Callee.builtin Builtin.append, args := #[s, x], argTypes := #[t, t] })
    (T : TypeId) (i0 : TypeInfo) (z : Value) (S bytes : Nat) (ht : Try.prog.underlying t = some (.slice T)) (hi : Try.prog.info? T = some i0) (hz0 : i0.zero = some z) (hz1 : i0.size = S) (hz2 : i0.bytes = bytes) (hz3 : z.cells.size = S) (hS : 0 < S) (hb32 : bytes ≤ 1000)
    (B : Nat) (v : Value) (n : Nat) (xs : List Value) (hs : a.eval s = v) (hrow : GRow w T S B v n xs) (ad : Addr) (m c : Nat) (news : List Value) (hx : a.eval x = .slice (some ad) m c)
    (hl : news.length = m * S) (hc : ∀ j u, news[j]? = some u → w.cell? (ad.add j) = some u) (h1c : ∀ u ∈ news, u.oneCell' = true) (hm : 0 < m) (hB : B ≤ w.heap.size) (hlen : n + m ≤ 100)
    (hK : ∀ v' w', GRow w' T S B v' (n + m) (xs ++ news) → w.grownBy w' v.ownBlock → K (a.put o.dst v') w') :
    if Region.wanted o (yielded ops a.tmps) = true then Oper.wp Try.prog o a w K R else E := by
  obtain ⟨h0, hrow⟩ := hrow
  have hbig : (n + m) * bytes ≤ 140737488355328 := Nat.le_trans (Nat.mul_le_mul hlen hb32) (by decide)
  have hgrown : ∀ v' w', w'.ownsRow w.heap.size T S v' (n + m) (xs ++ news) → GRow w' T S B v' (n + m) (xs ++ news) := fun v' w' h => by
    refine ⟨h.1, ?_⟩
    rcases h.2 with ⟨_, h0⟩ | ⟨g', cap', cur, rfl, k2, k3, k4, k5, k6, k7⟩
    · omega
    · refine .inr ⟨g', 0, cap', cur, rfl, by omega, k3, k4, k5, by omega, fun i u hu => ?_⟩
      rw [← k7, List.getElem?_take] at hu
      rw [Nat.zero_add]
      split at hu
      · simpa using hu
      · cases hu
  rcases hrow with ⟨rfl, rfl⟩ | ⟨g, off, cap, cs, rfl, h2, h3, h4, h5, h6, h7⟩
  · obtain rfl : xs = [] := List.eq_nil_of_length_eq_zero (by simpa using h0)
    exact step_append_grows hg s x t hop T i0 z S bytes ht hi hz0 hz1 hz2 hz3 hS none 0 0 [] hs (fun _ => ⟨rfl, rfl⟩) (by simp) (by simp)
      ad m c news hx hl hc h1c (by omega) (by unfold maxLen; omega) hbig
      (fun v' w' h1 h2 => hK v' w' (hgrown v' w' h1) h2)
  · by_cases hroom : n + m ≤ cap
    · have hmul : (n + m) * S ≤ cap * S := Nat.mul_le_mul_right S hroom
      have hadd : (n + m) * S = n * S + m * S := Nat.add_mul n m S
      have hset := Blk.setCells (b := g) (t := T) news (off + n * S) cs.toList w (by simpa using h3) (by simp; omega)
      refine step_append_room hg s x t hop T i0 S ht hi hz1 g off n cap hs ad m c news hx hl hc h1c hroom (fun j hj => ?_) (hK _ _ ⟨by simp [h0, hl, hadd], ?_⟩ hset.2)
      · refine ⟨?_, h3.frozen _⟩
        rw [h3.cell, Array.getElem?_eq_getElem (by omega)]
        rfl
      · refine .inr ⟨g, off, cap, _, rfl, h2, hset.1, hroom, h5, ?_, fun i u hu => ?_⟩
        · simp; omega
        · simp only [List.getElem?_toArray]
          by_cases hi : i < n * S
          · rw [List.getElem?_append_left (by omega)] at hu
            rw [List.append_assoc, List.getElem?_append_left (by simp; omega), List.getElem?_take, if_pos (by omega)]
            simpa using h7 i u hu
          · rw [List.getElem?_append_right (by omega)] at hu
            have h8 : i - xs.length < news.length := (List.getElem?_eq_some_iff.1 hu).1
            have hto : (cs.toList.take (off + n * S)).length = off + n * S := by simp; omega
            rw [List.append_assoc, List.getElem?_append_right (by omega), List.getElem?_append_left (by omega), ← hu]
            congr 1
            omega
    · exact step_append_grows hg s x t hop T i0 z S bytes ht hi hz0 hz1 hz2 hz3 hS (some ⟨g, off, none⟩) n cap xs hs (fun e => by cases e) h0
        (fun b e j u hu => by
          cases e
          rw [Addr.add_lit, h3.cell]
          exact h7 j u hu)
        ad m c news hx hl hc h1c (by omega) (by unfold maxLen; omega) hbig
        (fun v' w' k1 k2 => hK v' w' (hgrown v' w' k1) ⟨k2.os, k2.tape, k2.output, k2.size, fun k hk _ => k2.block k hk (by simp)⟩)
end Go.Proofs.Ytkkdiapnhnbjkaa
