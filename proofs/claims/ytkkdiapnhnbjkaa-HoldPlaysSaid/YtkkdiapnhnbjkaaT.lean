/- The document's lease: who told; append onto it; the end of Told. -/
import Derived.Test.YtkkdiapnhnbjkaaW
namespace Go.Proofs.Ytkkdiapnhnbjkaa
open Go.RowKit
set_option linter.unusedVariables false

def ints (zs : List Int) : List Value := zs.map (Value.int .i64)
theorem ints_len (zs : List Int) : (ints zs).length = zs.length := by simp [ints]
theorem ints_one (zs : List Int) : ∀ u ∈ ints zs, u.oneCell' = true := by
  intro u hu
  simp only [ints, List.mem_map] at hu
  obtain ⟨x, -, rfl⟩ := hu
  rfl
theorem GRow.empty3 {w : World} {B K : Nat} (h : Blk w K 3 #[]) (hK : B ≤ K) : GRow w 3 1 B (.slice (some ⟨K, 0, none⟩) 0 0) 0 [] := ⟨rfl, .inr ⟨K, 0, 0, #[], rfl, hK, h, Nat.le_refl _, by decide, rfl, by simp⟩⟩
theorem GRow.below {w w' : World} {T : TypeId} {S B n : Nat} {v : Value} {xs : List Value} (h : GRow w T S B v n xs) (hb : Below w.heap.size w w') : GRow w' T S B v n xs := by
  obtain ⟨h0, h | ⟨g, off, cap, cs, rfl, h2, h3, h4⟩⟩ := h
  · exact ⟨h0, .inl h⟩
  · exact ⟨h0, .inr ⟨g, off, cap, cs, rfl, h2, h3.below hb, h4⟩⟩
theorem tell_self (q : Q) (i : Nat) (h : i < 5) : (q.tell i).bit i = true := by
  match i, h with
  | 0, _ | 1, _ | 2, _ | 3, _ | 4, _ => rfl
theorem tell_same (q : Q) (i : Nat) (h : i < 5) (hb : q.bit i = true) : q.tell i = q := by
  obtain ⟨id, asked, ep, t0, t1, t2, t3, t4⟩ := q
  match i, h with
  | 0, _ | 1, _ | 2, _ | 3, _ | 4, _ =>
    simp only [Q.bit] at hb
    subst hb
    rfl
theorem TS.add {w : World} {B : Nat} {q : Q} {node : Nat} {zs : List Int} {g off cap N : Nat} (hn : node < 5) (hb : q.bit node = false) (hl : (zs.length : Int) = q.cnt) (hbits : ∀ j : Nat, j < 5 → q.bit j = decide ((j : Int) ∈ zs)) (hr : ∀ x ∈ zs, 0 ≤ x ∧ x < 5)
    (hN : N = zs.length + 1) (hrow : GRow w 3 1 B (.slice (some ⟨g, off, none⟩) N cap) N (ints zs ++ [.int .i64 node])) : TS w (.slice (some ⟨g, off, none⟩) N cap) (q.tell node) := by
  subst hN
  have hc := tell_cnt q node hn hb
  have hcr := cnt_range (q.tell node)
  obtain ⟨h0, ⟨h, _⟩ | ⟨g', off', cap', cs, e, h2, h3, h4, h5, h6, h7⟩⟩ := hrow
  · cases h
  · simp at e
    obtain ⟨⟨rfl, rfl⟩, rfl⟩ := e
    refine ⟨_, cap, zs ++ [(node : Int)], by simp, by simp; omega, fun j hj => ?_, by simp; omega, fun x hx => ?_, fun e => by simp at e, fun _ => ⟨g, off, cs, rfl, h3, fun k hk => ?_⟩⟩
    · by_cases hjn : node = j
      · subst hjn
        rw [tell_self q node hn]
        simp
      · rw [tell_bit q node j hn hj hjn, hbits j hj, Bool.eq_iff_iff]
        simp
        omega
    · rw [List.mem_append] at hx
      rcases hx with hx | hx
      · exact hr x hx
      · simp at hx
        omega
    · refine h7 k _ ?_
      have e : ints zs ++ [.int .i64 node] = ints (zs ++ [(node : Int)]) := by simp [ints]
      rw [e]
      unfold ints
      rw [List.getElem?_map, List.getElem?_eq_getElem hk]
      simp [List.getD, List.getElem?_eq_getElem hk]

/-- append onto a row of numbers of the call's own, as a step. -/
theorem step_ints {ops : Array Oper} {o : Oper} {a : Act} {w : World} {K : Act → World → Prop} {R : Exit → Act → World → Prop} {E : Prop} (w0 : World) (hb0 : Below w0.heap.size w0 w)
    (hg : o.guard = none) (s x : Operand) (hop : o.op = Op.call { callee := Callee.builtin Builtin.append, args := #[s, x], argTypes := #[32, 32] })
    (n g off cap : Nat) (xs : List Value) (hs : a.eval s = .slice (some ⟨g, off, none⟩) n cap) (hrow : GRow w 3 1 w0.heap.size (.slice (some ⟨g, off, none⟩) n cap) n xs)
    (m g2 off2 c : Nat) (news : List Value) (hx : a.eval x = .slice (some ⟨g2, off2, none⟩) m c) (hl : news.length = m) (hc : ∀ j u, news[j]? = some u → w.cell? ⟨g2, off2 + j, none⟩ = some u) (h1c : ∀ u ∈ news, u.oneCell' = true) (hm : 0 < m) (N : Nat) (hN : n + m = N) (hlen : N ≤ 100) (ys : List Value) (hys : xs ++ news = ys)
    (hK : ∀ g' off' cap' w1, N ≤ cap' → w0.heap.size ≤ g' → GRow w1 3 1 w0.heap.size (.slice (some ⟨g', off', none⟩) N cap') N ys → Below w0.heap.size w0 w1 → w.grownBy w1 (some g) → K (a.put o.dst (.slice (some ⟨g', off', none⟩) N cap')) w1) :
    if Region.wanted o (yielded ops a.tmps) = true then Oper.wp Try.prog o a w K R else E := by
  obtain ⟨i0, hi, hz0, hz1, hz2⟩ := info_parts info3
  subst hN hys
  refine step_grow hg s x 32 hop 3 i0 _ 1 8 Try.underlying32 hi hz0 hz1 hz2 rfl (by decide) (by decide) w0.heap.size _ n xs hs hrow ⟨g2, off2, none⟩ m c news hx (by omega) (fun j u hu => ?_) h1c hm hb0.size hlen (fun v' w' h1 h2 => ?_)
  · rw [Addr.add_lit]
    exact hc j u hu
  · obtain ⟨g', off', cap', rfl, h3, h4⟩ := h1.form (by omega)
    have h2 : w.grownBy w' (some g) := h2
    obtain ⟨hBg, cs', hbg⟩ := hrow.own g rfl
    exact hK g' off' cap' w' h3 h4 h1 (hb0.trans (Below.of_grownBy h2 hBg hbg.lt)) h2

theorem tell_end {w w1 : World} {B b g off len cap i : Nat} {n last : Int} {ps : List (Q × Value)} {p : Q × Value} {node : Nat} {tv : Value} (h : RefV w B b n last (.slice (some ⟨g, off, none⟩) len cap) ps) (hi : ps[i]? = some p) (hb1 : Below w.heap.size w w1) (ht : TS w1 tv (p.1.tell node)) :
    RefV (w1.setCell ⟨g, off + i * 4 + 3, none⟩ tv) B b n last (.slice (some ⟨g, off, none⟩) len cap) (ps.set i (p.1.tell node, tv)) ∧ Below B w (w1.setCell ⟨g, off + i * 4 + 3, none⟩ tv) ∧ KeepR w (w1.setCell ⟨g, off + i * 4 + 3, none⟩ tv) := by
  obtain ⟨h1, h2, h3, h4, h5⟩ := h
  have hlt : i < ps.length := (List.getElem?_eq_some_iff.1 hi).1
  obtain ⟨hBg, cs, hbg⟩ := h2.own g rfl
  have hne := h2.ne h1 (by decide) g rfl
  have hlb := h1.lt
  have hk : KeepR w (w1.setCell ⟨g, off + i * 4 + 3, none⟩ tv) := fun k t cs' t1 t2 hk => by
    refine (hk.below hb1).far (p := ⟨g, off + i * 4 + 3, none⟩) ?_ _
    rintro rfl
    exact t2 (hk.type_ne hbg)
  have hk1 : Keep3 w1 (w1.setCell ⟨g, off + i * 4 + 3, none⟩ tv) := fun k cs' hkk => by
    refine hkk.far (p := ⟨g, off + i * 4 + 3, none⟩) ?_ _
    rintro rfl
    have := hkk.type_ne (hbg.below hb1)
    exact absurd this (by decide)
  have hlen : len = ps.length := by
    obtain ⟨_, ⟨e, hz⟩ | ⟨g', off', cap', cs', e, _⟩⟩ := h2
    · cases e
    · simp at e
      exact e.2.1
  subst hlen
  refine ⟨⟨(h1.below hb1).far (p := ⟨g, off + i * 4 + 3, none⟩) (Ne.symm hne) _, ?_, fun p' hp => ?_, h4, fun e => ?_⟩, (hb1.mono (by omega)).setCell (p := ⟨g, off + i * 4 + 3, none⟩) hBg _, hk⟩
  · have h6 := (h2.below hb1).setI (i * 4 + 3) (by omega) tv
    rw [rflat_set ps i 3 p (p.1.tell node, tv) tv hi (by
      obtain ⟨e1, e2, e3⟩ := tell_id p.1 node
      simp [rcells, e1, e2, e3]) (by omega), List.length_set, Nat.add_assoc]
    exact h6
  · rcases List.mem_or_eq_of_mem_set hp with hp | rfl
    · exact (h3 p' hp).keep hk.keep3
    · exact ht.keep hk1
  · have := congrArg List.length e
    simp at this
    subst this
    simp at hi
end Go.Proofs.Ytkkdiapnhnbjkaa
