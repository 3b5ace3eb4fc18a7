/- The document's lease: rows of questions; append onto them. -/
import Derived.Test.YtkkdiapnhnbjkaaX
namespace Go.Proofs.Ytkkdiapnhnbjkaa
open Go.RowKit
set_option linter.unusedVariables false

def pushR (ps : List (Q × Value)) (p : Q × Value) : List (Q × Value) := if 4 < ps.length + 1 then (ps ++ [p]).drop 1 else ps ++ [p]
theorem pushR_cut {ps : List (Q × Value)} {p : Q × Value} (h : ps.length = 3 + 1) : pushR ps p = (ps ++ [p]).drop 1 := if_pos (by omega)
theorem pushR_add {ps : List (Q × Value)} {p : Q × Value} (h : ps.length < 4) : pushR ps p = ps ++ [p] := if_neg (by omega)
theorem pushR_fst (ps : List (Q × Value)) (p : Q × Value) : (pushR ps p).map Prod.fst = push (ps.map Prod.fst) p.1 := by
  unfold pushR push
  rw [List.length_map]
  split
  · rw [List.map_drop, List.map_append]; rfl
  · rw [List.map_append]; rfl

theorem info62 : (Try.prog.info? 62).map (fun i => (i.zero, i.size, i.bytes)) = some (some (.agg #[.int .i64 0, .int .i64 0, .int .i64 0, .slice none 0 0]), 4, 48) := by kernel_rfl
theorem Blk.newK {w : World} {t : TypeId} {cs : Array Value} {K : Nat} (h : w.heap.size = K) : Blk (w.alloc (.cells cs t)) K t cs := h ▸ Blk.new w t cs
theorem GRow.empty {w : World} {B K : Nat} (h : Blk w K 62 #[]) (hK : B ≤ K) : GRow w 62 4 B (.slice (some ⟨K, 0, none⟩) 0 0) 0 [] := ⟨rfl, .inr ⟨K, 0, 0, #[], rfl, hK, h, Nat.le_refl _, by decide, rfl, by simp⟩⟩
theorem GRow.one {w : World} {B K : Nat} {a b c d : Value} (h : Blk w K 62 #[a, b, c, d]) (hK : B ≤ K) : GRow w 62 4 B (.slice (some ⟨K, 0, none⟩) 1 1) 1 [a, b, c, d] := ⟨rfl, .inr ⟨K, 0, 1, #[a, b, c, d], rfl, hK, h, Nat.le_refl _, by decide, rfl, fun i u hu => by rw [Nat.zero_add]; simpa using hu⟩⟩
theorem GRow.form {w : World} {T : TypeId} {S B n : Nat} {v : Value} {xs : List Value} (h : GRow w T S B v n xs) (hn : 0 < n) : ∃ g off cap, v = .slice (some ⟨g, off, none⟩) n cap ∧ n ≤ cap ∧ B ≤ g := by
  obtain ⟨_, ⟨_, h⟩ | ⟨g, off, cap, cs, rfl, h2, h3, h4, h5⟩⟩ := h
  · omega
  · exact ⟨g, off, cap, rfl, h4, h2⟩
theorem GRow.far {w : World} {T : TypeId} {S B n : Nat} {v : Value} {xs : List Value} (h : GRow w T S B v n xs) {p : Addr} (hp : ∀ g, v.ownBlock = some g → g ≠ p.block) (u : Value) : GRow (w.setCell p u) T S B v n xs := by
  obtain ⟨h0, h | ⟨g, off, cap, cs, rfl, h2, h3, h4⟩⟩ := h
  · exact ⟨h0, .inl h⟩
  · exact ⟨h0, .inr ⟨g, off, cap, cs, rfl, h2, h3.far (hp g rfl) u, h4⟩⟩
theorem GRow.drewN {w : World} {T : TypeId} {S B n : Nat} {v : Value} {xs : List Value} (h : GRow w T S B v n xs) (m : Nat) : GRow (w.drewN m) T S B v n xs := h
theorem GRow.tail {w : World} {B g off n cap : Nat} {xs : List Value} (h : GRow w 62 4 B (.slice (some ⟨g, off, none⟩) (n + 1) cap) (n + 1) xs) : GRow w 62 4 B (.slice (some ⟨g, off + 4, none⟩) n (cap - 1)) n (xs.drop 4) := by
  obtain ⟨h0, ⟨h, _⟩ | ⟨g', off', cap', cs, e, h2, h3, h4, h5, h6, h7⟩⟩ := h
  · cases h
  · simp at e
    obtain ⟨⟨rfl, rfl⟩, rfl⟩ := e
    refine ⟨by simp; omega, .inr ⟨g, off + 4, cap - 1, cs, rfl, h2, h3, by omega, by omega, by omega, fun i u hu => ?_⟩⟩
    rw [Nat.add_assoc]
    exact h7 (4 + i) u (by rw [List.getElem?_drop] at hu; exact hu)
theorem rflat_append (ps : List (Q × Value)) (p : Q × Value) : rflat (ps ++ [p]) = rflat ps ++ rcells p := by
  unfold rflat
  simp
theorem rflat_tail (ps : List (Q × Value)) : rflat (ps.drop 1) = (rflat ps).drop 4 := by
  cases ps with
  | nil => rfl
  | cons a r => rfl
theorem rflat_one {w : World} (ps : List (Q × Value)) (h : ∀ p ∈ ps, TS w p.2 p.1) : ∀ u ∈ rflat ps, u.oneCell' = true := by
  intro u hu
  unfold rflat at hu
  rw [List.mem_flatMap] at hu
  obtain ⟨p, hp, hu⟩ := hu
  obtain ⟨A, cap, zs, e, -⟩ := h p hp
  simp [rcells, e] at hu
  rcases hu with rfl | rfl | rfl | rfl <;> rfl

theorem KeepR.alloc {w w' : World} (h : KeepR w w') (o : Obj) : KeepR w (w'.alloc o) := fun k t cs h1 h2 hb => (h k t cs h1 h2 hb).alloc o
theorem KeepR.drew {w w' : World} (h : KeepR w w') : KeepR w w'.drew := h
theorem KeepR.drewN {w w' : World} (h : KeepR w w') (m : Nat) : KeepR w (w'.drewN m) := h
theorem KeepR.set {w w' : World} {b : Nat} {cs : Array Value} (h : KeepR w w') (hb : Blk w' b 41 cs) (i : Nat) (u : Value) : KeepR w (w'.setCell ⟨b, i, none⟩ u) := fun k t cs' h1 h2 hk => by
  have h3 := h k t cs' h1 h2 hk
  refine h3.far (p := ⟨b, i, none⟩) ?_ u
  rintro rfl
  exact h1 (h3.type_ne hb)
theorem KeepR.grown {w w' : World} {g : Nat} {cs : Array Value} (hb : Blk w g 62 cs) (hg : w.grownBy w' (some g)) : KeepR w w' := fun k t cs' h1 h2 hk => hk.kept hg (by
  rintro rfl
  exact h2 (hk.type_ne hb))

/-- append onto a row of questions, as a step. -/
theorem step_rowR {ops : Array Oper} {o : Oper} {a : Act} {w : World} {K : Act → World → Prop} {R : Exit → Act → World → Prop} {E : Prop} (w0 : World)
    (hg : o.guard = none) (s x : Operand) (hop : o.op = Op.call { callee := Callee.builtin Builtin.append, args := #[s, x], argTypes := #[39, 39] })
    (B b : Nat) (cs : Array Value) (hb : Blk w b 41 cs) (hB : B ≤ w0.heap.size) (hk0 : KeepR w0 w) (hb0 : Below B w0 w)
    (n g off cap : Nat) (xs : List Value) (hs : a.eval s = .slice (some ⟨g, off, none⟩) n cap) (hrow : GRow w 62 4 B (.slice (some ⟨g, off, none⟩) n cap) n xs)
    (m g2 off2 c : Nat) (news : List Value) (hx : a.eval x = .slice (some ⟨g2, off2, none⟩) m c) (hrow2 : GRow w 62 4 B (.slice (some ⟨g2, off2, none⟩) m c) m news) (h1c : ∀ u ∈ news, u.oneCell' = true) (hm : 0 < m) (N : Nat) (hN : n + m = N) (hlen : N ≤ 100) (ys : List Value) (hys : xs ++ news = ys)
    (hK : ∀ g' off' cap' w1, N ≤ cap' → B ≤ g' → GRow w1 62 4 B (.slice (some ⟨g', off', none⟩) N cap') N ys → Blk w1 b 41 cs → KeepR w0 w1 → Below B w0 w1 → w.grownBy w1 (some g) → K (a.put o.dst (.slice (some ⟨g', off', none⟩) N cap')) w1) :
    if Region.wanted o (yielded ops a.tmps) = true then Oper.wp Try.prog o a w K R else E := by
  obtain ⟨i0, hi, hz0, hz1, hz2⟩ := info_parts info62
  subst hN hys
  refine step_grow hg s x 39 hop 62 i0 _ 4 48 Try.underlying39 hi hz0 hz1 hz2 rfl (by decide) (by decide) B _ n xs hs hrow ⟨g2, off2, none⟩ m c news hx hrow2.1 (fun j u hu => ?_) h1c hm (Nat.le_trans hB hb0.size) hlen (fun v' w' h1 h2 => ?_)
  · have hj : j < m * 4 := by
      have := (List.getElem?_eq_some_iff.1 hu).1
      have := hrow2.1
      omega
    rw [Addr.add_lit, (hrow2.cell j hj).1, hu]
  · obtain ⟨g', off', cap', rfl, h3, h4⟩ := h1.form (by omega)
    have h2 : w.grownBy w' (some g) := h2
    obtain ⟨hBg, cs', hbg⟩ := hrow.own g rfl
    exact hK g' off' cap' w' h3 h4 h1 (hb.kept h2 (Ne.symm (hrow.ne hb (by decide) g rfl))) (hk0.trans (KeepR.grown hbg h2)) (hb0.trans (Below.of_grownBy h2 hBg hbg.lt)) h2

def RefV (w : World) (B b : Nat) (n last : Int) (v : Value) (ps : List (Q × Value)) : Prop :=
  Blk w b 41 #[.int .i64 n, .int .i64 last, v] ∧ GRow w 62 4 B v ps.length (rflat ps) ∧ (∀ p ∈ ps, TS w p.2 p.1) ∧ B ≤ b ∧ (ps = [] → v = .slice none 0 0)
theorem TS.fresh (w : World) (id asked ep : Int) : TS w (.slice none 0 0) ⟨id, asked, ep, false, false, false, false, false⟩ := TS.nil w ⟨id, asked, ep, false, false, false, false, false⟩
theorem ask_end {w w1 : World} {B b k g off cap : Nat} {n last : Int} {old : Value} {ps : List (Q × Value)} {id now epoch : Int} (h3 : GRow w1 62 4 B (.slice (some ⟨g, off, none⟩) k cap) k (rflat ps ++ [.int .i64 id, .int .i64 now, .int .i64 epoch, .slice none 0 0])) (hk : k = ps.length + 1)
    (k4 : Blk w1 b 41 #[.int .i64 n, .int .i64 last, old]) (k5 : KeepR w w1) (k6 : Below B w w1) (hts : ∀ p ∈ ps, TS w p.2 p.1) (hBb : B ≤ b) :
    RefV (w1.setCell ⟨b, 2, none⟩ (.slice (some ⟨g, off, none⟩) k cap)) B b n last (.slice (some ⟨g, off, none⟩) k cap) (ps ++ [(⟨id, now, epoch, false, false, false, false, false⟩, .slice none 0 0)]) ∧
    Below B w (w1.setCell ⟨b, 2, none⟩ (.slice (some ⟨g, off, none⟩) k cap)) ∧ KeepR w (w1.setCell ⟨b, 2, none⟩ (.slice (some ⟨g, off, none⟩) k cap)) := by
  subst hk
  have hkr := k5.set k4 2 (.slice (some ⟨g, off, none⟩) (ps.length + 1) cap)
  refine ⟨⟨k4.set 2 _, ?_, fun p hp => ?_, hBb, fun e => by simp at e⟩, k6.setCell hBb _, hkr⟩
  · have := h3.far (p := ⟨b, 2, none⟩) (h3.ne k4 (by decide)) (.slice (some ⟨g, off, none⟩) (ps.length + 1) cap)
    rw [rflat_append, List.length_append]
    exact this
  · rw [List.mem_append] at hp
    rcases hp with hp | hp
    · exact (hts p hp).keep hkr.keep3
    · simp at hp
      subst hp
      exact TS.fresh _ _ _ _
theorem ask_cut {w w1 : World} {B b k g off cap : Nat} {n last : Int} {ps : List (Q × Value)} (h : RefV w1 B b n last (.slice (some ⟨g, off, none⟩) (k + 1) cap) ps) (hl : ps.length = k + 1) (hk : 0 < k) (k5 : KeepR w w1) (k6 : Below B w w1) :
    RefV (w1.setCell ⟨b, 2, none⟩ (.slice (some ⟨g, off + 4, none⟩) k (cap - 1))) B b n last (.slice (some ⟨g, off + 4, none⟩) k (cap - 1)) (ps.drop 1) ∧
    Below B w (w1.setCell ⟨b, 2, none⟩ (.slice (some ⟨g, off + 4, none⟩) k (cap - 1))) ∧ KeepR w (w1.setCell ⟨b, 2, none⟩ (.slice (some ⟨g, off + 4, none⟩) k (cap - 1))) := by
  obtain ⟨h1, h2, h3, h4, h5⟩ := h
  have hkr := k5.set h1 2 (.slice (some ⟨g, off + 4, none⟩) k (cap - 1))
  have hk1 := (KeepR.refl w1).set h1 2 (.slice (some ⟨g, off + 4, none⟩) k (cap - 1))
  rw [hl] at h2
  have h6 := h2.tail
  have hne := h2.ne h1 (by decide) g rfl
  have hd : (ps.drop 1).length = k := by simp; omega
  refine ⟨⟨h1.set 2 _, ?_, fun p hp => (h3 p (List.mem_of_mem_drop hp)).keep hk1.keep3, h4, fun e => ?_⟩, k6.setCell h4 _, hkr⟩
  · have h7 := h6.far (p := ⟨b, 2, none⟩) (fun g' e => by cases e; exact hne) (.slice (some ⟨g, off + 4, none⟩) k (cap - 1))
    rw [hd, rflat_tail]
    exact h7
  · rw [e] at hd
    simp at hd
    omega
end Go.Proofs.Ytkkdiapnhnbjkaa
