/- Questions of a lease: New, last. -/
import Derived.Test.YtkkdiapnhnbjkaaB
import Derived.Deep.RegionLawGrows
namespace Go.Proofs.Ytkkdiapnhnbjkaa
open Go.RowKit
set_option linter.unusedVariables false

/-- A question: its number, when it was asked, its epoch, and who told. -/
structure Q where
  id : Int
  asked : Int
  epoch : Int
  t0 : Bool
  t1 : Bool
  t2 : Bool
  t3 : Bool
  t4 : Bool
def Q.cells (q : Q) : List Value := [.int .i64 q.id, .int .i64 q.asked, .int .i64 q.epoch, .bool q.t0, .bool q.t1, .bool q.t2, .bool q.t3, .bool q.t4]
def Q.zero : Q := ⟨0, 0, 0, false, false, false, false, false⟩

def flat (qs : List Q) : List Value := qs.flatMap Q.cells
theorem cells_len (q : Q) : q.cells.length = 8 := rfl
theorem flat_len (qs : List Q) : (flat qs).length = qs.length * 8 := by
  induction qs with
  | nil => rfl
  | cons q r ih => simp only [flat, List.flatMap_cons, List.length_append, List.length_cons, cells_len] at ih ⊢; omega
theorem flat_cons (q : Q) (r : List Q) : flat (q :: r) = q.cells ++ flat r := rfl
theorem flat_append (a b : List Q) : flat (a ++ b) = flat a ++ flat b := by simp [flat]
theorem flat_one (q : Q) : flat [q] = q.cells := by simp [flat]
theorem flat_get (qs : List Q) (k : Nat) (q : Q) (h : qs[k]? = some q) (j : Nat) (hj : j < 8) : (flat qs)[k * 8 + j]? = q.cells[j]? := by
  induction qs generalizing k with
  | nil => simp at h
  | cons p r ih =>
    rw [flat_cons]
    cases k with
    | zero =>
      simp at h
      subst h
      rw [Nat.zero_mul, Nat.zero_add, List.getElem?_append_left (by rw [cells_len]; omega)]
    | succ k =>
      simp at h
      rw [List.getElem?_append_right (by rw [cells_len]; omega), cells_len, show (k + 1) * 8 + j - 8 = k * 8 + j by omega]
      exact ih k h

/-- The slice v reads as the questions qs. -/
def Row (w : World) (B : Nat) (v : Value) (qs : List Q) : Prop :=
  (v = .slice none 0 0 ∧ qs = []) ∨ ∃ g off cap cs, v = .slice (some ⟨g, off, none⟩) qs.length cap ∧ B ≤ g ∧ Blk w g 53 cs ∧ qs.length ≤ cap ∧ cap ≤ maxLen ∧ cs.size = off + cap * 8 ∧
    ∀ (i : Nat) (u : Value), (flat qs)[i]? = some u → cs[off + i]? = some u
def HoldAt (w : World) (B b : Nat) (n : Int) (qs : List Q) : Prop := ∃ v, Blk w b 50 #[.int .i64 n, v] ∧ Row w B v qs ∧ B ≤ b

theorem new_bad (n : Int) (w : World) (h : n < 1 ∨ 5 < n) :
    Calls Try.prog 8 #[.int .i64 n] w fun e w' => e = .returned (.tuple #[.pointer none, .int .i64 1]) ∧ w = w' := by
  by_cases c1 : n < 1
  · clear h
    go_enter Try.func8, Try.ntmps8
    go_wp2
    go_ret2
    exact ⟨rfl, rfl⟩
  · have c2 : 5 < n := by omega
    clear h
    go_enter Try.func8, Try.ntmps8
    go_wp2
    go_ret2
    exact ⟨rfl, rfl⟩
theorem new_good (n : Int) (w : World) (h1 : 1 ≤ n) (h2 : n ≤ 5) :
    Calls Try.prog 8 #[.int .i64 n] w fun e w' => e = .returned (.tuple #[.pointer (some ⟨w.heap.size, 0, none⟩), .int .i64 0]) ∧ HoldAt w' w.heap.size w.heap.size n [] ∧ Below w.heap.size w w' := by
  go_enter Try.func8, Try.ntmps8
  go_wp2
  go_ret2
  exact ⟨rfl, ⟨_, Blk.new _ _ _, .inl ⟨rfl, rfl⟩, Nat.le_refl _⟩, (Below.refl _ _).alloc (Nat.le_refl _) _⟩

def Q.val (q : Q) : Value := .agg q.cells.toArray
theorem last_none (b cap : Nat) (A : Option Addr) (n : Int) (w : World) (hA : Blk w b 50 #[.int .i64 n, .slice A 0 cap]) :
    Calls Try.prog 21 #[.pointer (some ⟨b, 0, none⟩)] w fun e w' => e = .returned Q.zero.val ∧ Below w.heap.size w w' := by
  have c0 := hA.cell 1
  simp at c0
  have hlb := hA.lt
  go_enter Try.func21, Try.ntmps21
  go_wp2
  refine bodyPost_ret (v := .agg #[.int .i64 0, .int .i64 0, .int .i64 0, .bool false, .bool false, .bool false, .bool false, .bool false]) (by simp [results, Try.results21, go_sem]) rfl ⟨rfl, (Below.refl _ _).alloc (Nat.le_refl _) _⟩
theorem last_some (b g off len cap : Nat) (n : Int) (q : Q) (w : World) (hA : Blk w b 50 #[.int .i64 n, .slice (some ⟨g, off, none⟩) (len + 1) cap]) (hg : g < w.heap.size) (hl : len ≤ 4) (hc : ∀ j u, q.cells[j]? = some u → w.cell? ⟨g, off + len * 8 + j, none⟩ = some u) :
    Calls Try.prog 21 #[.pointer (some ⟨b, 0, none⟩)] w fun e w' => e = .returned q.val ∧ Below w.heap.size w w' := by
  have c1 := hA.cell 1
  simp at c1
  have d0 := hc 0 _ rfl
  have d1 := hc 1 _ rfl
  have d2 := hc 2 _ rfl
  have d3 := hc 3 _ rfl
  have d4 := hc 4 _ rfl
  have d5 := hc 5 _ rfl
  have d6 := hc 6 _ rfl
  have d7 := hc 7 _ rfl
  rw [Nat.add_zero] at d0
  obtain ⟨id, asked, epoch, t0, t1, t2, t3, t4⟩ := q
  clear hc
  have hlb := hA.lt
  go_enter Try.func21, Try.ntmps21
  go_wp2
  go_region
  all_goals go_wp2
  all_goals exact bodyPost_ret (v := .agg #[.int .i64 id, .int .i64 asked, .int .i64 epoch, .bool t0, .bool t1, .bool t2, .bool t3, .bool t4]) (by simp [results, Try.results21, go_sem]) rfl ⟨rfl, ((Below.refl _ _).alloc (Nat.le_refl _) _).drew⟩
theorem one_cells (q : Q) : ∀ u ∈ q.cells, u.oneCell' = true := by simp [Q.cells, Value.oneCell']
theorem info53 : (Try.prog.info? 53).map (fun i => (i.zero, i.size, i.bytes)) = some (some Q.zero.val, 8, 32) := by kernel_rfl

/-- append of one question, as a step. -/
theorem step_row {ops : Array Oper} {o : Oper} {a : Act} {w : World} {K : Act → World → Prop} {R : Exit → Act → World → Prop} {E : Prop}
    (hg : o.guard = none) (s x : Operand) (hop : o.op = Op.call { callee := Callee.builtin Builtin.append, args := #[s, x], argTypes := #[46, 46] })
    (B : Nat) (v : Value) (qs : List Q) (q : Q) (hs : a.eval s = v) (hrow : Row w B v qs) (g1 : Nat) (hx : a.eval x = .slice (some ⟨g1, 0, none⟩) 1 1)
    (hb : Blk w g1 53 q.cells.toArray) (hB : B ≤ w.heap.size) (hlen : qs.length ≤ 4)
    (hK : ∀ v' w', Row w' B v' (qs ++ [q]) → w.grownBy w' v.ownBlock → K (a.put o.dst v') w') :
    if Region.wanted o (yielded ops a.tmps) = true then Oper.wp Try.prog o a w K R else E := by
  obtain ⟨i0, hi, hz0, hz1, hz2⟩ := info_parts info53
  have hc : ∀ j u, q.cells[j]? = some u → w.cell? ((⟨g1, 0, none⟩ : Addr).add j) = some u := fun j u hu => by
    rw [Addr.add_lit, Nat.zero_add, hb.cell]
    simpa using hu
  have hgrown : ∀ v' w', w'.ownsRow w.heap.size 53 8 v' (qs.length + 1) (flat qs ++ q.cells) → Row w' B v' (qs ++ [q]) := fun v' w' h => by
    rcases h.2 with ⟨_, h0⟩ | ⟨g', cap', cur, rfl, k2, k3, k4, k5, k6, k7⟩
    · omega
    · refine .inr ⟨g', 0, cap', cur, by simp, by omega, k3, by simpa using k4, k5, by omega, fun i u hu => ?_⟩
      rw [flat_append, flat_one, ← k7] at hu
      rw [Nat.zero_add]
      rw [List.getElem?_take] at hu
      split at hu
      · simpa using hu
      · cases hu
  rcases hrow with ⟨rfl, rfl⟩ | ⟨g, off, cap, cs, rfl, h2, h3, h4, h5, h6, h7⟩
  · exact step_append_grows hg s x 46 hop 53 i0 Q.zero.val 8 32 Try.underlying46 hi hz0 hz1 hz2 rfl (by decide) none 0 0 [] hs (fun _ => ⟨rfl, rfl⟩) rfl (by simp)
      ⟨g1, 0, none⟩ 1 1 q.cells hx rfl hc (one_cells q) (by omega) (by unfold maxLen; omega) (by omega)
      (fun v' w' h1 h2 => hK v' w' (hgrown v' w' h1) h2)
  · by_cases hroom : qs.length + 1 ≤ cap
    · have hset := Blk.setCells (b := g) (t := 53) q.cells (off + qs.length * 8) cs.toList w (by simpa using h3) (by rw [cells_len]; simp; omega)
      refine step_append_room hg s x 46 hop 53 i0 8 Try.underlying46 hi hz1 g off qs.length cap hs ⟨g1, 0, none⟩ 1 1 q.cells hx rfl hc (one_cells q) hroom (fun j hj => ?_) (hK _ _ ?_ hset.2)
      · rw [cells_len] at hj
        refine ⟨?_, h3.frozen _⟩
        rw [h3.cell, Array.getElem?_eq_getElem (by omega)]
        rfl
      · refine .inr ⟨g, off, cap, _, by simp, h2, hset.1, by simpa using hroom, h5, ?_, fun i u hu => ?_⟩
        · simp [cells_len]; omega
        · rw [flat_append, flat_one] at hu
          have hfl := flat_len qs
          simp only [List.getElem?_toArray]
          by_cases hi : i < qs.length * 8
          · rw [List.getElem?_append_left (by omega)] at hu
            rw [List.append_assoc, List.getElem?_append_left (by simp; omega), List.getElem?_take, if_pos (by omega)]
            simpa using h7 i u hu
          · rw [List.getElem?_append_right (by omega)] at hu
            have h8 : i - (flat qs).length < 8 := by
              have := (List.getElem?_eq_some_iff.1 hu).1
              rwa [cells_len] at this
            have hto : (cs.toList.take (off + qs.length * 8)).length = off + qs.length * 8 := by simp; omega
            rw [List.append_assoc, List.getElem?_append_right (by omega), List.getElem?_append_left (by rw [cells_len]; omega), ← hu]
            congr 1
            omega
    · exact step_append_grows hg s x 46 hop 53 i0 Q.zero.val 8 32 Try.underlying46 hi hz0 hz1 hz2 rfl (by decide) (some ⟨g, off, none⟩) qs.length cap (flat qs) hs (fun e => by cases e) (flat_len qs)
        (fun b e j u hu => by
          cases e
          rw [Addr.add_lit, h3.cell]
          exact h7 j u hu)
        ⟨g1, 0, none⟩ 1 1 q.cells hx rfl hc (one_cells q) (by omega) (by unfold maxLen; omega) (by omega)
        (fun v' w' k1 k2 => hK v' w' (hgrown v' w' k1) ⟨k2.os, k2.tape, k2.output, k2.size, fun k hk _ => k2.block k hk (by simp)⟩)
end Go.Proofs.Ytkkdiapnhnbjkaa
