/- The document's lease: the walk of Told. -/
import Derived.Test.YtkkdiapnhnbjkaaT
namespace Go.Proofs.Ytkkdiapnhnbjkaa
open Go.RowKit
set_option linter.unusedVariables false
attribute [local go_sem ↓] Go.wp_at_zero Go.wp_at_succ

def RToldPost (B b : Nat) (n last : Int) (ps : List (Q × Value)) (id node : Int) (w : World) (e : Ending) (w' : World) : Prop :=
  e = .returned (.bool (toldOk n (ps.map Prod.fst) id node)) ∧ (∃ ps', RefAt w' B b n last ps' ∧ ps'.map Prod.fst = toldQs n (ps.map Prod.fst) id node) ∧ Below B w w' ∧ KeepR w w'

theorem RefV.below {w w' : World} {B b : Nat} {n last : Int} {v : Value} {ps : List (Q × Value)} (h : RefV w B b n last v ps) (hb : Below w.heap.size w w') : RefV w' B b n last v ps := by
  obtain ⟨h1, h2, h3, h4, h5⟩ := h
  exact ⟨h1.below hb, h2.below hb, fun p hp => (h3 p hp).keep (KeepR.below hb).keep3, h4, h5⟩
theorem set_same {α : Type} {l : List α} {i : Nat} {x : α} (h : l[i]? = some x) : l.set i x = l := by
  obtain ⟨h1, h2⟩ := List.getElem?_eq_some_iff.1 h
  subst h2
  exact List.set_getElem_self h1
theorem tell_cells1 {w : World} {K : Nat} {x : Value} (h : Blk w K 3 #[x]) : ∀ j u, [x][j]? = some u → w.cell? ⟨K, 0 + j, none⟩ = some u := fun j u hu => by
  rw [h.cell, Nat.zero_add]
  simpa using hu
theorem rtold_none (B b : Nat) (n last : Int) (ps : List (Q × Value)) (id node : Int) (w : World) (hA : RefAt w B b n last ps) (h : node < 0 ∨ n ≤ node) :
    Calls Try.prog 17 #[.pointer (some ⟨b, 0, none⟩), .int .i64 id, .int .i64 node] w (RToldPost B b n last ps id node w) := by
  have h1 : toldOk n (ps.map Prod.fst) id node = false := by unfold toldOk; rw [decide_eq_false (by omega)]; rfl
  have h2 : toldQs n (ps.map Prod.fst) id node = ps.map Prod.fst := by unfold toldQs; rw [if_neg (by omega)]
  unfold RToldPost
  rw [h1, h2]
  have HA := Lib.hid hA
  obtain ⟨v, hb, hrow, hts, hBb, hnil⟩ := hA
  have c0 := hb.cell 0
  simp at c0
  clear h1 h2 hb hrow hts hnil
  rcases h with h | h
  · go_enter Try.func17, Try.ntmps17
    go_wp2
    go_ret
    exact ⟨rfl, ⟨ps, HA.out, rfl⟩, Below.refl _ _, KeepR.refl _⟩
  · by_cases h0 : node < 0
    · go_enter Try.func17, Try.ntmps17
      go_wp2
      go_ret
      exact ⟨rfl, ⟨ps, HA.out, rfl⟩, Below.refl _ _, KeepR.refl _⟩
    · go_enter Try.func17, Try.ntmps17
      go_wp2
      go_ret
      exact ⟨rfl, ⟨ps, HA.out, rfl⟩, Below.refl _ _, KeepR.refl _⟩

end Go.Proofs.Ytkkdiapnhnbjkaa
