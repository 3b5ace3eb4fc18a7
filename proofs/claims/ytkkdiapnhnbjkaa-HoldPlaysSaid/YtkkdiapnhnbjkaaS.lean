/- Arguments that are slices, read as lists. -/
import Derived.Test.YtkkdiapnhnbjkaaK
import Derived.ProofKit
import Derived.OpenShut
namespace Go.Proofs.Ytkkdiapnhnbjkaa
open Go.ChangeShapes Go.WideShapes Go.ChangeAt Go.RowKit

/-- The slice at A reads as the integers zs. -/
def IntsAt (w : World) (A : Option Addr) (len : Nat) (zs : List Int) : Prop :=
  zs.length = len ∧ len ≤ 9223372036854775807 ∧ (∀ x ∈ zs, -9223372036854775808 ≤ x ∧ x ≤ 9223372036854775807) ∧
  (0 < len → ∃ b off, A = some ⟨b, off, none⟩ ∧ b < w.heap.size ∧ ∀ k, k < len → w.cell? ⟨b, off + k, none⟩ = some (.int .i64 (zs.getD k 0)))

theorem IntsAt.below {w w' : World} {A : Option Addr} {len : Nat} {zs : List Int} (h : IntsAt w A len zs) (hb : Below w.heap.size w w') : IntsAt w' A len zs := by
  obtain ⟨h1, h2, h3, h4⟩ := h
  refine ⟨h1, h2, h3, fun hl => ?_⟩
  obtain ⟨b, off, e, hlt, hc⟩ := h4 hl
  exact ⟨b, off, e, Nat.lt_of_lt_of_le hlt hb.size, fun k hk => (hb.cell (p := ⟨b, off + k, none⟩) hlt).trans (hc k hk)⟩
theorem IntsAt.range {w : World} {A : Option Addr} {len : Nat} {zs : List Int} (h : IntsAt w A len zs) (k : Nat) : -9223372036854775808 ≤ zs.getD k 0 ∧ zs.getD k 0 ≤ 9223372036854775807 := by
  by_cases hk : k < zs.length
  · have := h.2.2.1 _ (List.getElem_mem hk)
    simpa [List.getD, List.getElem?_eq_getElem hk] using this
  · simp [List.getD, List.getElem?_eq_none (Nat.le_of_not_lt hk)]

theorem ints_open {H : Type} {enc : TypeId × Value → H} {P : Program} {W : World} {t e : TypeId} {A : Option Addr} {len cap : Nat} {d : DataW H} {p : List MemPlace}
    (ht : P.underlying t = some (.slice e)) (he : P.underlying e = some (.int .i64)) (hc : P.cellsOf e = 1)
    (h : DataW.Trod enc P W 0 (fun _ => true) true t (.slice A len cap) d p) : ∃ zs, IntsAt W A len zs := by
  obtain ⟨fuel, hf⟩ := h
  rcases open_ints ht he hc hf with ⟨hcs, hx⟩ | ⟨a, len', cap', zs, hcs, hba, hl, hm, hz, hx, hcell, hwf⟩
  · simp [Value.cells] at hcs
    obtain ⟨rfl, rfl, rfl⟩ := hcs
    exact ⟨[], rfl, by omega, by simp, fun h => absurd h (by omega)⟩
  · simp [Value.cells] at hcs
    obtain ⟨rfl, rfl, rfl⟩ := hcs
    have hz' : zs.length = cap := by simpa using hz
    have hm' : len ≤ 9223372036854775807 := by unfold maxLen at hm; omega
    refine ⟨zs.take len, by simp; omega, hm', fun x hx => ?_, fun h0 => ?_⟩
    · have := hwf x (List.mem_of_mem_take hx)
      simp [Lit.wf, IntKind.min, IntKind.max, IntKind.signed, IntKind.bits] at this
      exact this
    · obtain ⟨b, off, rfl, hc'⟩ := ints_at hcell (by omega)
      refine ⟨b, off, rfl, World.block_lt_of_cell? W ⟨b, off + 0, none⟩ (hc' 0 (by omega)), fun k hk => ?_⟩
      rw [hc' k (by omega)]
      simp [List.getD, hk]
end Go.Proofs.Ytkkdiapnhnbjkaa
