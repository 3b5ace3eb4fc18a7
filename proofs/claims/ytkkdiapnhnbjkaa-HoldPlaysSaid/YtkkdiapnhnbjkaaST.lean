/- Arguments that are slices of structs of integers, read as tables. -/
import Derived.Test.YtkkdiapnhnbjkaaS
import Derived.Deep.Slices
import Derived.Deep.Fields
import Derived.ChangeSame
namespace Go.Proofs.Ytkkdiapnhnbjkaa
open Go.ChangeShapes Go.WideShapes Go.Deep Go.RowKit

section
variable {H : Type} {enc : TypeId × Value → H} {P : Program} {w : World} {base : Nat} {spare : Nat → Bool} {held : Bool}
theorem open_slice_fields {t e : TypeId} {fs : Array Field} {fuel : Nat} {cs : List Value} {x : DataW H × List MemPlace} (ht : P.underlying t = some (.slice e)) (he : P.underlying e = some (.struct fs))
    (hone : oneCellFields P fs = true) (hC : P.cellsOf e = fs.size) (h : DataW.trod enc P w base spare held fuel t cs = some x) :
    (cs = [.slice none 0 0] ∧ x = (.nil, [])) ∨
    ∃ (a : Addr) (len cap m : Nat), cs = [.slice (some a) len cap] ∧ len ≤ cap ∧ cap ≤ maxLen ∧ m = (if spare a.block then cap else len) ∧
      ∀ i, i < m → ∃ (n : Nat), ∀ (j : Nat) (f : Field), fs[j]? = some f → ∃ (v : Value) (y : DataW H × List MemPlace), w.cell? (a.add (i * fs.size + j)) = some v ∧ DataW.trod enc P w base spare held n f.type [v] = some y := by
  rcases open_slice ht h with h0 | ⟨a, len, cap, m, n, D, Pl, hcs, _, hl, hm, hmm, _, hi⟩
  · exact .inl h0
  · refine .inr ⟨a, len, cap, m, hcs, hl, hm, hmm, fun i him => ?_⟩
    obtain ⟨cs', hc, ht'⟩ := hi i him
    rw [hC] at hc
    obtain ⟨ys, n', _, _, hlen, hyl, hf⟩ := DataW.trod_struct he ht'
    obtain ⟨_, hcl, hat⟩ := World.cells?_some hc
    refine ⟨n', fun j f hj => ?_⟩
    obtain ⟨ho, hk⟩ := hone_of hone j f hj
    have hjl : j < fs.size := (Array.getElem?_eq_some_iff.1 hj).1
    have hcell := hat j hjl
    have hv : cs'[j]? = some (cs'[j]'(by omega)) := List.getElem?_eq_getElem (by omega)
    have h1 := hf j f hj
    rw [ho, hk] at h1
    have hone' : (cs'.drop j).take 1 = [cs'[j]'(by omega)] := by
      rw [List.drop_eq_getElem_cons (by omega)]
      rfl
    rw [hone'] at h1
    have hys : ys[j]? = some (ys[j]'(by omega)) := List.getElem?_eq_getElem (by omega)
    refine ⟨_, _, ?_, h1.trans hys⟩
    rw [← Go.Deep.add_add, hcell, hv]
end

/-- The slice at A reads as a table f of m integers a row. -/
def StructsAt (w : World) (m : Nat) (A : Option Addr) (len : Nat) (f : Nat → Nat → Int) : Prop :=
  len ≤ 9223372036854775807 ∧ (∀ i j, -9223372036854775808 ≤ f i j ∧ f i j ≤ 9223372036854775807) ∧
  (0 < len → ∃ b off, A = some ⟨b, off, none⟩ ∧ b < w.heap.size ∧ ∀ i j, i < len → j < m → w.cell? ⟨b, off + (i * m + j), none⟩ = some (.int .i64 (f i j)))

theorem StructsAt.below {w w' : World} {m : Nat} {A : Option Addr} {len : Nat} {f : Nat → Nat → Int} (h : StructsAt w m A len f) (hb : Below w.heap.size w w') : StructsAt w' m A len f := by
  obtain ⟨h1, h2, h3⟩ := h
  refine ⟨h1, h2, fun hl => ?_⟩
  obtain ⟨b, off, e, hlt, hc⟩ := h3 hl
  exact ⟨b, off, e, Nat.lt_of_lt_of_le hlt hb.size, fun i j hi hj => (hb.cell (p := ⟨b, off + (i * m + j), none⟩) hlt).trans (hc i j hi hj)⟩

def cellInt (o : Option Value) : Int := match o with | some (.int _ z) => z | _ => 0

theorem structs_open {H : Type} {enc : TypeId × Value → H} {P : Program} {W : World} {t e : TypeId} {fs : Array Field} {m : Nat} {A : Option Addr} {len cap : Nat} {d : DataW H} {p : List MemPlace}
    (ht : P.underlying t = some (.slice e)) (he : P.underlying e = some (.struct fs)) (hone : oneCellFields P fs = true) (hC : P.cellsOf e = fs.size) (hm : fs.size = m) (hm0 : 0 < m)
    (hint : ∀ (j : Nat) (f : Field), fs[j]? = some f → P.underlying f.type = some (.int .i64))
    (h : DataW.Trod enc P W 0 (fun _ => true) true t (.slice A len cap) d p) : ∃ f, StructsAt W m A len f := by
  obtain ⟨fuel, hf⟩ := h
  rcases open_slice_fields ht he hone hC hf with ⟨hcs, _⟩ | ⟨a, len', cap', m', hcs, hl, hmx, hmm, hi⟩
  · simp [Value.cells] at hcs
    obtain ⟨rfl, rfl, rfl⟩ := hcs
    exact ⟨fun _ _ => 0, by omega, fun _ _ => by dsimp only; omega, fun h => absurd h (by omega)⟩
  · simp [Value.cells] at hcs
    obtain ⟨rfl, rfl, rfl⟩ := hcs
    have hm' : m' = cap := by simpa using hmm
    have hlen : len ≤ 9223372036854775807 := by unfold maxLen at hmx; omega
    subst hm
    have hint' : ∀ i j, i < len → j < fs.size → ∃ z : Int, W.cell? (a.add (i * fs.size + j)) = some (.int .i64 z) ∧ -9223372036854775808 ≤ z ∧ z ≤ 9223372036854775807 := by
      intro i j hil hj
      obtain ⟨n, hn⟩ := hi i (by omega)
      obtain ⟨v, y, hc, hy⟩ := hn j fs[j] (by simp [hj])
      obtain ⟨z, e0, _, hw⟩ := DataW.trod_int (hint j fs[j] (by simp [hj])) hy
      simp at e0
      subst e0
      simp [Lit.wf, IntKind.min, IntKind.max, IntKind.signed, IntKind.bits] at hw
      exact ⟨z, hc, hw⟩
    refine ⟨fun i j => if i < len ∧ j < fs.size then cellInt (W.cell? (a.add (i * fs.size + j))) else 0, hlen, fun i j => ?_, fun h0 => ?_⟩
    · by_cases hij : i < len ∧ j < fs.size
      · obtain ⟨z, hc, hz⟩ := hint' i j hij.1 hij.2
        simp only [hij, and_self, if_true, hc, cellInt]
        exact hz
      · simp only [hij, if_false]
        omega
    · obtain ⟨z0, hc0, _⟩ := hint' 0 0 h0 hm0
      obtain ⟨b, off, spot⟩ := a
      have hspot : spot = none := by simpa [Addr.add] using World.cell?_spot hc0
      subst hspot
      refine ⟨b, off, rfl, World.block_lt_of_cell? W ⟨b, off, none⟩ (by simpa [Addr.add] using hc0), fun i j hil hj => ?_⟩
      obtain ⟨z, hc, _⟩ := hint' i j hil hj
      simp only [hil, hj, and_self, if_true]
      rw [hc]
      rw [← Go.WideShapes.add_plain, hc]
      rfl
end Go.Proofs.Ytkkdiapnhnbjkaa
