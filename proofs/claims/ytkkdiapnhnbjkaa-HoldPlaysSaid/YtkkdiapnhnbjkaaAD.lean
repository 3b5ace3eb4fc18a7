/- The document's Told beside the lease's. -/
import Derived.Test.YtkkdiapnhnbjkaaAB
import Derived.Test.YtkkdiapnhnbjkaaAA1
import Derived.Test.YtkkdiapnhnbjkaaAA2
import Derived.Test.YtkkdiapnhnbjkaaAA3
namespace Go.Proofs.Ytkkdiapnhnbjkaa
open Go.RowKit
set_option linter.unusedVariables false

theorem rtold_some (B b : Nat) (n last : Int) (ps : List (Q × Value)) (id : Int) (node : Nat) (w : World) (hA : RefAt w B b n last ps) (hlen : ps.length ≤ 4) (h1 : (node : Int) < n) (h2 : n ≤ 5) :
    Calls Try.prog 17 #[.pointer (some ⟨b, 0, none⟩), .int .i64 id, .int .i64 node] w (RToldPost B b n last ps id node w) := by
  cases hf : ps.find? (fun p => meant id (lastQ (ps.map Prod.fst)).epoch p.1) with
  | none => exact rtold_1 B b n last ps id node w hA hlen h1 h2 (fun p hp => by rw [hf] at hp; cases hp)
  | some p =>
    by_cases hb : p.1.bit node = true
    · exact rtold_1 B b n last ps id node w hA hlen h1 h2 (fun p' hp => by rw [hf] at hp; cases hp; exact hb)
    · have hb : p.1.bit node = false := by simpa using hb
      by_cases hc : p.1.cnt = 0
      · exact rtold_2 B b n last ps id node w hA hlen h1 h2 (fun p' hp => by rw [hf] at hp; cases hp; exact ⟨hb, hc⟩)
      · exact rtold_3 B b n last ps id node w hA hlen h1 h2 (fun p' hp => by rw [hf] at hp; cases hp; exact ⟨hb, hc⟩)
theorem St.c17 {h r o : Nat} {n : Int} {cs : Array Value} {w0 w : World} {qh qr : List Q} (hS : St h r o n cs w0 qh qr w) (hg : Good 1000000 qr) (hn : n ≤ 5) (id node : Int) :
    Calls Try.prog 17 #[.pointer (some ⟨r, 0, none⟩), .int .i64 id, .int .i64 node] w fun e w' => e = .returned (.bool (toldOk n qr id node)) ∧ St h r o n cs w0 qh (toldQs n qr id node) w' := by
  obtain ⟨ps, s4, rfl⟩ := hS.2.2.2.1
  have hlen : ps.length ≤ 4 := by simpa using hg.1
  have hc : Calls Try.prog 17 #[.pointer (some ⟨r, 0, none⟩), .int .i64 id, .int .i64 node] w (RToldPost r r n (lastQ (ps.map Prod.fst)).id ps id node w) := by
    by_cases hb : 0 ≤ node ∧ node < n
    · obtain ⟨k, rfl⟩ := Int.eq_ofNat_of_zero_le hb.1
      exact rtold_some r r n _ ps id k w s4 hlen hb.2 hn
    · exact rtold_none r r n _ ps id node w s4 (by omega)
  refine hc.mono fun e w' ⟨h1, ⟨ps', h2, h5⟩, h3, h4⟩ => ⟨h1, hS.ref ⟨ps', ?_, h5⟩ h3 h4⟩
  rw [told_id]
  exact h2
end Go.Proofs.Ytkkdiapnhnbjkaa
