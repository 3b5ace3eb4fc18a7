/- The document's Ask beside the lease's. -/
import Derived.Test.YtkkdiapnhnbjkaaAB
import Derived.Test.YtkkdiapnhnbjkaaY
import Derived.Test.YtkkdiapnhnbjkaaZ
namespace Go.Proofs.Ytkkdiapnhnbjkaa
open Go.RowKit
set_option linter.unusedVariables false

theorem St.c16 {h r o : Nat} {n : Int} {cs : Array Value} {w0 w : World} {qh qr : List Q} (hS : St h r o n cs w0 qh qr w) (hg : Good 1000000 qr) (now epoch : Int) :
    Calls Try.prog 16 #[.pointer (some ⟨r, 0, none⟩), .int .i64 now, .int .i64 epoch] w fun e w' => e = .returned (.int .i64 (if askOk qr now epoch then (lastQ qr).id + 1 else -1)) ∧ St h r o n cs w0 qh (asked qr now epoch) w' := by
  obtain ⟨ps, s4, rfl⟩ := hS.2.2.2.1
  have hlen : ps.length ≤ 4 := by simpa using hg.1
  by_cases hk : askOk (ps.map Prod.fst) now epoch = true
  · have hid := asked_id _ now epoch hg.1 hk
    have hk2 := hk
    unfold askOk at hk2
    obtain ⟨k1, k2, k3, k4, k5⟩ := of_decide_eq_true hk2
    have ea : asked (ps.map Prod.fst) now epoch = (pushR ps (⟨(lastQ (ps.map Prod.fst)).id + 1, now, epoch, false, false, false, false, false⟩, .slice none 0 0)).map Prod.fst := by
      unfold asked
      rw [if_pos hk, pushR_fst]
    rw [if_pos hk]
    have hend : ∀ e w', (e = Ending.returned (.int .i64 ((lastQ (ps.map Prod.fst)).id + 1)) ∧ RefAt w' r r n ((lastQ (ps.map Prod.fst)).id + 1) (pushR ps (⟨(lastQ (ps.map Prod.fst)).id + 1, now, epoch, false, false, false, false, false⟩, .slice none 0 0)) ∧ Below r w w' ∧ KeepR w w') →
        (e = Ending.returned (.int .i64 ((lastQ (ps.map Prod.fst)).id + 1)) ∧ St h r o n cs w0 qh (asked (ps.map Prod.fst) now epoch) w') := fun e w' ⟨h1, h2, h3, h4⟩ => by
      refine ⟨h1, hS.ref ⟨_, ?_, ea.symm⟩ h3 h4⟩
      rw [hid]
      exact h2
    by_cases hp : ps = []
    · subst hp
      exact (rask_nil r r n _ now epoch w s4 hg.2.1 hg.2.2.1 k2 k3 k4 k5).mono fun e w' h => hend e w' h
    · exact (rask_some r r n _ ps now epoch w s4 hlen hp k1 hg.2.1 hg.2.2.1 k2 k3 k4 k5).mono fun e w' h => hend e w' h
  · have ea : asked (ps.map Prod.fst) now epoch = ps.map Prod.fst := by
      unfold asked
      rw [if_neg hk]
    rw [if_neg hk, ea]
    refine (rask_no r r n _ ps now epoch w s4 hlen (by simpa using hk)).mono fun e w' ⟨h1, m, h2⟩ => ⟨h1, ?_⟩
    subst h2
    exact hS.below (below_drewN' (Below.refl _ _) m)
end Go.Proofs.Ytkkdiapnhnbjkaa
