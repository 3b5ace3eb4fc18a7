/- The lease beside the document's: what they keep, step by step. -/
import Derived.Test.YtkkdiapnhnbjkaaT
namespace Go.Proofs.Ytkkdiapnhnbjkaa
open Go.RowKit
set_option linter.unusedVariables false

/-- What questions keep. -/
def Good (i : Int) (qs : List Q) : Prop := qs.length ≤ 4 ∧ 0 ≤ (lastQ qs).id ∧ (lastQ qs).id ≤ i ∧ ∀ q ∈ qs, 0 ≤ q.asked
theorem Good.more {i j : Int} {qs : List Q} (h : Good i qs) (hij : i ≤ j) : Good j qs := ⟨h.1, h.2.1, Int.le_trans h.2.2.1 hij, h.2.2.2⟩
theorem Good.nil : Good 0 [] := ⟨by simp, by decide, by decide, by simp⟩
theorem asked_id (qs : List Q) (now epoch : Int) (h : qs.length ≤ 4) (hk : askOk qs now epoch = true) : (lastQ (asked qs now epoch)).id = (lastQ qs).id + 1 := by
  unfold asked
  rw [if_pos hk]
  obtain ⟨r, e, -, -⟩ := push_form qs ⟨(lastQ qs).id + 1, now, epoch, false, false, false, false, false⟩ h
  rw [e, lastQ_append]
theorem Good.asked {i : Int} {qs : List Q} (h : Good i qs) (now epoch : Int) : Good (i + 1) (asked qs now epoch) := by
  by_cases hk : askOk qs now epoch = true
  · have hid := asked_id qs now epoch h.1 hk
    have h2 := h.2.1
    have h3 := h.2.2.1
    have hn : 0 ≤ now := by
      unfold askOk at hk
      have := of_decide_eq_true hk
      omega
    refine ⟨?_, by omega, by omega, ?_⟩
    · unfold Go.Proofs.Ytkkdiapnhnbjkaa.asked
      rw [if_pos hk]
      obtain ⟨r, e, -, hl⟩ := push_form qs ⟨(lastQ qs).id + 1, now, epoch, false, false, false, false, false⟩ h.1
      rw [e, List.length_append]
      simp
      omega
    · unfold Go.Proofs.Ytkkdiapnhnbjkaa.asked
      rw [if_pos hk]
      obtain ⟨r, e, hr, -⟩ := push_form qs ⟨(lastQ qs).id + 1, now, epoch, false, false, false, false, false⟩ h.1
      rw [e]
      intro q hq
      rw [List.mem_append] at hq
      rcases hq with hq | hq
      · exact h.2.2.2 q (hr q hq)
      · simp at hq
        subst hq
        exact hn
  · unfold Go.Proofs.Ytkkdiapnhnbjkaa.asked
    rw [if_neg hk]
    exact h.more (by omega)
theorem lastQ_map (f : Q → Q) (hf : ∀ q, (f q).id = q.id) (qs : List Q) : (lastQ (qs.map f)).id = (lastQ qs).id := by
  unfold lastQ
  rw [List.getLastD_eq_getLast?, List.getLastD_eq_getLast?, List.getLast?_map]
  cases qs.getLast? with
  | none => rfl
  | some q => exact hf q
theorem Good.lost {i : Int} {qs : List Q} (h : Good i qs) : Good i (lost qs) := by
  have e : (lastQ (Go.Proofs.Ytkkdiapnhnbjkaa.lost qs)).id = (lastQ qs).id := lastQ_map Q.lose (fun q => rfl) qs
  refine ⟨by unfold Go.Proofs.Ytkkdiapnhnbjkaa.lost; rw [List.length_map]; exact h.1, by rw [e]; exact h.2.1, by rw [e]; exact h.2.2.1, fun q hq => ?_⟩
  unfold Go.Proofs.Ytkkdiapnhnbjkaa.lost at hq
  rw [List.mem_map] at hq
  obtain ⟨q', hq', rfl⟩ := hq
  exact h.2.2.2 q' hq'
theorem tellGo_map (id ep : Int) (node : Nat) (qs : List Q) : (tellGo id ep node qs).length = qs.length ∧ (lastQ (tellGo id ep node qs)).id = (lastQ qs).id ∧ ∀ q ∈ tellGo id ep node qs, ∃ q' ∈ qs, q.asked = q'.asked := by
  have hid : (tellGo id ep node qs).map Q.id = qs.map Q.id := by
    induction qs with
    | nil => rfl
    | cons q r ih =>
      unfold tellGo
      split
      · simp [(tell_id q node).1]
      · simp [ih]
  have hask : (tellGo id ep node qs).map Q.asked = qs.map Q.asked := by
    induction qs with
    | nil => rfl
    | cons q r ih =>
      unfold tellGo
      split
      · simp [(tell_id q node).2.1]
      · rw [List.map_cons, List.map_cons, ih]
        have := hid
        unfold tellGo at this
        rename_i hm
        rw [if_neg hm] at this
        simpa using this
  refine ⟨by simpa using congrArg List.length hid, ?_, fun q hq => ?_⟩
  · have e : ∀ l : List Q, (lastQ l).id = ((l.map Q.id).getLast?).getD 0 := fun l => by
      unfold lastQ
      rw [List.getLastD_eq_getLast?, List.getLast?_map]
      cases l.getLast? <;> rfl
    rw [e, e, hid]
  · have : q.asked ∈ (tellGo id ep node qs).map Q.asked := List.mem_map_of_mem hq
    rw [hask, List.mem_map] at this
    obtain ⟨q', h1, h2⟩ := this
    exact ⟨q', h1, h2.symm⟩
theorem Good.told {i : Int} {qs : List Q} (h : Good i qs) (n id node : Int) : Good i (toldQs n qs id node) := by
  unfold toldQs
  split
  · obtain ⟨h1, h2, h3⟩ := tellGo_map id (lastQ qs).epoch node.toNat qs
    refine ⟨by rw [h1]; exact h.1, by rw [h2]; exact h.2.1, by rw [h2]; exact h.2.2.1, fun q hq => ?_⟩
    obtain ⟨q', h4, h5⟩ := h3 q hq
    rw [h5]
    exact h.2.2.2 q' h4
  · exact h
theorem told_id (n : Int) (qs : List Q) (id node : Int) : (lastQ (toldQs n qs id node)).id = (lastQ qs).id := by
  unfold toldQs
  split
  · exact (tellGo_map id (lastQ qs).epoch node.toNat qs).2.1
  · rfl

theorem HoldAt.keepR {w w' : World} {B b : Nat} {n : Int} {qs : List Q} (hA : HoldAt w B b n qs) (h : KeepR w w') : HoldAt w' B b n qs := by
  obtain ⟨v, h1, h2, h3⟩ := hA
  refine ⟨v, h _ _ _ (by decide) (by decide) h1, ?_, h3⟩
  rcases h2 with h2 | ⟨g, off, cap, cs, k1, k2, k3, k4⟩
  · exact .inl h2
  · exact .inr ⟨g, off, cap, cs, k1, k2, h _ _ _ (by decide) (by decide) k3, k4⟩
theorem RefAt.keep {w w' : World} {B b : Nat} {n last : Int} {ps : List (Q × Value)} (hA : RefAt w B b n last ps) (h : Keep w w') : RefAt w' B b n last ps := by
  obtain ⟨v, h1, h2, h3, h4⟩ := hA
  refine ⟨v, h _ _ _ (by decide) (by decide) h1, ?_, fun p hp => (h3 p hp).keep (fun k cs hk => h _ _ _ (by decide) (by decide) hk), h4⟩
  obtain ⟨h0, h2 | ⟨g, off, cap, cs, k1, k2, k3, k4⟩⟩ := h2
  · exact ⟨h0, .inl h2⟩
  · exact ⟨h0, .inr ⟨g, off, cap, cs, k1, k2, h _ _ _ (by decide) (by decide) k3, k4⟩⟩

/-- The lease at h and the document's at r, the step's own block o. -/
def St (h r o : Nat) (n : Int) (cs : Array Value) (w0 : World) (qh qr : List Q) (w : World) : Prop :=
  Below h w0 w ∧ Blk w o 43 cs ∧ HoldAt w h h n qh ∧ (∃ ps, RefAt w r r n (lastQ qr).id ps ∧ ps.map Prod.fst = qr) ∧ h ≤ r
section
variable {h r o : Nat} {n : Int} {cs : Array Value} {w0 w : World} {qh qr : List Q}
theorem St.hold {w' : World} {qs : List Q} (hS : St h r o n cs w0 qh qr w) (h1 : HoldAt w' h h n qs) (h2 : Below h w w') (h3 : Keep w w') : St h r o n cs w0 qs qr w' := by
  obtain ⟨s1, s2, s3, ⟨ps, s4, s5⟩, s6⟩ := hS
  exact ⟨s1.trans h2, h3 _ _ _ (by decide) (by decide) s2, h1, ⟨ps, s4.keep h3, s5⟩, s6⟩
theorem St.ref {w' : World} {qs : List Q} (hS : St h r o n cs w0 qh qr w) (h1 : ∃ ps, RefAt w' r r n (lastQ qs).id ps ∧ ps.map Prod.fst = qs) (h2 : Below r w w') (h3 : KeepR w w') : St h r o n cs w0 qh qs w' := by
  obtain ⟨s1, s2, s3, -, s6⟩ := hS
  exact ⟨s1.trans (h2.mono s6), h3 _ _ _ (by decide) (by decide) s2, s3.keepR h3, h1, s6⟩
theorem St.below {w' : World} (hS : St h r o n cs w0 qh qr w) (hb : Below w.heap.size w w') : St h r o n cs w0 qh qr w' := by
  have hl := hS.2.2.1.le
  exact hS.hold (hS.2.2.1.below hb) (hb.mono (by omega)) (Keep.below hb)
theorem St.c9 (hS : St h r o n cs w0 qh qr w) (hg : Good 1000000 qh) (now epoch : Int) :
    Calls Try.prog 9 #[.pointer (some ⟨h, 0, none⟩), .int .i64 now, .int .i64 epoch] w fun e w' => e = .returned (.int .i64 (if askOk qh now epoch then (lastQ qh).id + 1 else -1)) ∧ St h r o n cs w0 (asked qh now epoch) qr w' :=
  (ask_any h h n qh now epoch w hS.2.2.1 hg.1 hg.2.1 hg.2.2.1).mono fun e w' ⟨h1, h2, h3, h4⟩ => ⟨h1, hS.hold h2 h3 h4⟩
theorem St.c10 (hS : St h r o n cs w0 qh qr w) (hg : Good 1000000 qh) (h2 : n ≤ 5) (id node : Int) :
    Calls Try.prog 10 #[.pointer (some ⟨h, 0, none⟩), .int .i64 id, .int .i64 node] w fun e w' => e = .returned (.bool (toldOk n qh id node)) ∧ St h r o n cs w0 (toldQs n qh id node) qr w' :=
  (told_any h h n qh id node w hS.2.2.1 hg.1 h2).mono fun e w' ⟨h1, h2, h3, h4⟩ => ⟨h1, hS.hold h2 h3 h4⟩
theorem St.c12 (hS : St h r o n cs w0 qh qr w) (hg : Good 1000000 qh) (h1 : 1 ≤ n) (h2 : n ≤ 5) (now epoch : Int) (hnow : now ≤ 9223372036854775807) :
    Calls Try.prog 12 #[.pointer (some ⟨h, 0, none⟩), .int .i64 now, .int .i64 epoch] w fun e w' => e = .returned (.bool (valid n now epoch qh)) ∧ St h r o n cs w0 qh qr w' :=
  (valid_any h h n qh now epoch w hS.2.2.1 hg.1 h1 h2 hg.2.2.2 hnow).mono fun e w' ⟨h1, h2⟩ => ⟨h1, hS.below h2⟩
theorem St.c19 (hS : St h r o n cs w0 qh qr w) (hg : Good 1000000 qh) :
    Calls Try.prog 19 #[.pointer (some ⟨h, 0, none⟩)] w fun e w' => e = .returned (.tuple #[]) ∧ St h r o n cs w0 (lost qh) qr w' :=
  (lost_any h h n qh w hS.2.2.1 hg.1).mono fun e w' ⟨h1, h2, h3, h4⟩ => ⟨h1, hS.hold h2 h3 h4⟩
theorem St.c18 (hS : St h r o n cs w0 qh qr w) (hg : Good 1000000 qr) (h1 : 1 ≤ n) (h2 : n ≤ 5) (now epoch : Int) (hnow : now ≤ 9223372036854775807) :
    Calls Try.prog 18 #[.pointer (some ⟨r, 0, none⟩), .int .i64 now, .int .i64 epoch] w fun e w' => e = .returned (.bool (valid n now epoch qr)) ∧ St h r o n cs w0 qh qr w' := by
  obtain ⟨ps, s4, rfl⟩ := hS.2.2.2.1
  exact (rvalid_any r r n _ ps now epoch w s4 (by simpa using hg.1) h1 h2 (fun p hp => hg.2.2.2 _ (List.mem_map_of_mem hp)) hnow).mono fun e w' ⟨h1, h2⟩ => ⟨h1, hS.below h2⟩
theorem St.c20 (hS : St h r o n cs w0 qh qr w) (hg : Good 1000000 qr) :
    Calls Try.prog 20 #[.pointer (some ⟨r, 0, none⟩)] w fun e w' => e = .returned (.tuple #[]) ∧ St h r o n cs w0 qh (lost qr) w' := by
  obtain ⟨ps, s4, rfl⟩ := hS.2.2.2.1
  refine (rlost_any r r n _ ps w s4 (by simpa using hg.1)).mono fun e w' ⟨h1, h2, h3, h4⟩ => ⟨h1, hS.ref ⟨ps.map rl, ?_, ?_⟩ h3 h4⟩
  · have e : (lastQ (lost (ps.map Prod.fst))).id = (lastQ (ps.map Prod.fst)).id := lastQ_map Q.lose (fun q => rfl) _
    rw [e]
    exact h2
  · unfold lost
    rw [List.map_map, List.map_map]
    rfl
end
end Go.Proofs.Ytkkdiapnhnbjkaa
