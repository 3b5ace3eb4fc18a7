/- Questions of a lease: the walk of Ask. -/
import Derived.Test.YtkkdiapnhnbjkaaD
namespace Go.Proofs.Ytkkdiapnhnbjkaa
open Go.RowKit
set_option linter.unusedVariables false
attribute [local go_sem ↓] Go.wp_at_zero Go.wp_at_succ

def lastQ (qs : List Q) : Q := qs.getLastD Q.zero
/-- All but blocks of the lease's own kinds are as they were. -/
def Keep (w w' : World) : Prop := ∀ (k : Nat) (t : TypeId) (cs : Array Value), t ≠ 50 → t ≠ 53 → Blk w k t cs → Blk w' k t cs
theorem Keep.refl (w : World) : Keep w w := fun _ _ _ _ _ h => h
theorem Keep.trans {a b c : World} (h : Keep a b) (k : Keep b c) : Keep a c := fun i t cs h1 h2 h3 => k i t cs h1 h2 (h i t cs h1 h2 h3)
theorem Keep.below {w w' : World} (h : Below w.heap.size w w') : Keep w w' := fun _ _ _ _ _ hb => hb.below h
theorem Row.own {w : World} {B : Nat} {v : Value} {qs : List Q} (h : Row w B v qs) : ∀ g, v.ownBlock = some g → ∃ cs, Blk w g 53 cs := by
  rintro g e
  rcases h with ⟨rfl, _⟩ | ⟨g', off, cap, cs', rfl, h2, h3, h4⟩
  · cases e
  · cases e
    exact ⟨cs', h3⟩
theorem Blk.type_ne {w : World} {b t t' : Nat} {cs cs' : Array Value} (h : Blk w b t cs) (h' : Blk w b t' cs') : t = t' := by
  unfold Blk at h h'
  rw [h] at h'
  injection h' with h'
  injection h'
theorem Fine.keep {w w' : World} {B b : Nat} {n : Int} {v : Value} {qs : List Q} (hA : HoldV w B b n v qs) (h : Fine w w' b v) : Keep w w' := fun k t cs h1 h2 hb => by
  refine (h k hb.lt ?_ ?_).trans hb
  · rintro rfl
    exact h1 (hb.type_ne hA.1)
  · intro e
    obtain ⟨cs', hb'⟩ := hA.2.1.own k e
    exact h2 (hb.type_ne hb')
theorem HoldV.below {w w' : World} {B b : Nat} {n : Int} {v : Value} {qs : List Q} (hA : HoldV w B b n v qs) (h : Below w.heap.size w w') : HoldV w' B b n v qs := by
  obtain ⟨h1, h2, h3⟩ := hA
  refine ⟨h1.below h, ?_, h3⟩
  rcases h2 with h2 | ⟨g, off, cap, cs, k1, k2, k3, k4⟩
  · exact .inl h2
  · exact .inr ⟨g, off, cap, cs, k1, k2, k3.below h, k4⟩
theorem HoldV.drew {w : World} {B b : Nat} {n : Int} {v : Value} {qs : List Q} (hA : HoldV w B b n v qs) : HoldV w.drew B b n v qs := hA
theorem lastQ_get (qs : List Q) (h : 0 < qs.length) : qs[qs.length - 1]? = some (lastQ qs) := by
  unfold lastQ
  rw [← List.getLast?_eq_getElem?]
  cases qs with
  | nil => simp at h
  | cons a r => rw [List.getLast?_eq_some_getLast (by simp), List.getLastD_eq_getLast?, List.getLast?_eq_some_getLast (by simp)]; rfl

theorem last_any (B b : Nat) (n : Int) (v : Value) (qs : List Q) (w : World) (hA : HoldV w B b n v qs) (hlen : qs.length ≤ 4) :
    Calls Try.prog 21 #[.pointer (some ⟨b, 0, none⟩)] w fun e w' => e = .returned (lastQ qs).val ∧ Below w.heap.size w w' := by
  obtain ⟨h1, h2, h3⟩ := hA
  rcases h2 with ⟨rfl, rfl⟩ | ⟨g, off, cap, cs, rfl, k2, k3, k4, k5, k6, k7⟩
  · exact last_none b 0 none n w h1
  · by_cases hz : qs.length = 0
    · obtain rfl : qs = [] := List.eq_nil_of_length_eq_zero hz
      exact last_none b cap _ n w h1
    · have hg := lastQ_get qs (by omega)
      obtain ⟨m, hm⟩ : ∃ m, qs.length = m + 1 := ⟨qs.length - 1, by omega⟩
      rw [hm] at h1
      refine last_some b g off m cap n (lastQ qs) w h1 k3.lt (by omega) fun j u hu => ?_
      have hj : j < 8 := by
        have := (List.getElem?_eq_some_iff.1 hu).1
        rwa [cells_len] at this
      rw [k3.cell, Nat.add_assoc]
      refine k7 _ u ?_
      rw [flat_get qs m (lastQ qs) (by rw [← hg]; congr 1; omega) j hj]
      exact hu

def askOk (qs : List Q) (now epoch : Int) : Bool := decide ((lastQ qs).asked ≤ now ∧ 0 ≤ now ∧ now ≤ 1099511627776 ∧ 1 ≤ epoch ∧ epoch ≤ 1073741824)
def asked (qs : List Q) (now epoch : Int) : List Q := if askOk qs now epoch then push qs ⟨(lastQ qs).id + 1, now, epoch, false, false, false, false, false⟩ else qs
def AskPost (B b : Nat) (n : Int) (qs : List Q) (now epoch : Int) (w : World) (e : Ending) (w' : World) : Prop :=
  e = .returned (.int .i64 (if askOk qs now epoch then (lastQ qs).id + 1 else -1)) ∧ HoldAt w' B b n (asked qs now epoch) ∧ Below B w w' ∧ Keep w w'
set_option maxRecDepth 100000 in
set_option maxHeartbeats 1000000 in
theorem ask_any (B b : Nat) (n : Int) (qs : List Q) (now epoch : Int) (w : World) (hA : HoldAt w B b n qs) (hlen : qs.length ≤ 4) (hid0 : 0 ≤ (lastQ qs).id) (hid1 : (lastQ qs).id ≤ 1000000) :
    Calls Try.prog 9 #[.pointer (some ⟨b, 0, none⟩), .int .i64 now, .int .i64 epoch] w (AskPost B b n qs now epoch w) := by
  obtain ⟨v, hA⟩ := hA
  have hA : HoldV w B b n v qs := hA
  have HA := Lib.hid hA
  have L := Lib.hid (last_any B b n v qs w hA hlen)
  have hBb := hA.2.2
  have hlb := hA.1.lt
  clear hA
  unfold AskPost asked
  have hok : askOk qs now epoch = decide ((lastQ qs).asked ≤ now ∧ 0 ≤ now ∧ now ≤ 1099511627776 ∧ 1 ≤ epoch ∧ epoch ≤ 1073741824) := rfl
  generalize lastQ qs = q at *
  obtain ⟨id, asked, ep, t0, t1, t2, t3, t4⟩ := q
  have L := Lib.hid (show Calls Try.prog 21 #[.pointer (some ⟨b, 0, none⟩)] w fun e w' => e = .returned (.agg #[.int .i64 id, .int .i64 asked, .int .i64 ep, .bool t0, .bool t1, .bool t2, .bool t3, .bool t4]) ∧ Below w.heap.size w w' from L.out)
  simp only at hok hid0 hid1 ⊢
  have e1 : IntKind.i64.wrap (id + 1) = id + 1 := by rw [IntKind.wrap_i64]; omega
  cases hk : askOk qs now epoch with
  | true =>
    rw [hk] at hok
    have hok2 := of_decide_eq_true hok.symm
    clear hok
    obtain ⟨o1, o2, o3, o4, o5⟩ := hok2
    simp only [if_true]
    clear hk
    go_enter Try.func9, Try.ntmps9
    go_wp2_with fail
    refine L.out.mono ?_
    rintro e w1 ⟨rfl, hb1⟩
    have hs1 := hb1.size
    have HA1 := HA.out.below hb1
    have HA2 := Lib.hid (HA1.below ((Below.refl _ w1).alloc (Nat.le_refl _) (.cells #[.int .i64 id, .int .i64 asked, .int .i64 ep, .bool t0, .bool t1, .bool t2, .bool t3, .bool t4] 53)))
    have hlt1 := HA1.2.1.lt
    have HX := Lib.hid (show ∀ w2 : World, Fine ((w1.alloc (.cells #[.int .i64 id, .int .i64 asked, .int .i64 ep, .bool t0, .bool t1, .bool t2, .bool t3, .bool t4] 53)).drew) w2 b v → w2.cell? ⟨w1.heap.size, 0, none⟩ = some (.int .i64 id) from fun w2 hF => by
      have h := hF w1.heap.size (by simp) (by omega) (fun e => by have := (hlt1 _ e).2; omega)
      have h2 : Blk w2 w1.heap.size 53 #[.int .i64 id, .int .i64 asked, .int .i64 ep, .bool t0, .bool t1, .bool t2, .bool t3, .bool t4] := h.trans (Blk.new _ _ _)
      rw [h2.cell]; rfl)
    have HB1 := Lib.hid (show Below w.heap.size w (w1.alloc (.cells #[.int .i64 id, .int .i64 asked, .int .i64 ep, .bool t0, .bool t1, .bool t2, .bool t3, .bool t4] 53)).drew from (hb1.alloc hb1.size _).drew)
    clear HA1 hlt1 hb1
    go_wp2_with fail
    go_region_with (go_at_call 22; refine (add_any B b n v qs ⟨id + 1, now, epoch, false, false, false, false, false⟩ _ HA2.out.drew hlen).mono ?_; rintro e w2 ⟨rfl, hA2, hB2, hF2⟩; have x0 := HX.out w2 hF2)
    all_goals
      go_wp2
      go_ret
      exact ⟨rfl, hA2, (HB1.out.mono (by omega)).trans hB2, (Keep.below HB1.out).trans (hF2.keep HA2.out.drew)⟩
  | false =>
    rw [hk] at hok
    have hok2 := of_decide_eq_false hok.symm
    clear hok
    simp only [Bool.false_eq_true, if_false]
    clear hk
    have hc : now < asked ∨ (asked ≤ now ∧ now < 0) ∨ (asked ≤ now ∧ 0 ≤ now ∧ 1099511627776 < now) ∨ (asked ≤ now ∧ 0 ≤ now ∧ now ≤ 1099511627776 ∧ epoch < 1) ∨ (asked ≤ now ∧ 0 ≤ now ∧ now ≤ 1099511627776 ∧ 1 ≤ epoch ∧ 1073741824 < epoch) := by omega
    clear hok2
    rcases hc with o1 | ⟨o1, o2⟩ | ⟨o1, o2, o3⟩ | ⟨o1, o2, o3, o4⟩ | ⟨o1, o2, o3, o4, o5⟩
    all_goals
      go_enter Try.func9, Try.ntmps9
      go_wp2_with fail
      refine L.out.mono ?_
      rintro e w1 ⟨rfl, hb1⟩
      have HA1 := Lib.hid (HA.out.below hb1)
      go_wp2
      go_ret
      have hb2 := hb1.alloc hb1.size (.cells #[.int .i64 id, .int .i64 asked, .int .i64 ep, .bool t0, .bool t1, .bool t2, .bool t3, .bool t4] 53)
      exact ⟨rfl, ⟨v, HA.out.below hb2⟩, hb2.mono (by omega), Keep.below hb2⟩
end Go.Proofs.Ytkkdiapnhnbjkaa
