/- The walks of the document's bytes: Text, PutReq, MayReq. -/
import Derived.Test.YtbencbofjomcgaaD
namespace Go.Proofs.Ytbencbofjomcgaa
open Go.RowKit
attribute [local go_sem ↓] Go.wp_at_zero Go.wp_at_succ
set_option linter.unusedVariables false

theorem numLen_le (v : Int) : numLen v ≤ 5 := by unfold numLen; split <;> omega
theorem numLen_one {v : Int} (h : v < 128) : numLen v = 1 := by unfold numLen; rw [if_pos h]

def TextPost (s : ByteArray) (w : World) (e : Ending) (w' : World) : Prop := ∃ t : ByteArray, e = .returned (.string t) ∧ t.size ≤ s.size + 1 ∧ Below w.heap.size w w'

set_option maxRecDepth 100000 in
set_option maxHeartbeats 1000000 in
theorem text_any (s : ByteArray) (w : World) (hs : s.size ≤ 64) : Calls Try.prog 17 #[.string s] w (TextPost s w) := by
  go_enter Try.func17, Try.ntmps17
  go_wp2_with fail
  refine (num_any _ _ (by omega) (by omega)).mono ?_
  rintro e w1 ⟨t, rfl, ht, hb⟩
  have h1 : t.size ≤ 1 := by rw [numLen_one (by omega)] at ht; exact ht
  have hk : ¬ 9223372036854775807 < t.size + s.size := by omega
  clear ht
  go_wp2
  go_ret
  exact ⟨_, rfl, by rw [ByteArray.size_append']; omega, hb⟩

def MayPost (c q k i m : Int) (s : ByteArray) (w : World) (e : Ending) (w' : World) : Prop :=
  ∃ b : Bool, e = .returned (.bool b) ∧ (b = true → 0 ≤ c ∧ c < 4 ∧ 1 ≤ q ∧ q ≤ 1073741824 ∧ 1 ≤ k ∧ k ≤ 6 ∧ 0 ≤ i ∧ i ≤ 31 ∧ s.size ≤ 64 ∧ 0 ≤ m ∧ m ≤ 100) ∧ Below w.heap.size w w'

set_option maxHeartbeats 2000000 in
theorem mayreq_any (c q k i m : Int) (s : ByteArray) (w : World) (hs : s.size ≤ 100) : Calls Try.prog 13 #[.agg #[.int .i64 c, .int .i64 q, .int .i64 k, .int .i64 i, .int .i64 m, .string s]] w (MayPost c q k i m s w) := by
  go_enter Try.func13, Try.ntmps13
  go_wp2
  all_goals
    go_ret
    exact ⟨_, rfl, fun h => (by first | (cases h; done) | omega), by go_grown⟩

theorem keepS6 {w W w' : World} {b : Nat} {c q k i m s : Value} (hb : Below W.heap.size W w')
    (h : W.cell? ⟨b, 0, none⟩ = some c ∧ W.cell? ⟨b, 1, none⟩ = some q ∧ W.cell? ⟨b, 2, none⟩ = some k ∧ W.cell? ⟨b, 3, none⟩ = some i ∧ W.cell? ⟨b, 4, none⟩ = some m ∧ W.cell? ⟨b, 5, none⟩ = some s ∧ b < W.heap.size ∧ Below w.heap.size w W) :
    w'.cell? ⟨b, 0, none⟩ = some c ∧ w'.cell? ⟨b, 1, none⟩ = some q ∧ w'.cell? ⟨b, 2, none⟩ = some k ∧ w'.cell? ⟨b, 3, none⟩ = some i ∧ w'.cell? ⟨b, 4, none⟩ = some m ∧ w'.cell? ⟨b, 5, none⟩ = some s ∧ b < w'.heap.size ∧ Below w.heap.size w w' := by
  obtain ⟨h0, h1, h2, h3, h4, h5, hl, hw⟩ := h
  exact ⟨(hb.cell (p := ⟨b, 0, none⟩) hl).trans h0, (hb.cell (p := ⟨b, 1, none⟩) hl).trans h1, (hb.cell (p := ⟨b, 2, none⟩) hl).trans h2, (hb.cell (p := ⟨b, 3, none⟩) hl).trans h3, (hb.cell (p := ⟨b, 4, none⟩) hl).trans h4, (hb.cell (p := ⟨b, 5, none⟩) hl).trans h5, Nat.lt_of_lt_of_le hl hb.size, bt hw hb⟩

/-- Num, of a number below 128: one byte; of any other one of the request's: five. -/
theorem num_one (v : Int) (w : World) (h0 : 0 ≤ v) (h1 : v < 128) : Calls Try.prog 16 #[.int .u64 v] w fun e w' => ∃ s : ByteArray, e = .returned (.string s) ∧ s.size ≤ 1 ∧ Below w.heap.size w w' :=
  (num_any v w h0 (by omega)).mono fun _ _ ⟨s, he, hs, hb⟩ => ⟨s, he, by rw [numLen_one h1] at hs; exact hs, hb⟩
theorem num_five (v : Int) (w : World) (h0 : 0 ≤ v) (h1 : v ≤ 1073741824) : Calls Try.prog 16 #[.int .u64 v] w fun e w' => ∃ s : ByteArray, e = .returned (.string s) ∧ s.size ≤ 5 ∧ Below w.heap.size w w' :=
  (num_any v w h0 (by omega)).mono fun _ _ ⟨s, he, hs, hb⟩ => ⟨s, he, Nat.le_trans hs (numLen_le v), hb⟩

def PutPost (s : ByteArray) (w : World) (e : Ending) (w' : World) : Prop := ∃ t : ByteArray, e = .returned (.string t) ∧ t.size ≤ s.size + 30 ∧ Below w.heap.size w w'

set_option maxRecDepth 100000 in
set_option maxHeartbeats 2000000 in
theorem put_any (c q k i m : Int) (s : ByteArray) (w : World) (hc : 0 ≤ c ∧ c < 128) (hq : 0 ≤ q ∧ q ≤ 1073741824) (hk : 0 ≤ k ∧ k < 128) (hi : 0 ≤ i ∧ i < 128) (hm : 0 ≤ m ∧ m < 128) (hs : s.size ≤ 64) :
    Calls Try.prog 14 #[.agg #[.int .i64 c, .int .i64 q, .int .i64 k, .int .i64 i, .int .i64 m, .string s]] w (PutPost s w) := by
  obtain ⟨hc0, hc1⟩ := hc
  obtain ⟨hq0, hq1⟩ := hq
  obtain ⟨hk0, hk1⟩ := hk
  obtain ⟨hi0, hi1⟩ := hi
  obtain ⟨hm0, hm1⟩ := hm
  have ec : IntKind.u64.wrap c = c := by rw [IntKind.wrap_u64]; omega
  have eq : IntKind.u64.wrap q = q := by rw [IntKind.wrap_u64]; omega
  have ek : IntKind.u64.wrap k = k := by rw [IntKind.wrap_u64]; omega
  have ei : IntKind.u64.wrap i = i := by rw [IntKind.wrap_u64]; omega
  have em : IntKind.u64.wrap m = m := by rw [IntKind.wrap_u64]; omega
  have HC := Lib.hid fun W => num_five c W hc0 (by omega)
  have HQ := Lib.hid fun W => num_five q W hq0 hq1
  have HK := Lib.hid fun W => num_five k W hk0 (by omega)
  have HI := Lib.hid fun W => num_five i W hi0 (by omega)
  have HM := Lib.hid fun W => num_five m W hm0 (by omega)
  go_enter Try.func14, Try.ntmps14
  go_wp2_with fail
  go_region_held3 (fun w' => w'.cell? ⟨w.heap.size, 0, none⟩ = some (.int .i64 c) ∧ w'.cell? ⟨w.heap.size, 1, none⟩ = some (.int .i64 q) ∧ w'.cell? ⟨w.heap.size, 2, none⟩ = some (.int .i64 k) ∧ w'.cell? ⟨w.heap.size, 3, none⟩ = some (.int .i64 i) ∧ w'.cell? ⟨w.heap.size, 4, none⟩ = some (.int .i64 m) ∧ w'.cell? ⟨w.heap.size, 5, none⟩ = some (.string s) ∧ w.heap.size < w'.heap.size ∧ Below w.heap.size w w')
    (first | (exact keepS6 (by assumption) (by assumption)) | (refine ⟨by simp [go_sem], by simp [go_sem], by simp [go_sem], by simp [go_sem], by simp [go_sem], by simp [go_sem], by simp [go_sem], by go_grown⟩))
    (first | (go_at_call 16; (with_reducible refine (HC.out _).mono ?_); rintro e w' ⟨sc, rfl, hsc, hb⟩) | (go_at_call 16; (with_reducible refine (HQ.out _).mono ?_); rintro e w' ⟨sq, rfl, hsq, hb⟩; have a1 : ¬ 9223372036854775807 < sc.size + sq.size := by omega) | (go_at_call 16; (with_reducible refine (HK.out _).mono ?_); rintro e w' ⟨sk, rfl, hsk, hb⟩; have a2 : ¬ 9223372036854775807 < sc.size + sq.size + sk.size := by omega) | (go_at_call 16; (with_reducible refine (HI.out _).mono ?_); rintro e w' ⟨si, rfl, hsi, hb⟩; have a3 : ¬ 9223372036854775807 < sc.size + sq.size + sk.size + si.size := by omega) | (go_at_call 16; (with_reducible refine (HM.out _).mono ?_); rintro e w' ⟨sm, rfl, hsm, hb⟩; have a4 : ¬ 9223372036854775807 < sc.size + sq.size + sk.size + si.size + sm.size := by omega) | (go_at_call 17; (with_reducible refine (text_any _ _ hs).mono ?_); rintro e w' ⟨t, rfl, ht, hb⟩; have a5 : ¬ 9223372036854775807 < sc.size + sq.size + sk.size + si.size + sm.size + t.size := by omega))
  clear a1 a2 a3 a4 a5 ec eq ek ei em HC HQ HK HI HM
  go_wp2
  go_ret
  exact ⟨_, rfl, by simp only [ByteArray.size_append']; omega, (by assumption : _ ∧ _ ∧ _ ∧ _ ∧ _ ∧ _ ∧ _ ∧ Below w.heap.size w _).2.2.2.2.2.2.2⟩
end Go.Proofs.Ytbencbofjomcgaa
