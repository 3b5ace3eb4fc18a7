/- The document's lease: its state; the walks of has, Most, Valid. -/
import Derived.Test.YtkkdiapnhnbjkaaP
import Derived.Deep.RegionHeld3
namespace Go.Proofs.Ytkkdiapnhnbjkaa
open Go.RowKit
set_option linter.unusedVariables false
attribute [local go_sem ↓] Go.wp_at_zero Go.wp_at_succ

theorem rmost_any (n : Int) (w : World) (h1 : 1 ≤ n) (h2 : n ≤ 5) : Calls Try.prog 26 #[.int .i64 n] w fun e w' => e = .returned (.int .i64 (n / 2 + 1)) ∧ w = w' := by
  have : n = 1 ∨ n = 2 ∨ n = 3 ∨ n = 4 ∨ n = 5 := by omega
  rcases this with rfl | rfl | rfl | rfl | rfl
  all_goals
    go_enter Try.func26, Try.ntmps26
    go_wp2
    go_ret
    exact ⟨rfl, rfl⟩

theorem has_any (A : Option Addr) (len cap : Nat) (zs : List Int) (node : Int) (w : World) (hR : IntsAt w A len zs) (hl : len ≤ 100) :
    Calls Try.prog 25 #[.slice A len cap, .int .i64 node] w fun e w' => e = .returned (.bool (decide (node ∈ zs))) ∧ w = w' := by
  have HR := Lib.hid hR
  clear hR
  go_enter Try.func25, Try.ntmps25
  go_wp2_with fail
  go_loopw [5] (fun iv wr => ∃ i : Nat, iv = .int .i64 i ∧ i ≤ len ∧ decide (node ∈ zs.drop i) = decide (node ∈ zs) ∧ w = wr) (fun iv _ => 200 - (intOf iv).toNat)
  case atStart => exact ⟨0, rfl, by omega, rfl, rfl⟩
  case round =>
    obtain ⟨i, rfl, hi, hv, rfl⟩ := hrel
    have HV := Lib.hid hv
    clear hv
    have hi0 : (0 : Int) ≤ (i : Int) := by omega
    by_cases hlt : i < len
    · have hi1 : (i : Int) < (len : Int) := by omega
      obtain ⟨bl, off, rfl, hbl, hcell⟩ := HR.out.2.2.2 (by omega)
      have hc := hcell i hlt
      have hdrop : zs.drop i = zs.getD i 0 :: zs.drop (i + 1) := by
        have hkz : i < zs.length := by have := HR.out.1; omega
        rw [List.drop_eq_getElem_cons hkz]
        simp [List.getD, List.getElem?_eq_getElem hkz]
      have HD := Lib.hid hdrop
      clear hcell hdrop
      generalize zs.getD i 0 = x at *
      by_cases hx : x = node
      · subst hx
        go_wp2
        go_ret
        exact ⟨ret_bool (by rw [← HV.out, HD.out]; simp), rfl⟩
      · go_wp2
        go_roundw
        case rel => exact ⟨i + 1, by go_num, by omega, by rw [← HV.out, HD.out, Bool.eq_iff_iff]; simp [Ne.symm hx], by trivial⟩
        case measure => simp [intOf]; omega
    · obtain rfl : i = len := by omega
      go_wp2
      go_ret
      exact ⟨ret_bool (by rw [← HV.out, List.drop_eq_nil_of_le (by have := HR.out.1; omega)]; simp), rfl⟩

/-- Who told, as the document keeps it. -/
def TS (w : World) (tv : Value) (q : Q) : Prop :=
  ∃ (A : Option Addr) (cap : Nat) (zs : List Int), tv = .slice A zs.length cap ∧ (zs.length : Int) = q.cnt ∧ (∀ j : Nat, j < 5 → q.bit j = decide ((j : Int) ∈ zs)) ∧ zs.length ≤ 5 ∧ (∀ x ∈ zs, 0 ≤ x ∧ x < 5) ∧ (zs = [] → A = none ∧ cap = 0) ∧
    (0 < zs.length → ∃ g off cs, A = some ⟨g, off, none⟩ ∧ Blk w g 3 cs ∧ ∀ k, k < zs.length → cs[off + k]? = some (.int .i64 (zs.getD k 0)))
def Keep3 (w w' : World) : Prop := ∀ (k : Nat) (cs : Array Value), Blk w k 3 cs → Blk w' k 3 cs
theorem TS.keep {w w' : World} {tv : Value} {q : Q} (h : TS w tv q) (hk : Keep3 w w') : TS w' tv q := by
  obtain ⟨A, cap, zs, h1, h2, h3, h4, h5, h7, h6⟩ := h
  refine ⟨A, cap, zs, h1, h2, h3, h4, h5, h7, fun h0 => ?_⟩
  obtain ⟨g, off, cs, e, hb, hc⟩ := h6 h0
  exact ⟨g, off, cs, e, hk g cs hb, hc⟩
def rcells (p : Q × Value) : List Value := [.int .i64 p.1.id, .int .i64 p.1.asked, .int .i64 p.1.epoch, p.2]
def rflat (ps : List (Q × Value)) : List Value := ps.flatMap rcells
def RefAt (w : World) (B b : Nat) (n last : Int) (ps : List (Q × Value)) : Prop :=
  ∃ v, Blk w b 41 #[.int .i64 n, .int .i64 last, v] ∧ GRow w 62 4 B v ps.length (rflat ps) ∧ (∀ p ∈ ps, TS w p.2 p.1) ∧ B ≤ b ∧ (ps = [] → v = .slice none 0 0)
theorem rflat_len (ps : List (Q × Value)) : (rflat ps).length = ps.length * 4 := by
  induction ps with
  | nil => rfl
  | cons q r ih => 
    have e : rflat (q :: r) = rcells q ++ rflat r := rfl
    have hl : (rcells q).length = 4 := rfl
    rw [e, List.length_append, hl, ih, List.length_cons]
    omega
theorem rflat_get (ps : List (Q × Value)) (k : Nat) (p : Q × Value) (h : ps[k]? = some p) (j : Nat) (hj : j < 4) : (rflat ps)[k * 4 + j]? = (rcells p)[j]? := by
  induction ps generalizing k with
  | nil => simp at h
  | cons a r ih =>
    have e : rflat (a :: r) = rcells a ++ rflat r := rfl
    have hl : (rcells a).length = 4 := rfl
    rw [e]
    cases k with
    | zero =>
      simp at h
      subst h
      rw [Nat.zero_mul, Nat.zero_add, List.getElem?_append_left (by omega)]
    | succ k =>
      simp at h
      rw [List.getElem?_append_right (by omega), hl, show (k + 1) * 4 + j - 4 = k * 4 + j by omega]
      exact ih k h
end Go.Proofs.Ytkkdiapnhnbjkaa
