/- The walk of HoldPlays. -/
import Derived.Test.YtkkdiapnhnbjkaaAC
import Derived.Test.YtkkdiapnhnbjkaaAD
import Derived.Test.YtkkdiapnhnbjkaaST
namespace Go.Proofs.Ytkkdiapnhnbjkaa
open Go.RowKit
set_option linter.unusedVariables false
attribute [local go_sem ↓] Go.wp_at_zero Go.wp_at_succ

def St0 (h r : Nat) (n : Int) (w0 : World) (qs : List Q) (w : World) : Prop :=
  Below h w0 w ∧ HoldAt w h h n qs ∧ (∃ ps, RefAt w r r n (lastQ qs).id ps ∧ ps.map Prod.fst = qs) ∧ h ≤ r
section
variable {h r o : Nat} {n : Int} {cs : Array Value} {w0 w : World} {qs qh qr : List Q}
theorem RefAt.below {w w' : World} {B b : Nat} {n last : Int} {ps : List (Q × Value)} (h : RefAt w B b n last ps) (hb : Below w.heap.size w w') : RefAt w' B b n last ps := h.keep (Keep.below hb)
theorem St0.op (hS : St0 h r n w0 qs w) (cs : Array Value) : St h r w.heap.size n cs w0 qs qs (w.alloc (.cells cs 43)) := by
  obtain ⟨h1, h2, ⟨ps, h3, h4⟩, h5⟩ := hS
  have hb := (Below.refl w.heap.size w).alloc (Nat.le_refl _) (.cells cs 43)
  have hl := h2.le
  exact ⟨h1.trans (hb.mono (by omega)), Blk.new w 43 cs, HoldAt.below h2 hb, ⟨ps, h3.below hb, h4⟩, h5⟩
theorem St.drop (hS : St h r o n cs w0 qs qs w) : St0 h r n w0 qs w := ⟨hS.1, hS.2.2.1, hS.2.2.2.1, hS.2.2.2.2⟩
theorem St.drew (hS : St h r o n cs w0 qh qr w) : St h r o n cs w0 qh qr w.drew := hS.below (Below.refl _ w).drew
theorem St.cell (hS : St h r o n cs w0 qh qr w) (i : Nat) : w.cell? ⟨o, i, none⟩ = cs[i]? := hS.2.1.cell i
theorem cells12 {K N E D M : Value} (hS : St h r o n #[K, N, E, D, M] w0 qh qr w) : w.cell? ⟨o, 1, none⟩ = some N ∧ w.cell? ⟨o, 2, none⟩ = some E := ⟨hS.cell 1, hS.cell 2⟩
theorem cells34 {K N E D M : Value} (hS : St h r o n #[K, N, E, D, M] w0 qh qr w) : w.cell? ⟨o, 3, none⟩ = some D ∧ w.cell? ⟨o, 4, none⟩ = some M := ⟨hS.cell 3, hS.cell 4⟩
end

set_option maxHeartbeats 400000 in
theorem plays_bad (n : Int) (A : Option Addr) (len cap : Nat) (w : World) (h : n < 1 ∨ 5 < n) :
    Calls Try.prog 6 #[.int .i64 n, .slice A len cap] w fun e w' => e = .returned (.bool true) ∧ Below w.heap.size w w' := by
  have H1 := Lib.hid (new_bad n w h)
  rcases (show n < 1 ∨ (¬ n < 1 ∧ 5 < n) by omega) with h1 | ⟨h1, h2⟩
  all_goals
    clear h
    go_enter Try.func6, Try.ntmps6
    go_wp2_with fail
    refine H1.out.mono ?_
    rintro e w1 ⟨rfl, rfl⟩
    go_wp2_with fail
    refine (doc_any _).mono ?_
    rintro e w1 ⟨rfl, h1⟩
    go_wp2
    go_ret
    exact ⟨rfl, h1⟩

set_option maxRecDepth 100000 in
set_option maxHeartbeats 4000000 in
theorem plays_good (n : Int) (A : Option Addr) (len cap : Nat) (f : Nat → Nat → Int) (w : World) (hR : StructsAt w 5 A len f) (h1 : 1 ≤ n) (h2 : n ≤ 5) :
    Calls Try.prog 6 #[.int .i64 n, .slice A len cap] w fun e w' => e = .returned (.bool true) ∧ Below w.heap.size w w' := by
  have hlen := hR.1
  have H1 := Lib.hid (new_good n w h1 h2)
  have hn1 : ¬ n < 1 := by omega
  have hn2 : ¬ 5 < n := by omega
  go_enter Try.func6, Try.ntmps6
  go_wp2_with fail
  refine H1.out.mono ?_
  rintro e w1 ⟨rfl, hA1, hB1⟩
  have hs1 : w.heap.size < w1.heap.size := hA1.le
  have hI : St0 w.heap.size w1.heap.size n w [] (w1.alloc (.cells #[.int .i64 n, .int .i64 0, .slice none 0 0] 41)) := by
    have hb := (Below.refl w1.heap.size w1).alloc (Nat.le_refl _) (.cells #[.int .i64 n, .int .i64 0, .slice none 0 0] 41)
    exact ⟨hB1.trans (hb.mono (by omega)), hA1.below hb, ⟨[], ⟨_, Blk.new _ _ _, ⟨rfl, .inl ⟨rfl, rfl⟩⟩, by simp, Nat.le_refl _, fun _ => rfl⟩, rfl⟩, by omega⟩
  have HI := Lib.hid hI
  clear hA1 hB1 H1 hI
  go_wp2
  go_loopw [8] (fun iv wr => ∃ (k : Nat) (qs : List Q), iv = .int .i64 k ∧ k ≤ 80 ∧ k ≤ len ∧ Good k qs ∧ St0 w.heap.size w1.heap.size n w qs wr) (fun iv _ => 81 - (intOf iv).toNat)
  case atStart => exact ⟨0, _, rfl, by omega, by omega, Good.nil, HI.out⟩
  case round =>
    obtain ⟨k, qs, rfl, hk, hkl, hG, hS⟩ := hrel
    clear HI
    by_cases hgo : k < len ∧ k < 80
    · obtain ⟨hg1, hg2⟩ := hgo
      obtain ⟨bl, off, rfl, hbl, hcell⟩ := hR.2.2 (by omega)
      have hB := hS.1
      have c0 : wr.cell? ⟨bl, off + k * 5, none⟩ = some (.int .i64 (f k 0)) := (hB.cell (p := ⟨bl, off + k * 5, none⟩) hbl).trans (hcell k 0 hg1 (by omega))
      have c1 : wr.cell? ⟨bl, off + k * 5 + 1, none⟩ = some (.int .i64 (f k 1)) := (hB.cell (p := ⟨bl, off + k * 5 + 1, none⟩) hbl).trans (hcell k 1 hg1 (by omega))
      have c2 : wr.cell? ⟨bl, off + k * 5 + 2, none⟩ = some (.int .i64 (f k 2)) := (hB.cell (p := ⟨bl, off + k * 5 + 2, none⟩) hbl).trans (hcell k 2 hg1 (by omega))
      have c3 : wr.cell? ⟨bl, off + k * 5 + 3, none⟩ = some (.int .i64 (f k 3)) := (hB.cell (p := ⟨bl, off + k * 5 + 3, none⟩) hbl).trans (hcell k 3 hg1 (by omega))
      have c4 : wr.cell? ⟨bl, off + k * 5 + 4, none⟩ = some (.int .i64 (f k 4)) := (hB.cell (p := ⟨bl, off + k * 5 + 4, none⟩) hbl).trans (hcell k 4 hg1 (by omega))
      have r1 := (hR.2.1 k 1).2
      have hk0 : (0 : Int) ≤ (k : Int) := by omega
      have hk1 : (k : Int) < (len : Int) := by omega
      have hk80 : (k : Int) < 80 := by omega
      clear hcell hR hB
      generalize f k 0 = K at *
      generalize f k 1 = N at *
      generalize f k 2 = E at *
      generalize f k 3 = D at *
      generalize f k 4 = M at *
      have HOP := Lib.hid (show St w.heap.size w1.heap.size wr.heap.size n #[.int .i64 K, .int .i64 N, .int .i64 E, .int .i64 D, .int .i64 M] w qs qs (wr.alloc (.cells #[.int .i64 K, .int .i64 N, .int .i64 E, .int .i64 D, .int .i64 M] 43)) from hS.op _)
      have hG' := hG.more (show (k : Int) ≤ 1000000 by omega)
      have HG := Lib.hid (show Good (k + 1 : Nat) (asked qs N E) ∧ Good (k + 1 : Nat) (toldQs n qs D M) ∧ Good (k + 1 : Nat) qs ∧ Good (k + 1 : Nat) (lost qs) from by
        have e : ((k + 1 : Nat) : Int) = (k : Int) + 1 := by omega
        rw [e]
        exact ⟨hG.asked N E, (hG.told n D M).more (by omega), hG.more (by omega), hG.lost.more (by omega)⟩)
      clear hS hG
      have hK : K = 0 ∨ K = 1 ∨ K = 2 ∨ ((K == 0) = false ∧ (K == 1) = false ∧ (K == 2) = false) := by
        by_cases k0 : K = 0
        · exact .inl k0
        · by_cases k1 : K = 1
          · exact .inr (.inl k1)
          · by_cases k2 : K = 2
            · exact .inr (.inr (.inl k2))
            · exact .inr (.inr (.inr ⟨by simp [k0], by simp [k1], by simp [k2]⟩))
      rcases hK with rfl | rfl | rfl | ⟨k0, k1, k2⟩
      · have hx : ∃ x, x = (if askOk qs N E then (lastQ qs).id + 1 else -1) := ⟨_, rfl⟩
        obtain ⟨x, hx⟩ := hx
        have HC1 := Lib.hid (fun (W : World) (qr : List Q) (hS : St w.heap.size w1.heap.size wr.heap.size n #[.int .i64 0, .int .i64 N, .int .i64 E, .int .i64 D, .int .i64 M] w qs qr W) => hx ▸ hS.c9 hG' N E)
        have HC2 := Lib.hid (fun (W : World) (qh : List Q) (hS : St w.heap.size w1.heap.size wr.heap.size n #[.int .i64 0, .int .i64 N, .int .i64 E, .int .i64 D, .int .i64 M] w qh qs W) => hx ▸ hS.c16 hG' N E)
        have HS0 := HOP.out.drew
        clear hx hG'
        go_wp2_with fail
        go_region_held3 (fun w' => w'.cell? ⟨wr.heap.size, 1, none⟩ = some (.int .i64 N) ∧ w'.cell? ⟨wr.heap.size, 2, none⟩ = some (.int .i64 E))
          (first | (assumption) | (exact cells12 (by assumption)))
          (first | (go_at_call 9; (with_reducible refine (HC1.out _ _ (by assumption)).mono ?_); rintro e w' ⟨rfl, hS⟩) | (go_at_call 16; (with_reducible refine (HC2.out _ _ (by assumption)).mono ?_); rintro e w' ⟨rfl, hS⟩))
        all_goals
          have hSF := (by assumption : St w.heap.size w1.heap.size wr.heap.size n #[.int .i64 0, .int .i64 N, .int .i64 E, .int .i64 D, .int .i64 M] w (asked qs N E) (asked qs N E) _)
          have hGF := HG.out.1
          generalize asked qs N E = qs' at *
          have HGF := Lib.hid hGF
          have hGm := hGF.more (show (((k + 1 : Nat) : Int)) ≤ 1000000 by omega)
          have HV1 := Lib.hid (fun (W : World) (z : Int) (hz : z ≤ 1000) (hS : St w.heap.size w1.heap.size wr.heap.size n #[.int .i64 0, .int .i64 N, .int .i64 E, .int .i64 D, .int .i64 M] w qs' qs' W) => hS.c12 hGm h1 h2 z 1 (by omega))
          have HV2 := Lib.hid (fun (W : World) (z : Int) (hz : z ≤ 1000) (hS : St w.heap.size w1.heap.size wr.heap.size n #[.int .i64 0, .int .i64 N, .int .i64 E, .int .i64 D, .int .i64 M] w qs' qs' W) => hS.c18 hGm h1 h2 z 1 (by omega))
          have HSF := Lib.hid hSF
          clear hGF hSF hGm
          go_wp2_with fail
          go_loopw [10] (fun jv wq => ∃ z : Int, jv = .int .i64 z ∧ 0 ≤ z ∧ z ≤ 46 ∧ St w.heap.size w1.heap.size wr.heap.size n #[.int .i64 0, .int .i64 N, .int .i64 E, .int .i64 D, .int .i64 M] w qs' qs' wq) (fun jv _ => 50 - (intOf jv).toNat)
          case atStart => exact ⟨0, rfl, by omega, by omega, HSF.out⟩
          case round =>
            obtain ⟨z, rfl, hz0, hz1, hSq⟩ := hrel
            by_cases hz : z < 40
            · have Hq := Lib.hid hSq
              clear hSq
              have ez : IntKind.i64.wrap (z + 7) = z + 7 := by rw [IntKind.wrap_i64]; omega
              go_wp2_with fail
              refine (HV1.out _ z (by omega) Hq.out).mono ?_
              rintro e w4 ⟨rfl, hS4⟩
              have H4 := Lib.hid hS4
              clear hS4
              go_wp2_with fail
              refine (HV2.out _ z (by omega) H4.out).mono ?_
              rintro e w5 ⟨rfl, hS5⟩
              have H5 := Lib.hid hS5
              clear hS5
              generalize valid n z 1 qs' = vb
              go_wp2
              go_roundw
              case rel => exact ⟨z + 7, by go_num, by omega, by omega, H5.out⟩
              case measure => simp [intOf]; omega
            · have Hq := Lib.hid hSq.drop
              clear hSq
              go_wp2
              go_roundw
              case rel => exact ⟨k + 1, qs', by go_num, by omega, by omega, HGF.out, Hq.out⟩
              case measure => simp [intOf]; omega
      · have hx : ∃ x, x = toldOk n qs D M := ⟨_, rfl⟩
        obtain ⟨x, hx⟩ := hx
        have HC1 := Lib.hid (fun (W : World) (qr : List Q) (hS : St w.heap.size w1.heap.size wr.heap.size n #[.int .i64 1, .int .i64 N, .int .i64 E, .int .i64 D, .int .i64 M] w qs qr W) => hx ▸ hS.c10 hG' h2 D M)
        have HC2 := Lib.hid (fun (W : World) (qh : List Q) (hS : St w.heap.size w1.heap.size wr.heap.size n #[.int .i64 1, .int .i64 N, .int .i64 E, .int .i64 D, .int .i64 M] w qh qs W) => hx ▸ hS.c17 hG' h2 D M)
        have HS0 := HOP.out.drew
        clear hx hG'
        go_wp2_with fail
        go_region_held3 (fun w' => w'.cell? ⟨wr.heap.size, 3, none⟩ = some (.int .i64 D) ∧ w'.cell? ⟨wr.heap.size, 4, none⟩ = some (.int .i64 M))
          (first | (assumption) | (exact cells34 (by assumption)))
          (first | (go_at_call 10; (with_reducible refine (HC1.out _ _ (by assumption)).mono ?_); rintro e w' ⟨rfl, hS⟩) | (go_at_call 17; (with_reducible refine (HC2.out _ _ (by assumption)).mono ?_); rintro e w' ⟨rfl, hS⟩))
        all_goals
          have hSF := (by assumption : St w.heap.size w1.heap.size wr.heap.size n #[.int .i64 1, .int .i64 N, .int .i64 E, .int .i64 D, .int .i64 M] w (toldQs n qs D M) (toldQs n qs D M) _)
          have hGF := HG.out.2.1
          generalize toldQs n qs D M = qs' at *
          have HGF := Lib.hid hGF
          have hGm := hGF.more (show (((k + 1 : Nat) : Int)) ≤ 1000000 by omega)
          have HV1 := Lib.hid (fun (W : World) (z : Int) (hz : z ≤ 1000) (hS : St w.heap.size w1.heap.size wr.heap.size n #[.int .i64 1, .int .i64 N, .int .i64 E, .int .i64 D, .int .i64 M] w qs' qs' W) => hS.c12 hGm h1 h2 z 1 (by omega))
          have HV2 := Lib.hid (fun (W : World) (z : Int) (hz : z ≤ 1000) (hS : St w.heap.size w1.heap.size wr.heap.size n #[.int .i64 1, .int .i64 N, .int .i64 E, .int .i64 D, .int .i64 M] w qs' qs' W) => hS.c18 hGm h1 h2 z 1 (by omega))
          have HSF := Lib.hid hSF
          clear hGF hSF hGm
          go_wp2_with fail
          go_loopw [10] (fun jv wq => ∃ z : Int, jv = .int .i64 z ∧ 0 ≤ z ∧ z ≤ 46 ∧ St w.heap.size w1.heap.size wr.heap.size n #[.int .i64 1, .int .i64 N, .int .i64 E, .int .i64 D, .int .i64 M] w qs' qs' wq) (fun jv _ => 50 - (intOf jv).toNat)
          case atStart => exact ⟨0, rfl, by omega, by omega, HSF.out⟩
          case round =>
            obtain ⟨z, rfl, hz0, hz1, hSq⟩ := hrel
            by_cases hz : z < 40
            · have Hq := Lib.hid hSq
              clear hSq
              have ez : IntKind.i64.wrap (z + 7) = z + 7 := by rw [IntKind.wrap_i64]; omega
              go_wp2_with fail
              refine (HV1.out _ z (by omega) Hq.out).mono ?_
              rintro e w4 ⟨rfl, hS4⟩
              have H4 := Lib.hid hS4
              clear hS4
              go_wp2_with fail
              refine (HV2.out _ z (by omega) H4.out).mono ?_
              rintro e w5 ⟨rfl, hS5⟩
              have H5 := Lib.hid hS5
              clear hS5
              generalize valid n z 1 qs' = vb
              go_wp2
              go_roundw
              case rel => exact ⟨z + 7, by go_num, by omega, by omega, H5.out⟩
              case measure => simp [intOf]; omega
            · have Hq := Lib.hid hSq.drop
              clear hSq
              go_wp2
              go_roundw
              case rel => exact ⟨k + 1, qs', by go_num, by omega, by omega, HGF.out, Hq.out⟩
              case measure => simp [intOf]; omega
      · have hx : ∃ x, x = valid n N E qs := ⟨_, rfl⟩
        obtain ⟨x, hx⟩ := hx
        have HC1 := Lib.hid (fun (W : World) (qr : List Q) (hS : St w.heap.size w1.heap.size wr.heap.size n #[.int .i64 2, .int .i64 N, .int .i64 E, .int .i64 D, .int .i64 M] w qs qr W) => hx ▸ hS.c12 hG' h1 h2 N E r1)
        have HC2 := Lib.hid (fun (W : World) (qh : List Q) (hS : St w.heap.size w1.heap.size wr.heap.size n #[.int .i64 2, .int .i64 N, .int .i64 E, .int .i64 D, .int .i64 M] w qh qs W) => hx ▸ hS.c18 hG' h1 h2 N E r1)
        have HS0 := HOP.out.drew
        clear hx hG'
        go_wp2_with fail
        go_region_held3 (fun w' => w'.cell? ⟨wr.heap.size, 1, none⟩ = some (.int .i64 N) ∧ w'.cell? ⟨wr.heap.size, 2, none⟩ = some (.int .i64 E))
          (first | (assumption) | (exact cells12 (by assumption)))
          (first | (go_at_call 12; (with_reducible refine (HC1.out _ _ (by assumption)).mono ?_); rintro e w' ⟨rfl, hS⟩) | (go_at_call 18; (with_reducible refine (HC2.out _ _ (by assumption)).mono ?_); rintro e w' ⟨rfl, hS⟩))
        all_goals
          have hSF := (by assumption : St w.heap.size w1.heap.size wr.heap.size n #[.int .i64 2, .int .i64 N, .int .i64 E, .int .i64 D, .int .i64 M] w qs qs _)
          have hGF := HG.out.2.2.1
          generalize qs = qs' at *
          have HGF := Lib.hid hGF
          have hGm := hGF.more (show (((k + 1 : Nat) : Int)) ≤ 1000000 by omega)
          have HV1 := Lib.hid (fun (W : World) (z : Int) (hz : z ≤ 1000) (hS : St w.heap.size w1.heap.size wr.heap.size n #[.int .i64 2, .int .i64 N, .int .i64 E, .int .i64 D, .int .i64 M] w qs' qs' W) => hS.c12 hGm h1 h2 z 1 (by omega))
          have HV2 := Lib.hid (fun (W : World) (z : Int) (hz : z ≤ 1000) (hS : St w.heap.size w1.heap.size wr.heap.size n #[.int .i64 2, .int .i64 N, .int .i64 E, .int .i64 D, .int .i64 M] w qs' qs' W) => hS.c18 hGm h1 h2 z 1 (by omega))
          have HSF := Lib.hid hSF
          clear hGF hSF hGm
          go_wp2_with fail
          go_loopw [10] (fun jv wq => ∃ z : Int, jv = .int .i64 z ∧ 0 ≤ z ∧ z ≤ 46 ∧ St w.heap.size w1.heap.size wr.heap.size n #[.int .i64 2, .int .i64 N, .int .i64 E, .int .i64 D, .int .i64 M] w qs' qs' wq) (fun jv _ => 50 - (intOf jv).toNat)
          case atStart => exact ⟨0, rfl, by omega, by omega, HSF.out⟩
          case round =>
            obtain ⟨z, rfl, hz0, hz1, hSq⟩ := hrel
            by_cases hz : z < 40
            · have Hq := Lib.hid hSq
              clear hSq
              have ez : IntKind.i64.wrap (z + 7) = z + 7 := by rw [IntKind.wrap_i64]; omega
              go_wp2_with fail
              refine (HV1.out _ z (by omega) Hq.out).mono ?_
              rintro e w4 ⟨rfl, hS4⟩
              have H4 := Lib.hid hS4
              clear hS4
              go_wp2_with fail
              refine (HV2.out _ z (by omega) H4.out).mono ?_
              rintro e w5 ⟨rfl, hS5⟩
              have H5 := Lib.hid hS5
              clear hS5
              generalize valid n z 1 qs' = vb
              go_wp2
              go_roundw
              case rel => exact ⟨z + 7, by go_num, by omega, by omega, H5.out⟩
              case measure => simp [intOf]; omega
            · have Hq := Lib.hid hSq.drop
              clear hSq
              go_wp2
              go_roundw
              case rel => exact ⟨k + 1, qs', by go_num, by omega, by omega, HGF.out, Hq.out⟩
              case measure => simp [intOf]; omega
      · have HC1 := Lib.hid (fun (W : World) (qr : List Q) (hS : St w.heap.size w1.heap.size wr.heap.size n #[.int .i64 K, .int .i64 N, .int .i64 E, .int .i64 D, .int .i64 M] w qs qr W) => hS.c19 hG')
        have HC2 := Lib.hid (fun (W : World) (qh : List Q) (hS : St w.heap.size w1.heap.size wr.heap.size n #[.int .i64 K, .int .i64 N, .int .i64 E, .int .i64 D, .int .i64 M] w qh qs W) => hS.c20 hG')
        clear hG'
        go_wp2_with fail
        refine (HC1.out _ _ HOP.out).mono ?_
        rintro e w2 ⟨rfl, hS2⟩
        go_wp2_with fail
        refine (HC2.out _ _ hS2).mono ?_
        rintro e w3 ⟨rfl, hSF⟩
        have hGF := HG.out.2.2.2
        generalize lost qs = qs' at *
        have HGF := Lib.hid hGF
        have hGm := hGF.more (show (((k + 1 : Nat) : Int)) ≤ 1000000 by omega)
        have HV1 := Lib.hid (fun (W : World) (z : Int) (hz : z ≤ 1000) (hS : St w.heap.size w1.heap.size wr.heap.size n #[.int .i64 K, .int .i64 N, .int .i64 E, .int .i64 D, .int .i64 M] w qs' qs' W) => hS.c12 hGm h1 h2 z 1 (by omega))
        have HV2 := Lib.hid (fun (W : World) (z : Int) (hz : z ≤ 1000) (hS : St w.heap.size w1.heap.size wr.heap.size n #[.int .i64 K, .int .i64 N, .int .i64 E, .int .i64 D, .int .i64 M] w qs' qs' W) => hS.c18 hGm h1 h2 z 1 (by omega))
        have HSF := Lib.hid hSF
        clear hGF hSF hGm
        go_wp2_with fail
        go_loopw [10] (fun jv wq => ∃ z : Int, jv = .int .i64 z ∧ 0 ≤ z ∧ z ≤ 46 ∧ St w.heap.size w1.heap.size wr.heap.size n #[.int .i64 K, .int .i64 N, .int .i64 E, .int .i64 D, .int .i64 M] w qs' qs' wq) (fun jv _ => 50 - (intOf jv).toNat)
        case atStart => exact ⟨0, rfl, by omega, by omega, HSF.out⟩
        case round =>
          obtain ⟨z, rfl, hz0, hz1, hSq⟩ := hrel
          by_cases hz : z < 40
          · have Hq := Lib.hid hSq
            clear hSq
            have ez : IntKind.i64.wrap (z + 7) = z + 7 := by rw [IntKind.wrap_i64]; omega
            go_wp2_with fail
            refine (HV1.out _ z (by omega) Hq.out).mono ?_
            rintro e w4 ⟨rfl, hS4⟩
            have H4 := Lib.hid hS4
            clear hS4
            go_wp2_with fail
            refine (HV2.out _ z (by omega) H4.out).mono ?_
            rintro e w5 ⟨rfl, hS5⟩
            have H5 := Lib.hid hS5
            clear hS5
            generalize valid n z 1 qs' = vb
            go_wp2
            go_roundw
            case rel => exact ⟨z + 7, by go_num, by omega, by omega, H5.out⟩
            case measure => simp [intOf]; omega
          · have Hq := Lib.hid hSq.drop
            clear hSq
            go_wp2
            go_roundw
            case rel => exact ⟨k + 1, qs', by go_num, by omega, by omega, HGF.out, Hq.out⟩
            case measure => simp [intOf]; omega
    · have hcase : (¬ (k : Int) < (len : Int)) ∨ ((k : Int) < (len : Int) ∧ ¬ (k : Int) < 80) := by omega
      have hB := hS.1
      have hl := hS.2.1.le
      clear hgo hR hS hG
      rcases hcase with h1 | ⟨h1, h2⟩
      all_goals
        go_wp2_with fail
        refine (doc_any _).mono ?_
        rintro e w2 ⟨rfl, hb2⟩
        go_wp2
        go_ret
        exact ⟨rfl, hB.trans (hb2.mono (by omega))⟩

theorem plays_any (n : Int) (A : Option Addr) (len cap : Nat) (f : Nat → Nat → Int) (w : World) (hR : StructsAt w 5 A len f) :
    Calls Try.prog 6 #[.int .i64 n, .slice A len cap] w fun e w' => e = .returned (.bool true) ∧ Below w.heap.size w w' := by
  by_cases h : n < 1 ∨ 5 < n
  · exact plays_bad n A len cap w h
  · exact plays_good n A len cap f w hR (by omega) (by omega)
end Go.Proofs.Ytkkdiapnhnbjkaa
