/- The walks of the document's bytes: Num, Text, PutReq, MayReq. -/
import Derived.Test.YtbencbofjomcgaaC
import Derived.Maps.AppendAt
import Derived.Deep.DeepMust
import Derived.RangeFuncBox
import Derived.Laws.BytesArg
namespace Go.Proofs.Ytbencbofjomcgaa
open Go.RowKit
set_option linter.unusedVariables false

theorem info5 : (Try.prog.info? 5).map (fun i => (i.zero, i.size, i.bytes)) = some (some (.int .u8 0), 1, 1) := by kernel_rfl

/-- How many bytes a number takes at most. -/
def numLen (v : Int) : Nat := if v < 128 then 1 else 5
def NumInv (v u : Int) (k : Nat) : Prop := k ≤ 4 ∧ u * 128 ^ k ≤ v ∧ (k = 0 ∨ 1 ≤ u)
theorem numInv_step {v u : Int} {k : Nat} (hv : v < 34359738368) (h : NumInv v u k) (hu : 128 ≤ u) : NumInv v (u / 128) (k + 1) := by
  obtain ⟨h1, h2, h3⟩ := h
  have : k = 0 ∨ k = 1 ∨ k = 2 ∨ k = 3 ∨ k = 4 := by omega
  rcases this with rfl | rfl | rfl | rfl | rfl <;> refine ⟨?_, ?_, ?_⟩ <;> simp at h2 ⊢ <;> omega
theorem numInv_end {v u : Int} {k : Nat} (h0 : 0 ≤ u) (h : NumInv v u k) : k + 1 ≤ numLen v := by
  obtain ⟨h1, h2, h3⟩ := h
  unfold numLen
  have : k = 0 ∨ k = 1 ∨ k = 2 ∨ k = 3 ∨ k = 4 := by omega
  rcases this with rfl | rfl | rfl | rfl | rfl <;> simp at h2 h3 <;> split <;> omega
theorem numInv_le {v u : Int} {k : Nat} (hu : 0 ≤ u) (h : NumInv v u k) : u ≤ v := by
  obtain ⟨h1, h2, h3⟩ := h
  have : k = 0 ∨ k = 1 ∨ k = 2 ∨ k = 3 ∨ k = 4 := by omega
  rcases this with rfl | rfl | rfl | rfl | rfl <;> simp at h2 <;> omega

def NumPost (v : Int) (w : World) (e : Ending) (w' : World) : Prop := ∃ s : ByteArray, e = .returned (.string s) ∧ s.size ≤ numLen v ∧ Below w.heap.size w w'

theorem own_cell_u8 {w : World} {base g cap k : Nat} {ns : List Int} (h : w.ownsRow base 5 1 (.slice (some ⟨g, 0, none⟩) k cap) k (ns.map (Value.int .u8))) (hk : ns.length = k) :
    ∀ i, i < k → w.cell? ⟨g, 0 + i, none⟩ = some (.int .u8 (ns.getD i 0)) := by
  intro i hi
  have := h.cells (g := g) rfl i (.int .u8 (ns.getD i 0)) (by simp [hk, hi])
  rw [Addr.add_lit] at this
  exact this

set_option maxHeartbeats 1000000 in
theorem num_any (v : Int) (w : World) (h0 : 0 ≤ v) (h1 : v < 34359738368) :
    Calls Try.prog 16 #[.int .u64 v] w (NumPost v w) := by
  obtain ⟨i0, hi, hz0, hz1, hz2⟩ := info_parts info5
  go_enter Try.func16, Try.ntmps16
  go_wp2
  go_loopw [0, 3] (fun x out wr => ∃ (u : Int) (k : Nat) (ns : List Int), x = .int .u64 u ∧ 0 ≤ u ∧ ns.length = k ∧ NumInv v u k ∧ wr.ownsRow w.heap.size 5 1 out k (ns.map (Value.int .u8)) ∧ Below w.heap.size w wr)
    (fun x _ _ => (intOf x).toNat)
  case atStart => exact ⟨v, 0, [], rfl, h0, rfl, ⟨by omega, by simp, .inl rfl⟩, World.ownsRow_nil _ _ _ _, Below.refl _ _⟩
  case round =>
    obtain ⟨u, k, ns, rfl, hu, hk, hinv, hown, hb⟩ := hrel
    have hk4 := hinv.1
    have hle := numInv_le hu hinv
    have hlt : u < 34359738368 := by omega
    clear hle
    have HK := Lib.hid hk
    have HI := Lib.hid hinv
    clear hk hinv
    by_cases hbig : 128 ≤ u
    · have hsh : u / 128 < u := by omega
      have hsh0 : 0 ≤ u / 128 := by omega
      go_wp2_with (at_builtin; refine wpList_append_own _ rfl _ _ 39 rfl w.heap.size 5 i0 (.int .u8 0) 1 1 Try.underlying39 hi hz0 hz1 hz2 rfl (by decide) _ _ _ rfl (hown.alloc _) ⟨wr.heap.size, 0, none⟩ 1 1 [_] rfl rfl (cell_one_new _ _ _) (by simp [Value.oneCell']) (by unfold maxLen; omega) (by omega) (by have := hb.size; simp; omega) ?_; intro v' w1 hown' hgrow _; try trivial)
      go_roundw
      case rel => exact ⟨u / 128, k + 1, ns ++ [_], rfl, hsh0, by simp; exact HK.out, numInv_step h1 HI.out hbig, by simpa using hown', (hb.alloc hb.size _).grown hgrow (by have := hb.size; simp; omega) (fun j e => (hown.lt j e).1)⟩
      case measure => simp [intOf]; omega
    · go_wp2_with (at_builtin; refine wpList_append_own _ rfl _ _ 39 rfl w.heap.size 5 i0 (.int .u8 0) 1 1 Try.underlying39 hi hz0 hz1 hz2 rfl (by decide) _ _ _ rfl (hown.alloc _) ⟨wr.heap.size, 0, none⟩ 1 1 [_] rfl rfl (cell_one_new _ _ _) (by simp [Value.oneCell']) (by unfold maxLen; omega) (by omega) (by have := hb.size; simp; omega) ?_; intro v' w1 hown' hgrow _; obtain ⟨g, cap, rfl⟩ := ownsRow_succ hown'; have hcv := run_convert_bytes_arg (P := Try.prog) w1 39 5 Try.underlying39 Try.underlying5 g 0 (k + 1) cap (ns ++ [u]) (by simp; exact HK.out) (own_cell_u8 (by simpa using hown') (by simp; exact HK.out)) 9 Try.underlying9; try trivial)
      go_ret
      exact ⟨_, rfl, by simp only [strOfNums_size]; simp; have := numInv_end hu HI.out; have := HK.out; omega, (hb.alloc hb.size _).grown hgrow (by have := hb.size; simp; omega) (fun j e => (hown.lt j e).1)⟩
end Go.Proofs.Ytbencbofjomcgaa
