/- HoldPlays returns true for every input: a lease is asked for, counted and valid as the document says. No conditions. -/
import Derived.Test.YtkkdiapnhnbjkaaAE
import Derived.ProofKit
import Derived.OpenShut
import Derived.Lib.SmallJoins
import Derived.Deep.Slices
import Derived.Deep.Fields
import Derived.ChangeSame
import Derived.Carry
namespace Go.Proofs.Ytkkdiapnhnbjkaa.holdPlays
open Go.ChangeShapes Go.WideShapes Go.ChangeAt Go.RowKit Go.Joins Go.Deep
open Go.ChangeMaps (open_string)

theorem own : ownKnob Try.prog.godebug = none := by kernel_rfl
theorem laid : laidOutB Try.prog = true := by kernel_rfl
theorem readable3 : Try.prog.readableRec 3 = true := by kernel_rfl
theorem row3 : 3 < Try.prog.types.size := of_decide_eq_true (by kernel_rfl)
theorem readable37 : Try.prog.readableRec 37 = true := by kernel_rfl
theorem row37 : 37 < Try.prog.types.size := of_decide_eq_true (by kernel_rfl)
theorem cells43 : Try.prog.cellsOf 43 = 5 := by kernel_rfl

set_option linter.unusedVariables false
set_option maxRecDepth 100000 in
theorem lifted (os : Os) (started : os.Started) (H : Type) (enc : TypeId × Value → H) :
    ReturnsInHanded {} Try.checked os 6 .any (Rows.holdPlaysSpec.pre6 enc Try.prog Try.f6 Rows.holdPlaysRow.domain false) (Rows.holdPlaysSpec.post enc Try.prog Try.f6 false true false false) := by
  refine returnsInHanded_of_change (C := Try.checked) own started (by kernel_rfl) Try.func6
    (ChangeSpec.witness6 (enc := enc) (C := Try.checked) false ⟨#[], #[.int .i64 0, .slice none 0 0], []⟩ 8 (by kernel_rfl) (by kernel_rfl) (by kernel_rfl) (by kernel_rfl)) ?_
  intro W base args ds gs before hval0 hW hcnd _
  have hval : ∀ (j : Nat) t v, Try.f6.params[j]? = some t → args[j]? = some v → Value.okWide Try.prog W .any base t v := hval0
  have hW' := hW
  obtain ⟨p, q, hA0, hV, rfl, hfz, hnd⟩ := hW
  have hA : DataW.TrodAll enc Try.prog W 0 (fun _ => true) true Try.f6.params.toList args.toList ds p := hA0
  rw [Try.params6] at hA hval
  obtain ⟨v0, vs0, d0, ds0, p0, q0, hargs, rfl, rfl, h0, r0⟩ := trodAll_cons hA
  obtain ⟨v1, vs1, d1, ds1, p1, q1, rfl, rfl, rfl, h1, r1⟩ := trodAll_cons r0
  obtain ⟨rfl, rfl, rfl⟩ := trodAll_nil r1
  obtain rfl : args = #[v0, v1] := by cases args; simp_all
  obtain ⟨rfl, rfl⟩ := trodVars_none hV
  clear hA0 hval0
  obtain ⟨a0, rfl, rfl, rfl, wa0⟩ := open_int Try.underlying3 (hval 0 3 v0 rfl rfl) h0
  obtain ⟨A1, len1, cap1, rfl⟩ := okWide_slice Try.underlying37 (hval 1 37 v1 rfl rfl)
  have R1 : ∃ zs, StructsAt W 5 A1 len1 zs := structs_open Try.underlying37 Try.underlying43 (by kernel_rfl) cells43 rfl (by omega) (fun j f hj => by match j, hj with | 0, hj => simp at hj; subst hj; exact Try.underlying3 | 1, hj => simp at hj; subst hj; exact Try.underlying3 | 2, hj => simp at hj; subst hj; exact Try.underlying3 | 3, hj => simp at hj; subst hj; exact Try.underlying3 | 4, hj => simp at hj; subst hj; exact Try.underlying3 | j + 5, hj => simp at hj) h1
  obtain ⟨zs1, R1⟩ := R1
  refine (plays_any a0 A1 len1 cap1 zs1 W R1).mono fun e W' ⟨he, hg⟩ => ?_
  subst he
  have k0 := Below.trod laid readable3 row3 h0 hg (fun x hx => hW'.lt x (List.mem_append.2 (.inl (List.mem_append.2 (.inl hx)))))
  have k1 := Below.trod laid readable37 row37 h1 hg (fun x hx => hW'.lt x (List.mem_append.2 (.inl (List.mem_append.2 (.inr (List.mem_append.2 (.inl hx)))))))
  exact ⟨_, rfl, _, _, _, [], _, [], hW', (trodAll_cons_mk (shut_bool Try.underlying4 _) trodAll_mk0), (trodAll_cons_mk k0 (trodAll_cons_mk k1 trodAll_mk0)), rfl, hg.frame _, fun h => by cases h⟩

theorem over : Rows.holdPlaysRow.holds Try.pinned (OpenSpec.ofChange Rows.holdPlaysSpec) :=
  OpenClaim.holds_of_wide 6 Try.f6 rfl rfl rfl rfl rfl rfl rfl ⟨rfl, rfl, rfl, rfl, rfl⟩ rfl rfl rfl rfl rfl (by kernel_rfl) Try.func6 (by kernel_rfl)
    (of_decide_eq_true (by kernel_rfl)) (by unfold Func.isWrapper; rw [if_neg (of_decide_eq_false (by kernel_rfl))]; exact ⟨rfl, rfl⟩)
    (fun os started H enc _ => lifted os started H enc)

theorem proved : Rows.HoldPlaysSaid :=
  over
#print axioms proved
end Go.Proofs.Ytkkdiapnhnbjkaa.holdPlays
