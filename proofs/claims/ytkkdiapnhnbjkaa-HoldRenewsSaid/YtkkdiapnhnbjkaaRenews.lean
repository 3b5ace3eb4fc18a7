/- HoldRenews returns true for every input: a lease that is renewed in time holds all the time; behind the last one it ends. No conditions. -/
import Derived.Test.YtkkdiapnhnbjkaaL
import Derived.ProofKit
import Derived.OpenShut
import Derived.Lib.SmallJoins
import Derived.Deep.Slices
import Derived.Deep.Fields
import Derived.ChangeSame
import Derived.Carry
namespace Go.Proofs.Ytkkdiapnhnbjkaa.holdRenews
open Go.ChangeShapes Go.WideShapes Go.ChangeAt Go.RowKit Go.Joins Go.Deep
open Go.ChangeMaps (open_string)

theorem own : ownKnob Try.prog.godebug = none := by kernel_rfl
theorem laid : laidOutB Try.prog = true := by kernel_rfl
theorem readable32 : Try.prog.readableRec 32 = true := by kernel_rfl
theorem row32 : 32 < Try.prog.types.size := of_decide_eq_true (by kernel_rfl)
theorem cells3 : Try.prog.cellsOf 3 = 1 := by kernel_rfl

set_option linter.unusedVariables false
set_option maxRecDepth 100000 in
theorem lifted (os : Os) (started : os.Started) (H : Type) (enc : TypeId × Value → H) :
    ReturnsInHanded {} Try.checked os 5 .any (Rows.holdRenewsSpec.pre6 enc Try.prog Try.f5 Rows.holdRenewsRow.domain false) (Rows.holdRenewsSpec.post enc Try.prog Try.f5 false true false false) := by
  refine returnsInHanded_of_change (C := Try.checked) own started (by kernel_rfl) Try.func5
    (ChangeSpec.witness6 (enc := enc) (C := Try.checked) false ⟨#[], #[.slice none 0 0], []⟩ 8 (by kernel_rfl) (by kernel_rfl) (by kernel_rfl) (by kernel_rfl)) ?_
  intro W base args ds gs before hval0 hW hcnd _
  have hval : ∀ (j : Nat) t v, Try.f5.params[j]? = some t → args[j]? = some v → Value.okWide Try.prog W .any base t v := hval0
  have hW' := hW
  obtain ⟨p, q, hA0, hV, rfl, hfz, hnd⟩ := hW
  have hA : DataW.TrodAll enc Try.prog W 0 (fun _ => true) true Try.f5.params.toList args.toList ds p := hA0
  rw [Try.params5] at hA hval
  obtain ⟨v0, vs0, d0, ds0, p0, q0, hargs, rfl, rfl, h0, r0⟩ := trodAll_cons hA
  obtain ⟨rfl, rfl, rfl⟩ := trodAll_nil r0
  obtain rfl : args = #[v0] := by cases args; simp_all
  obtain ⟨rfl, rfl⟩ := trodVars_none hV
  clear hA0 hval0
  obtain ⟨A0, len0, cap0, rfl⟩ := okWide_slice Try.underlying32 (hval 0 32 v0 rfl rfl)
  have R0 : ∃ zs, IntsAt W A0 len0 zs := ints_open Try.underlying32 Try.underlying3 cells3 h0
  obtain ⟨zs0, R0⟩ := R0
  refine (renews_any A0 len0 cap0 zs0 W R0).mono fun e W' ⟨he, hg⟩ => ?_
  subst he
  have k0 := Below.trod laid readable32 row32 h0 hg (fun x hx => hW'.lt x (List.mem_append.2 (.inl (List.mem_append.2 (.inl hx)))))
  exact ⟨_, rfl, _, _, _, [], _, [], hW', (trodAll_cons_mk (shut_bool Try.underlying4 _) trodAll_mk0), (trodAll_cons_mk k0 trodAll_mk0), rfl, hg.frame _, fun h => by cases h⟩

theorem over : Rows.holdRenewsRow.holds Try.pinned (OpenSpec.ofChange Rows.holdRenewsSpec) :=
  OpenClaim.holds_of_wide 5 Try.f5 rfl rfl rfl rfl rfl rfl rfl ⟨rfl, rfl, rfl, rfl, rfl⟩ rfl rfl rfl rfl rfl (by kernel_rfl) Try.func5 (by kernel_rfl)
    (of_decide_eq_true (by kernel_rfl)) (by unfold Func.isWrapper; rw [if_neg (of_decide_eq_false (by kernel_rfl))]; exact ⟨rfl, rfl⟩)
    (fun os started H enc _ => lifted os started H enc)

theorem proved : Rows.HoldRenewsSaid :=
  over
#print axioms proved
end Go.Proofs.Ytkkdiapnhnbjkaa.holdRenews
