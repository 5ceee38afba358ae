/- The law FnExactDecodeBase: for every string, the call returns true and the string reads as before. No conditions. -/
import Derived.Test.YtgclannlnahaeaaRows
import Derived.Test.YtgclannlnahaeaaA19
import Derived.WalkKit
import Derived.ProofKit
import Derived.OpenShut
import Derived.ShutString
import Derived.ChangeOld
import Derived.Below
import Derived.SizedLaws
set_option linter.unusedVariables false
namespace Go.Pi
open Go
theorem ext_ok : ExtOK C := fun f h vs res ys hf _ => by simp [C] at hf
theorem den_all : CallOK C.P (den C) := den_ok (by kernel_rfl) ext_ok
theorem rep_text (w : World) (F : Nat → Prop) (a : ByteArray) : RepL w F [.str a.data.toList] [.string a] [] := RepL.one (by simp [Rep])
end Go.Pi
namespace Go.Proofs.Ytgclannlnahaeaa.fnExactDecodeBase
open Go.ChangeShapes Go.WideShapes Go.ChangeAt Go.RowKit
open Go.ChangeMaps (open_string shut_string)
theorem own : ownKnob Try.prog.godebug = none := by kernel_rfl
theorem walk (a : ByteArray) (W : World) : Calls Try.prog 3 #[.string a] W fun e w' => e = .returned (.bool true) ∧ Below W.heap.size W w' :=
  Go.Pi.law_calls (C := Go.Pi.C) Go.Pi.den_all Go.Pi.fi3 (Go.Pi.rep_text W _ a) ⟨_, Go.Pi.law_den a.data.toList⟩
set_option maxRecDepth 100000 in
theorem lifted (os : Os) (started : os.Started) (H : Type) (enc : TypeId × Value → H) :
    ReturnsInHanded {} Try.checked os 3 .any (Rows.fnExactDecodeBaseSpec.pre6 enc Try.prog Try.f3 Rows.fnExactDecodeBaseRow.domain false) (Rows.fnExactDecodeBaseSpec.post enc Try.prog Try.f3 false true false false) := by
  refine returnsInHanded_of_change_sized (C := Try.checked) own started (by kernel_rfl) Try.func3
    (ChangeSpec.witness6 (enc := enc) (C := Try.checked) false ⟨#[], #[.string ByteArray.empty], []⟩ 8 (by kernel_rfl) (by kernel_rfl) (by kernel_rfl) (by kernel_rfl)) ?_
  intro W base args ds gs before hval0 hW hcnd hsz0 _
  have hval : ∀ (j : Nat) t v, Try.f3.params[j]? = some t → args[j]? = some v → Value.okWide Try.prog W .any base t v := hval0
  have hW' := hW
  obtain ⟨p, q, hA0, hV, rfl, hfz, hnd⟩ := hW
  have hA : DataW.TrodAll enc Try.prog W 0 (fun _ => true) true Try.f3.params.toList args.toList ds p := hA0
  rw [Try.params3] at hA hval
  obtain ⟨v0, vs0, d0, ds0, p0, q0, hargs, rfl, rfl, h0, r0⟩ := trodAll_cons hA
  obtain ⟨rfl, rfl, rfl⟩ := trodAll_nil r0
  obtain rfl : args = #[v0] := by cases args; simp_all
  obtain ⟨rfl, rfl⟩ := trodVars_none hV
  obtain ⟨a0, rfl, rfl, rfl, y0⟩ := open_string Try.underlying9 (hval 0 9 v0 rfl rfl) h0
  clear hA0 hval0 hsz0
  refine (walk a0 W).mono fun e W' ⟨he, bel⟩ => ?_
  subst he
  exact ⟨_, rfl, _, _, _, [], _, [], hW', trodAll_mk1 (shut_bool Try.underlying4 _), (trodAll_cons_mk (shut_string Try.underlying9 y0) trodAll_mk0), rfl, bel.frame _, fun h => by cases h⟩
theorem over : Rows.fnExactDecodeBaseRow.holds Try.pinned (OpenSpec.ofChange Rows.fnExactDecodeBaseSpec) :=
  OpenClaim.holds_of_wide 3 Try.f3 rfl rfl rfl rfl rfl rfl rfl ⟨rfl, rfl, rfl, rfl, rfl⟩ rfl rfl rfl rfl rfl (by kernel_rfl) Try.func3 (by kernel_rfl)
    (of_decide_eq_true (by kernel_rfl)) (by unfold Func.isWrapper; first | (rw [if_pos (by decide +kernel)]; kernel_rfl) | (rw [if_neg (by decide +kernel)]; exact ⟨rfl, rfl⟩))
    (fun os started H enc _ => lifted os started H enc)
theorem proved : Rows.FnExactDecodeBaseSaid := over
end Go.Proofs.Ytgclannlnahaeaa.fnExactDecodeBase
namespace Go.Proofs.Ytgclannlnahaeaa
/-- The row, under a short name, for the claim. -/
theorem fnExactDecodeBase_holds : Rows.FnExactDecodeBaseSaid := fnExactDecodeBase.proved
#print axioms fnExactDecodeBase_holds
end Go.Proofs.Ytgclannlnahaeaa
