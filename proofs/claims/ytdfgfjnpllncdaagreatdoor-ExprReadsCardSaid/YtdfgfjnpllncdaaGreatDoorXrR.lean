/- The law ExprReads: the call returns true for every input, and changes nothing that was there. The row and its card. -/
import Derived.Test.YtdfgfjnpllncdaaGreatDoorXr6
import Derived.WalkKit
import Derived.ProofKit
import Derived.OpenShut
import Derived.ShutString
import Derived.ChangeOld
import Derived.Below
import Derived.SizedLaws
import Derived.Carry
import Derived.Lib.SmallJoins
import Derived.MakeChecks
import Derived.Lay
import Derived.ChangeShapes
import Derived.Test.YtdfgfjnpllncdaaGreatDoorRows
import Derived.Test.YtdfgfjnpllncdaaGreatDoorCards
import Derived.Test.YtdfgfjnpllncdaaGreatDoorTie
namespace Go.Proofs.YtdfgfjnpllncdaaGreatDoor.exprReads
open Go.ChangeShapes Go.WideShapes Go.ChangeAt Go.RowKit Go.Joins
open Go.ChangeMaps (open_string shut_string)
set_option linter.unusedVariables false
set_option linter.constructorNameAsVariable false

theorem own : ownKnob Tryz.prog.godebug = none := by kernel_rfl
theorem laidOut : laidOutB Tryz.prog = true := by kernel_rfl

set_option maxRecDepth 100000 in
theorem lifted (os : Os) (started : os.Started) (H : Type) (enc : TypeId × Value → H) :
    ReturnsInHanded {} Tryz.checked os 6 .any (fun w args => (Rows.exprReadsSpec.pre enc Tryz.prog Tryz.f6 Rows.exprReadsRow.domain false w args ∧ laidMetH Tryz.prog Rows.exprReadsRow.laid w) ∧ sizedMet enc Tryz.prog Tryz.f6 (OpenSpec.ofChange Rows.exprReadsSpec) false w args) (Rows.exprReadsSpec.post enc Tryz.prog Tryz.f6 false true false false) := by
  refine returnsInHanded_of_change_and (C := Tryz.checked) (X := fun w _ => laidMetH Tryz.prog Rows.exprReadsRow.laid w) (fun _ _ _ hh h => h.of_heap hh) own started (by kernel_rfl) Tryz.func6
    (ChangeSpec.witness_shaped (enc := enc) (C := Tryz.checked) (os := os) (X := fun w _ => laidMetH Tryz.prog Rows.exprReadsRow.laid w) false (World.laidAll Tryz.prog os Rows.exprReadsRow.laid) #[.string ByteArray.empty] 8 (World.laidAll_os _ _ _)
      (World.shaped_of_ZipB (by kernel_rfl) (by kernel_rfl)) (by kernel_rfl) (by kernel_rfl) (by kernel_rfl)
      (by rw [MakeChecks.laidMetH_plain _ _ _ (by kernel_rfl)]; exact laidMet_laidAll _ (by kernel_rfl) (by kernel_rfl))) ?_
  intro W base args ds gs before hval0 hW hcnd hsz0 hL _
  rw [MakeChecks.laidMetH_plain _ _ _ (by kernel_rfl)] at hL
  have hval : ∀ (j : Nat) t v, Tryz.f6.params[j]? = some t → args[j]? = some v → Value.okWide Tryz.prog W .any base t v := hval0
  have hW' := hW
  obtain ⟨p, q, hA0, hV, rfl, hfz, hnd⟩ := hW
  have hA : DataW.TrodAll enc Tryz.prog W 0 (fun _ => true) true Tryz.f6.params.toList args.toList ds p := hA0
  rw [Tryz.params6] at hA hval
  obtain ⟨v0, vs0, d0, ds0, p0, q0, hargs, rfl, rfl, k0, r0⟩ := trodAll_cons hA
  obtain ⟨rfl, rfl, rfl⟩ := trodAll_nil r0
  obtain rfl : args = #[v0] := by cases args; simp_all
  obtain ⟨rfl, rfl⟩ := trodVars_none hV
  have lt0 : ∀ x ∈ p0, x.block < W.heap.size := by obtain ⟨m, hm⟩ := k0; exact DataW.trod_lt m _ _ _ hm
  obtain ⟨x0, rv0, sm0⟩ := Go.Proofs.YtdfgfjnpllncdaaGreatDoor.I.arg_of (k := .str) (by kernel_rfl) (hval 0 9 v0 rfl rfl) k0
  clear hA0 hval0 hsz0
  refine (Go.Proofs.YtdfgfjnpllncdaaGreatDoor.I.law_calls (Go.Proofs.YtdfgfjnpllncdaaGreatDoor.I.r6_ok (Go.Proofs.YtdfgfjnpllncdaaGreatDoor.I.readFuel x0)) (Go.Proofs.YtdfgfjnpllncdaaGreatDoor.I.gA_of_laid hL (by unfold Rows.exprReadsRow; exact .tail _ (.tail _ (.tail _ (.tail _ (.tail _ (.tail _ (.tail _ (.head _)))))))) (by unfold Rows.exprReadsRow; exact .tail _ (.tail _ (.head _))) (by unfold Rows.exprReadsRow; exact .tail _ (.tail _ (.tail _ (.tail _ (.tail _ (.head _)))))) (by unfold Rows.exprReadsRow; exact .tail _ (.tail _ (.tail _ (.tail _ (.head _)))))) (Go.Proofs.YtdfgfjnpllncdaaGreatDoor.I.nA_le (Go.Proofs.YtdfgfjnpllncdaaGreatDoor.I.gA_of_laid hL (by unfold Rows.exprReadsRow; exact .tail _ (.tail _ (.tail _ (.tail _ (.tail _ (.tail _ (.tail _ (.head _)))))))) (by unfold Rows.exprReadsRow; exact .tail _ (.tail _ (.head _))) (by unfold Rows.exprReadsRow; exact .tail _ (.tail _ (.tail _ (.tail _ (.tail _ (.head _)))))) (by unfold Rows.exprReadsRow; exact .tail _ (.tail _ (.tail _ (.tail _ (.head _))))))) (x := (x0, ())) (Go.Proofs.YtdfgfjnpllncdaaGreatDoor.I.exprReads_raw x0 sm0) (vals := [v0]) ⟨_, _, rfl, rv0, rfl⟩).mono fun e W' ⟨he, bel⟩ => ?_
  subst he
  exact ⟨_, rfl, _, _, _, [], _, [], hW', trodAll_mk1 (shut_bool Tryz.underlying4 _), (trodAll_cons_mk (Below.trod laidOut (by kernel_rfl) (of_decide_eq_true (by kernel_rfl)) k0 bel lt0) trodAll_mk0), rfl, bel.frame _, fun h => by cases h⟩

theorem over : Rows.exprReadsRow.holds Tryz.pinned (OpenSpec.ofChange Rows.exprReadsSpec) :=
  OpenClaim.holds_of_wide 6 Tryz.f6 rfl rfl rfl rfl rfl rfl rfl ⟨rfl, rfl, rfl, rfl, rfl⟩ rfl rfl rfl rfl rfl (by kernel_rfl) Tryz.func6 (by kernel_rfl)
    (of_decide_eq_true (by kernel_rfl)) (by unfold Func.isWrapper; first | (rw [if_pos (by decide +kernel)]; kernel_rfl) | (rw [if_neg (by decide +kernel)]; exact ⟨rfl, rfl⟩))
    (fun os started H enc _ => lifted os started H enc)

theorem plain (f : FuncId) (fn : Func) (hf : Tryz.pinned.checked.prog.funcNamed "terrier/terrlaw2.ExprReads" = some f) (hfn : Tryz.pinned.checked.prog.funcs[f]? = some fn) :
    true = Tryz.pinned.checked.prog.looks [] ∧ ∀ (j : Nat) t, fn.params[j]? = some t → Tryz.pinned.checked.prog.wantsStandIn t = false := by
  obtain rfl : f = 6 := Option.some.inj ((show Tryz.prog.funcNamed "terrier/terrlaw2.ExprReads" = some 6 by kernel_rfl).symm.trans hf) |>.symm
  obtain rfl : fn = Tryz.f6 := (Option.some.inj (Tryz.func6.symm.trans hfn)).symm
  refine ⟨by kernel_rfl, fun j t ht => ?_⟩
  rw [Tryz.params6] at ht
  have hm : t ∈ [9] := by simpa using Array.mem_of_getElem? ht
  have hall : ([9].all fun u => !Tryz.prog.wantsStandIn u) = true := by kernel_rfl
  exact (show Tryz.prog.wantsStandIn t = false by simpa using List.all_eq_true.1 hall t hm)

theorem proved : Rows.ExprReadsCardSaid :=
  Claim7.holds_tied_plain_at .later [] _ _ _ _ over (fun _ h => by cases h) (by kernel_rfl) (fun _ h => by cases h) exprReads_row_tie rfl ⟨rfl, rfl⟩ (by kernel_rfl) rfl plain (by kernel_rfl)
#print axioms proved
end Go.Proofs.YtdfgfjnpllncdaaGreatDoor.exprReads
namespace Go.Proofs.YtdfgfjnpllncdaaGreatDoor
theorem exprReads_holds : Rows.ExprReadsCardSaid := exprReads.proved
end Go.Proofs.YtdfgfjnpllncdaaGreatDoor


