/- The law ExprChecks: the call returns true for every input, and changes nothing that was there, where the arguments are together of bulk at most 1048576. The row and its card. -/
import Derived.Test.YtdfgfjnpllncdaaGreatDoorXc6
import Derived.WalkKit
import Derived.ProofKit
import Derived.OpenShut
import Derived.ShutString
import Derived.ChangeOld
import Derived.Below
import Derived.SizedLaws
import Derived.Carry
import Derived.Lib.SmallJoins
import Derived.MakeChecks
import Derived.Lay
import Derived.ChangeShapes
import Derived.Test.YtdfgfjnpllncdaaGreatDoorRows
import Derived.Test.YtdfgfjnpllncdaaGreatDoorCards
import Derived.Test.YtdfgfjnpllncdaaGreatDoorTie
namespace Go.Proofs.YtdfgfjnpllncdaaGreatDoor.exprChecks
open Go.ChangeShapes Go.WideShapes Go.ChangeAt Go.RowKit Go.Joins
open Go.ChangeMaps (open_string shut_string)
set_option linter.unusedVariables false
set_option linter.constructorNameAsVariable false

theorem own : ownKnob Tryz.prog.godebug = none := by kernel_rfl
theorem laidOut : laidOutB Tryz.prog = true := by kernel_rfl

mutual
theorem dB_le {H : Type} : ∀ (d : DataW H), Go.Proofs.YtdfgfjnpllncdaaGreatDoor.I.dB d ≤ Rows.uptoBulk d
  | .lit l => by cases l <;> simp [Go.Proofs.YtdfgfjnpllncdaaGreatDoor.I.dB, Rows.uptoBulk]
  | .nil => by simp [Go.Proofs.YtdfgfjnpllncdaaGreatDoor.I.dB, Rows.uptoBulk]
  | .ptr _ => by simp [Go.Proofs.YtdfgfjnpllncdaaGreatDoor.I.dB]
  | .slice es sp => by
    have := dBs_le es
    simp only [Go.Proofs.YtdfgfjnpllncdaaGreatDoor.I.dB, Rows.uptoBulk]
    omega
  | .agg es => by
    have := dBs_le es
    simp only [Go.Proofs.YtdfgfjnpllncdaaGreatDoor.I.dB, Rows.uptoBulk]
    omega
  | .iface _ _ => by simp [Go.Proofs.YtdfgfjnpllncdaaGreatDoor.I.dB]
  | .map _ => by simp [Go.Proofs.YtdfgfjnpllncdaaGreatDoor.I.dB]
  | .held _ => by simp [Go.Proofs.YtdfgfjnpllncdaaGreatDoor.I.dB]
theorem dBs_le {H : Type} : ∀ (ds : List (DataW H)), Go.Proofs.YtdfgfjnpllncdaaGreatDoor.I.dBs ds ≤ Rows.uptoBulkAll ds
  | [] => Nat.le_refl _
  | d :: ds => by
    have h1 := dB_le d
    have h2 := dBs_le ds
    simp only [Go.Proofs.YtdfgfjnpllncdaaGreatDoor.I.dBs, Rows.uptoBulkAll]
    omega
end

set_option maxRecDepth 100000 in
theorem lifted (os : Os) (started : os.Started) (H : Type) (enc : TypeId × Value → H) (F0 : Stop.Interp) :
    ReturnsInHanded {} Tryz.checked os 4 .any (fun w args => (((Rows.OpenSpec.upto Rows.exprChecksSpec).pre enc Tryz.prog Tryz.f4 Rows.exprChecksUptoRow.domain false w args ∧ laidMetH Tryz.prog Rows.exprChecksUptoRow.laid w) ∧ sizedMet enc Tryz.prog Tryz.f4 (Rows.OpenSpec.upto Rows.exprChecksSpec) false w args)) (((Rows.OpenSpec.upto Rows.exprChecksSpec).at F0).post enc Tryz.prog Tryz.f4 false true false false) := by
  refine Go.Proofs.YtdfgfjnpllncdaaGreatDoor.I.handed_of_cond (C := Tryz.checked) (s := (Rows.OpenSpec.upto Rows.exprChecksSpec)) (k := Rows.uptoSmall) rfl (X := (fun w _ => laidMetH Tryz.prog Rows.exprChecksUptoRow.laid w)) (fun _ _ _ hh h => h.of_heap hh) own started (by kernel_rfl) Tryz.func4
    (Go.Proofs.YtdfgfjnpllncdaaGreatDoor.I.witness_cond (enc := enc) (C := Tryz.checked) (os := os) (s := (Rows.OpenSpec.upto Rows.exprChecksSpec)) (k := Rows.uptoSmall) rfl (X := (fun w _ => laidMetH Tryz.prog Rows.exprChecksUptoRow.laid w)) (World.laidAll Tryz.prog os Rows.exprChecksUptoRow.laid) #[.agg #[.int .i64 0, .int .i64 0, .int .i64 0, .string ByteArray.empty, .bool false, .string ByteArray.empty, .slice none 0 0], .agg #[.int .i64 0, .int .i64 0, .int .i64 0, .string ByteArray.empty, .bool false, .string ByteArray.empty, .slice none 0 0]] 8 (World.laidAll_os _ _ _)
      (World.shaped_of_ZipB (by kernel_rfl) (by kernel_rfl)) (by kernel_rfl) (x := ([.agg [.lit (.int .i64 0), .agg [.lit (.int .i64 0), .lit (.int .i64 0), .lit (.string []), .lit (.bool false)], .lit (.string []), .nil], .agg [.lit (.int .i64 0), .agg [.lit (.int .i64 0), .lit (.int .i64 0), .lit (.string []), .lit (.bool false)], .lit (.string []), .nil]], [], [])) (by kernel_rfl) (by kernel_rfl) (by kernel_rfl) (by kernel_rfl)
      (by rw [MakeChecks.laidMetH_plain _ _ _ (by kernel_rfl)]; exact laidMet_laidAll _ (by kernel_rfl) (by kernel_rfl))) ?_
  intro W base args ds gs before hval0 hW hk hL
  rw [MakeChecks.laidMetH_plain _ _ _ (by kernel_rfl)] at hL
  have hval : ∀ (j : Nat) t v, Tryz.f4.params[j]? = some t → args[j]? = some v → Value.okWide Tryz.prog W .any base t v := hval0
  have hW' := hW
  obtain ⟨p, q, hA0, hV, rfl, hfz, hnd⟩ := hW
  have hA : DataW.TrodAll enc Tryz.prog W 0 (fun _ => true) true Tryz.f4.params.toList args.toList ds p := hA0
  rw [Tryz.params4] at hA hval
  obtain ⟨v0, vs0, d0, ds0, p0, q0, hargs, rfl, rfl, k0, r0⟩ := trodAll_cons hA
  obtain ⟨v1, vs1, d1, ds1, p1, q1, rfl, rfl, rfl, k1, r1⟩ := trodAll_cons r0
  obtain ⟨rfl, rfl, rfl⟩ := trodAll_nil r1
  obtain rfl : args = #[v0, v1] := by cases args; simp_all
  obtain ⟨rfl, rfl⟩ := trodVars_none hV
  have hk2 : Rows.uptoBulkAll [d0, d1] ≤ 1048576 := of_decide_eq_true hk
  simp only [Rows.uptoBulkAll] at hk2
  have lt0 : ∀ x ∈ p0, x.block < W.heap.size := by obtain ⟨m, hm⟩ := k0; exact DataW.trod_lt m _ _ _ hm
  obtain ⟨x0, rv0, sm0, bk0⟩ := Go.Proofs.YtdfgfjnpllncdaaGreatDoor.I.arg_ofB (k := Go.Proofs.YtdfgfjnpllncdaaGreatDoor.I.kExp) (by kernel_rfl) (hval 0 26 v0 rfl rfl) k0
  have bl0 := dB_le d0
  have lt1 : ∀ x ∈ p1, x.block < W.heap.size := by obtain ⟨m, hm⟩ := k1; exact DataW.trod_lt m _ _ _ hm
  obtain ⟨x1, rv1, sm1, bk1⟩ := Go.Proofs.YtdfgfjnpllncdaaGreatDoor.I.arg_ofB (k := Go.Proofs.YtdfgfjnpllncdaaGreatDoor.I.kExp) (by kernel_rfl) (hval 1 26 v1 rfl rfl) k1
  have bl1 := dB_le d1
  clear hA0 hval0
  refine (Go.Proofs.YtdfgfjnpllncdaaGreatDoor.I.law_calls (Go.Proofs.YtdfgfjnpllncdaaGreatDoor.I.r4_ok (2 * (Go.Proofs.YtdfgfjnpllncdaaGreatDoor.I.sz x0 + Go.Proofs.YtdfgfjnpllncdaaGreatDoor.I.sz x1) + 100)) (Go.Proofs.YtdfgfjnpllncdaaGreatDoor.I.gA_of_laid hL (by unfold Rows.exprChecksUptoRow; exact .tail _ (.tail _ (.tail _ (.tail _ (.tail _ (.tail _ (.tail _ (.head _)))))))) (by unfold Rows.exprChecksUptoRow; exact .tail _ (.tail _ (.head _))) (by unfold Rows.exprChecksUptoRow; exact .tail _ (.tail _ (.tail _ (.tail _ (.tail _ (.head _)))))) (by unfold Rows.exprChecksUptoRow; exact .tail _ (.tail _ (.tail _ (.tail _ (.head _)))))) (Go.Proofs.YtdfgfjnpllncdaaGreatDoor.I.nA_le (Go.Proofs.YtdfgfjnpllncdaaGreatDoor.I.gA_of_laid hL (by unfold Rows.exprChecksUptoRow; exact .tail _ (.tail _ (.tail _ (.tail _ (.tail _ (.tail _ (.tail _ (.head _)))))))) (by unfold Rows.exprChecksUptoRow; exact .tail _ (.tail _ (.head _))) (by unfold Rows.exprChecksUptoRow; exact .tail _ (.tail _ (.tail _ (.tail _ (.tail _ (.head _)))))) (by unfold Rows.exprChecksUptoRow; exact .tail _ (.tail _ (.tail _ (.tail _ (.head _))))))) (x := (x0, (x1, ()))) (Go.Proofs.YtdfgfjnpllncdaaGreatDoor.I.exprChecks_raw x0 x1 sm0 sm1 (by omega) (by omega)) (vals := [v0, v1]) ⟨_, _, rfl, rv0, ⟨_, _, rfl, rv1, rfl⟩⟩).mono fun e W' ⟨he, bel⟩ => ?_
  subst he
  exact ⟨_, rfl, _, _, _, [], _, [], hW', trodAll_mk1 (shut_bool Tryz.underlying4 _), (trodAll_cons_mk (Below.trod laidOut (by kernel_rfl) (of_decide_eq_true (by kernel_rfl)) k0 bel lt0) (trodAll_cons_mk (Below.trod laidOut (by kernel_rfl) (of_decide_eq_true (by kernel_rfl)) k1 bel lt1) trodAll_mk0)), rfl, bel.frame _, fun h => by cases h⟩

theorem over : Rows.exprChecksUptoRow.holds Tryz.pinned (Rows.OpenSpec.upto Rows.exprChecksSpec) :=
  OpenClaim.holds_of_cond 4 Tryz.f4 rfl rfl rfl rfl rfl rfl rfl ⟨rfl, rfl, rfl, rfl, rfl⟩ rfl rfl rfl rfl rfl (by kernel_rfl) Tryz.func4 (by kernel_rfl)
    (of_decide_eq_true (by kernel_rfl)) (by unfold Func.isWrapper; first | (rw [if_pos (by decide +kernel)]; kernel_rfl) | (rw [if_neg (by decide +kernel)]; exact ⟨rfl, rfl⟩))
    (fun os started H enc _ F0 => lifted os started H enc F0)

theorem plain (f : FuncId) (fn : Func) (hf : Tryz.pinned.checked.prog.funcNamed "terrier/terrlaw2.ExprChecks" = some f) (hfn : Tryz.pinned.checked.prog.funcs[f]? = some fn) :
    true = Tryz.pinned.checked.prog.looks [] ∧ ∀ (j : Nat) t, fn.params[j]? = some t → Tryz.pinned.checked.prog.wantsStandIn t = false := by
  obtain rfl : f = 4 := Option.some.inj ((show Tryz.prog.funcNamed "terrier/terrlaw2.ExprChecks" = some 4 by kernel_rfl).symm.trans hf) |>.symm
  obtain rfl : fn = Tryz.f4 := (Option.some.inj (Tryz.func4.symm.trans hfn)).symm
  refine ⟨by kernel_rfl, fun j t ht => ?_⟩
  rw [Tryz.params4] at ht
  have hm : t ∈ [26] := by simpa using Array.mem_of_getElem? ht
  have hall : ([26].all fun u => !Tryz.prog.wantsStandIn u) = true := by kernel_rfl
  exact (show Tryz.prog.wantsStandIn t = false by simpa using List.all_eq_true.1 hall t hm)

theorem proved : Rows.ExprChecksUptoCardSaid :=
  Claim7.holds_tied_plain_at .later [] _ _ _ _ over (fun _ h => by cases h) (by kernel_rfl) (fun _ h => by cases h) exprChecksUpto_row_tie rfl ⟨rfl, rfl⟩ (by kernel_rfl) rfl plain (by kernel_rfl)
#print axioms proved
end Go.Proofs.YtdfgfjnpllncdaaGreatDoor.exprChecks
namespace Go.Proofs.YtdfgfjnpllncdaaGreatDoor
theorem exprChecks_holds : Rows.ExprChecksUptoCardSaid := exprChecks.proved
end Go.Proofs.YtdfgfjnpllncdaaGreatDoor
