/- The law FeatTells: the call returns true for every input, and changes nothing that was there, where the arguments are together of bulk at most 1048576. The row and its card. -/
import Derived.Test.YtgabpbnndikheaaGreatDoorFt5
import Derived.WalkKit
import Derived.ProofKit
import Derived.OpenShut
import Derived.ShutString
import Derived.ChangeOld
import Derived.Below
import Derived.SizedLaws
import Derived.Carry
import Derived.Lib.SmallJoins
import Derived.MakeChecks
import Derived.Lay
import Derived.ChangeShapes
import Derived.Test.YtgabpbnndikheaaGreatDoorRows
import Derived.Test.YtgabpbnndikheaaGreatDoorCards
import Derived.Test.YtgabpbnndikheaaGreatDoorTie
namespace Go.Proofs.YtgabpbnndikheaaGreatDoor.featTells
open Go.ChangeShapes Go.WideShapes Go.ChangeAt Go.RowKit Go.Joins
open Go.ChangeMaps (open_string shut_string)
set_option linter.unusedVariables false
set_option linter.constructorNameAsVariable false

theorem own : ownKnob Tryz.prog.godebug = none := by kernel_rfl
theorem laidOut : laidOutB Tryz.prog = true := by kernel_rfl

mutual
theorem dB_le {H : Type} : ∀ (d : DataW H), Go.Proofs.YtgabpbnndikheaaGreatDoor.I.dB d ≤ Rows.uptoBulk d
  | .lit l => by cases l <;> simp [Go.Proofs.YtgabpbnndikheaaGreatDoor.I.dB, Rows.uptoBulk]
  | .nil => by simp [Go.Proofs.YtgabpbnndikheaaGreatDoor.I.dB, Rows.uptoBulk]
  | .ptr _ => by simp [Go.Proofs.YtgabpbnndikheaaGreatDoor.I.dB]
  | .slice es sp => by
    have := dBs_le es
    simp only [Go.Proofs.YtgabpbnndikheaaGreatDoor.I.dB, Rows.uptoBulk]
    omega
  | .agg es => by
    have := dBs_le es
    simp only [Go.Proofs.YtgabpbnndikheaaGreatDoor.I.dB, Rows.uptoBulk]
    omega
  | .iface _ _ => by simp [Go.Proofs.YtgabpbnndikheaaGreatDoor.I.dB]
  | .map _ => by simp [Go.Proofs.YtgabpbnndikheaaGreatDoor.I.dB]
  | .held _ => by simp [Go.Proofs.YtgabpbnndikheaaGreatDoor.I.dB]
theorem dBs_le {H : Type} : ∀ (ds : List (DataW H)), Go.Proofs.YtgabpbnndikheaaGreatDoor.I.dBs ds ≤ Rows.uptoBulkAll ds
  | [] => Nat.le_refl _
  | d :: ds => by
    have h1 := dB_le d
    have h2 := dBs_le ds
    simp only [Go.Proofs.YtgabpbnndikheaaGreatDoor.I.dBs, Rows.uptoBulkAll]
    omega
end

set_option maxRecDepth 100000 in
theorem lifted (os : Os) (started : os.Started) (H : Type) (enc : TypeId × Value → H) (F0 : Stop.Interp) :
    ReturnsInHanded {} Tryz.checked os 4 .any (fun w args => (((Rows.OpenSpec.upto Rows.featTellsSpec).pre enc Tryz.prog Tryz.f4 Rows.featTellsUptoRow.domain false w args ∧ laidMetH Tryz.prog Rows.featTellsUptoRow.laid w) ∧ sizedMet enc Tryz.prog Tryz.f4 (Rows.OpenSpec.upto Rows.featTellsSpec) false w args)) (((Rows.OpenSpec.upto Rows.featTellsSpec).at F0).post enc Tryz.prog Tryz.f4 false true false false) := by
  refine Go.Proofs.YtgabpbnndikheaaGreatDoor.I.handed_of_cond (C := Tryz.checked) (s := (Rows.OpenSpec.upto Rows.featTellsSpec)) (k := Rows.uptoSmall) rfl (X := (fun w _ => laidMetH Tryz.prog Rows.featTellsUptoRow.laid w)) (fun _ _ _ hh h => h.of_heap hh) own started (by kernel_rfl) Tryz.func4
    (Go.Proofs.YtgabpbnndikheaaGreatDoor.I.witness_cond (enc := enc) (C := Tryz.checked) (os := os) (s := (Rows.OpenSpec.upto Rows.featTellsSpec)) (k := Rows.uptoSmall) rfl (X := (fun w _ => laidMetH Tryz.prog Rows.featTellsUptoRow.laid w)) (World.laidAll Tryz.prog os Rows.featTellsUptoRow.laid) #[.slice none 0 0, .int .i64 0, .int .i64 0, .string ByteArray.empty] 8 (World.laidAll_os _ _ _)
      (World.shaped_of_ZipB (by kernel_rfl) (by kernel_rfl)) (by kernel_rfl) (x := ([.nil, .lit (.int .i64 0), .lit (.int .i64 0), .lit (.string [])], [], [])) (by kernel_rfl) (by kernel_rfl) (by kernel_rfl) (by kernel_rfl)
      (by rw [MakeChecks.laidMetH_plain _ _ _ (by kernel_rfl)]; exact laidMet_laidAll _ (by kernel_rfl) (by kernel_rfl))) ?_
  intro W base args ds gs before hval0 hW hk hL
  rw [MakeChecks.laidMetH_plain _ _ _ (by kernel_rfl)] at hL
  have hval : ∀ (j : Nat) t v, Tryz.f4.params[j]? = some t → args[j]? = some v → Value.okWide Tryz.prog W .any base t v := hval0
  have hW' := hW
  obtain ⟨p, q, hA0, hV, rfl, hfz, hnd⟩ := hW
  have hA : DataW.TrodAll enc Tryz.prog W 0 (fun _ => true) true Tryz.f4.params.toList args.toList ds p := hA0
  rw [Tryz.params4] at hA hval
  obtain ⟨v0, vs0, d0, ds0, p0, q0, hargs, rfl, rfl, k0, r0⟩ := trodAll_cons hA
  obtain ⟨v1, vs1, d1, ds1, p1, q1, rfl, rfl, rfl, k1, r1⟩ := trodAll_cons r0
  obtain ⟨v2, vs2, d2, ds2, p2, q2, rfl, rfl, rfl, k2, r2⟩ := trodAll_cons r1
  obtain ⟨v3, vs3, d3, ds3, p3, q3, rfl, rfl, rfl, k3, r3⟩ := trodAll_cons r2
  obtain ⟨rfl, rfl, rfl⟩ := trodAll_nil r3
  obtain rfl : args = #[v0, v1, v2, v3] := by cases args; simp_all
  obtain ⟨rfl, rfl⟩ := trodVars_none hV
  have hk2 : Rows.uptoBulkAll [d0, d1, d2, d3] ≤ 1048576 := of_decide_eq_true hk
  simp only [Rows.uptoBulkAll] at hk2
  have lt0 : ∀ x ∈ p0, x.block < W.heap.size := by obtain ⟨m, hm⟩ := k0; exact DataW.trod_lt m _ _ _ hm
  obtain ⟨x0, rv0, sm0, bk0⟩ := Go.Proofs.YtgabpbnndikheaaGreatDoor.I.arg_ofB (k := (.slice Go.Proofs.YtgabpbnndikheaaGreatDoor.I.kFea)) (by kernel_rfl) (hval 0 22 v0 rfl rfl) k0
  have bl0 := dB_le d0
  have lt1 : ∀ x ∈ p1, x.block < W.heap.size := by obtain ⟨m, hm⟩ := k1; exact DataW.trod_lt m _ _ _ hm
  obtain ⟨x1, rv1, sm1, bk1⟩ := Go.Proofs.YtgabpbnndikheaaGreatDoor.I.arg_ofB (k := (.int .i64)) (by kernel_rfl) (hval 1 3 v1 rfl rfl) k1
  have bl1 := dB_le d1
  have lt2 : ∀ x ∈ p2, x.block < W.heap.size := by obtain ⟨m, hm⟩ := k2; exact DataW.trod_lt m _ _ _ hm
  obtain ⟨x2, rv2, sm2, bk2⟩ := Go.Proofs.YtgabpbnndikheaaGreatDoor.I.arg_ofB (k := (.int .i64)) (by kernel_rfl) (hval 2 3 v2 rfl rfl) k2
  have bl2 := dB_le d2
  have lt3 : ∀ x ∈ p3, x.block < W.heap.size := by obtain ⟨m, hm⟩ := k3; exact DataW.trod_lt m _ _ _ hm
  obtain ⟨x3, rv3, sm3, bk3⟩ := Go.Proofs.YtgabpbnndikheaaGreatDoor.I.arg_ofB (k := .str) (by kernel_rfl) (hval 3 9 v3 rfl rfl) k3
  have bl3 := dB_le d3
  clear hA0 hval0
  refine (Go.Proofs.YtgabpbnndikheaaGreatDoor.I.law_calls Go.Proofs.YtgabpbnndikheaaGreatDoor.I.r4_ok (Go.Proofs.YtgabpbnndikheaaGreatDoor.I.gG_of_laid hL (by unfold Rows.featTellsUptoRow; exact .tail _ (.tail _ (.head _)))) (Go.Proofs.YtgabpbnndikheaaGreatDoor.I.nG_le (Go.Proofs.YtgabpbnndikheaaGreatDoor.I.gG_of_laid hL (by unfold Rows.featTellsUptoRow; exact .tail _ (.tail _ (.head _))))) (x := (x0, (x1, (x2, (x3, ()))))) (Go.Proofs.YtgabpbnndikheaaGreatDoor.I.featTells_all x0 x1 x2 x3 sm0 sm1 sm2 sm3 (by omega) (by omega) (by omega) (by omega)) (vals := [v0, v1, v2, v3]) ⟨_, _, rfl, rv0, ⟨_, _, rfl, rv1, ⟨_, _, rfl, rv2, ⟨_, _, rfl, rv3, rfl⟩⟩⟩⟩).mono fun e W' ⟨he, bel⟩ => ?_
  subst he
  exact ⟨_, rfl, _, _, _, [], _, [], hW', trodAll_mk1 (shut_bool Tryz.underlying4 _), (trodAll_cons_mk (Below.trod laidOut (by kernel_rfl) (of_decide_eq_true (by kernel_rfl)) k0 bel lt0) (trodAll_cons_mk (Below.trod laidOut (by kernel_rfl) (of_decide_eq_true (by kernel_rfl)) k1 bel lt1) (trodAll_cons_mk (Below.trod laidOut (by kernel_rfl) (of_decide_eq_true (by kernel_rfl)) k2 bel lt2) (trodAll_cons_mk (Below.trod laidOut (by kernel_rfl) (of_decide_eq_true (by kernel_rfl)) k3 bel lt3) trodAll_mk0)))), rfl, bel.frame _, fun h => by cases h⟩

theorem over : Rows.featTellsUptoRow.holds Tryz.pinned (Rows.OpenSpec.upto Rows.featTellsSpec) :=
  OpenClaim.holds_of_cond 4 Tryz.f4 rfl rfl rfl rfl rfl rfl rfl ⟨rfl, rfl, rfl, rfl, rfl⟩ rfl rfl rfl rfl rfl (by kernel_rfl) Tryz.func4 (by kernel_rfl)
    (of_decide_eq_true (by kernel_rfl)) (by unfold Func.isWrapper; first | (rw [if_pos (by decide +kernel)]; kernel_rfl) | (rw [if_neg (by decide +kernel)]; exact ⟨rfl, rfl⟩))
    (fun os started H enc _ F0 => lifted os started H enc F0)

theorem plain (f : FuncId) (fn : Func) (hf : Tryz.pinned.checked.prog.funcNamed "terrier/terrlaw2.FeatTells" = some f) (hfn : Tryz.pinned.checked.prog.funcs[f]? = some fn) :
    false = Tryz.pinned.checked.prog.looks [] ∧ ∀ (j : Nat) t, fn.params[j]? = some t → Tryz.pinned.checked.prog.wantsStandIn t = false := by
  obtain rfl : f = 4 := Option.some.inj ((show Tryz.prog.funcNamed "terrier/terrlaw2.FeatTells" = some 4 by kernel_rfl).symm.trans hf) |>.symm
  obtain rfl : fn = Tryz.f4 := (Option.some.inj (Tryz.func4.symm.trans hfn)).symm
  refine ⟨by kernel_rfl, fun j t ht => ?_⟩
  rw [Tryz.params4] at ht
  have hm : t ∈ [22, 3, 9] := by simpa using Array.mem_of_getElem? ht
  have hall : ([22, 3, 9].all fun u => !Tryz.prog.wantsStandIn u) = true := by kernel_rfl
  exact (show Tryz.prog.wantsStandIn t = false by simpa using List.all_eq_true.1 hall t hm)

theorem proved : Rows.FeatTellsUptoCardSaid :=
  Claim7.holds_tied_plain_at .later [] _ _ _ _ over (fun _ h => by cases h) (by kernel_rfl) (fun _ h => by cases h) featTellsUpto_row_tie rfl ⟨rfl, rfl⟩ (by kernel_rfl) rfl plain (by kernel_rfl)
#print axioms proved
end Go.Proofs.YtgabpbnndikheaaGreatDoor.featTells
namespace Go.Proofs.YtgabpbnndikheaaGreatDoor
theorem featTells_holds : Rows.FeatTellsUptoCardSaid := featTells.proved
end Go.Proofs.YtgabpbnndikheaaGreatDoor
