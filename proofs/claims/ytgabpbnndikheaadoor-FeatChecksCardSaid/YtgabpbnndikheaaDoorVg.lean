import Derived.Test.YtgabpbnndikheaaDoorVf
import Derived.Laws.StructEq
set_option linter.constructorNameAsVariable false
namespace Go.Proofs.YtgabpbnndikheaaDoor
open Go.RowKit Go.Proofs.YtgabpbnndikheaaDoorW.PrintWords

def sameB (x y : Val) : Bool := x.kind == y.kind && (x.n == y.n && (x.s.toList == y.s.toList && x.b == y.b))
theorem val_eql (x y : Val) (w : World) : (binOp .eql 23 (.agg #[.int .i64 x.kind, .int .i64 x.n, .string x.s, .bool x.b]) (.agg #[.int .i64 y.kind, .int .i64 y.n, .string y.s, .bool y.b])).run Tryd.prog w = .ok (.bool (sameB x y)) w := by
  have u3 := Tryd.underlying3
  have u4 := Tryd.underlying4
  have u9 := Tryd.underlying9
  have hS : Tryd.prog.underlying 23 = some (.struct (Tryd.prog.fieldsOf 23)) := by kernel_rfl
  have hp : Tryd.prog.stoodInHeld 23 = false := by kernel_rfl
  rw [run_eql_struct, show (10000 : Nat) = 9999 + 1 from rfl, run_equalIn_agg w 9999 23 _ _ hS hp]
  simp only [Program.fieldsOf, Tryd.underlying23]
  unfold sameB
  go_simp
  by_cases h1 : x.kind = y.kind <;> by_cases h2 : x.n = y.n <;> by_cases h3 : x.s.toList = y.s.toList <;> by_cases h4 : x.b = y.b <;> simp [h1, h2, h3, h4]

theorem read_m7 : readVal ⟨#[45, 55]⟩ = (vNum (-7), 0) := by decide +kernel
theorem cmp_m7 : cmpVal (vNum (-7)) (vNum 3) = -1 := by decide +kernel

set_option maxHeartbeats 4000000 in
set_option maxRecDepth 100000 in
theorem values_any (w : World) (hE : Env w) :
    Calls Tryd.prog 8 #[] w fun e w' => e = .returned (.bool true) ∧ Below w.heap.size w w' := by
  have HE := Aside0.mk hE
  clear hE
  go_enter Tryd.func8, Tryd.ntmps8
  go_wp2_with (first
    | (go_at_call 11; refine (read_any ⟨#[45, 55]⟩ _ HE.out (by decide)).mono ?_; rintro e w1 ⟨rfl, hB1⟩; rw [read_m7]; simp only [vNum, Val.v]))
  refine box1_elim fun w0 HB0 HX => ?_
  generalize hg : w1.heap.size = g at *
  have HG := Aside0.mk hg
  clear hg
  have hveq := fun W => val_eql (vNum (-7)) (vNum (-7)) W
  simp only [vNum] at hveq
  have hsb : sameB ⟨1, -7, ⟨#[]⟩, false⟩ ⟨1, -7, ⟨#[]⟩, false⟩ = true := by decide +kernel
  refine wp_region_loc (by kernel_rfl) (by kernel_rfl) (by kernel_rfl) (fun xs => by simp only [fill, Act.put, List.setIfInBounds_toArray, List.set_cons_zero, List.set_cons_succ, Nat.reduceAdd]; rfl) ?_
  repeat (apply wpLoc_det; · (intro vs W hb he; have k1 := (HX.out.keep hb).c0; have k2 := (HX.out.keep hb).c1; have k3 := (HX.out.keep hb).c2; have k4 := (HX.out.keep hb).c3; simp only at k1 k2 k3 k4; simp [edgeSat, Region.binds, Fact.at_] at he; unfold locRun; go_simp; first | exact loc_val | (with_reducible exact loc_call (num_any 3 W)) | (exact loc_call (cmp_m7 ▸ cmp_any (vNum (-7)) (vNum 3) W))))
  refine wpLoc_nil fun vs W hb he => ?_
  simp only [List.nil_append, List.cons_append, factsAll, Fact.at_, Nat.reduceAdd] at he
  have h13 := he.2.2.2.2.2.2.2.2.2.2.2.2.2.1
  clear he
  go_wp2
  go_ret
  exact ⟨congrArg Ending.returned h13, hB1.trans ((HG.out ▸ HB0.out.trans (hb.mono (HG.out ▸ HB0.out.size)) : Below w1.heap.size w1 W).mono hB1.size)⟩

end Go.Proofs.YtgabpbnndikheaaDoor
