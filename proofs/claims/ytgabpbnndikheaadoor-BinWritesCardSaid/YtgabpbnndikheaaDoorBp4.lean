import Derived.Test.YtgabpbnndikheaaDoorBp3
import Derived.Test.YtgabpbnndikheaaDoorProg
import Derived.OpenShut
/-! What the functions compute: printed by the tool Gen out of the program's text; each theorem says that the function's calls do that. -/
namespace Go.Proofs.YtgabpbnndikheaaDoor.I
open Go.RowKit
set_option linter.unusedVariables false
set_option maxRecDepth 100000
/-- terrier/feat.Parts$1 -/
noncomputable def r48 (x : (kdP [(.slice (.pair (.int .i64) (.pair (.int .i64) .unit)))]).T) : Option (kdP [.bool]).T :=
  (Option.some ((Decidable.decide (LT.lt (200 : Int) (Nat.cast (List.length x.1) : Int))), Unit.unit))
theorem r48_ok : PureOk Go.Proofs.Tryd.prog 0 (fun _ => True) 48 [(.slice (.pair (.int .i64) (.pair (.int .i64) .unit)))] [.bool] r48 :=
  pureOk_of_run (F := specOf []) (hs := hintOf []) stays_triv specOf_nil mixed Go.Proofs.Tryd.func48 rfl (by kernel_rfl) (fun _ => by kernel_rfl)

/-- slices.IndexFunc[[][]terrier/api.Point,[]terrier/api.Point] -/
noncomputable def r84_48 (x : (kdP [(.slice (.slice (.pair (.int .i64) (.pair (.int .i64) .unit)))), (.fn 48)]).T) : Option (kdP [(.int .i64)]).T :=
  (Option.bind (loop (D := (Prod (Kd.T (.pair (.int .i64) .unit)) (Kd.T .unit))) (O := (Sum (Kd.T (.pair (.pair (.int .i64) .unit) .unit)) (OutT (List.cons ((Ex3.exit 0), (Sh.mk (List.nil) (List.nil) (List.nil))) (List.nil))))) (fun x0 => (cond (Decidable.decide (LT.lt x0.1.1 (Nat.cast (List.length x.1) : Int))) (cond (inB x0.1.1 (List.length x.1)) (Option.bind (GetElem?.getElem? x.1 (Int.toNat x0.1.1)) (fun x1 => (Option.bind (r48 (x1, Unit.unit)) (fun x2 => (cond x2.1 (Option.some (Sum.inr (Sum.inl ((x0.1.1, Unit.unit), Unit.unit)))) (Option.some (Sum.inl (((IntKind.wrap IntKind.i64 (HAdd.hAdd x0.1.1 (1 : Int))), Unit.unit), Unit.unit)))))))) (Option.none)) (Option.some (Sum.inr (Sum.inr (Sum.inl (Unit.unit, Unit.unit))))))) (((0 : Int), Unit.unit), Unit.unit)) (sumE (fun x0 => (Option.some (x0.1.1, Unit.unit))) (sumE (fun x0 => (Option.some ((Neg.neg (1 : Int)), Unit.unit))) (emptyE))))
theorem r84_48_ok : PureOk Go.Proofs.Tryd.prog 0 (fun _ => True) 84 [(.slice (.slice (.pair (.int .i64) (.pair (.int .i64) .unit)))), (.fn 48)] [(.int .i64)] r84_48 :=
  pureOk_of_run (F := specOf [(48, pureSpec [(.slice (.pair (.int .i64) (.pair (.int .i64) .unit)))] [.bool] r48)]) (hs := hintOf [(0, ⟨⟨[(8, .lf (.int .i64))], [], []⟩, [(.ret, ⟨[(4, .lf (.int .i64))], [], []⟩), ((.exit 0), ⟨[], [], []⟩)]⟩)]) stays_triv (specOf_cons (PureOk.spec r48_ok) specOf_nil) mixed Go.Proofs.Tryd.func84 rfl (by kernel_rfl) (fun _ => by kernel_rfl)

/-- slices.ContainsFunc[[][]terrier/api.Point,[]terrier/api.Point] -/
noncomputable def r47_48 (x : (kdP [(.slice (.slice (.pair (.int .i64) (.pair (.int .i64) .unit)))), (.fn 48)]).T) : Option (kdP [.bool]).T :=
  (Option.bind (r84_48 (x.1, (Unit.unit, Unit.unit))) (fun x0 => (Option.some ((Decidable.decide (LE.le (0 : Int) x0.1)), Unit.unit))))
theorem r47_48_ok : PureOk Go.Proofs.Tryd.prog 0 (fun _ => True) 47 [(.slice (.slice (.pair (.int .i64) (.pair (.int .i64) .unit)))), (.fn 48)] [.bool] r47_48 :=
  pureOk_of_run (F := specOf [(84, pickS [([48], pureSpec [(.slice (.slice (.pair (.int .i64) (.pair (.int .i64) .unit)))), (.fn 48)] [(.int .i64)] r84_48)])]) (hs := hintOf []) stays_triv (specOf_cons (pickS_one (PureOk.spec r84_48_ok)) specOf_nil) mixed Go.Proofs.Tryd.func47 rfl (by kernel_rfl) (fun _ => by kernel_rfl)

/-- terrier/point.limit -/
noncomputable def r127 (x : (kdP [(.int .i64), (.int .i64)]).T) : Option (kdP [(.int .i64)]).T :=
  (Option.some ((maxI (IntKind.wrap IntKind.i64 (HSub.hSub (0 : Int) x.2.1)) (minI x.1 x.2.1)), Unit.unit))
theorem r127_ok : PureOk Go.Proofs.Tryd.prog 0 (fun _ => True) 127 [(.int .i64), (.int .i64)] [(.int .i64)] r127 :=
  pureOk_of_run (F := specOf []) (hs := hintOf []) stays_triv specOf_nil mixed Go.Proofs.Tryd.func127 rfl (by kernel_rfl) (fun _ => by kernel_rfl)

/-- terrier/point.Clamp -/
noncomputable def r110 (x : (kdP [(.pair (.int .i64) (.pair (.int .i64) .unit))]).T) : Option (kdP [(.pair (.int .i64) (.pair (.int .i64) .unit))]).T :=
  (Option.bind (r127 (x.1.1, ((1048576 : Int), Unit.unit))) (fun x0 => (Option.bind (r127 (x.1.2.1, ((1048576 : Int), Unit.unit))) (fun x1 => (Option.some ((x0.1, (x1.1, Unit.unit)), Unit.unit))))))
theorem r110_ok : PureOk Go.Proofs.Tryd.prog 0 (fun _ => True) 110 [(.pair (.int .i64) (.pair (.int .i64) .unit))] [(.pair (.int .i64) (.pair (.int .i64) .unit))] r110 :=
  pureOk_of_run (F := specOf [(127, pureSpec [(.int .i64), (.int .i64)] [(.int .i64)] r127)]) (hs := hintOf []) stays_triv (specOf_cons (PureOk.spec r127_ok) specOf_nil) mixed Go.Proofs.Tryd.func110 rfl (by kernel_rfl) (fun _ => by kernel_rfl)

/-- terrier/point.Ok -/
noncomputable def r87 (x : (kdP [(.pair (.int .i64) (.pair (.int .i64) .unit))]).T) : Option (kdP [.bool]).T :=
  (Option.bind (r110 ((x.1.1, (x.1.2.1, Unit.unit)), Unit.unit)) (fun x0 => (Option.some ((Bool.and (Decidable.decide (Eq x.1.1 x0.1.1)) (Decidable.decide (Eq x.1.2.1 x0.1.2.1))), Unit.unit))))
theorem r87_ok : PureOk Go.Proofs.Tryd.prog 0 (fun _ => True) 87 [(.pair (.int .i64) (.pair (.int .i64) .unit))] [.bool] r87 :=
  pureOk_of_run (F := specOf [(110, pureSpec [(.pair (.int .i64) (.pair (.int .i64) .unit))] [(.pair (.int .i64) (.pair (.int .i64) .unit))] r110)]) (hs := hintOf []) stays_triv (specOf_cons (PureOk.spec r110_ok) specOf_nil) mixed Go.Proofs.Tryd.func87 rfl (by kernel_rfl) (fun _ => by kernel_rfl)

/-- terrier/feat.points$1 -/
noncomputable def r86 (x : (kdP [(.pair (.int .i64) (.pair (.int .i64) .unit))]).T) : Option (kdP [.bool]).T :=
  (Option.bind (r87 ((x.1.1, (x.1.2.1, Unit.unit)), Unit.unit)) (fun x0 => (Option.some ((Bool.not x0.1), Unit.unit))))
theorem r86_ok : PureOk Go.Proofs.Tryd.prog 0 (fun _ => True) 86 [(.pair (.int .i64) (.pair (.int .i64) .unit))] [.bool] r86 :=
  pureOk_of_run (F := specOf [(87, pureSpec [(.pair (.int .i64) (.pair (.int .i64) .unit))] [.bool] r87)]) (hs := hintOf []) stays_triv (specOf_cons (PureOk.spec r87_ok) specOf_nil) mixed Go.Proofs.Tryd.func86 rfl (by kernel_rfl) (fun _ => by kernel_rfl)

/-- slices.IndexFunc[[]terrier/api.Point,terrier/api.Point] -/
noncomputable def r109_86 (x : (kdP [(.slice (.pair (.int .i64) (.pair (.int .i64) .unit))), (.fn 86)]).T) : Option (kdP [(.int .i64)]).T :=
  (Option.bind (loop (D := (Prod (Kd.T (.pair (.int .i64) .unit)) (Kd.T .unit))) (O := (Sum (Kd.T (.pair (.pair (.int .i64) .unit) .unit)) (OutT (List.cons ((Ex3.exit 0), (Sh.mk (List.nil) (List.nil) (List.nil))) (List.nil))))) (fun x0 => (cond (Decidable.decide (LT.lt x0.1.1 (Nat.cast (List.length x.1) : Int))) (cond (inB x0.1.1 (List.length x.1)) (Option.bind (GetElem?.getElem? x.1 (Int.toNat x0.1.1)) (fun x1 => (Option.bind (r86 ((x1.1, (x1.2.1, Unit.unit)), Unit.unit)) (fun x2 => (cond x2.1 (Option.some (Sum.inr (Sum.inl ((x0.1.1, Unit.unit), Unit.unit)))) (Option.some (Sum.inl (((IntKind.wrap IntKind.i64 (HAdd.hAdd x0.1.1 (1 : Int))), Unit.unit), Unit.unit)))))))) (Option.none)) (Option.some (Sum.inr (Sum.inr (Sum.inl (Unit.unit, Unit.unit))))))) (((0 : Int), Unit.unit), Unit.unit)) (sumE (fun x0 => (Option.some (x0.1.1, Unit.unit))) (sumE (fun x0 => (Option.some ((Neg.neg (1 : Int)), Unit.unit))) (emptyE))))
theorem r109_86_ok : PureOk Go.Proofs.Tryd.prog 0 (fun _ => True) 109 [(.slice (.pair (.int .i64) (.pair (.int .i64) .unit))), (.fn 86)] [(.int .i64)] r109_86 :=
  pureOk_of_run (F := specOf [(86, pureSpec [(.pair (.int .i64) (.pair (.int .i64) .unit))] [.bool] r86)]) (hs := hintOf [(0, ⟨⟨[(8, .lf (.int .i64))], [], []⟩, [(.ret, ⟨[(4, .lf (.int .i64))], [], []⟩), ((.exit 0), ⟨[], [], []⟩)]⟩)]) stays_triv (specOf_cons (PureOk.spec r86_ok) specOf_nil) mixed Go.Proofs.Tryd.func109 rfl (by kernel_rfl) (fun _ => by kernel_rfl)

/-- slices.ContainsFunc[[]terrier/api.Point,terrier/api.Point] -/
noncomputable def r85_86 (x : (kdP [(.slice (.pair (.int .i64) (.pair (.int .i64) .unit))), (.fn 86)]).T) : Option (kdP [.bool]).T :=
  (Option.bind (r109_86 (x.1, (Unit.unit, Unit.unit))) (fun x0 => (Option.some ((Decidable.decide (LE.le (0 : Int) x0.1)), Unit.unit))))
theorem r85_86_ok : PureOk Go.Proofs.Tryd.prog 0 (fun _ => True) 85 [(.slice (.pair (.int .i64) (.pair (.int .i64) .unit))), (.fn 86)] [.bool] r85_86 :=
  pureOk_of_run (F := specOf [(109, pickS [([86], pureSpec [(.slice (.pair (.int .i64) (.pair (.int .i64) .unit))), (.fn 86)] [(.int .i64)] r109_86)])]) (hs := hintOf []) stays_triv (specOf_cons (pickS_one (PureOk.spec r109_86_ok)) specOf_nil) mixed Go.Proofs.Tryd.func85 rfl (by kernel_rfl) (fun _ => by kernel_rfl)

/-- terrier/feat.points -/
noncomputable def r49 (x : (kdP [(.int .i64), (.slice (.pair (.int .i64) (.pair (.int .i64) .unit)))]).T) : Option (kdP [(.int .i64)]).T :=
  (Option.bind (r85_86 (x.2.1, (Unit.unit, Unit.unit))) (fun x0 => (cond x0.1 (Option.some ((1 : Int), Unit.unit)) (cond (Decidable.decide (Eq x.1 (1 : Int))) (cond (Bool.not (Decidable.decide (Eq (Nat.cast (List.length x.2.1) : Int) (1 : Int)))) (Option.some ((3 : Int), Unit.unit)) (Option.some ((0 : Int), Unit.unit))) (cond (Decidable.decide (Eq x.1 (2 : Int))) (cond (Decidable.decide (LT.lt (Nat.cast (List.length x.2.1) : Int) (2 : Int))) (Option.some ((3 : Int), Unit.unit)) (Option.bind (loop (D := (Prod (Kd.T (.pair (.int .i64) .unit)) (Kd.T .unit))) (O := (Sum (Kd.T (.pair (.pair (.int .i64) .unit) .unit)) (OutT (List.cons ((Ex3.exit 1), (Sh.mk (List.nil) (List.nil) (List.nil))) (List.nil))))) (fun x1 => (cond (Decidable.decide (LT.lt x1.1.1 (Nat.cast (List.length x.2.1) : Int))) (cond (inB x1.1.1 (List.length x.2.1)) (Option.bind (GetElem?.getElem? x.2.1 (Int.toNat x1.1.1)) (fun x2 => (cond (inB (IntKind.wrap IntKind.i64 (HSub.hSub x1.1.1 (1 : Int))) (List.length x.2.1)) (Option.bind (GetElem?.getElem? x.2.1 (Int.toNat (IntKind.wrap IntKind.i64 (HSub.hSub x1.1.1 (1 : Int))))) (fun x3 => (cond (Bool.and (Decidable.decide (Eq x2.1 x3.1)) (Decidable.decide (Eq x2.2.1 x3.2.1))) (Option.some (Sum.inr (Sum.inl (((3 : Int), Unit.unit), Unit.unit)))) (Option.some (Sum.inl (((IntKind.wrap IntKind.i64 (HAdd.hAdd x1.1.1 (1 : Int))), Unit.unit), Unit.unit)))))) (Option.none)))) (Option.none)) (Option.some (Sum.inr (Sum.inr (Sum.inl (Unit.unit, Unit.unit))))))) (((1 : Int), Unit.unit), Unit.unit)) (sumE (fun x1 => (Option.some (x1.1.1, Unit.unit))) (sumE (fun x1 => (Option.some ((0 : Int), Unit.unit))) (emptyE))))) (Option.some ((0 : Int), Unit.unit)))))))
theorem r49_ok : PureOk Go.Proofs.Tryd.prog 0 (fun _ => True) 49 [(.int .i64), (.slice (.pair (.int .i64) (.pair (.int .i64) .unit)))] [(.int .i64)] r49 :=
  pureOk_of_run (F := specOf [(85, pickS [([86], pureSpec [(.slice (.pair (.int .i64) (.pair (.int .i64) .unit))), (.fn 86)] [.bool] r85_86)])]) (hs := hintOf [(1, ⟨⟨[(5, .lf (.int .i64))], [], []⟩, [(.ret, ⟨[(4, .lf (.int .i64))], [], []⟩), ((.exit 1), ⟨[], [], []⟩)]⟩)]) stays_triv (specOf_cons (pickS_one (PureOk.spec r85_86_ok)) specOf_nil) mixed Go.Proofs.Tryd.func49 rfl (by kernel_rfl) (fun _ => by kernel_rfl)

/-- terrier/ring.Check$1 -/
noncomputable def r111 (x : (kdP [(.pair (.int .i64) (.pair (.int .i64) .unit))]).T) : Option (kdP [.bool]).T :=
  (Option.bind (r87 ((x.1.1, (x.1.2.1, Unit.unit)), Unit.unit)) (fun x0 => (Option.some ((Bool.not x0.1), Unit.unit))))
theorem r111_ok : PureOk Go.Proofs.Tryd.prog 0 (fun _ => True) 111 [(.pair (.int .i64) (.pair (.int .i64) .unit))] [.bool] r111 :=
  pureOk_of_run (F := specOf [(87, pureSpec [(.pair (.int .i64) (.pair (.int .i64) .unit))] [.bool] r87)]) (hs := hintOf []) stays_triv (specOf_cons (PureOk.spec r87_ok) specOf_nil) mixed Go.Proofs.Tryd.func111 rfl (by kernel_rfl) (fun _ => by kernel_rfl)

/-- slices.IndexFunc[[]terrier/api.Point,terrier/api.Point] -/
noncomputable def r109_111 (x : (kdP [(.slice (.pair (.int .i64) (.pair (.int .i64) .unit))), (.fn 111)]).T) : Option (kdP [(.int .i64)]).T :=
  (Option.bind (loop (D := (Prod (Kd.T (.pair (.int .i64) .unit)) (Kd.T .unit))) (O := (Sum (Kd.T (.pair (.pair (.int .i64) .unit) .unit)) (OutT (List.cons ((Ex3.exit 0), (Sh.mk (List.nil) (List.nil) (List.nil))) (List.nil))))) (fun x0 => (cond (Decidable.decide (LT.lt x0.1.1 (Nat.cast (List.length x.1) : Int))) (cond (inB x0.1.1 (List.length x.1)) (Option.bind (GetElem?.getElem? x.1 (Int.toNat x0.1.1)) (fun x1 => (Option.bind (r111 ((x1.1, (x1.2.1, Unit.unit)), Unit.unit)) (fun x2 => (cond x2.1 (Option.some (Sum.inr (Sum.inl ((x0.1.1, Unit.unit), Unit.unit)))) (Option.some (Sum.inl (((IntKind.wrap IntKind.i64 (HAdd.hAdd x0.1.1 (1 : Int))), Unit.unit), Unit.unit)))))))) (Option.none)) (Option.some (Sum.inr (Sum.inr (Sum.inl (Unit.unit, Unit.unit))))))) (((0 : Int), Unit.unit), Unit.unit)) (sumE (fun x0 => (Option.some (x0.1.1, Unit.unit))) (sumE (fun x0 => (Option.some ((Neg.neg (1 : Int)), Unit.unit))) (emptyE))))
theorem r109_111_ok : PureOk Go.Proofs.Tryd.prog 0 (fun _ => True) 109 [(.slice (.pair (.int .i64) (.pair (.int .i64) .unit))), (.fn 111)] [(.int .i64)] r109_111 :=
  pureOk_of_run (F := specOf [(111, pureSpec [(.pair (.int .i64) (.pair (.int .i64) .unit))] [.bool] r111)]) (hs := hintOf [(0, ⟨⟨[(8, .lf (.int .i64))], [], []⟩, [(.ret, ⟨[(4, .lf (.int .i64))], [], []⟩), ((.exit 0), ⟨[], [], []⟩)]⟩)]) stays_triv (specOf_cons (PureOk.spec r111_ok) specOf_nil) mixed Go.Proofs.Tryd.func109 rfl (by kernel_rfl) (fun _ => by kernel_rfl)

/-- slices.ContainsFunc[[]terrier/api.Point,terrier/api.Point] -/
noncomputable def r85_111 (x : (kdP [(.slice (.pair (.int .i64) (.pair (.int .i64) .unit))), (.fn 111)]).T) : Option (kdP [.bool]).T :=
  (Option.bind (r109_111 (x.1, (Unit.unit, Unit.unit))) (fun x0 => (Option.some ((Decidable.decide (LE.le (0 : Int) x0.1)), Unit.unit))))
theorem r85_111_ok : PureOk Go.Proofs.Tryd.prog 0 (fun _ => True) 85 [(.slice (.pair (.int .i64) (.pair (.int .i64) .unit))), (.fn 111)] [.bool] r85_111 :=
  pureOk_of_run (F := specOf [(109, pickS [([111], pureSpec [(.slice (.pair (.int .i64) (.pair (.int .i64) .unit))), (.fn 111)] [(.int .i64)] r109_111)])]) (hs := hintOf []) stays_triv (specOf_cons (pickS_one (PureOk.spec r109_111_ok)) specOf_nil) mixed Go.Proofs.Tryd.func85 rfl (by kernel_rfl) (fun _ => by kernel_rfl)

/-- terrier/point.way -/
noncomputable def r153 (x : (kdP [(.pair (.int .i64) (.pair (.int .i64) .unit)), (.pair (.int .i64) (.pair (.int .i64) .unit))]).T) : Option (kdP [(.pair (.int .i64) (.pair (.int .i64) .unit))]).T :=
  (Option.bind (r110 ((x.1.1, (x.1.2.1, Unit.unit)), Unit.unit)) (fun x0 => (Option.bind (r110 ((x.2.1.1, (x.2.1.2.1, Unit.unit)), Unit.unit)) (fun x1 => (Option.some (((IntKind.wrap IntKind.i64 (HSub.hSub x1.1.1 x0.1.1)), ((IntKind.wrap IntKind.i64 (HSub.hSub x1.1.2.1 x0.1.2.1)), Unit.unit)), Unit.unit))))))
theorem r153_ok : PureOk Go.Proofs.Tryd.prog 0 (fun _ => True) 153 [(.pair (.int .i64) (.pair (.int .i64) .unit)), (.pair (.int .i64) (.pair (.int .i64) .unit))] [(.pair (.int .i64) (.pair (.int .i64) .unit))] r153 :=
  pureOk_of_run (F := specOf [(110, pureSpec [(.pair (.int .i64) (.pair (.int .i64) .unit))] [(.pair (.int .i64) (.pair (.int .i64) .unit))] r110)]) (hs := hintOf []) stays_triv (specOf_cons (PureOk.spec r110_ok) specOf_nil) mixed Go.Proofs.Tryd.func153 rfl (by kernel_rfl) (fun _ => by kernel_rfl)

/-- terrier/point.Cross -/
noncomputable def r149 (x : (kdP [(.pair (.int .i64) (.pair (.int .i64) .unit)), (.pair (.int .i64) (.pair (.int .i64) .unit)), (.pair (.int .i64) (.pair (.int .i64) .unit))]).T) : Option (kdP [(.int .i64)]).T :=
  (Option.bind (r153 ((x.1.1, (x.1.2.1, Unit.unit)), ((x.2.1.1, (x.2.1.2.1, Unit.unit)), Unit.unit))) (fun x0 => (Option.bind (r153 ((x.1.1, (x.1.2.1, Unit.unit)), ((x.2.2.1.1, (x.2.2.1.2.1, Unit.unit)), Unit.unit))) (fun x1 => (Option.some ((IntKind.wrap IntKind.i64 (HSub.hSub (IntKind.wrap IntKind.i64 (HMul.hMul x0.1.1 x1.1.2.1)) (IntKind.wrap IntKind.i64 (HMul.hMul x0.1.2.1 x1.1.1)))), Unit.unit))))))
theorem r149_ok : PureOk Go.Proofs.Tryd.prog 0 (fun _ => True) 149 [(.pair (.int .i64) (.pair (.int .i64) .unit)), (.pair (.int .i64) (.pair (.int .i64) .unit)), (.pair (.int .i64) (.pair (.int .i64) .unit))] [(.int .i64)] r149 :=
  pureOk_of_run (F := specOf [(153, pureSpec [(.pair (.int .i64) (.pair (.int .i64) .unit)), (.pair (.int .i64) (.pair (.int .i64) .unit))] [(.pair (.int .i64) (.pair (.int .i64) .unit))] r153)]) (hs := hintOf []) stays_triv (specOf_cons (PureOk.spec r153_ok) specOf_nil) mixed Go.Proofs.Tryd.func149 rfl (by kernel_rfl) (fun _ => by kernel_rfl)

/-- cmp.isNaN[int] -/
noncomputable def r68 (x : (kdP [(.int .i64)]).T) : Option (kdP [.bool]).T :=
  (Option.some ((Bool.not (Decidable.decide (Eq x.1 x.1))), Unit.unit))
theorem r68_ok : PureOk Go.Proofs.Tryd.prog 0 (fun _ => True) 68 [(.int .i64)] [.bool] r68 :=
  pureOk_of_run (F := specOf []) (hs := hintOf []) stays_triv specOf_nil mixed Go.Proofs.Tryd.func68 rfl (by kernel_rfl) (fun _ => by kernel_rfl)

/-- cmp.Compare[int] -/
noncomputable def r36 (x : (kdP [(.int .i64), (.int .i64)]).T) : Option (kdP [(.int .i64)]).T :=
  (Option.bind (r68 (x.1, Unit.unit)) (fun x0 => (Option.bind (r68 (x.2.1, Unit.unit)) (fun x1 => (cond x0.1 (cond x1.1 (Option.some ((0 : Int), Unit.unit)) (Option.some ((Neg.neg (1 : Int)), Unit.unit))) (cond x1.1 (Option.some ((1 : Int), Unit.unit)) (cond (Decidable.decide (LT.lt x.1 x.2.1)) (Option.some ((Neg.neg (1 : Int)), Unit.unit)) (cond (Decidable.decide (LT.lt x.2.1 x.1)) (Option.some ((1 : Int), Unit.unit)) (Option.some ((0 : Int), Unit.unit))))))))))
theorem r36_ok : PureOk Go.Proofs.Tryd.prog 0 (fun _ => True) 36 [(.int .i64), (.int .i64)] [(.int .i64)] r36 :=
  pureOk_of_run (F := specOf [(68, pureSpec [(.int .i64)] [.bool] r68)]) (hs := hintOf []) stays_triv (specOf_cons (PureOk.spec r68_ok) specOf_nil) mixed Go.Proofs.Tryd.func36 rfl (by kernel_rfl) (fun _ => by kernel_rfl)

/-- terrier/point.Turn -/
noncomputable def r143 (x : (kdP [(.pair (.int .i64) (.pair (.int .i64) .unit)), (.pair (.int .i64) (.pair (.int .i64) .unit)), (.pair (.int .i64) (.pair (.int .i64) .unit))]).T) : Option (kdP [(.int .i64)]).T :=
  (Option.bind (r149 ((x.1.1, (x.1.2.1, Unit.unit)), ((x.2.1.1, (x.2.1.2.1, Unit.unit)), ((x.2.2.1.1, (x.2.2.1.2.1, Unit.unit)), Unit.unit)))) (fun x0 => (Option.bind (r36 (x0.1, ((0 : Int), Unit.unit))) (fun x1 => (Option.some (x1.1, Unit.unit))))))
theorem r143_ok : PureOk Go.Proofs.Tryd.prog 0 (fun _ => True) 143 [(.pair (.int .i64) (.pair (.int .i64) .unit)), (.pair (.int .i64) (.pair (.int .i64) .unit)), (.pair (.int .i64) (.pair (.int .i64) .unit))] [(.int .i64)] r143 :=
  pureOk_of_run (F := specOf [(149, pureSpec [(.pair (.int .i64) (.pair (.int .i64) .unit)), (.pair (.int .i64) (.pair (.int .i64) .unit)), (.pair (.int .i64) (.pair (.int .i64) .unit))] [(.int .i64)] r149), (36, pureSpec [(.int .i64), (.int .i64)] [(.int .i64)] r36)]) (hs := hintOf []) stays_triv (specOf_cons (PureOk.spec r149_ok) (specOf_cons (PureOk.spec r36_ok) specOf_nil)) mixed Go.Proofs.Tryd.func143 rfl (by kernel_rfl) (fun _ => by kernel_rfl)

/-- terrier/point.Dot -/
noncomputable def r154 (x : (kdP [(.pair (.int .i64) (.pair (.int .i64) .unit)), (.pair (.int .i64) (.pair (.int .i64) .unit)), (.pair (.int .i64) (.pair (.int .i64) .unit))]).T) : Option (kdP [(.int .i64)]).T :=
  (Option.bind (r153 ((x.1.1, (x.1.2.1, Unit.unit)), ((x.2.1.1, (x.2.1.2.1, Unit.unit)), Unit.unit))) (fun x0 => (Option.bind (r153 ((x.1.1, (x.1.2.1, Unit.unit)), ((x.2.2.1.1, (x.2.2.1.2.1, Unit.unit)), Unit.unit))) (fun x1 => (Option.some ((IntKind.wrap IntKind.i64 (HAdd.hAdd (IntKind.wrap IntKind.i64 (HMul.hMul x0.1.1 x1.1.1)) (IntKind.wrap IntKind.i64 (HMul.hMul x0.1.2.1 x1.1.2.1)))), Unit.unit))))))
theorem r154_ok : PureOk Go.Proofs.Tryd.prog 0 (fun _ => True) 154 [(.pair (.int .i64) (.pair (.int .i64) .unit)), (.pair (.int .i64) (.pair (.int .i64) .unit)), (.pair (.int .i64) (.pair (.int .i64) .unit))] [(.int .i64)] r154 :=
  pureOk_of_run (F := specOf [(153, pureSpec [(.pair (.int .i64) (.pair (.int .i64) .unit)), (.pair (.int .i64) (.pair (.int .i64) .unit))] [(.pair (.int .i64) (.pair (.int .i64) .unit))] r153)]) (hs := hintOf []) stays_triv (specOf_cons (PureOk.spec r153_ok) specOf_nil) mixed Go.Proofs.Tryd.func154 rfl (by kernel_rfl) (fun _ => by kernel_rfl)

/-- terrier/point.On -/
noncomputable def r151 (x : (kdP [(.pair (.int .i64) (.pair (.int .i64) .unit)), (.pair (.int .i64) (.pair (.int .i64) .unit)), (.pair (.int .i64) (.pair (.int .i64) .unit))]).T) : Option (kdP [.bool]).T :=
  (Option.bind (r143 ((x.1.1, (x.1.2.1, Unit.unit)), ((x.2.1.1, (x.2.1.2.1, Unit.unit)), ((x.2.2.1.1, (x.2.2.1.2.1, Unit.unit)), Unit.unit)))) (fun x0 => (cond (Decidable.decide (Eq x0.1 (0 : Int))) (Option.bind (r154 ((x.2.2.1.1, (x.2.2.1.2.1, Unit.unit)), ((x.1.1, (x.1.2.1, Unit.unit)), ((x.2.1.1, (x.2.1.2.1, Unit.unit)), Unit.unit)))) (fun x1 => (Option.some ((Decidable.decide (LE.le x1.1 (0 : Int))), Unit.unit)))) (Option.some (Bool.false, Unit.unit)))))
theorem r151_ok : PureOk Go.Proofs.Tryd.prog 0 (fun _ => True) 151 [(.pair (.int .i64) (.pair (.int .i64) .unit)), (.pair (.int .i64) (.pair (.int .i64) .unit)), (.pair (.int .i64) (.pair (.int .i64) .unit))] [.bool] r151 :=
  pureOk_of_run (F := specOf [(143, pureSpec [(.pair (.int .i64) (.pair (.int .i64) .unit)), (.pair (.int .i64) (.pair (.int .i64) .unit)), (.pair (.int .i64) (.pair (.int .i64) .unit))] [(.int .i64)] r143), (154, pureSpec [(.pair (.int .i64) (.pair (.int .i64) .unit)), (.pair (.int .i64) (.pair (.int .i64) .unit)), (.pair (.int .i64) (.pair (.int .i64) .unit))] [(.int .i64)] r154)]) (hs := hintOf []) stays_triv (specOf_cons (PureOk.spec r143_ok) (specOf_cons (PureOk.spec r154_ok) specOf_nil)) mixed Go.Proofs.Tryd.func151 rfl (by kernel_rfl) (fun _ => by kernel_rfl)

/-- terrier/seg.shared$1 -/
noncomputable def r150 (x : (kdP [(.pair (.int .i64) (.pair (.int .i64) .unit)), (.pair (.int .i64) (.pair (.int .i64) .unit)), (.pair (.int .i64) (.pair (.int .i64) .unit))]).T) (d : (kdL [.own (.pair (.int .i64) (.pair (.int .i64) .unit))]).T) : Option ((kdP []).T × (kdL [.own (.pair (.int .i64) (.pair (.int .i64) .unit))]).T) :=
  (Option.bind (r151 ((x.2.1.1, (x.2.1.2.1, Unit.unit)), ((x.2.2.1.1, (x.2.2.1.2.1, Unit.unit)), ((x.1.1, (x.1.2.1, Unit.unit)), Unit.unit)))) (fun x0 => (cond (Bool.not x0.1) (Option.some (Unit.unit, (d.1, Unit.unit))) (Option.bind (loop (D := (Prod (Kd.T (.pair (.int .i64) .unit)) (Kd.T .unit))) (O := (Sum (Kd.T (.pair .unit .unit)) (OutT (List.cons ((Ex3.exit 0), (Sh.mk (List.nil) (List.nil) (List.nil))) (List.nil))))) (fun x1 => (cond (Decidable.decide (LT.lt x1.1.1 (Nat.cast (List.length d.1) : Int))) (cond (inB x1.1.1 (List.length d.1)) (Option.bind (GetElem?.getElem? d.1 (Int.toNat x1.1.1)) (fun x2 => (cond (Bool.and (Decidable.decide (Eq x2.1 x.1.1)) (Decidable.decide (Eq x2.2.1 x.1.2.1))) (Option.some (Sum.inr (Sum.inl (Unit.unit, Unit.unit)))) (Option.some (Sum.inl (((IntKind.wrap IntKind.i64 (HAdd.hAdd x1.1.1 (1 : Int))), Unit.unit), Unit.unit)))))) (Option.none)) (Option.some (Sum.inr (Sum.inr (Sum.inl (Unit.unit, Unit.unit))))))) (((0 : Int), Unit.unit), Unit.unit)) (sumE (fun x1 => (Option.some (Unit.unit, (d.1, Unit.unit)))) (sumE (fun x1 => (cond (fits (HAdd.hAdd (List.length d.1) (List.length (List.cons (x.1.1, (x.1.2.1, Unit.unit)) (List.nil)))) 16) (Option.some (Unit.unit, ((HAppend.hAppend d.1 (List.cons (x.1.1, (x.1.2.1, Unit.unit)) (List.nil))), Unit.unit))) (Option.none))) (emptyE)))))))
theorem r150_ok : SpecOk Go.Proofs.Tryd.prog 0 (fun _ => True) 150 (memSpec [.dat (.pair (.int .i64) (.pair (.int .i64) .unit)), .dat (.pair (.int .i64) (.pair (.int .i64) .unit)), .dat (.pair (.int .i64) (.pair (.int .i64) .unit)), .ptr 0 0] [(0, [.own (.pair (.int .i64) (.pair (.int .i64) .unit))])] [(0, [.own (.pair (.int .i64) (.pair (.int .i64) .unit))])] [] r150) :=
  memSpec_ok (F := specOf [(151, pureSpec [(.pair (.int .i64) (.pair (.int .i64) .unit)), (.pair (.int .i64) (.pair (.int .i64) .unit)), (.pair (.int .i64) (.pair (.int .i64) .unit))] [.bool] r151)]) (hs := hintOf [(0, ⟨⟨[(16, .lf (.int .i64))], [], []⟩, [(.ret, ⟨[], [], []⟩), ((.exit 0), ⟨[], [], []⟩)]⟩)]) stays_triv (specOf_cons (PureOk.spec r151_ok) specOf_nil) mixed Go.Proofs.Tryd.func150 rfl (by kernel_rfl) (by kernel_rfl) (fun _ _ => by kernel_rfl)

/-- terrier/seg.shared -/
noncomputable def r144 (x : (kdP [(.pair (.int .i64) (.pair (.int .i64) .unit)), (.pair (.int .i64) (.pair (.int .i64) .unit)), (.pair (.int .i64) (.pair (.int .i64) .unit)), (.pair (.int .i64) (.pair (.int .i64) .unit))]).T) : Option (kdP [(.slice (.pair (.int .i64) (.pair (.int .i64) .unit)))]).T :=
  (Option.bind (r150 ((x.1.1, (x.1.2.1, Unit.unit)), ((x.2.2.1.1, (x.2.2.1.2.1, Unit.unit)), ((x.2.2.2.1.1, (x.2.2.2.1.2.1, Unit.unit)), Unit.unit))) ((List.nil), Unit.unit)) (fun x0 => (Option.bind (r150 ((x.2.1.1, (x.2.1.2.1, Unit.unit)), ((x.2.2.1.1, (x.2.2.1.2.1, Unit.unit)), ((x.2.2.2.1.1, (x.2.2.2.1.2.1, Unit.unit)), Unit.unit))) (x0.2.1, Unit.unit)) (fun x1 => (Option.bind (r150 ((x.2.2.1.1, (x.2.2.1.2.1, Unit.unit)), ((x.1.1, (x.1.2.1, Unit.unit)), ((x.2.1.1, (x.2.1.2.1, Unit.unit)), Unit.unit))) (x1.2.1, Unit.unit)) (fun x2 => (Option.bind (r150 ((x.2.2.2.1.1, (x.2.2.2.1.2.1, Unit.unit)), ((x.1.1, (x.1.2.1, Unit.unit)), ((x.2.1.1, (x.2.1.2.1, Unit.unit)), Unit.unit))) (x2.2.1, Unit.unit)) (fun x3 => (Option.some (x3.2.1, Unit.unit))))))))))
theorem r144_ok : PureOk Go.Proofs.Tryd.prog 0 (fun _ => True) 144 [(.pair (.int .i64) (.pair (.int .i64) .unit)), (.pair (.int .i64) (.pair (.int .i64) .unit)), (.pair (.int .i64) (.pair (.int .i64) .unit)), (.pair (.int .i64) (.pair (.int .i64) .unit))] [(.slice (.pair (.int .i64) (.pair (.int .i64) .unit)))] r144 :=
  pureOk_of_run (F := specOf [(150, memSpec [.dat (.pair (.int .i64) (.pair (.int .i64) .unit)), .dat (.pair (.int .i64) (.pair (.int .i64) .unit)), .dat (.pair (.int .i64) (.pair (.int .i64) .unit)), .ptr 0 0] [(0, [.own (.pair (.int .i64) (.pair (.int .i64) .unit))])] [(0, [.own (.pair (.int .i64) (.pair (.int .i64) .unit))])] [] r150)]) (hs := hintOf []) stays_triv (specOf_cons r150_ok specOf_nil) mixed Go.Proofs.Tryd.func144 rfl (by kernel_rfl) (fun _ => by kernel_rfl)

/-- terrier/seg.Meet -/
noncomputable def r128 (x : (kdP [(.pair (.int .i64) (.pair (.int .i64) .unit)), (.pair (.int .i64) (.pair (.int .i64) .unit)), (.pair (.int .i64) (.pair (.int .i64) .unit)), (.pair (.int .i64) (.pair (.int .i64) .unit))]).T) : Option (kdP [(.int .i64)]).T :=
  (Option.bind (r110 ((x.1.1, (x.1.2.1, Unit.unit)), Unit.unit)) (fun x0 => (Option.bind (r110 ((x.2.1.1, (x.2.1.2.1, Unit.unit)), Unit.unit)) (fun x1 => (Option.bind (r110 ((x.2.2.1.1, (x.2.2.1.2.1, Unit.unit)), Unit.unit)) (fun x2 => (Option.bind (r110 ((x.2.2.2.1.1, (x.2.2.2.1.2.1, Unit.unit)), Unit.unit)) (fun x3 => (Option.bind (r143 ((x0.1.1, (x0.1.2.1, Unit.unit)), ((x1.1.1, (x1.1.2.1, Unit.unit)), ((x2.1.1, (x2.1.2.1, Unit.unit)), Unit.unit)))) (fun x4 => (Option.bind (r143 ((x0.1.1, (x0.1.2.1, Unit.unit)), ((x1.1.1, (x1.1.2.1, Unit.unit)), ((x3.1.1, (x3.1.2.1, Unit.unit)), Unit.unit)))) (fun x5 => (cond (Decidable.decide (LT.lt (IntKind.wrap IntKind.i64 (HMul.hMul x4.1 x5.1)) (0 : Int))) (Option.bind (r143 ((x2.1.1, (x2.1.2.1, Unit.unit)), ((x3.1.1, (x3.1.2.1, Unit.unit)), ((x0.1.1, (x0.1.2.1, Unit.unit)), Unit.unit)))) (fun x6 => (Option.bind (r143 ((x2.1.1, (x2.1.2.1, Unit.unit)), ((x3.1.1, (x3.1.2.1, Unit.unit)), ((x1.1.1, (x1.1.2.1, Unit.unit)), Unit.unit)))) (fun x7 => (cond (Decidable.decide (LT.lt (IntKind.wrap IntKind.i64 (HMul.hMul x6.1 x7.1)) (0 : Int))) (Option.some ((1 : Int), Unit.unit)) (Option.bind (r144 ((x0.1.1, (x0.1.2.1, Unit.unit)), ((x1.1.1, (x1.1.2.1, Unit.unit)), ((x2.1.1, (x2.1.2.1, Unit.unit)), ((x3.1.1, (x3.1.2.1, Unit.unit)), Unit.unit))))) (fun x8 => (Option.some ((minI (2 : Int) (Nat.cast (List.length x8.1) : Int)), Unit.unit))))))))) (Option.bind (r144 ((x0.1.1, (x0.1.2.1, Unit.unit)), ((x1.1.1, (x1.1.2.1, Unit.unit)), ((x2.1.1, (x2.1.2.1, Unit.unit)), ((x3.1.1, (x3.1.2.1, Unit.unit)), Unit.unit))))) (fun x6 => (Option.some ((minI (2 : Int) (Nat.cast (List.length x6.1) : Int)), Unit.unit)))))))))))))))))
theorem r128_ok : PureOk Go.Proofs.Tryd.prog 0 (fun _ => True) 128 [(.pair (.int .i64) (.pair (.int .i64) .unit)), (.pair (.int .i64) (.pair (.int .i64) .unit)), (.pair (.int .i64) (.pair (.int .i64) .unit)), (.pair (.int .i64) (.pair (.int .i64) .unit))] [(.int .i64)] r128 :=
  pureOk_of_run (F := specOf [(110, pureSpec [(.pair (.int .i64) (.pair (.int .i64) .unit))] [(.pair (.int .i64) (.pair (.int .i64) .unit))] r110), (143, pureSpec [(.pair (.int .i64) (.pair (.int .i64) .unit)), (.pair (.int .i64) (.pair (.int .i64) .unit)), (.pair (.int .i64) (.pair (.int .i64) .unit))] [(.int .i64)] r143), (144, pureSpec [(.pair (.int .i64) (.pair (.int .i64) .unit)), (.pair (.int .i64) (.pair (.int .i64) .unit)), (.pair (.int .i64) (.pair (.int .i64) .unit)), (.pair (.int .i64) (.pair (.int .i64) .unit))] [(.slice (.pair (.int .i64) (.pair (.int .i64) .unit)))] r144)]) (hs := hintOf []) stays_triv (specOf_cons (PureOk.spec r110_ok) (specOf_cons (PureOk.spec r143_ok) (specOf_cons (PureOk.spec r144_ok) specOf_nil))) mixed Go.Proofs.Tryd.func128 rfl (by kernel_rfl) (fun _ => by kernel_rfl)

/-- terrier/ring.apart -/
noncomputable def r112 (x : (kdP [(.slice (.pair (.int .i64) (.pair (.int .i64) .unit))), (.int .i64), (.int .i64)]).T) : Option (kdP [.bool]).T :=
  (cond (inB x.2.1 (List.length x.1)) (Option.bind (GetElem?.getElem? x.1 (Int.toNat x.2.1)) (fun x0 => (cond (Decidable.decide (Eq (Nat.cast (List.length x.1) : Int) (0 : Int))) (Option.none) (cond (inB (Int.tmod (IntKind.wrap IntKind.i64 (HAdd.hAdd x.2.1 (1 : Int))) (Nat.cast (List.length x.1) : Int)) (List.length x.1)) (Option.bind (GetElem?.getElem? x.1 (Int.toNat (Int.tmod (IntKind.wrap IntKind.i64 (HAdd.hAdd x.2.1 (1 : Int))) (Nat.cast (List.length x.1) : Int)))) (fun x1 => (cond (inB x.2.2.1 (List.length x.1)) (Option.bind (GetElem?.getElem? x.1 (Int.toNat x.2.2.1)) (fun x2 => (cond (Decidable.decide (Eq (Nat.cast (List.length x.1) : Int) (0 : Int))) (Option.none) (cond (inB (Int.tmod (IntKind.wrap IntKind.i64 (HAdd.hAdd x.2.2.1 (1 : Int))) (Nat.cast (List.length x.1) : Int)) (List.length x.1)) (Option.bind (GetElem?.getElem? x.1 (Int.toNat (Int.tmod (IntKind.wrap IntKind.i64 (HAdd.hAdd x.2.2.1 (1 : Int))) (Nat.cast (List.length x.1) : Int)))) (fun x3 => (cond (Decidable.decide (Eq (Nat.cast (List.length x.1) : Int) (0 : Int))) (Option.none) (cond (Bool.and (Decidable.decide (Eq x0.1 x1.1)) (Decidable.decide (Eq x0.2.1 x1.2.1))) (Option.some (Bool.false, Unit.unit)) (cond (Bool.and (Decidable.decide (Eq x2.1 x3.1)) (Decidable.decide (Eq x2.2.1 x3.2.1))) (Option.some (Bool.false, Unit.unit)) (cond (Decidable.decide (Eq (IntKind.wrap IntKind.i64 (HAdd.hAdd x.2.1 (1 : Int))) x.2.2.1)) (Option.bind (r128 ((x0.1, (x0.2.1, Unit.unit)), ((x1.1, (x1.2.1, Unit.unit)), ((x2.1, (x2.2.1, Unit.unit)), ((x3.1, (x3.2.1, Unit.unit)), Unit.unit))))) (fun x4 => (Option.some ((Decidable.decide (Eq x4.1 (1 : Int))), Unit.unit)))) (cond (Decidable.decide (Eq (Int.tmod (IntKind.wrap IntKind.i64 (HAdd.hAdd x.2.2.1 (1 : Int))) (Nat.cast (List.length x.1) : Int)) x.2.1)) (Option.bind (r128 ((x0.1, (x0.2.1, Unit.unit)), ((x1.1, (x1.2.1, Unit.unit)), ((x2.1, (x2.2.1, Unit.unit)), ((x3.1, (x3.2.1, Unit.unit)), Unit.unit))))) (fun x4 => (Option.some ((Decidable.decide (Eq x4.1 (1 : Int))), Unit.unit)))) (Option.bind (r128 ((x0.1, (x0.2.1, Unit.unit)), ((x1.1, (x1.2.1, Unit.unit)), ((x2.1, (x2.2.1, Unit.unit)), ((x3.1, (x3.2.1, Unit.unit)), Unit.unit))))) (fun x4 => (Option.some ((Decidable.decide (Eq x4.1 (0 : Int))), Unit.unit))))))))))) (Option.none))))) (Option.none)))) (Option.none))))) (Option.none))
theorem r112_ok : PureOk Go.Proofs.Tryd.prog 0 (fun _ => True) 112 [(.slice (.pair (.int .i64) (.pair (.int .i64) .unit))), (.int .i64), (.int .i64)] [.bool] r112 :=
  pureOk_of_run (F := specOf [(128, pureSpec [(.pair (.int .i64) (.pair (.int .i64) .unit)), (.pair (.int .i64) (.pair (.int .i64) .unit)), (.pair (.int .i64) (.pair (.int .i64) .unit)), (.pair (.int .i64) (.pair (.int .i64) .unit))] [(.int .i64)] r128)]) (hs := hintOf []) stays_triv (specOf_cons (PureOk.spec r128_ok) specOf_nil) mixed Go.Proofs.Tryd.func112 rfl (by kernel_rfl) (fun _ => by kernel_rfl)

/-- terrier/ring.Check -/
noncomputable def r88 (x : (kdP [(.slice (.pair (.int .i64) (.pair (.int .i64) .unit)))]).T) : Option (kdP [(.int .i64)]).T :=
  (cond (Decidable.decide (LT.lt (200 : Int) (Nat.cast (List.length x.1) : Int))) (Option.some ((2 : Int), Unit.unit)) (cond (Decidable.decide (LT.lt (Nat.cast (List.length x.1) : Int) (3 : Int))) (Option.some ((3 : Int), Unit.unit)) (Option.bind (r85_111 (x.1, (Unit.unit, Unit.unit))) (fun x0 => (cond x0.1 (Option.some ((1 : Int), Unit.unit)) (Option.bind (loop (D := (Prod (Kd.T (.pair (.int .i64) .unit)) (Kd.T .unit))) (O := (Sum (Kd.T (.pair (.pair (.int .i64) .unit) .unit)) (OutT (List.cons ((Ex3.exit 1), (Sh.mk (List.nil) (List.nil) (List.nil))) (List.nil))))) (fun x1 => (cond (Decidable.decide (LT.lt x1.1.1 (Nat.cast (List.length x.1) : Int))) (Option.bind (loop (D := (Prod (Kd.T (.pair (.int .i64) .unit)) (Kd.T .unit))) (O := (Sum (Kd.T (.pair (.pair (.int .i64) .unit) .unit)) (OutT (List.cons ((Ex3.exit 3), (Sh.mk (List.nil) (List.nil) (List.nil))) (List.nil))))) (fun x2 => (cond (Decidable.decide (LT.lt x2.1.1 x1.1.1)) (Option.bind (r112 (x.1, (x2.1.1, (x1.1.1, Unit.unit)))) (fun x3 => (cond (Bool.not x3.1) (Option.some (Sum.inr (Sum.inl (((10 : Int), Unit.unit), Unit.unit)))) (Option.some (Sum.inl (((IntKind.wrap IntKind.i64 (HAdd.hAdd x2.1.1 (1 : Int))), Unit.unit), Unit.unit)))))) (Option.some (Sum.inr (Sum.inr (Sum.inl (Unit.unit, Unit.unit))))))) (((0 : Int), Unit.unit), Unit.unit)) (sumE (fun x2 => (Option.some (Sum.inr (Sum.inl ((x2.1.1, Unit.unit), Unit.unit))))) (sumE (fun x2 => (Option.some (Sum.inl (((IntKind.wrap IntKind.i64 (HAdd.hAdd x1.1.1 (1 : Int))), Unit.unit), Unit.unit)))) (emptyE)))) (Option.some (Sum.inr (Sum.inr (Sum.inl (Unit.unit, Unit.unit))))))) (((0 : Int), Unit.unit), Unit.unit)) (sumE (fun x1 => (Option.some (x1.1.1, Unit.unit))) (sumE (fun x1 => (Option.some ((0 : Int), Unit.unit))) (emptyE)))))))))
theorem r88_ok : PureOk Go.Proofs.Tryd.prog 0 (fun _ => True) 88 [(.slice (.pair (.int .i64) (.pair (.int .i64) .unit)))] [(.int .i64)] r88 :=
  pureOk_of_run (F := specOf [(85, pickS [([111], pureSpec [(.slice (.pair (.int .i64) (.pair (.int .i64) .unit))), (.fn 111)] [.bool] r85_111)]), (112, pureSpec [(.slice (.pair (.int .i64) (.pair (.int .i64) .unit))), (.int .i64), (.int .i64)] [.bool] r112)]) (hs := hintOf [(3, ⟨⟨[(22, .lf (.int .i64))], [], []⟩, [(.ret, ⟨[(2, .lf (.int .i64))], [], []⟩), ((.exit 3), ⟨[], [], []⟩)]⟩), (1, ⟨⟨[(18, .lf (.int .i64))], [], []⟩, [(.ret, ⟨[(2, .lf (.int .i64))], [], []⟩), ((.exit 1), ⟨[], [], []⟩)]⟩)]) stays_triv (specOf_cons (pickS_one (PureOk.spec r85_111_ok)) (specOf_cons (PureOk.spec r112_ok) specOf_nil)) mixed Go.Proofs.Tryd.func88 rfl (by kernel_rfl) (fun _ => by kernel_rfl)

/-- terrier/area.corners -/
noncomputable def r113 (x : (kdP [(.pair (.int .i64) (.pair (.int .i64) .unit)), (.pair (.int .i64) (.pair (.int .i64) .unit)), (.pair (.int .i64) (.pair (.int .i64) .unit)), (.pair (.int .i64) (.pair (.int .i64) .unit))]).T) : Option (kdP [.bool]).T :=
  (Option.bind (r128 ((x.1.1, (x.1.2.1, Unit.unit)), ((x.2.1.1, (x.2.1.2.1, Unit.unit)), ((x.2.2.1.1, (x.2.2.1.2.1, Unit.unit)), ((x.2.2.2.1.1, (x.2.2.2.1.2.1, Unit.unit)), Unit.unit))))) (fun x0 => (cond (Decidable.decide (Eq x0.1 (0 : Int))) (Option.some (Bool.true, Unit.unit)) (cond (Decidable.decide (Eq x0.1 (1 : Int))) (cond (Bool.and (Decidable.decide (Eq x.1.1 x.2.2.1.1)) (Decidable.decide (Eq x.1.2.1 x.2.2.1.2.1))) (Option.some (Bool.true, Unit.unit)) (cond (Bool.and (Decidable.decide (Eq x.1.1 x.2.2.2.1.1)) (Decidable.decide (Eq x.1.2.1 x.2.2.2.1.2.1))) (Option.some (Bool.true, Unit.unit)) (cond (Bool.and (Decidable.decide (Eq x.2.1.1 x.2.2.1.1)) (Decidable.decide (Eq x.2.1.2.1 x.2.2.1.2.1))) (Option.some (Bool.true, Unit.unit)) (Option.some ((Bool.and (Decidable.decide (Eq x.2.1.1 x.2.2.2.1.1)) (Decidable.decide (Eq x.2.1.2.1 x.2.2.2.1.2.1))), Unit.unit))))) (Option.some (Bool.false, Unit.unit))))))
theorem r113_ok : PureOk Go.Proofs.Tryd.prog 0 (fun _ => True) 113 [(.pair (.int .i64) (.pair (.int .i64) .unit)), (.pair (.int .i64) (.pair (.int .i64) .unit)), (.pair (.int .i64) (.pair (.int .i64) .unit)), (.pair (.int .i64) (.pair (.int .i64) .unit))] [.bool] r113 :=
  pureOk_of_run (F := specOf [(128, pureSpec [(.pair (.int .i64) (.pair (.int .i64) .unit)), (.pair (.int .i64) (.pair (.int .i64) .unit)), (.pair (.int .i64) (.pair (.int .i64) .unit)), (.pair (.int .i64) (.pair (.int .i64) .unit))] [(.int .i64)] r128)]) (hs := hintOf []) stays_triv (specOf_cons (PureOk.spec r128_ok) specOf_nil) mixed Go.Proofs.Tryd.func113 rfl (by kernel_rfl) (fun _ => by kernel_rfl)

/-- terrier/area.side -/
noncomputable def r129 (x : (kdP [(.slice (.pair (.int .i64) (.pair (.int .i64) .unit))), (.int .i64), (.slice (.pair (.int .i64) (.pair (.int .i64) .unit)))]).T) : Option (kdP [(.int .i64)]).T :=
  (cond (inB x.2.1 (List.length x.1)) (Option.bind (GetElem?.getElem? x.1 (Int.toNat x.2.1)) (fun x0 => (cond (Decidable.decide (Eq (Nat.cast (List.length x.1) : Int) (0 : Int))) (Option.none) (cond (inB (Int.tmod (IntKind.wrap IntKind.i64 (HAdd.hAdd x.2.1 (1 : Int))) (Nat.cast (List.length x.1) : Int)) (List.length x.1)) (Option.bind (GetElem?.getElem? x.1 (Int.toNat (Int.tmod (IntKind.wrap IntKind.i64 (HAdd.hAdd x.2.1 (1 : Int))) (Nat.cast (List.length x.1) : Int)))) (fun x1 => (Option.bind (loop (D := (Prod (Kd.T (.pair (.int .i64) (.pair (.int .i64) .unit))) (Kd.T .unit))) (O := (Sum (Kd.T (.pair (.pair (.int .i64) .unit) .unit)) (OutT (List.nil)))) (fun x2 => (cond (Decidable.decide (LT.lt x2.1.2.1 (Nat.cast (List.length x.2.2.1) : Int))) (cond (inB x2.1.2.1 (List.length x.2.2.1)) (Option.bind (GetElem?.getElem? x.2.2.1 (Int.toNat x2.1.2.1)) (fun x3 => (cond (Decidable.decide (Eq (Nat.cast (List.length x.2.2.1) : Int) (0 : Int))) (Option.none) (cond (inB (Int.tmod (IntKind.wrap IntKind.i64 (HAdd.hAdd x2.1.2.1 (1 : Int))) (Nat.cast (List.length x.2.2.1) : Int)) (List.length x.2.2.1)) (Option.bind (GetElem?.getElem? x.2.2.1 (Int.toNat (Int.tmod (IntKind.wrap IntKind.i64 (HAdd.hAdd x2.1.2.1 (1 : Int))) (Nat.cast (List.length x.2.2.1) : Int)))) (fun x4 => (cond (Decidable.decide (LT.lt x4.2.1 x3.2.1)) (cond (Decidable.decide (LT.lt (IntKind.wrap IntKind.i64 (HMul.hMul (2 : Int) x4.2.1)) (IntKind.wrap IntKind.i64 (HAdd.hAdd x0.2.1 x1.2.1)))) (cond (Decidable.decide (LE.le (IntKind.wrap IntKind.i64 (HAdd.hAdd x0.2.1 x1.2.1)) (IntKind.wrap IntKind.i64 (HMul.hMul (2 : Int) x3.2.1)))) (cond (Decidable.decide (LT.lt (0 : Int) (IntKind.wrap IntKind.i64 (HSub.hSub (IntKind.wrap IntKind.i64 (HMul.hMul (IntKind.wrap IntKind.i64 (HSub.hSub x3.1 x4.1)) (IntKind.wrap IntKind.i64 (HSub.hSub (IntKind.wrap IntKind.i64 (HAdd.hAdd x0.2.1 x1.2.1)) (IntKind.wrap IntKind.i64 (HMul.hMul (2 : Int) x4.2.1)))))) (IntKind.wrap IntKind.i64 (HMul.hMul (IntKind.wrap IntKind.i64 (HSub.hSub x3.2.1 x4.2.1)) (IntKind.wrap IntKind.i64 (HSub.hSub (IntKind.wrap IntKind.i64 (HAdd.hAdd x0.1 x1.1)) (IntKind.wrap IntKind.i64 (HMul.hMul (2 : Int) x4.1)))))))))) (Option.some (Sum.inl (((IntKind.wrap IntKind.i64 (HSub.hSub (0 : Int) x2.1.1)), ((IntKind.wrap IntKind.i64 (HAdd.hAdd x2.1.2.1 (1 : Int))), Unit.unit)), Unit.unit))) (Option.some (Sum.inl ((x2.1.1, ((IntKind.wrap IntKind.i64 (HAdd.hAdd x2.1.2.1 (1 : Int))), Unit.unit)), Unit.unit)))) (Option.some (Sum.inl ((x2.1.1, ((IntKind.wrap IntKind.i64 (HAdd.hAdd x2.1.2.1 (1 : Int))), Unit.unit)), Unit.unit)))) (Option.some (Sum.inl ((x2.1.1, ((IntKind.wrap IntKind.i64 (HAdd.hAdd x2.1.2.1 (1 : Int))), Unit.unit)), Unit.unit)))) (cond (Decidable.decide (LT.lt (IntKind.wrap IntKind.i64 (HMul.hMul (2 : Int) x3.2.1)) (IntKind.wrap IntKind.i64 (HAdd.hAdd x0.2.1 x1.2.1)))) (cond (Decidable.decide (LE.le (IntKind.wrap IntKind.i64 (HAdd.hAdd x0.2.1 x1.2.1)) (IntKind.wrap IntKind.i64 (HMul.hMul (2 : Int) x4.2.1)))) (cond (Decidable.decide (LT.lt (0 : Int) (IntKind.wrap IntKind.i64 (HSub.hSub (IntKind.wrap IntKind.i64 (HMul.hMul (IntKind.wrap IntKind.i64 (HSub.hSub x4.1 x3.1)) (IntKind.wrap IntKind.i64 (HSub.hSub (IntKind.wrap IntKind.i64 (HAdd.hAdd x0.2.1 x1.2.1)) (IntKind.wrap IntKind.i64 (HMul.hMul (2 : Int) x3.2.1)))))) (IntKind.wrap IntKind.i64 (HMul.hMul (IntKind.wrap IntKind.i64 (HSub.hSub x4.2.1 x3.2.1)) (IntKind.wrap IntKind.i64 (HSub.hSub (IntKind.wrap IntKind.i64 (HAdd.hAdd x0.1 x1.1)) (IntKind.wrap IntKind.i64 (HMul.hMul (2 : Int) x3.1)))))))))) (Option.some (Sum.inl (((IntKind.wrap IntKind.i64 (HSub.hSub (0 : Int) x2.1.1)), ((IntKind.wrap IntKind.i64 (HAdd.hAdd x2.1.2.1 (1 : Int))), Unit.unit)), Unit.unit))) (Option.some (Sum.inl ((x2.1.1, ((IntKind.wrap IntKind.i64 (HAdd.hAdd x2.1.2.1 (1 : Int))), Unit.unit)), Unit.unit)))) (Option.some (Sum.inl ((x2.1.1, ((IntKind.wrap IntKind.i64 (HAdd.hAdd x2.1.2.1 (1 : Int))), Unit.unit)), Unit.unit)))) (Option.some (Sum.inl ((x2.1.1, ((IntKind.wrap IntKind.i64 (HAdd.hAdd x2.1.2.1 (1 : Int))), Unit.unit)), Unit.unit))))))) (Option.none))))) (Option.none)) (Option.some (Sum.inr (Sum.inl ((x2.1.1, Unit.unit), Unit.unit)))))) (((Neg.neg (1 : Int)), ((0 : Int), Unit.unit)), Unit.unit)) (sumE (fun x2 => (Option.some (x2.1.1, Unit.unit))) (emptyE))))) (Option.none))))) (Option.none))
theorem r129_ok : PureOk Go.Proofs.Tryd.prog 0 (fun _ => True) 129 [(.slice (.pair (.int .i64) (.pair (.int .i64) .unit))), (.int .i64), (.slice (.pair (.int .i64) (.pair (.int .i64) .unit)))] [(.int .i64)] r129 :=
  pureOk_of_run (F := specOf []) (hs := hintOf [(0, ⟨⟨[(10, .lf (.int .i64)), (40, .lf (.int .i64))], [], []⟩, [((.exit 0), ⟨[(10, .lf (.int .i64))], [], []⟩)]⟩)]) stays_triv specOf_nil mixed Go.Proofs.Tryd.func129 rfl (by kernel_rfl) (fun _ => by kernel_rfl)

/-- slices.Index[[]int,int] -/
noncomputable def r145 (x : (kdP [(.slice (.int .i64)), (.int .i64)]).T) : Option (kdP [(.int .i64)]).T :=
  (Option.bind (loop (D := (Prod (Kd.T (.pair (.int .i64) .unit)) (Kd.T .unit))) (O := (Sum (Kd.T (.pair (.pair (.int .i64) .unit) .unit)) (OutT (List.cons ((Ex3.exit 0), (Sh.mk (List.nil) (List.nil) (List.nil))) (List.nil))))) (fun x0 => (cond (Decidable.decide (LT.lt x0.1.1 (Nat.cast (List.length x.1) : Int))) (cond (inB x0.1.1 (List.length x.1)) (Option.bind (GetElem?.getElem? x.1 (Int.toNat x0.1.1)) (fun x1 => (cond (Decidable.decide (Eq x.2.1 x1)) (Option.some (Sum.inr (Sum.inl ((x0.1.1, Unit.unit), Unit.unit)))) (Option.some (Sum.inl (((IntKind.wrap IntKind.i64 (HAdd.hAdd x0.1.1 (1 : Int))), Unit.unit), Unit.unit)))))) (Option.none)) (Option.some (Sum.inr (Sum.inr (Sum.inl (Unit.unit, Unit.unit))))))) (((0 : Int), Unit.unit), Unit.unit)) (sumE (fun x0 => (Option.some (x0.1.1, Unit.unit))) (sumE (fun x0 => (Option.some ((Neg.neg (1 : Int)), Unit.unit))) (emptyE))))
theorem r145_ok : PureOk Go.Proofs.Tryd.prog 0 (fun _ => True) 145 [(.slice (.int .i64)), (.int .i64)] [(.int .i64)] r145 :=
  pureOk_of_run (F := specOf []) (hs := hintOf [(0, ⟨⟨[(8, .lf (.int .i64))], [], []⟩, [(.ret, ⟨[(4, .lf (.int .i64))], [], []⟩), ((.exit 0), ⟨[], [], []⟩)]⟩)]) stays_triv specOf_nil mixed Go.Proofs.Tryd.func145 rfl (by kernel_rfl) (fun _ => by kernel_rfl)

/-- slices.Contains[[]int,int] -/
noncomputable def r130 (x : (kdP [(.slice (.int .i64)), (.int .i64)]).T) : Option (kdP [.bool]).T :=
  (Option.bind (r145 (x.1, (x.2.1, Unit.unit))) (fun x0 => (Option.some ((Decidable.decide (LE.le (0 : Int) x0.1)), Unit.unit))))
theorem r130_ok : PureOk Go.Proofs.Tryd.prog 0 (fun _ => True) 130 [(.slice (.int .i64)), (.int .i64)] [.bool] r130 :=
  pureOk_of_run (F := specOf [(145, pureSpec [(.slice (.int .i64)), (.int .i64)] [(.int .i64)] r145)]) (hs := hintOf []) stays_triv (specOf_cons (PureOk.spec r145_ok) specOf_nil) mixed Go.Proofs.Tryd.func130 rfl (by kernel_rfl) (fun _ => by kernel_rfl)

/-- terrier/area.sides -/
noncomputable def r114 (x : (kdP [(.slice (.pair (.int .i64) (.pair (.int .i64) .unit))), (.slice (.pair (.int .i64) (.pair (.int .i64) .unit)))]).T) : Option (kdP [(.slice (.int .i64))]).T :=
  (Option.bind (loop (D := (Prod (Kd.T (.pair (.slice (.int .i64)) (.pair (.int .i64) .unit))) (Kd.T .unit))) (O := (Sum (Kd.T (.pair (.pair (.slice (.int .i64)) .unit) .unit)) (OutT (List.nil)))) (fun x0 => (cond (Decidable.decide (LT.lt x0.1.2.1 (Nat.cast (List.length x.1) : Int))) (Option.bind (r129 (x.1, (x0.1.2.1, (x.2.1, Unit.unit)))) (fun x1 => (Option.bind (r130 (x0.1.1, (x1.1, Unit.unit))) (fun x2 => (cond (Bool.not x2.1) (cond (fits (HAdd.hAdd (List.length x0.1.1) (List.length (List.cons x1.1 (List.nil)))) 8) (Option.some (Sum.inl (((HAppend.hAppend x0.1.1 (List.cons x1.1 (List.nil))), ((IntKind.wrap IntKind.i64 (HAdd.hAdd x0.1.2.1 (1 : Int))), Unit.unit)), Unit.unit))) (Option.none)) (Option.some (Sum.inl ((x0.1.1, ((IntKind.wrap IntKind.i64 (HAdd.hAdd x0.1.2.1 (1 : Int))), Unit.unit)), Unit.unit)))))))) (Option.some (Sum.inr (Sum.inl ((x0.1.1, Unit.unit), Unit.unit)))))) (((List.nil), ((0 : Int), Unit.unit)), Unit.unit)) (sumE (fun x0 => (Option.some (x0.1.1, Unit.unit))) (emptyE)))
theorem r114_ok : PureOk Go.Proofs.Tryd.prog 0 (fun _ => True) 114 [(.slice (.pair (.int .i64) (.pair (.int .i64) .unit))), (.slice (.pair (.int .i64) (.pair (.int .i64) .unit)))] [(.slice (.int .i64))] r114 :=
  pureOk_of_run (F := specOf [(129, pureSpec [(.slice (.pair (.int .i64) (.pair (.int .i64) .unit))), (.int .i64), (.slice (.pair (.int .i64) (.pair (.int .i64) .unit)))] [(.int .i64)] r129), (130, pureSpec [(.slice (.int .i64)), (.int .i64)] [.bool] r130)]) (hs := hintOf [(0, ⟨⟨[(5, .own (.int .i64)), (10, .lf (.int .i64))], [], []⟩, [((.exit 0), ⟨[(5, .own (.int .i64))], [], []⟩)]⟩)]) stays_triv (specOf_cons (PureOk.spec r129_ok) (specOf_cons (PureOk.spec r130_ok) specOf_nil)) mixed Go.Proofs.Tryd.func114 rfl (by kernel_rfl) (fun _ => by kernel_rfl)

/-- terrier/area.fits -/
noncomputable def r89 (x : (kdP [(.slice (.pair (.int .i64) (.pair (.int .i64) .unit))), (.slice (.pair (.int .i64) (.pair (.int .i64) .unit)))]).T) : Option (kdP [.bool]).T :=
  (Option.bind (loop (D := (Prod (Kd.T (.pair (.int .i64) .unit)) (Kd.T .unit))) (O := (Sum (Kd.T (.pair (.pair .bool .unit) .unit)) (OutT (List.cons ((Ex3.exit 0), (Sh.mk (List.nil) (List.nil) (List.nil))) (List.nil))))) (fun x0 => (cond (Decidable.decide (LT.lt x0.1.1 (Nat.cast (List.length x.1) : Int))) (Option.bind (loop (D := (Prod (Kd.T (.pair (.int .i64) .unit)) (Kd.T .unit))) (O := (Sum (Kd.T (.pair (.pair .bool .unit) .unit)) (OutT (List.cons ((Ex3.exit 2), (Sh.mk (List.nil) (List.nil) (List.nil))) (List.nil))))) (fun x1 => (cond (Decidable.decide (LT.lt x1.1.1 (Nat.cast (List.length x.2.1) : Int))) (cond (inB x0.1.1 (List.length x.1)) (Option.bind (GetElem?.getElem? x.1 (Int.toNat x0.1.1)) (fun x2 => (cond (Decidable.decide (Eq (Nat.cast (List.length x.1) : Int) (0 : Int))) (Option.none) (cond (inB (Int.tmod (IntKind.wrap IntKind.i64 (HAdd.hAdd x0.1.1 (1 : Int))) (Nat.cast (List.length x.1) : Int)) (List.length x.1)) (Option.bind (GetElem?.getElem? x.1 (Int.toNat (Int.tmod (IntKind.wrap IntKind.i64 (HAdd.hAdd x0.1.1 (1 : Int))) (Nat.cast (List.length x.1) : Int)))) (fun x3 => (cond (inB x1.1.1 (List.length x.2.1)) (Option.bind (GetElem?.getElem? x.2.1 (Int.toNat x1.1.1)) (fun x4 => (cond (Decidable.decide (Eq (Nat.cast (List.length x.2.1) : Int) (0 : Int))) (Option.none) (cond (inB (Int.tmod (IntKind.wrap IntKind.i64 (HAdd.hAdd x1.1.1 (1 : Int))) (Nat.cast (List.length x.2.1) : Int)) (List.length x.2.1)) (Option.bind (GetElem?.getElem? x.2.1 (Int.toNat (Int.tmod (IntKind.wrap IntKind.i64 (HAdd.hAdd x1.1.1 (1 : Int))) (Nat.cast (List.length x.2.1) : Int)))) (fun x5 => (Option.bind (r113 ((x2.1, (x2.2.1, Unit.unit)), ((x3.1, (x3.2.1, Unit.unit)), ((x4.1, (x4.2.1, Unit.unit)), ((x5.1, (x5.2.1, Unit.unit)), Unit.unit))))) (fun x6 => (cond (Bool.not x6.1) (Option.some (Sum.inr (Sum.inl ((Bool.false, Unit.unit), Unit.unit)))) (Option.some (Sum.inl (((IntKind.wrap IntKind.i64 (HAdd.hAdd x1.1.1 (1 : Int))), Unit.unit), Unit.unit)))))))) (Option.none))))) (Option.none)))) (Option.none))))) (Option.none)) (Option.some (Sum.inr (Sum.inr (Sum.inl (Unit.unit, Unit.unit))))))) (((0 : Int), Unit.unit), Unit.unit)) (sumE (fun x1 => (Option.some (Sum.inr (Sum.inl ((x1.1.1, Unit.unit), Unit.unit))))) (sumE (fun x1 => (Option.some (Sum.inl (((IntKind.wrap IntKind.i64 (HAdd.hAdd x0.1.1 (1 : Int))), Unit.unit), Unit.unit)))) (emptyE)))) (Option.some (Sum.inr (Sum.inr (Sum.inl (Unit.unit, Unit.unit))))))) (((0 : Int), Unit.unit), Unit.unit)) (sumE (fun x0 => (Option.some (x0.1.1, Unit.unit))) (sumE (fun x0 => (Option.bind (r114 (x.1, (x.2.1, Unit.unit))) (fun x1 => (cond (Decidable.decide (Eq (Nat.cast (List.length x1.1) : Int) (1 : Int))) (Option.bind (r114 (x.2.1, (x.1, Unit.unit))) (fun x2 => (Option.some ((Decidable.decide (Eq (Nat.cast (List.length x2.1) : Int) (1 : Int))), Unit.unit)))) (Option.some (Bool.false, Unit.unit)))))) (emptyE))))
theorem r89_ok : PureOk Go.Proofs.Tryd.prog 0 (fun _ => True) 89 [(.slice (.pair (.int .i64) (.pair (.int .i64) .unit))), (.slice (.pair (.int .i64) (.pair (.int .i64) .unit)))] [.bool] r89 :=
  pureOk_of_run (F := specOf [(113, pureSpec [(.pair (.int .i64) (.pair (.int .i64) .unit)), (.pair (.int .i64) (.pair (.int .i64) .unit)), (.pair (.int .i64) (.pair (.int .i64) .unit)), (.pair (.int .i64) (.pair (.int .i64) .unit))] [.bool] r113), (114, pureSpec [(.slice (.pair (.int .i64) (.pair (.int .i64) .unit))), (.slice (.pair (.int .i64) (.pair (.int .i64) .unit)))] [(.slice (.int .i64))] r114)]) (hs := hintOf [(2, ⟨⟨[(14, .lf (.int .i64))], [], []⟩, [(.ret, ⟨[(4, .lf .bool)], [], []⟩), ((.exit 2), ⟨[], [], []⟩)]⟩), (0, ⟨⟨[(9, .lf (.int .i64))], [], []⟩, [(.ret, ⟨[(4, .lf .bool)], [], []⟩), ((.exit 0), ⟨[], [], []⟩)]⟩)]) stays_triv (specOf_cons (PureOk.spec r113_ok) (specOf_cons (PureOk.spec r114_ok) specOf_nil)) mixed Go.Proofs.Tryd.func89 rfl (by kernel_rfl) (fun _ => by kernel_rfl)

/-- terrier/area.Check -/
noncomputable def r50 (x : (kdP [(.slice (.slice (.pair (.int .i64) (.pair (.int .i64) .unit))))]).T) : Option (kdP [(.int .i64)]).T :=
  (cond (Decidable.decide (LT.lt (20 : Int) (Nat.cast (List.length x.1) : Int))) (Option.some ((2 : Int), Unit.unit)) (Option.bind (loop (D := (Prod (Kd.T (.pair (.int .i64) .unit)) (Kd.T .unit))) (O := (Sum (Kd.T (.pair (.pair (.int .i64) .unit) .unit)) (OutT (List.cons ((Ex3.exit 0), (Sh.mk (List.nil) (List.nil) (List.nil))) (List.nil))))) (fun x0 => (cond (Decidable.decide (LT.lt x0.1.1 (Nat.cast (List.length x.1) : Int))) (cond (inB x0.1.1 (List.length x.1)) (Option.bind (GetElem?.getElem? x.1 (Int.toNat x0.1.1)) (fun x1 => (Option.bind (r88 (x1, Unit.unit)) (fun x2 => (cond (Bool.not (Decidable.decide (Eq x2.1 (0 : Int)))) (Option.some (Sum.inr (Sum.inl ((x2.1, Unit.unit), Unit.unit)))) (Option.some (Sum.inl (((IntKind.wrap IntKind.i64 (HAdd.hAdd x0.1.1 (1 : Int))), Unit.unit), Unit.unit)))))))) (Option.none)) (Option.some (Sum.inr (Sum.inr (Sum.inl (Unit.unit, Unit.unit))))))) (((0 : Int), Unit.unit), Unit.unit)) (sumE (fun x0 => (Option.some (x0.1.1, Unit.unit))) (sumE (fun x0 => (Option.bind (loop (D := (Prod (Kd.T (.pair (.int .i64) .unit)) (Kd.T .unit))) (O := (Sum (Kd.T (.pair (.pair (.int .i64) .unit) .unit)) (OutT (List.cons ((Ex3.exit 2), (Sh.mk (List.nil) (List.nil) (List.nil))) (List.nil))))) (fun x1 => (cond (Decidable.decide (LT.lt x1.1.1 (Nat.cast (List.length x.1) : Int))) (cond (inB x1.1.1 (List.length x.1)) (Option.bind (GetElem?.getElem? x.1 (Int.toNat x1.1.1)) (fun x2 => (cond (upTo x1.1.1 (Nat.cast (List.length x.1) : Int)) (Option.bind (loop (D := (Prod (Kd.T (.pair (.int .i64) .unit)) (Kd.T .unit))) (O := (Sum (Kd.T (.pair (.pair (.int .i64) .unit) .unit)) (OutT (List.cons ((Ex3.exit 4), (Sh.mk (List.nil) (List.nil) (List.nil))) (List.nil))))) (fun x3 => (cond (Decidable.decide (LT.lt x3.1.1 (Nat.cast (List.length (List.take (Int.toNat x1.1.1) x.1)) : Int))) (cond (inB x3.1.1 (List.length (List.take (Int.toNat x1.1.1) x.1))) (Option.bind (GetElem?.getElem? (List.take (Int.toNat x1.1.1) x.1) (Int.toNat x3.1.1)) (fun x4 => (Option.bind (r89 (x2, (x4, Unit.unit))) (fun x5 => (cond (Bool.not x5.1) (Option.some (Sum.inr (Sum.inl (((10 : Int), Unit.unit), Unit.unit)))) (Option.some (Sum.inl (((IntKind.wrap IntKind.i64 (HAdd.hAdd x3.1.1 (1 : Int))), Unit.unit), Unit.unit)))))))) (Option.none)) (Option.some (Sum.inr (Sum.inr (Sum.inl (Unit.unit, Unit.unit))))))) (((0 : Int), Unit.unit), Unit.unit)) (sumE (fun x3 => (Option.some (Sum.inr (Sum.inl ((x3.1.1, Unit.unit), Unit.unit))))) (sumE (fun x3 => (Option.some (Sum.inl (((IntKind.wrap IntKind.i64 (HAdd.hAdd x1.1.1 (1 : Int))), Unit.unit), Unit.unit)))) (emptyE)))) (Option.none)))) (Option.none)) (Option.some (Sum.inr (Sum.inr (Sum.inl (Unit.unit, Unit.unit))))))) (((0 : Int), Unit.unit), Unit.unit)) (sumE (fun x1 => (Option.some (x1.1.1, Unit.unit))) (sumE (fun x1 => (Option.some ((0 : Int), Unit.unit))) (emptyE))))) (emptyE)))))
theorem r50_ok : PureOk Go.Proofs.Tryd.prog 0 (fun _ => True) 50 [(.slice (.slice (.pair (.int .i64) (.pair (.int .i64) .unit))))] [(.int .i64)] r50 :=
  pureOk_of_run (F := specOf [(88, pureSpec [(.slice (.pair (.int .i64) (.pair (.int .i64) .unit)))] [(.int .i64)] r88), (89, pureSpec [(.slice (.pair (.int .i64) (.pair (.int .i64) .unit))), (.slice (.pair (.int .i64) (.pair (.int .i64) .unit)))] [.bool] r89)]) (hs := hintOf [(4, ⟨⟨[(36, .lf (.int .i64))], [], []⟩, [(.ret, ⟨[(2, .lf (.int .i64))], [], []⟩), ((.exit 4), ⟨[], [], []⟩)]⟩), (2, ⟨⟨[(27, .lf (.int .i64))], [], []⟩, [(.ret, ⟨[(2, .lf (.int .i64))], [], []⟩), ((.exit 2), ⟨[], [], []⟩)]⟩), (0, ⟨⟨[(15, .lf (.int .i64))], [], []⟩, [(.ret, ⟨[(2, .lf (.int .i64))], [], []⟩), ((.exit 0), ⟨[], [], []⟩)]⟩)]) stays_triv (specOf_cons (PureOk.spec r88_ok) (specOf_cons (PureOk.spec r89_ok) specOf_nil)) mixed Go.Proofs.Tryd.func50 rfl (by kernel_rfl) (fun _ => by kernel_rfl)

/-- terrier/feat.Parts -/
noncomputable def r20 (x : (kdP [(.int .i64), (.slice (.slice (.pair (.int .i64) (.pair (.int .i64) .unit))))]).T) : Option (kdP [(.int .i64)]).T :=
  (cond (Decidable.decide (LT.lt x.1 (1 : Int))) (Option.some ((8 : Int), Unit.unit)) (cond (Decidable.decide (LT.lt (3 : Int) x.1)) (Option.some ((8 : Int), Unit.unit)) (cond (Decidable.decide (LT.lt (20 : Int) (Nat.cast (List.length x.2.1) : Int))) (Option.some ((2 : Int), Unit.unit)) (Option.bind (r47_48 (x.2.1, (Unit.unit, Unit.unit))) (fun x0 => (cond x0.1 (Option.some ((2 : Int), Unit.unit)) (cond (Decidable.decide (Eq (Nat.cast (List.length x.2.1) : Int) (0 : Int))) (Option.some ((4 : Int), Unit.unit)) (Option.bind (loop (D := (Prod (Kd.T (.pair (.int .i64) .unit)) (Kd.T .unit))) (O := (Sum (Kd.T (.pair (.pair (.int .i64) .unit) .unit)) (OutT (List.cons ((Ex3.exit 0), (Sh.mk (List.nil) (List.nil) (List.nil))) (List.nil))))) (fun x1 => (cond (Decidable.decide (LT.lt x1.1.1 (Nat.cast (List.length x.2.1) : Int))) (cond (inB x1.1.1 (List.length x.2.1)) (Option.bind (GetElem?.getElem? x.2.1 (Int.toNat x1.1.1)) (fun x2 => (Option.bind (r49 (x.1, (x2, Unit.unit))) (fun x3 => (cond (Bool.not (Decidable.decide (Eq x3.1 (0 : Int)))) (Option.some (Sum.inr (Sum.inl ((x3.1, Unit.unit), Unit.unit)))) (Option.some (Sum.inl (((IntKind.wrap IntKind.i64 (HAdd.hAdd x1.1.1 (1 : Int))), Unit.unit), Unit.unit)))))))) (Option.none)) (Option.some (Sum.inr (Sum.inr (Sum.inl (Unit.unit, Unit.unit))))))) (((0 : Int), Unit.unit), Unit.unit)) (sumE (fun x1 => (Option.some (x1.1.1, Unit.unit))) (sumE (fun x1 => (cond (Decidable.decide (Eq x.1 (3 : Int))) (Option.bind (r50 (x.2.1, Unit.unit)) (fun x2 => (Option.some (x2.1, Unit.unit)))) (Option.some ((0 : Int), Unit.unit)))) (emptyE)))))))))))
theorem r20_ok : PureOk Go.Proofs.Tryd.prog 0 (fun _ => True) 20 [(.int .i64), (.slice (.slice (.pair (.int .i64) (.pair (.int .i64) .unit))))] [(.int .i64)] r20 :=
  pureOk_of_run (F := specOf [(47, pickS [([48], pureSpec [(.slice (.slice (.pair (.int .i64) (.pair (.int .i64) .unit)))), (.fn 48)] [.bool] r47_48)]), (49, pureSpec [(.int .i64), (.slice (.pair (.int .i64) (.pair (.int .i64) .unit)))] [(.int .i64)] r49), (50, pureSpec [(.slice (.slice (.pair (.int .i64) (.pair (.int .i64) .unit))))] [(.int .i64)] r50)]) (hs := hintOf [(0, ⟨⟨[(26, .lf (.int .i64))], [], []⟩, [(.ret, ⟨[(4, .lf (.int .i64))], [], []⟩), ((.exit 0), ⟨[], [], []⟩)]⟩)]) stays_triv (specOf_cons (pickS_one (PureOk.spec r47_48_ok)) (specOf_cons (PureOk.spec r49_ok) (specOf_cons (PureOk.spec r50_ok) specOf_nil))) mixed Go.Proofs.Tryd.func20 rfl (by kernel_rfl) (fun _ => by kernel_rfl)

/-- terrier/value.plain -/
noncomputable def r38 (x : (kdP [.str]).T) : Option (kdP [.bool]).T :=
  (Option.bind (loop (D := (Prod (Kd.T (.pair (.int .i64) .unit)) (Kd.T .unit))) (O := (Sum (Kd.T (.pair (.pair .bool .unit) .unit)) (OutT (List.cons ((Ex3.exit 0), (Sh.mk (List.nil) (List.nil) (List.nil))) (List.nil))))) (fun x0 => (cond (Decidable.decide (LT.lt x0.1.1 (Nat.cast (ByteArray.size x.1) : Int))) (Option.bind (strAt x.1 x0.1.1) (fun x1 => (cond (Decidable.decide (LT.lt (Nat.cast (UInt8.toNat x1) : Int) (32 : Int))) (Option.some (Sum.inr (Sum.inl ((Bool.false, Unit.unit), Unit.unit)))) (Option.bind (strAt x.1 x0.1.1) (fun x2 => (cond (Decidable.decide (LT.lt (126 : Int) (Nat.cast (UInt8.toNat x2) : Int))) (Option.some (Sum.inr (Sum.inl ((Bool.false, Unit.unit), Unit.unit)))) (Option.bind (strAt x.1 x0.1.1) (fun x3 => (cond (Decidable.decide (Eq (Nat.cast (UInt8.toNat x3) : Int) (34 : Int))) (Option.some (Sum.inr (Sum.inl ((Bool.false, Unit.unit), Unit.unit)))) (Option.some (Sum.inl (((IntKind.wrap IntKind.i64 (HAdd.hAdd x0.1.1 (1 : Int))), Unit.unit), Unit.unit)))))))))))) (Option.some (Sum.inr (Sum.inr (Sum.inl (Unit.unit, Unit.unit))))))) (((0 : Int), Unit.unit), Unit.unit)) (sumE (fun x0 => (Option.some (x0.1.1, Unit.unit))) (sumE (fun x0 => (Option.some (Bool.true, Unit.unit))) (emptyE))))
theorem r38_ok : PureOk Go.Proofs.Tryd.prog 0 (fun _ => True) 38 [.str] [.bool] r38 :=
  pureOk_of_run (F := specOf []) (hs := hintOf [(0, ⟨⟨[(6, .lf (.int .i64))], [], []⟩, [(.ret, ⟨[(2, .lf .bool)], [], []⟩), ((.exit 0), ⟨[], [], []⟩)]⟩)]) stays_triv specOf_nil mixed Go.Proofs.Tryd.func38 rfl (by kernel_rfl) (fun _ => by kernel_rfl)

/-- terrier/value.Check -/
noncomputable def r10 (x : (kdP [(.pair (.int .i64) (.pair (.int .i64) (.pair .str (.pair .bool .unit))))]).T) : Option (kdP [(.int .i64)]).T :=
  (cond (Decidable.decide (LT.lt x.1.1 (0 : Int))) (Option.some ((8 : Int), Unit.unit)) (cond (Decidable.decide (LT.lt (3 : Int) x.1.1)) (Option.some ((8 : Int), Unit.unit)) (cond (Bool.not (Decidable.decide (Eq x.1.1 (1 : Int)))) (cond (Bool.not (Decidable.decide (Eq x.1.2.1 (0 : Int)))) (Option.some ((3 : Int), Unit.unit)) (cond (Bool.not (Decidable.decide (Eq x.1.1 (2 : Int)))) (cond (Bool.not (Decidable.decide (Eq x.1.2.2.1 (ByteArray.mk (List.toArray (List.nil)))))) (Option.some ((3 : Int), Unit.unit)) (cond (Bool.not (Decidable.decide (Eq x.1.1 (3 : Int)))) (cond x.1.2.2.2.1 (Option.some ((3 : Int), Unit.unit)) (cond (Decidable.decide (LT.lt x.1.2.1 (Neg.neg (1000000000000 : Int)))) (Option.some ((2 : Int), Unit.unit)) (cond (Decidable.decide (LT.lt (1000000000000 : Int) x.1.2.1)) (Option.some ((2 : Int), Unit.unit)) (cond (Decidable.decide (LT.lt (40 : Int) (Nat.cast (ByteArray.size x.1.2.2.1) : Int))) (Option.some ((2 : Int), Unit.unit)) (Option.bind (r38 (x.1.2.2.1, Unit.unit)) (fun x0 => (cond (Bool.not x0.1) (Option.some ((3 : Int), Unit.unit)) (Option.some ((0 : Int), Unit.unit))))))))) (cond (Decidable.decide (LT.lt x.1.2.1 (Neg.neg (1000000000000 : Int)))) (Option.some ((2 : Int), Unit.unit)) (cond (Decidable.decide (LT.lt (1000000000000 : Int) x.1.2.1)) (Option.some ((2 : Int), Unit.unit)) (cond (Decidable.decide (LT.lt (40 : Int) (Nat.cast (ByteArray.size x.1.2.2.1) : Int))) (Option.some ((2 : Int), Unit.unit)) (Option.bind (r38 (x.1.2.2.1, Unit.unit)) (fun x0 => (cond (Bool.not x0.1) (Option.some ((3 : Int), Unit.unit)) (Option.some ((0 : Int), Unit.unit)))))))))) (cond (Bool.not (Decidable.decide (Eq x.1.1 (3 : Int)))) (cond x.1.2.2.2.1 (Option.some ((3 : Int), Unit.unit)) (cond (Decidable.decide (LT.lt x.1.2.1 (Neg.neg (1000000000000 : Int)))) (Option.some ((2 : Int), Unit.unit)) (cond (Decidable.decide (LT.lt (1000000000000 : Int) x.1.2.1)) (Option.some ((2 : Int), Unit.unit)) (cond (Decidable.decide (LT.lt (40 : Int) (Nat.cast (ByteArray.size x.1.2.2.1) : Int))) (Option.some ((2 : Int), Unit.unit)) (Option.bind (r38 (x.1.2.2.1, Unit.unit)) (fun x0 => (cond (Bool.not x0.1) (Option.some ((3 : Int), Unit.unit)) (Option.some ((0 : Int), Unit.unit))))))))) (cond (Decidable.decide (LT.lt x.1.2.1 (Neg.neg (1000000000000 : Int)))) (Option.some ((2 : Int), Unit.unit)) (cond (Decidable.decide (LT.lt (1000000000000 : Int) x.1.2.1)) (Option.some ((2 : Int), Unit.unit)) (cond (Decidable.decide (LT.lt (40 : Int) (Nat.cast (ByteArray.size x.1.2.2.1) : Int))) (Option.some ((2 : Int), Unit.unit)) (Option.bind (r38 (x.1.2.2.1, Unit.unit)) (fun x0 => (cond (Bool.not x0.1) (Option.some ((3 : Int), Unit.unit)) (Option.some ((0 : Int), Unit.unit))))))))))) (cond (Bool.not (Decidable.decide (Eq x.1.1 (2 : Int)))) (cond (Bool.not (Decidable.decide (Eq x.1.2.2.1 (ByteArray.mk (List.toArray (List.nil)))))) (Option.some ((3 : Int), Unit.unit)) (cond (Bool.not (Decidable.decide (Eq x.1.1 (3 : Int)))) (cond x.1.2.2.2.1 (Option.some ((3 : Int), Unit.unit)) (cond (Decidable.decide (LT.lt x.1.2.1 (Neg.neg (1000000000000 : Int)))) (Option.some ((2 : Int), Unit.unit)) (cond (Decidable.decide (LT.lt (1000000000000 : Int) x.1.2.1)) (Option.some ((2 : Int), Unit.unit)) (cond (Decidable.decide (LT.lt (40 : Int) (Nat.cast (ByteArray.size x.1.2.2.1) : Int))) (Option.some ((2 : Int), Unit.unit)) (Option.bind (r38 (x.1.2.2.1, Unit.unit)) (fun x0 => (cond (Bool.not x0.1) (Option.some ((3 : Int), Unit.unit)) (Option.some ((0 : Int), Unit.unit))))))))) (cond (Decidable.decide (LT.lt x.1.2.1 (Neg.neg (1000000000000 : Int)))) (Option.some ((2 : Int), Unit.unit)) (cond (Decidable.decide (LT.lt (1000000000000 : Int) x.1.2.1)) (Option.some ((2 : Int), Unit.unit)) (cond (Decidable.decide (LT.lt (40 : Int) (Nat.cast (ByteArray.size x.1.2.2.1) : Int))) (Option.some ((2 : Int), Unit.unit)) (Option.bind (r38 (x.1.2.2.1, Unit.unit)) (fun x0 => (cond (Bool.not x0.1) (Option.some ((3 : Int), Unit.unit)) (Option.some ((0 : Int), Unit.unit)))))))))) (cond (Bool.not (Decidable.decide (Eq x.1.1 (3 : Int)))) (cond x.1.2.2.2.1 (Option.some ((3 : Int), Unit.unit)) (cond (Decidable.decide (LT.lt x.1.2.1 (Neg.neg (1000000000000 : Int)))) (Option.some ((2 : Int), Unit.unit)) (cond (Decidable.decide (LT.lt (1000000000000 : Int) x.1.2.1)) (Option.some ((2 : Int), Unit.unit)) (cond (Decidable.decide (LT.lt (40 : Int) (Nat.cast (ByteArray.size x.1.2.2.1) : Int))) (Option.some ((2 : Int), Unit.unit)) (Option.bind (r38 (x.1.2.2.1, Unit.unit)) (fun x0 => (cond (Bool.not x0.1) (Option.some ((3 : Int), Unit.unit)) (Option.some ((0 : Int), Unit.unit))))))))) (cond (Decidable.decide (LT.lt x.1.2.1 (Neg.neg (1000000000000 : Int)))) (Option.some ((2 : Int), Unit.unit)) (cond (Decidable.decide (LT.lt (1000000000000 : Int) x.1.2.1)) (Option.some ((2 : Int), Unit.unit)) (cond (Decidable.decide (LT.lt (40 : Int) (Nat.cast (ByteArray.size x.1.2.2.1) : Int))) (Option.some ((2 : Int), Unit.unit)) (Option.bind (r38 (x.1.2.2.1, Unit.unit)) (fun x0 => (cond (Bool.not x0.1) (Option.some ((3 : Int), Unit.unit)) (Option.some ((0 : Int), Unit.unit)))))))))))))
theorem r10_ok : PureOk Go.Proofs.Tryd.prog 0 (fun _ => True) 10 [(.pair (.int .i64) (.pair (.int .i64) (.pair .str (.pair .bool .unit))))] [(.int .i64)] r10 :=
  pureOk_of_run (F := specOf [(38, pureSpec [.str] [.bool] r38)]) (hs := hintOf []) stays_triv (specOf_cons (PureOk.spec r38_ok) specOf_nil) mixed Go.Proofs.Tryd.func10 rfl (by kernel_rfl) (fun _ => by kernel_rfl)

/-- terrier/feat.Attrs -/
noncomputable def r22 (x : (kdP [(.slice (.pair .str (.pair (.pair (.int .i64) (.pair (.int .i64) (.pair .str (.pair .bool .unit)))) .unit))), .bool]).T) : Option (kdP [(.int .i64)]).T :=
  (cond (Decidable.decide (LT.lt (8 : Int) (Nat.cast (List.length x.1) : Int))) (Option.some ((2 : Int), Unit.unit)) (Option.bind (loop (D := (Prod (Kd.T (.pair (.int .i64) .unit)) (Kd.T .unit))) (O := (Sum (Kd.T (.pair (.pair (.int .i64) .unit) .unit)) (OutT (List.cons ((Ex3.exit 0), (Sh.mk (List.nil) (List.nil) (List.nil))) (List.nil))))) (fun x0 => (cond (Decidable.decide (LT.lt x0.1.1 (Nat.cast (List.length x.1) : Int))) (cond (inB x0.1.1 (List.length x.1)) (Option.bind (GetElem?.getElem? x.1 (Int.toNat x0.1.1)) (fun x1 => (Option.bind (r14 (x1.1, Unit.unit)) (fun x2 => (cond (Bool.not x2.1) (Option.some (Sum.inr (Sum.inl (((16 : Int), Unit.unit), Unit.unit)))) (cond (Decidable.decide (LT.lt (0 : Int) x0.1.1)) (cond (inB (IntKind.wrap IntKind.i64 (HSub.hSub x0.1.1 (1 : Int))) (List.length x.1)) (Option.bind (GetElem?.getElem? x.1 (Int.toNat (IntKind.wrap IntKind.i64 (HSub.hSub x0.1.1 (1 : Int))))) (fun x3 => (cond (Bool.not (strLt x3.1 x1.1)) (Option.some (Sum.inr (Sum.inl (((9 : Int), Unit.unit), Unit.unit)))) (Option.bind (r10 ((x1.2.1.1, (x1.2.1.2.1, (x1.2.1.2.2.1, (x1.2.1.2.2.2.1, Unit.unit)))), Unit.unit)) (fun x4 => (cond (Bool.not (Decidable.decide (Eq x4.1 (0 : Int)))) (Option.some (Sum.inr (Sum.inl ((x4.1, Unit.unit), Unit.unit)))) (cond (Decidable.decide (Eq x1.2.1.1 (0 : Int))) (cond (Bool.not x.2.1) (Option.some (Sum.inr (Sum.inl (((3 : Int), Unit.unit), Unit.unit)))) (Option.some (Sum.inl (((IntKind.wrap IntKind.i64 (HAdd.hAdd x0.1.1 (1 : Int))), Unit.unit), Unit.unit)))) (Option.some (Sum.inl (((IntKind.wrap IntKind.i64 (HAdd.hAdd x0.1.1 (1 : Int))), Unit.unit), Unit.unit)))))))))) (Option.none)) (Option.bind (r10 ((x1.2.1.1, (x1.2.1.2.1, (x1.2.1.2.2.1, (x1.2.1.2.2.2.1, Unit.unit)))), Unit.unit)) (fun x3 => (cond (Bool.not (Decidable.decide (Eq x3.1 (0 : Int)))) (Option.some (Sum.inr (Sum.inl ((x3.1, Unit.unit), Unit.unit)))) (cond (Decidable.decide (Eq x1.2.1.1 (0 : Int))) (cond (Bool.not x.2.1) (Option.some (Sum.inr (Sum.inl (((3 : Int), Unit.unit), Unit.unit)))) (Option.some (Sum.inl (((IntKind.wrap IntKind.i64 (HAdd.hAdd x0.1.1 (1 : Int))), Unit.unit), Unit.unit)))) (Option.some (Sum.inl (((IntKind.wrap IntKind.i64 (HAdd.hAdd x0.1.1 (1 : Int))), Unit.unit), Unit.unit))))))))))))) (Option.none)) (Option.some (Sum.inr (Sum.inr (Sum.inl (Unit.unit, Unit.unit))))))) (((0 : Int), Unit.unit), Unit.unit)) (sumE (fun x0 => (Option.some (x0.1.1, Unit.unit))) (sumE (fun x0 => (Option.some ((0 : Int), Unit.unit))) (emptyE)))))
theorem r22_ok : PureOk Go.Proofs.Tryd.prog 0 (fun _ => True) 22 [(.slice (.pair .str (.pair (.pair (.int .i64) (.pair (.int .i64) (.pair .str (.pair .bool .unit)))) .unit))), .bool] [(.int .i64)] r22 :=
  pureOk_of_run (F := specOf [(14, pureSpec [.str] [.bool] r14), (10, pureSpec [(.pair (.int .i64) (.pair (.int .i64) (.pair .str (.pair .bool .unit))))] [(.int .i64)] r10)]) (hs := hintOf [(0, ⟨⟨[(13, .lf (.int .i64))], [], []⟩, [(.ret, ⟨[(4, .lf (.int .i64))], [], []⟩), ((.exit 0), ⟨[], [], []⟩)]⟩)]) stays_triv (specOf_cons (PureOk.spec r14_ok) (specOf_cons (PureOk.spec r10_ok) specOf_nil)) mixed Go.Proofs.Tryd.func22 rfl (by kernel_rfl) (fun _ => by kernel_rfl)

/-- terrier/feat.Check -/
noncomputable def r18 (x : (kdP [(.pair (.int .i64) (.pair (.int .i64) (.pair (.slice (.slice (.pair (.int .i64) (.pair (.int .i64) .unit)))) (.pair (.slice (.pair .str (.pair (.pair (.int .i64) (.pair (.int .i64) (.pair .str (.pair .bool .unit)))) .unit))) (.pair (.int .i64) (.pair (.int .i64) .unit))))))]).T) : Option (kdP [(.int .i64)]).T :=
  (cond (Decidable.decide (LT.lt x.1.1 (1 : Int))) (Option.some ((1 : Int), Unit.unit)) (cond (Decidable.decide (LT.lt (1073741824 : Int) x.1.1)) (Option.some ((1 : Int), Unit.unit)) (Option.bind (r20 (x.1.2.1, (x.1.2.2.1, Unit.unit))) (fun x0 => (cond (Bool.not (Decidable.decide (Eq x0.1 (0 : Int)))) (Option.some (x0.1, Unit.unit)) (Option.bind (r22 (x.1.2.2.2.1, (Bool.false, Unit.unit))) (fun x1 => (cond (Bool.not (Decidable.decide (Eq x1.1 (0 : Int)))) (Option.some (x1.1, Unit.unit)) (cond (Decidable.decide (LT.lt x.1.2.2.2.2.1 (0 : Int))) (Option.some ((1 : Int), Unit.unit)) (cond (Decidable.decide (LT.lt (1073741824 : Int) x.1.2.2.2.2.2.1)) (Option.some ((1 : Int), Unit.unit)) (cond (Decidable.decide (LE.le x.1.2.2.2.2.2.1 x.1.2.2.2.2.1)) (Option.some ((1 : Int), Unit.unit)) (Option.some ((0 : Int), Unit.unit)))))))))))))
theorem r18_ok : PureOk Go.Proofs.Tryd.prog 0 (fun _ => True) 18 [(.pair (.int .i64) (.pair (.int .i64) (.pair (.slice (.slice (.pair (.int .i64) (.pair (.int .i64) .unit)))) (.pair (.slice (.pair .str (.pair (.pair (.int .i64) (.pair (.int .i64) (.pair .str (.pair .bool .unit)))) .unit))) (.pair (.int .i64) (.pair (.int .i64) .unit))))))] [(.int .i64)] r18 :=
  pureOk_of_run (F := specOf [(20, pureSpec [(.int .i64), (.slice (.slice (.pair (.int .i64) (.pair (.int .i64) .unit))))] [(.int .i64)] r20), (22, pureSpec [(.slice (.pair .str (.pair (.pair (.int .i64) (.pair (.int .i64) (.pair .str (.pair .bool .unit)))) .unit))), .bool] [(.int .i64)] r22)]) (hs := hintOf []) stays_triv (specOf_cons (PureOk.spec r20_ok) (specOf_cons (PureOk.spec r22_ok) specOf_nil)) mixed Go.Proofs.Tryd.func18 rfl (by kernel_rfl) (fun _ => by kernel_rfl)

/-- terrier/feat.All -/
noncomputable def r16 (x : (kdP [(.slice (.pair (.int .i64) (.pair (.int .i64) (.pair (.slice (.slice (.pair (.int .i64) (.pair (.int .i64) .unit)))) (.pair (.slice (.pair .str (.pair (.pair (.int .i64) (.pair (.int .i64) (.pair .str (.pair .bool .unit)))) .unit))) (.pair (.int .i64) (.pair (.int .i64) .unit)))))))]).T) : Option (kdP [(.int .i64)]).T :=
  (cond (Decidable.decide (LT.lt (200 : Int) (Nat.cast (List.length x.1) : Int))) (Option.some ((2 : Int), Unit.unit)) (Option.bind (loop (D := (Prod (Kd.T (.pair (.int .i64) .unit)) (Kd.T .unit))) (O := (Sum (Kd.T (.pair (.pair (.int .i64) .unit) .unit)) (OutT (List.cons ((Ex3.exit 0), (Sh.mk (List.nil) (List.nil) (List.nil))) (List.nil))))) (fun x0 => (cond (Decidable.decide (LT.lt x0.1.1 (Nat.cast (List.length x.1) : Int))) (cond (inB x0.1.1 (List.length x.1)) (Option.bind (GetElem?.getElem? x.1 (Int.toNat x0.1.1)) (fun x1 => (Option.bind (r18 ((x1.1, (x1.2.1, (x1.2.2.1, (x1.2.2.2.1, (x1.2.2.2.2.1, (x1.2.2.2.2.2.1, Unit.unit)))))), Unit.unit)) (fun x2 => (cond (Bool.not (Decidable.decide (Eq x2.1 (0 : Int)))) (Option.some (Sum.inr (Sum.inl ((x2.1, Unit.unit), Unit.unit)))) (cond (Decidable.decide (LT.lt (0 : Int) x0.1.1)) (cond (inB (IntKind.wrap IntKind.i64 (HSub.hSub x0.1.1 (1 : Int))) (List.length x.1)) (Option.bind (GetElem?.getElem? x.1 (Int.toNat (IntKind.wrap IntKind.i64 (HSub.hSub x0.1.1 (1 : Int))))) (fun x3 => (cond (Decidable.decide (LE.le x1.1 x3.1)) (Option.some (Sum.inr (Sum.inl (((9 : Int), Unit.unit), Unit.unit)))) (Option.some (Sum.inl (((IntKind.wrap IntKind.i64 (HAdd.hAdd x0.1.1 (1 : Int))), Unit.unit), Unit.unit)))))) (Option.none)) (Option.some (Sum.inl (((IntKind.wrap IntKind.i64 (HAdd.hAdd x0.1.1 (1 : Int))), Unit.unit), Unit.unit))))))))) (Option.none)) (Option.some (Sum.inr (Sum.inr (Sum.inl (Unit.unit, Unit.unit))))))) (((0 : Int), Unit.unit), Unit.unit)) (sumE (fun x0 => (Option.some (x0.1.1, Unit.unit))) (sumE (fun x0 => (Option.some ((0 : Int), Unit.unit))) (emptyE)))))
theorem r16_ok : PureOk Go.Proofs.Tryd.prog 0 (fun _ => True) 16 [(.slice (.pair (.int .i64) (.pair (.int .i64) (.pair (.slice (.slice (.pair (.int .i64) (.pair (.int .i64) .unit)))) (.pair (.slice (.pair .str (.pair (.pair (.int .i64) (.pair (.int .i64) (.pair .str (.pair .bool .unit)))) .unit))) (.pair (.int .i64) (.pair (.int .i64) .unit)))))))] [(.int .i64)] r16 :=
  pureOk_of_run (F := specOf [(18, pureSpec [(.pair (.int .i64) (.pair (.int .i64) (.pair (.slice (.slice (.pair (.int .i64) (.pair (.int .i64) .unit)))) (.pair (.slice (.pair .str (.pair (.pair (.int .i64) (.pair (.int .i64) (.pair .str (.pair .bool .unit)))) .unit))) (.pair (.int .i64) (.pair (.int .i64) .unit))))))] [(.int .i64)] r18)]) (hs := hintOf [(0, ⟨⟨[(11, .lf (.int .i64))], [], []⟩, [(.ret, ⟨[(2, .lf (.int .i64))], [], []⟩), ((.exit 0), ⟨[], [], []⟩)]⟩)]) stays_triv (specOf_cons (PureOk.spec r18_ok) specOf_nil) mixed Go.Proofs.Tryd.func16 rfl (by kernel_rfl) (fun _ => by kernel_rfl)

/-- (*terrier/bin.writer).num -/
noncomputable def r59 (x : (kdP [(.slice (.int .i64))]).T) (d : (kdL [.own (.int .u8)]).T) : Option ((kdP []).T × (kdL [.own (.int .u8)]).T) :=
  (Option.bind (loop (D := (Prod (Kd.T (.pair (.int .i64) (.pair (.slice (.int .u8)) .unit))) (Kd.T .unit))) (O := (Sum (Kd.T (.pair (.pair (.slice (.int .u8)) .unit) .unit)) (OutT (List.nil)))) (fun x0 => (cond (Decidable.decide (LT.lt x0.1.1 (Nat.cast (List.length x.1) : Int))) (cond (inB x0.1.1 (List.length x.1)) (Option.bind (GetElem?.getElem? x.1 (Int.toNat x0.1.1)) (fun x1 => (Option.bind (loop (D := (Prod (Kd.T (.pair (.int .u64) (.pair (.slice (.int .u8)) .unit))) (Kd.T .unit))) (O := (Sum (Kd.T (.pair (.pair (.int .u64) (.pair (.slice (.int .u8)) .unit)) .unit)) (OutT (List.nil)))) (fun x2 => (cond (Decidable.decide (LE.le (128 : Int) x2.1.1)) (cond (fits (HAdd.hAdd (List.length x2.1.2.1) (List.length (List.cons (IntKind.wrap IntKind.u8 (Nat.cast (BitVec.toNat (HOr.hOr (BitVec.ofInt 8 (IntKind.wrap IntKind.u8 x2.1.1)) (BitVec.ofInt 8 (128 : Int)))) : Int)) (List.nil)))) 1) (Option.some (Sum.inl (((Int.fdiv x2.1.1 (128 : Int)), ((HAppend.hAppend x2.1.2.1 (List.cons (IntKind.wrap IntKind.u8 (Nat.cast (BitVec.toNat (HOr.hOr (BitVec.ofInt 8 (IntKind.wrap IntKind.u8 x2.1.1)) (BitVec.ofInt 8 (128 : Int)))) : Int)) (List.nil))), Unit.unit)), Unit.unit))) (Option.none)) (Option.some (Sum.inr (Sum.inl ((x2.1.1, (x2.1.2.1, Unit.unit)), Unit.unit)))))) (((IntKind.wrap IntKind.u64 (Nat.cast (BitVec.toNat (HXor.hXor (BitVec.ofInt 64 (IntKind.wrap IntKind.u64 (HMul.hMul (IntKind.wrap IntKind.u64 x1) (2 : Int)))) (BitVec.ofInt 64 (IntKind.wrap IntKind.u64 (Int.fdiv x1 (9223372036854775808 : Int)))))) : Int)), (x0.1.2.1, Unit.unit)), Unit.unit)) (sumE (fun x2 => (cond (fits (HAdd.hAdd (List.length x2.1.2.1) (List.length (List.cons (IntKind.wrap IntKind.u8 x2.1.1) (List.nil)))) 1) (Option.some (Sum.inl (((IntKind.wrap IntKind.i64 (HAdd.hAdd x0.1.1 (1 : Int))), ((HAppend.hAppend x2.1.2.1 (List.cons (IntKind.wrap IntKind.u8 x2.1.1) (List.nil))), Unit.unit)), Unit.unit))) (Option.none))) (emptyE))))) (Option.none)) (Option.some (Sum.inr (Sum.inl ((x0.1.2.1, Unit.unit), Unit.unit)))))) (((0 : Int), (d.1, Unit.unit)), Unit.unit)) (sumE (fun x0 => (Option.some (Unit.unit, (x0.1.1, Unit.unit)))) (emptyE)))
theorem r59_ok : SpecOk Go.Proofs.Tryd.prog 0 (fun _ => True) 59 (memSpec [.ptr 0 0, .dat (.slice (.int .i64))] [(0, [.own (.int .u8)])] [(0, [.own (.int .u8)])] [] r59) :=
  memSpec_ok (F := specOf []) (hs := hintOf [(2, ⟨⟨[(6, .lf (.int .u64))], [(0, [.own (.int .u8)])], []⟩, [((.exit 2), ⟨[(6, .lf (.int .u64))], [(0, [.own (.int .u8)])], []⟩)]⟩), (0, ⟨⟨[(9, .lf (.int .i64))], [(0, [.own (.int .u8)])], []⟩, [((.exit 0), ⟨[], [(0, [.own (.int .u8)])], []⟩)]⟩)]) stays_triv specOf_nil mixed Go.Proofs.Tryd.func59 rfl (by kernel_rfl) (by kernel_rfl) (fun _ _ => by kernel_rfl)

/-- (*terrier/bin.writer).text -/
noncomputable def r96 (x : (kdP [.str]).T) (d : (kdL [.own (.int .u8)]).T) : Option ((kdP []).T × (kdL [.own (.int .u8)]).T) :=
  (Option.bind (r59 ((List.cons (Nat.cast (ByteArray.size x.1) : Int) (List.nil)), Unit.unit) (d.1, Unit.unit)) (fun x0 => (cond (fits (HAdd.hAdd (List.length x0.2.1) (List.length (bytesOf x.1))) 1) (Option.some (Unit.unit, ((HAppend.hAppend x0.2.1 (bytesOf x.1)), Unit.unit))) (Option.none))))
theorem r96_ok : SpecOk Go.Proofs.Tryd.prog 0 (fun _ => True) 96 (memSpec [.ptr 0 0, .dat .str] [(0, [.own (.int .u8)])] [(0, [.own (.int .u8)])] [] r96) :=
  memSpec_ok (F := specOf [(59, memSpec [.ptr 0 0, .dat (.slice (.int .i64))] [(0, [.own (.int .u8)])] [(0, [.own (.int .u8)])] [] r59)]) (hs := hintOf []) stays_triv (specOf_cons r59_ok specOf_nil) mixed Go.Proofs.Tryd.func96 rfl (by kernel_rfl) (by kernel_rfl) (fun _ _ => by kernel_rfl)

/-- (*terrier/bin.writer).feature -/
noncomputable def r60 (x : (kdP [(.pair (.int .i64) (.pair (.int .i64) (.pair (.slice (.slice (.pair (.int .i64) (.pair (.int .i64) .unit)))) (.pair (.slice (.pair .str (.pair (.pair (.int .i64) (.pair (.int .i64) (.pair .str (.pair .bool .unit)))) .unit))) (.pair (.int .i64) (.pair (.int .i64) .unit)))))), (.int .i64)]).T) (d : (kdL [.own (.int .u8)]).T) : Option ((kdP []).T × (kdL [.own (.int .u8)]).T) :=
  (Option.bind (r59 ((List.cons (IntKind.wrap IntKind.i64 (HSub.hSub x.1.1 x.2.1)) (List.cons x.1.2.1 (List.cons x.1.2.2.2.2.1 (List.cons (IntKind.wrap IntKind.i64 (HSub.hSub x.1.2.2.2.2.2.1 x.1.2.2.2.2.1)) (List.cons (Nat.cast (List.length x.1.2.2.1) : Int) (List.nil)))))), Unit.unit) (d.1, Unit.unit)) (fun x0 => (Option.bind (loop (D := (Prod (Kd.T (.pair (.int .i64) (.pair (.int .i64) (.pair (.int .i64) (.pair (.slice (.int .u8)) .unit))))) (Kd.T .unit))) (O := (Sum (Kd.T (.pair (.pair (.int .i64) (.pair (.int .i64) (.pair (.slice (.int .u8)) .unit))) .unit)) (OutT (List.nil)))) (fun x1 => (cond (Decidable.decide (LT.lt x1.1.1 (Nat.cast (List.length x.1.2.2.1) : Int))) (cond (inB x1.1.1 (List.length x.1.2.2.1)) (Option.bind (GetElem?.getElem? x.1.2.2.1 (Int.toNat x1.1.1)) (fun x2 => (Option.bind (r59 ((List.cons (Nat.cast (List.length x2) : Int) (List.nil)), Unit.unit) (x1.1.2.2.2.1, Unit.unit)) (fun x3 => (Option.bind (loop (D := (Prod (Kd.T (.pair (.int .i64) (.pair (.int .i64) (.pair (.int .i64) (.pair (.slice (.int .u8)) .unit))))) (Kd.T .unit))) (O := (Sum (Kd.T (.pair (.pair (.int .i64) (.pair (.int .i64) (.pair (.slice (.int .u8)) .unit))) .unit)) (OutT (List.nil)))) (fun x4 => (cond (Decidable.decide (LT.lt x4.1.1 (Nat.cast (List.length x2) : Int))) (cond (inB x4.1.1 (List.length x2)) (Option.bind (GetElem?.getElem? x2 (Int.toNat x4.1.1)) (fun x5 => (Option.bind (r59 ((List.cons (IntKind.wrap IntKind.i64 (HSub.hSub x5.1 x4.1.2.1)) (List.cons (IntKind.wrap IntKind.i64 (HSub.hSub x5.2.1 x4.1.2.2.1)) (List.nil))), Unit.unit) (x4.1.2.2.2.1, Unit.unit)) (fun x6 => (Option.some (Sum.inl (((IntKind.wrap IntKind.i64 (HAdd.hAdd x4.1.1 (1 : Int))), (x5.1, (x5.2.1, (x6.2.1, Unit.unit)))), Unit.unit))))))) (Option.none)) (Option.some (Sum.inr (Sum.inl ((x4.1.2.1, (x4.1.2.2.1, (x4.1.2.2.2.1, Unit.unit))), Unit.unit)))))) (((0 : Int), (x1.1.2.1, (x1.1.2.2.1, (x3.2.1, Unit.unit)))), Unit.unit)) (sumE (fun x4 => (Option.some (Sum.inl (((IntKind.wrap IntKind.i64 (HAdd.hAdd x1.1.1 (1 : Int))), (x4.1.1, (x4.1.2.1, (x4.1.2.2.1, Unit.unit)))), Unit.unit)))) (emptyE))))))) (Option.none)) (Option.some (Sum.inr (Sum.inl ((x1.1.2.1, (x1.1.2.2.1, (x1.1.2.2.2.1, Unit.unit))), Unit.unit)))))) (((0 : Int), ((0 : Int), ((0 : Int), (x0.2.1, Unit.unit)))), Unit.unit)) (sumE (fun x1 => (Option.bind (r59 ((List.cons (Nat.cast (List.length x.1.2.2.2.1) : Int) (List.nil)), Unit.unit) (x1.1.2.2.1, Unit.unit)) (fun x2 => (Option.bind (loop (D := (Prod (Kd.T (.pair (.int .i64) (.pair (.slice (.int .u8)) .unit))) (Kd.T .unit))) (O := (Sum (Kd.T (.pair (.pair (.slice (.int .u8)) .unit) .unit)) (OutT (List.nil)))) (fun x3 => (cond (Decidable.decide (LT.lt x3.1.1 (Nat.cast (List.length x.1.2.2.2.1) : Int))) (cond (inB x3.1.1 (List.length x.1.2.2.2.1)) (Option.bind (GetElem?.getElem? x.1.2.2.2.1 (Int.toNat x3.1.1)) (fun x4 => (Option.bind (r96 (x4.1, Unit.unit) (x3.1.2.1, Unit.unit)) (fun x5 => (Option.bind (r59 ((List.cons x4.2.1.1 (List.nil)), Unit.unit) (x5.2.1, Unit.unit)) (fun x6 => (cond (Decidable.decide (Eq x4.2.1.1 (1 : Int))) (Option.bind (r59 ((List.cons x4.2.1.2.1 (List.nil)), Unit.unit) (x6.2.1, Unit.unit)) (fun x7 => (Option.some (Sum.inl (((IntKind.wrap IntKind.i64 (HAdd.hAdd x3.1.1 (1 : Int))), (x7.2.1, Unit.unit)), Unit.unit))))) (cond (Decidable.decide (Eq x4.2.1.1 (2 : Int))) (Option.bind (r96 (x4.2.1.2.2.1, Unit.unit) (x6.2.1, Unit.unit)) (fun x7 => (Option.some (Sum.inl (((IntKind.wrap IntKind.i64 (HAdd.hAdd x3.1.1 (1 : Int))), (x7.2.1, Unit.unit)), Unit.unit))))) (cond (Decidable.decide (Eq x4.2.1.1 (3 : Int))) (cond x4.2.1.2.2.2.1 (Option.bind (r59 ((List.cons (1 : Int) (List.nil)), Unit.unit) (x6.2.1, Unit.unit)) (fun x7 => (Option.some (Sum.inl (((IntKind.wrap IntKind.i64 (HAdd.hAdd x3.1.1 (1 : Int))), (x7.2.1, Unit.unit)), Unit.unit))))) (Option.bind (r59 ((List.cons (0 : Int) (List.nil)), Unit.unit) (x6.2.1, Unit.unit)) (fun x7 => (Option.some (Sum.inl (((IntKind.wrap IntKind.i64 (HAdd.hAdd x3.1.1 (1 : Int))), (x7.2.1, Unit.unit)), Unit.unit)))))) (Option.some (Sum.inl (((IntKind.wrap IntKind.i64 (HAdd.hAdd x3.1.1 (1 : Int))), (x6.2.1, Unit.unit)), Unit.unit)))))))))))) (Option.none)) (Option.some (Sum.inr (Sum.inl ((x3.1.2.1, Unit.unit), Unit.unit)))))) (((0 : Int), (x2.2.1, Unit.unit)), Unit.unit)) (sumE (fun x3 => (Option.some (Unit.unit, (x3.1.1, Unit.unit)))) (emptyE)))))) (emptyE)))))
theorem r60_ok : SpecOk Go.Proofs.Tryd.prog 0 (fun _ => True) 60 (memSpec [.ptr 0 0, .dat (.pair (.int .i64) (.pair (.int .i64) (.pair (.slice (.slice (.pair (.int .i64) (.pair (.int .i64) .unit)))) (.pair (.slice (.pair .str (.pair (.pair (.int .i64) (.pair (.int .i64) (.pair .str (.pair .bool .unit)))) .unit))) (.pair (.int .i64) (.pair (.int .i64) .unit)))))), .dat (.int .i64)] [(0, [.own (.int .u8)])] [(0, [.own (.int .u8)])] [] r60) :=
  memSpec_ok (F := specOf [(59, memSpec [.ptr 0 0, .dat (.slice (.int .i64))] [(0, [.own (.int .u8)])] [(0, [.own (.int .u8)])] [] r59), (96, memSpec [.ptr 0 0, .dat .str] [(0, [.own (.int .u8)])] [(0, [.own (.int .u8)])] [] r96)]) (hs := hintOf [(4, ⟨⟨[(77, .lf (.int .i64))], [(0, [.own (.int .u8)])], []⟩, [((.exit 4), ⟨[], [(0, [.own (.int .u8)])], []⟩)]⟩), (2, ⟨⟨[(48, .lf (.int .i64))], [(1472, [.lf (.int .i64), .lf (.int .i64)]), (0, [.own (.int .u8)])], []⟩, [((.exit 2), ⟨[], [(1472, [.lf (.int .i64), .lf (.int .i64)]), (0, [.own (.int .u8)])], []⟩)]⟩), (0, ⟨⟨[(37, .lf (.int .i64))], [(1472, [.lf (.int .i64), .lf (.int .i64)]), (0, [.own (.int .u8)])], []⟩, [((.exit 0), ⟨[], [(1472, [.lf (.int .i64), .lf (.int .i64)]), (0, [.own (.int .u8)])], []⟩)]⟩)]) stays_triv (specOf_cons r59_ok (specOf_cons r96_ok specOf_nil)) mixed Go.Proofs.Tryd.func60 rfl (by kernel_rfl) (by kernel_rfl) (fun _ _ => by kernel_rfl)

/-- terrier/bin.Sum -/
noncomputable def r61 (x : (kdP [(.slice (.int .u8))]).T) : Option (kdP [(.int .u32)]).T :=
  (Option.bind (loop (D := (Prod (Kd.T (.pair (.int .u32) (.pair (.int .i64) .unit))) (Kd.T .unit))) (O := (Sum (Kd.T (.pair (.pair (.int .u32) .unit) .unit)) (OutT (List.nil)))) (fun x0 => (cond (Decidable.decide (LT.lt x0.1.2.1 (Nat.cast (List.length x.1) : Int))) (cond (inB x0.1.2.1 (List.length x.1)) (Option.bind (GetElem?.getElem? x.1 (Int.toNat x0.1.2.1)) (fun x1 => (Option.some (Sum.inl (((IntKind.wrap IntKind.u32 (HMul.hMul (IntKind.wrap IntKind.u32 (Nat.cast (BitVec.toNat (HXor.hXor (BitVec.ofInt 32 x0.1.1) (BitVec.ofInt 32 (IntKind.wrap IntKind.u32 x1)))) : Int)) (16777619 : Int))), ((IntKind.wrap IntKind.i64 (HAdd.hAdd x0.1.2.1 (1 : Int))), Unit.unit)), Unit.unit))))) (Option.none)) (Option.some (Sum.inr (Sum.inl ((x0.1.1, Unit.unit), Unit.unit)))))) (((2166136261 : Int), ((0 : Int), Unit.unit)), Unit.unit)) (sumE (fun x0 => (Option.some (x0.1.1, Unit.unit))) (emptyE)))
theorem r61_ok : PureOk Go.Proofs.Tryd.prog 0 (fun _ => True) 61 [(.slice (.int .u8))] [(.int .u32)] r61 :=
  pureOk_of_run (F := specOf []) (hs := hintOf [(0, ⟨⟨[(3, .lf (.int .u32)), (8, .lf (.int .i64))], [], []⟩, [((.exit 0), ⟨[(3, .lf (.int .u32))], [], []⟩)]⟩)]) stays_triv specOf_nil mixed Go.Proofs.Tryd.func61 rfl (by kernel_rfl) (fun _ => by kernel_rfl)

/-- terrier/bin.Write -/
noncomputable def r33 (x : (kdP [(.slice (.pair (.int .i64) (.pair (.int .i64) (.pair (.slice (.slice (.pair (.int .i64) (.pair (.int .i64) .unit)))) (.pair (.slice (.pair .str (.pair (.pair (.int .i64) (.pair (.int .i64) (.pair .str (.pair .bool .unit)))) .unit))) (.pair (.int .i64) (.pair (.int .i64) .unit)))))))]).T) : Option (kdP [(.slice (.int .u8)), (.int .i64)]).T :=
  (Option.bind (r16 (x.1, Unit.unit)) (fun x0 => (cond (Bool.not (Decidable.decide (Eq x0.1 (0 : Int)))) (Option.some ((List.nil), (x0.1, Unit.unit))) (Option.bind (r59 ((List.cons (Nat.cast (List.length x.1) : Int) (List.nil)), Unit.unit) ((List.cons (84 : Int) (List.cons (49 : Int) (List.nil))), Unit.unit)) (fun x1 => (Option.bind (loop (D := (Prod (Kd.T (.pair (.int .i64) (.pair (.int .i64) (.pair (.slice (.int .u8)) .unit)))) (Kd.T .unit))) (O := (Sum (Kd.T (.pair (.pair (.slice (.int .u8)) .unit) .unit)) (OutT (List.nil)))) (fun x2 => (cond (Decidable.decide (LT.lt x2.1.2.1 (Nat.cast (List.length x.1) : Int))) (cond (inB x2.1.2.1 (List.length x.1)) (Option.bind (GetElem?.getElem? x.1 (Int.toNat x2.1.2.1)) (fun x3 => (Option.bind (r60 ((x3.1, (x3.2.1, (x3.2.2.1, (x3.2.2.2.1, (x3.2.2.2.2.1, (x3.2.2.2.2.2.1, Unit.unit)))))), (x2.1.1, Unit.unit)) (x2.1.2.2.1, Unit.unit)) (fun x4 => (Option.some (Sum.inl ((x3.1, ((IntKind.wrap IntKind.i64 (HAdd.hAdd x2.1.2.1 (1 : Int))), (x4.2.1, Unit.unit))), Unit.unit))))))) (Option.none)) (Option.some (Sum.inr (Sum.inl ((x2.1.2.2.1, Unit.unit), Unit.unit)))))) (((0 : Int), ((0 : Int), (x1.2.1, Unit.unit))), Unit.unit)) (sumE (fun x2 => (Option.bind (r61 (x2.1.1, Unit.unit)) (fun x3 => (cond (fits (HAdd.hAdd (List.length x2.1.1) (List.length (List.cons (IntKind.wrap IntKind.u8 x3.1) (List.cons (IntKind.wrap IntKind.u8 (Int.fdiv x3.1 (256 : Int))) (List.cons (IntKind.wrap IntKind.u8 (Int.fdiv x3.1 (65536 : Int))) (List.cons (IntKind.wrap IntKind.u8 (Int.fdiv x3.1 (16777216 : Int))) (List.nil))))))) 1) (cond (Decidable.decide (LT.lt (65536 : Int) (Nat.cast (List.length (HAppend.hAppend x2.1.1 (List.cons (IntKind.wrap IntKind.u8 x3.1) (List.cons (IntKind.wrap IntKind.u8 (Int.fdiv x3.1 (256 : Int))) (List.cons (IntKind.wrap IntKind.u8 (Int.fdiv x3.1 (65536 : Int))) (List.cons (IntKind.wrap IntKind.u8 (Int.fdiv x3.1 (16777216 : Int))) (List.nil))))))) : Int))) (Option.some ((List.nil), ((2 : Int), Unit.unit))) (Option.some ((HAppend.hAppend x2.1.1 (List.cons (IntKind.wrap IntKind.u8 x3.1) (List.cons (IntKind.wrap IntKind.u8 (Int.fdiv x3.1 (256 : Int))) (List.cons (IntKind.wrap IntKind.u8 (Int.fdiv x3.1 (65536 : Int))) (List.cons (IntKind.wrap IntKind.u8 (Int.fdiv x3.1 (16777216 : Int))) (List.nil)))))), ((0 : Int), Unit.unit)))) (Option.none))))) (emptyE))))))))
theorem r33_ok : PureOk Go.Proofs.Tryd.prog 0 (fun _ => True) 33 [(.slice (.pair (.int .i64) (.pair (.int .i64) (.pair (.slice (.slice (.pair (.int .i64) (.pair (.int .i64) .unit)))) (.pair (.slice (.pair .str (.pair (.pair (.int .i64) (.pair (.int .i64) (.pair .str (.pair .bool .unit)))) .unit))) (.pair (.int .i64) (.pair (.int .i64) .unit)))))))] [(.slice (.int .u8)), (.int .i64)] r33 :=
  pureOk_of_run (F := specOf [(16, pureSpec [(.slice (.pair (.int .i64) (.pair (.int .i64) (.pair (.slice (.slice (.pair (.int .i64) (.pair (.int .i64) .unit)))) (.pair (.slice (.pair .str (.pair (.pair (.int .i64) (.pair (.int .i64) (.pair .str (.pair .bool .unit)))) .unit))) (.pair (.int .i64) (.pair (.int .i64) .unit)))))))] [(.int .i64)] r16), (59, memSpec [.ptr 0 0, .dat (.slice (.int .i64))] [(0, [.own (.int .u8)])] [(0, [.own (.int .u8)])] [] r59), (60, memSpec [.ptr 0 0, .dat (.pair (.int .i64) (.pair (.int .i64) (.pair (.slice (.slice (.pair (.int .i64) (.pair (.int .i64) .unit)))) (.pair (.slice (.pair .str (.pair (.pair (.int .i64) (.pair (.int .i64) (.pair .str (.pair .bool .unit)))) .unit))) (.pair (.int .i64) (.pair (.int .i64) .unit)))))), .dat (.int .i64)] [(0, [.own (.int .u8)])] [(0, [.own (.int .u8)])] [] r60), (61, pureSpec [(.slice (.int .u8))] [(.int .u32)] r61)]) (hs := hintOf [(0, ⟨⟨[(6, .lf (.int .i64)), (27, .lf (.int .i64))], [(640, [.own (.int .u8)])], []⟩, [((.exit 0), ⟨[], [(640, [.own (.int .u8)])], []⟩)]⟩)]) stays_triv (specOf_cons (PureOk.spec r16_ok) (specOf_cons r59_ok (specOf_cons r60_ok (specOf_cons (PureOk.spec r61_ok) specOf_nil)))) mixed Go.Proofs.Tryd.func33 rfl (by kernel_rfl) (fun _ => by kernel_rfl)

/-- terrier/terrref2.PartsErr -/
noncomputable def r21 (x : (kdP [(.int .i64), (.slice (.slice (.pair (.int .i64) (.pair (.int .i64) .unit))))]).T) : Option (kdP [(.int .i64)]).T :=
  (cond (Decidable.decide (LT.lt x.1 (1 : Int))) (Option.some ((8 : Int), Unit.unit)) (cond (Decidable.decide (LT.lt (3 : Int) x.1)) (Option.some ((8 : Int), Unit.unit)) (Option.bind (loop (D := (Prod (Kd.T (.pair .bool (.pair (.int .i64) .unit))) (Kd.T .unit))) (O := (Sum (Kd.T (.pair (.pair .bool .unit) .unit)) (OutT (List.nil)))) (fun x0 => (cond (Decidable.decide (LT.lt x0.1.2.1 (Nat.cast (List.length x.2.1) : Int))) (cond (inB x0.1.2.1 (List.length x.2.1)) (Option.bind (GetElem?.getElem? x.2.1 (Int.toNat x0.1.2.1)) (fun x1 => (cond x0.1.1 (Option.some (Sum.inl ((Bool.true, ((IntKind.wrap IntKind.i64 (HAdd.hAdd x0.1.2.1 (1 : Int))), Unit.unit)), Unit.unit))) (Option.some (Sum.inl (((Decidable.decide (LT.lt (200 : Int) (Nat.cast (List.length x1) : Int))), ((IntKind.wrap IntKind.i64 (HAdd.hAdd x0.1.2.1 (1 : Int))), Unit.unit)), Unit.unit)))))) (Option.none)) (Option.some (Sum.inr (Sum.inl ((x0.1.1, Unit.unit), Unit.unit)))))) (((Decidable.decide (LT.lt (20 : Int) (Nat.cast (List.length x.2.1) : Int))), ((0 : Int), Unit.unit)), Unit.unit)) (sumE (fun x0 => (cond x0.1.1 (Option.some ((2 : Int), Unit.unit)) (cond (Decidable.decide (Eq (Nat.cast (List.length x.2.1) : Int) (0 : Int))) (Option.some ((4 : Int), Unit.unit)) (Option.bind (loop (D := (Prod (Kd.T (.pair (.int .i64) .unit)) (Kd.T .unit))) (O := (Sum (Kd.T (.pair (.pair (.int .i64) .unit) .unit)) (OutT (List.cons ((Ex3.exit 2), (Sh.mk (List.nil) (List.nil) (List.nil))) (List.nil))))) (fun x1 => (cond (Decidable.decide (LT.lt x1.1.1 (Nat.cast (List.length x.2.1) : Int))) (cond (inB x1.1.1 (List.length x.2.1)) (Option.bind (GetElem?.getElem? x.2.1 (Int.toNat x1.1.1)) (fun x2 => (Option.bind (loop (D := (Prod (Kd.T (.pair (.int .i64) .unit)) (Kd.T .unit))) (O := (Sum (Kd.T (.pair (.pair (.int .i64) .unit) .unit)) (OutT (List.cons ((Ex3.exit 4), (Sh.mk (List.nil) (List.nil) (List.nil))) (List.nil))))) (fun x3 => (cond (Decidable.decide (LT.lt x3.1.1 (Nat.cast (List.length x2) : Int))) (cond (inB x3.1.1 (List.length x2)) (Option.bind (GetElem?.getElem? x2 (Int.toNat x3.1.1)) (fun x4 => (cond (Decidable.decide (LT.lt x4.1 (Neg.neg (1048576 : Int)))) (Option.some (Sum.inr (Sum.inl (((1 : Int), Unit.unit), Unit.unit)))) (cond (Decidable.decide (LT.lt (1048576 : Int) x4.1)) (Option.some (Sum.inr (Sum.inl (((1 : Int), Unit.unit), Unit.unit)))) (cond (Decidable.decide (LT.lt x4.2.1 (Neg.neg (1048576 : Int)))) (Option.some (Sum.inr (Sum.inl (((1 : Int), Unit.unit), Unit.unit)))) (cond (Decidable.decide (LT.lt (1048576 : Int) x4.2.1)) (Option.some (Sum.inr (Sum.inl (((1 : Int), Unit.unit), Unit.unit)))) (Option.some (Sum.inl (((IntKind.wrap IntKind.i64 (HAdd.hAdd x3.1.1 (1 : Int))), Unit.unit), Unit.unit))))))))) (Option.none)) (Option.some (Sum.inr (Sum.inr (Sum.inl (Unit.unit, Unit.unit))))))) (((0 : Int), Unit.unit), Unit.unit)) (sumE (fun x3 => (Option.some (Sum.inr (Sum.inl ((x3.1.1, Unit.unit), Unit.unit))))) (sumE (fun x3 => (cond (Decidable.decide (Eq x.1 (1 : Int))) (cond (Bool.not (Decidable.decide (Eq (Nat.cast (List.length x2) : Int) (1 : Int)))) (Option.some (Sum.inr (Sum.inl (((3 : Int), Unit.unit), Unit.unit)))) (cond (Decidable.decide (Eq x.1 (2 : Int))) (cond (Decidable.decide (LT.lt (Nat.cast (List.length x2) : Int) (2 : Int))) (Option.some (Sum.inr (Sum.inl (((3 : Int), Unit.unit), Unit.unit)))) (Option.bind (loop (D := (Prod (Kd.T (.pair (.int .i64) .unit)) (Kd.T .unit))) (O := (Sum (Kd.T (.pair (.pair (.int .i64) .unit) .unit)) (OutT (List.cons ((Ex3.exit 6), (Sh.mk (List.nil) (List.nil) (List.nil))) (List.nil))))) (fun x4 => (cond (Decidable.decide (LT.lt x4.1.1 (Nat.cast (List.length x2) : Int))) (cond (Decidable.decide (Eq x.1 (2 : Int))) (cond (Decidable.decide (LT.lt (IntKind.wrap IntKind.i64 (HAdd.hAdd x4.1.1 (1 : Int))) (Nat.cast (List.length x2) : Int))) (cond (inB x4.1.1 (List.length x2)) (Option.bind (GetElem?.getElem? x2 (Int.toNat x4.1.1)) (fun x5 => (cond (inB (IntKind.wrap IntKind.i64 (HAdd.hAdd x4.1.1 (1 : Int))) (List.length x2)) (Option.bind (GetElem?.getElem? x2 (Int.toNat (IntKind.wrap IntKind.i64 (HAdd.hAdd x4.1.1 (1 : Int))))) (fun x6 => (cond (Bool.and (Decidable.decide (Eq x5.1 x6.1)) (Decidable.decide (Eq x5.2.1 x6.2.1))) (Option.some (Sum.inr (Sum.inl (((3 : Int), Unit.unit), Unit.unit)))) (Option.some (Sum.inl (((IntKind.wrap IntKind.i64 (HAdd.hAdd x4.1.1 (1 : Int))), Unit.unit), Unit.unit)))))) (Option.none)))) (Option.none)) (Option.some (Sum.inl (((IntKind.wrap IntKind.i64 (HAdd.hAdd x4.1.1 (1 : Int))), Unit.unit), Unit.unit)))) (Option.some (Sum.inl (((IntKind.wrap IntKind.i64 (HAdd.hAdd x4.1.1 (1 : Int))), Unit.unit), Unit.unit)))) (Option.some (Sum.inr (Sum.inr (Sum.inl (Unit.unit, Unit.unit))))))) (((0 : Int), Unit.unit), Unit.unit)) (sumE (fun x4 => (Option.some (Sum.inr (Sum.inl ((x4.1.1, Unit.unit), Unit.unit))))) (sumE (fun x4 => (Option.some (Sum.inl (((IntKind.wrap IntKind.i64 (HAdd.hAdd x1.1.1 (1 : Int))), Unit.unit), Unit.unit)))) (emptyE))))) (Option.bind (loop (D := (Prod (Kd.T (.pair (.int .i64) .unit)) (Kd.T .unit))) (O := (Sum (Kd.T (.pair (.pair (.int .i64) .unit) .unit)) (OutT (List.cons ((Ex3.exit 6), (Sh.mk (List.nil) (List.nil) (List.nil))) (List.nil))))) (fun x4 => (cond (Decidable.decide (LT.lt x4.1.1 (Nat.cast (List.length x2) : Int))) (cond (Decidable.decide (Eq x.1 (2 : Int))) (cond (Decidable.decide (LT.lt (IntKind.wrap IntKind.i64 (HAdd.hAdd x4.1.1 (1 : Int))) (Nat.cast (List.length x2) : Int))) (cond (inB x4.1.1 (List.length x2)) (Option.bind (GetElem?.getElem? x2 (Int.toNat x4.1.1)) (fun x5 => (cond (inB (IntKind.wrap IntKind.i64 (HAdd.hAdd x4.1.1 (1 : Int))) (List.length x2)) (Option.bind (GetElem?.getElem? x2 (Int.toNat (IntKind.wrap IntKind.i64 (HAdd.hAdd x4.1.1 (1 : Int))))) (fun x6 => (cond (Bool.and (Decidable.decide (Eq x5.1 x6.1)) (Decidable.decide (Eq x5.2.1 x6.2.1))) (Option.some (Sum.inr (Sum.inl (((3 : Int), Unit.unit), Unit.unit)))) (Option.some (Sum.inl (((IntKind.wrap IntKind.i64 (HAdd.hAdd x4.1.1 (1 : Int))), Unit.unit), Unit.unit)))))) (Option.none)))) (Option.none)) (Option.some (Sum.inl (((IntKind.wrap IntKind.i64 (HAdd.hAdd x4.1.1 (1 : Int))), Unit.unit), Unit.unit)))) (Option.some (Sum.inl (((IntKind.wrap IntKind.i64 (HAdd.hAdd x4.1.1 (1 : Int))), Unit.unit), Unit.unit)))) (Option.some (Sum.inr (Sum.inr (Sum.inl (Unit.unit, Unit.unit))))))) (((0 : Int), Unit.unit), Unit.unit)) (sumE (fun x4 => (Option.some (Sum.inr (Sum.inl ((x4.1.1, Unit.unit), Unit.unit))))) (sumE (fun x4 => (Option.some (Sum.inl (((IntKind.wrap IntKind.i64 (HAdd.hAdd x1.1.1 (1 : Int))), Unit.unit), Unit.unit)))) (emptyE)))))) (cond (Decidable.decide (Eq x.1 (2 : Int))) (cond (Decidable.decide (LT.lt (Nat.cast (List.length x2) : Int) (2 : Int))) (Option.some (Sum.inr (Sum.inl (((3 : Int), Unit.unit), Unit.unit)))) (Option.bind (loop (D := (Prod (Kd.T (.pair (.int .i64) .unit)) (Kd.T .unit))) (O := (Sum (Kd.T (.pair (.pair (.int .i64) .unit) .unit)) (OutT (List.cons ((Ex3.exit 6), (Sh.mk (List.nil) (List.nil) (List.nil))) (List.nil))))) (fun x4 => (cond (Decidable.decide (LT.lt x4.1.1 (Nat.cast (List.length x2) : Int))) (cond (Decidable.decide (Eq x.1 (2 : Int))) (cond (Decidable.decide (LT.lt (IntKind.wrap IntKind.i64 (HAdd.hAdd x4.1.1 (1 : Int))) (Nat.cast (List.length x2) : Int))) (cond (inB x4.1.1 (List.length x2)) (Option.bind (GetElem?.getElem? x2 (Int.toNat x4.1.1)) (fun x5 => (cond (inB (IntKind.wrap IntKind.i64 (HAdd.hAdd x4.1.1 (1 : Int))) (List.length x2)) (Option.bind (GetElem?.getElem? x2 (Int.toNat (IntKind.wrap IntKind.i64 (HAdd.hAdd x4.1.1 (1 : Int))))) (fun x6 => (cond (Bool.and (Decidable.decide (Eq x5.1 x6.1)) (Decidable.decide (Eq x5.2.1 x6.2.1))) (Option.some (Sum.inr (Sum.inl (((3 : Int), Unit.unit), Unit.unit)))) (Option.some (Sum.inl (((IntKind.wrap IntKind.i64 (HAdd.hAdd x4.1.1 (1 : Int))), Unit.unit), Unit.unit)))))) (Option.none)))) (Option.none)) (Option.some (Sum.inl (((IntKind.wrap IntKind.i64 (HAdd.hAdd x4.1.1 (1 : Int))), Unit.unit), Unit.unit)))) (Option.some (Sum.inl (((IntKind.wrap IntKind.i64 (HAdd.hAdd x4.1.1 (1 : Int))), Unit.unit), Unit.unit)))) (Option.some (Sum.inr (Sum.inr (Sum.inl (Unit.unit, Unit.unit))))))) (((0 : Int), Unit.unit), Unit.unit)) (sumE (fun x4 => (Option.some (Sum.inr (Sum.inl ((x4.1.1, Unit.unit), Unit.unit))))) (sumE (fun x4 => (Option.some (Sum.inl (((IntKind.wrap IntKind.i64 (HAdd.hAdd x1.1.1 (1 : Int))), Unit.unit), Unit.unit)))) (emptyE))))) (Option.bind (loop (D := (Prod (Kd.T (.pair (.int .i64) .unit)) (Kd.T .unit))) (O := (Sum (Kd.T (.pair (.pair (.int .i64) .unit) .unit)) (OutT (List.cons ((Ex3.exit 6), (Sh.mk (List.nil) (List.nil) (List.nil))) (List.nil))))) (fun x4 => (cond (Decidable.decide (LT.lt x4.1.1 (Nat.cast (List.length x2) : Int))) (cond (Decidable.decide (Eq x.1 (2 : Int))) (cond (Decidable.decide (LT.lt (IntKind.wrap IntKind.i64 (HAdd.hAdd x4.1.1 (1 : Int))) (Nat.cast (List.length x2) : Int))) (cond (inB x4.1.1 (List.length x2)) (Option.bind (GetElem?.getElem? x2 (Int.toNat x4.1.1)) (fun x5 => (cond (inB (IntKind.wrap IntKind.i64 (HAdd.hAdd x4.1.1 (1 : Int))) (List.length x2)) (Option.bind (GetElem?.getElem? x2 (Int.toNat (IntKind.wrap IntKind.i64 (HAdd.hAdd x4.1.1 (1 : Int))))) (fun x6 => (cond (Bool.and (Decidable.decide (Eq x5.1 x6.1)) (Decidable.decide (Eq x5.2.1 x6.2.1))) (Option.some (Sum.inr (Sum.inl (((3 : Int), Unit.unit), Unit.unit)))) (Option.some (Sum.inl (((IntKind.wrap IntKind.i64 (HAdd.hAdd x4.1.1 (1 : Int))), Unit.unit), Unit.unit)))))) (Option.none)))) (Option.none)) (Option.some (Sum.inl (((IntKind.wrap IntKind.i64 (HAdd.hAdd x4.1.1 (1 : Int))), Unit.unit), Unit.unit)))) (Option.some (Sum.inl (((IntKind.wrap IntKind.i64 (HAdd.hAdd x4.1.1 (1 : Int))), Unit.unit), Unit.unit)))) (Option.some (Sum.inr (Sum.inr (Sum.inl (Unit.unit, Unit.unit))))))) (((0 : Int), Unit.unit), Unit.unit)) (sumE (fun x4 => (Option.some (Sum.inr (Sum.inl ((x4.1.1, Unit.unit), Unit.unit))))) (sumE (fun x4 => (Option.some (Sum.inl (((IntKind.wrap IntKind.i64 (HAdd.hAdd x1.1.1 (1 : Int))), Unit.unit), Unit.unit)))) (emptyE))))))) (emptyE)))))) (Option.none)) (Option.some (Sum.inr (Sum.inr (Sum.inl (Unit.unit, Unit.unit))))))) (((0 : Int), Unit.unit), Unit.unit)) (sumE (fun x1 => (Option.some (x1.1.1, Unit.unit))) (sumE (fun x1 => (cond (Decidable.decide (Eq x.1 (3 : Int))) (Option.bind (r50 (x.2.1, Unit.unit)) (fun x2 => (Option.some (x2.1, Unit.unit)))) (Option.some ((0 : Int), Unit.unit)))) (emptyE))))))) (emptyE)))))
theorem r21_ok : PureOk Go.Proofs.Tryd.prog 0 (fun _ => True) 21 [(.int .i64), (.slice (.slice (.pair (.int .i64) (.pair (.int .i64) .unit))))] [(.int .i64)] r21 :=
  pureOk_of_run (F := specOf [(50, pureSpec [(.slice (.slice (.pair (.int .i64) (.pair (.int .i64) .unit))))] [(.int .i64)] r50)]) (hs := hintOf [(6, ⟨⟨[(88, .lf (.int .i64))], [], []⟩, [(.ret, ⟨[(4, .lf (.int .i64))], [], []⟩), ((.exit 6), ⟨[], [], []⟩)]⟩), (4, ⟨⟨[(47, .lf (.int .i64))], [], []⟩, [(.ret, ⟨[(4, .lf (.int .i64))], [], []⟩), ((.exit 4), ⟨[], [], []⟩)]⟩), (2, ⟨⟨[(41, .lf (.int .i64))], [], []⟩, [(.ret, ⟨[(4, .lf (.int .i64))], [], []⟩), ((.exit 2), ⟨[], [], []⟩)]⟩), (0, ⟨⟨[(5, .lf .bool), (24, .lf (.int .i64))], [], []⟩, [((.exit 0), ⟨[(5, .lf .bool)], [], []⟩)]⟩)]) stays_triv (specOf_cons (PureOk.spec r50_ok) specOf_nil) mixed Go.Proofs.Tryd.func21 rfl (by kernel_rfl) (fun _ => by kernel_rfl)

/-- terrier/terrref2.ValueErr -/
noncomputable def r29 (x : (kdP [(.pair (.int .i64) (.pair (.int .i64) (.pair .str (.pair .bool .unit))))]).T) : Option (kdP [(.int .i64)]).T :=
  (cond (Decidable.decide (LT.lt x.1.1 (0 : Int))) (Option.some ((8 : Int), Unit.unit)) (cond (Decidable.decide (LT.lt (3 : Int) x.1.1)) (Option.some ((8 : Int), Unit.unit)) (cond (inB x.1.1 (List.length (List.cons ((0 : Int), ((0 : Int), ((ByteArray.mk (List.toArray (List.nil))), (Bool.false, Unit.unit)))) (List.cons ((1 : Int), (x.1.2.1, ((ByteArray.mk (List.toArray (List.nil))), (Bool.false, Unit.unit)))) (List.cons ((2 : Int), ((0 : Int), (x.1.2.2.1, (Bool.false, Unit.unit)))) (List.cons ((3 : Int), ((0 : Int), ((ByteArray.mk (List.toArray (List.nil))), (x.1.2.2.2.1, Unit.unit)))) (List.nil))))))) (Option.bind (GetElem?.getElem? (List.cons ((0 : Int), ((0 : Int), ((ByteArray.mk (List.toArray (List.nil))), (Bool.false, Unit.unit)))) (List.cons ((1 : Int), (x.1.2.1, ((ByteArray.mk (List.toArray (List.nil))), (Bool.false, Unit.unit)))) (List.cons ((2 : Int), ((0 : Int), (x.1.2.2.1, (Bool.false, Unit.unit)))) (List.cons ((3 : Int), ((0 : Int), ((ByteArray.mk (List.toArray (List.nil))), (x.1.2.2.2.1, Unit.unit)))) (List.nil))))) (Int.toNat x.1.1)) (fun x0 => (cond (Bool.not (Bool.and (Decidable.decide (Eq x0.1 x.1.1)) (Bool.and (Decidable.decide (Eq x0.2.1 x.1.2.1)) (Bool.and (Decidable.decide (Eq x0.2.2.1 x.1.2.2.1)) (Decidable.decide (Eq x0.2.2.2.1 x.1.2.2.2.1)))))) (Option.some ((3 : Int), Unit.unit)) (cond (Decidable.decide (LT.lt (1000000000000 : Int) x.1.2.1)) (Option.some ((2 : Int), Unit.unit)) (cond (Decidable.decide (LT.lt x.1.2.1 (Neg.neg (1000000000000 : Int)))) (Option.some ((2 : Int), Unit.unit)) (cond (Decidable.decide (LT.lt (40 : Int) (Nat.cast (ByteArray.size x.1.2.2.1) : Int))) (Option.some ((2 : Int), Unit.unit)) (Option.bind (loop (D := (Prod (Kd.T (.pair (.int .i64) .unit)) (Kd.T .unit))) (O := (Sum (Kd.T (.pair (.pair (.int .i64) .unit) .unit)) (OutT (List.cons ((Ex3.exit 0), (Sh.mk (List.nil) (List.nil) (List.nil))) (List.nil))))) (fun x1 => (cond (Decidable.decide (LT.lt x1.1.1 (Nat.cast (List.length (bytesOf x.1.2.2.1)) : Int))) (cond (inB x1.1.1 (List.length (bytesOf x.1.2.2.1))) (Option.bind (GetElem?.getElem? (bytesOf x.1.2.2.1) (Int.toNat x1.1.1)) (fun x2 => (cond (Decidable.decide (LT.lt x2 (32 : Int))) (Option.some (Sum.inr (Sum.inl (((3 : Int), Unit.unit), Unit.unit)))) (cond (Decidable.decide (LT.lt (126 : Int) x2)) (Option.some (Sum.inr (Sum.inl (((3 : Int), Unit.unit), Unit.unit)))) (cond (Decidable.decide (Eq x2 (34 : Int))) (Option.some (Sum.inr (Sum.inl (((3 : Int), Unit.unit), Unit.unit)))) (Option.some (Sum.inl (((IntKind.wrap IntKind.i64 (HAdd.hAdd x1.1.1 (1 : Int))), Unit.unit), Unit.unit)))))))) (Option.none)) (Option.some (Sum.inr (Sum.inr (Sum.inl (Unit.unit, Unit.unit))))))) (((0 : Int), Unit.unit), Unit.unit)) (sumE (fun x1 => (Option.some (x1.1.1, Unit.unit))) (sumE (fun x1 => (Option.some ((0 : Int), Unit.unit))) (emptyE)))))))))) (Option.none))))
theorem r29_ok : PureOk Go.Proofs.Tryd.prog 0 (fun _ => True) 29 [(.pair (.int .i64) (.pair (.int .i64) (.pair .str (.pair .bool .unit))))] [(.int .i64)] r29 :=
  pureOk_of_run (F := specOf []) (hs := hintOf [(0, ⟨⟨[(50, .lf (.int .i64))], [], []⟩, [(.ret, ⟨[(2, .lf (.int .i64))], [], []⟩), ((.exit 0), ⟨[], [], []⟩)]⟩)]) stays_triv specOf_nil mixed Go.Proofs.Tryd.func29 rfl (by kernel_rfl) (fun _ => by kernel_rfl)

/-- terrier/terrref2.AttrsErr -/
noncomputable def r23 (x : (kdP [(.slice (.pair .str (.pair (.pair (.int .i64) (.pair (.int .i64) (.pair .str (.pair .bool .unit)))) .unit))), .bool]).T) : Option (kdP [(.int .i64)]).T :=
  (cond (Decidable.decide (LT.lt (8 : Int) (Nat.cast (List.length x.1) : Int))) (Option.some ((2 : Int), Unit.unit)) (Option.bind (loop (D := (Prod (Kd.T (.pair .str (.pair (.int .i64) .unit))) (Kd.T .unit))) (O := (Sum (Kd.T (.pair (.pair (.int .i64) .unit) .unit)) (OutT (List.cons ((Ex3.exit 0), (Sh.mk (List.nil) (List.nil) (List.nil))) (List.nil))))) (fun x0 => (cond (Decidable.decide (LT.lt x0.1.2.1 (Nat.cast (List.length x.1) : Int))) (cond (inB x0.1.2.1 (List.length x.1)) (Option.bind (GetElem?.getElem? x.1 (Int.toNat x0.1.2.1)) (fun x1 => (Option.bind (r15 (x1.1, Unit.unit)) (fun x2 => (cond (Bool.not x2.1) (Option.some (Sum.inr (Sum.inl (((16 : Int), Unit.unit), Unit.unit)))) (cond (Bool.or (strLt x1.1 x0.1.1) (Decidable.decide (Eq x1.1 x0.1.1))) (Option.some (Sum.inr (Sum.inl (((9 : Int), Unit.unit), Unit.unit)))) (Option.bind (r29 ((x1.2.1.1, (x1.2.1.2.1, (x1.2.1.2.2.1, (x1.2.1.2.2.2.1, Unit.unit)))), Unit.unit)) (fun x3 => (cond (Bool.not (Decidable.decide (Eq x3.1 (0 : Int)))) (Option.some (Sum.inr (Sum.inl ((x3.1, Unit.unit), Unit.unit)))) (cond (Bool.not x.2.1) (cond (Bool.and (Decidable.decide (Eq x1.2.1.1 (0 : Int))) (Bool.and (Decidable.decide (Eq x1.2.1.2.1 (0 : Int))) (Bool.and (Decidable.decide (Eq x1.2.1.2.2.1 (ByteArray.mk (List.toArray (List.nil))))) (Decidable.decide (Eq x1.2.1.2.2.2.1 Bool.false))))) (Option.some (Sum.inr (Sum.inl (((3 : Int), Unit.unit), Unit.unit)))) (Option.some (Sum.inl ((x1.1, ((IntKind.wrap IntKind.i64 (HAdd.hAdd x0.1.2.1 (1 : Int))), Unit.unit)), Unit.unit)))) (Option.some (Sum.inl ((x1.1, ((IntKind.wrap IntKind.i64 (HAdd.hAdd x0.1.2.1 (1 : Int))), Unit.unit)), Unit.unit))))))))))))) (Option.none)) (Option.some (Sum.inr (Sum.inr (Sum.inl (Unit.unit, Unit.unit))))))) (((ByteArray.mk (List.toArray (List.nil))), ((0 : Int), Unit.unit)), Unit.unit)) (sumE (fun x0 => (Option.some (x0.1.1, Unit.unit))) (sumE (fun x0 => (Option.some ((0 : Int), Unit.unit))) (emptyE)))))
theorem r23_ok : PureOk Go.Proofs.Tryd.prog 0 (fun _ => True) 23 [(.slice (.pair .str (.pair (.pair (.int .i64) (.pair (.int .i64) (.pair .str (.pair .bool .unit)))) .unit))), .bool] [(.int .i64)] r23 :=
  pureOk_of_run (F := specOf [(15, pureSpec [.str] [.bool] r15), (29, pureSpec [(.pair (.int .i64) (.pair (.int .i64) (.pair .str (.pair .bool .unit))))] [(.int .i64)] r29)]) (hs := hintOf [(0, ⟨⟨[(5, .lf .str), (14, .lf (.int .i64))], [], []⟩, [(.ret, ⟨[(4, .lf (.int .i64))], [], []⟩), ((.exit 0), ⟨[], [], []⟩)]⟩)]) stays_triv (specOf_cons (PureOk.spec r15_ok) (specOf_cons (PureOk.spec r29_ok) specOf_nil)) mixed Go.Proofs.Tryd.func23 rfl (by kernel_rfl) (fun _ => by kernel_rfl)

/-- terrier/terrref2.FeatErr -/
noncomputable def r19 (x : (kdP [(.pair (.int .i64) (.pair (.int .i64) (.pair (.slice (.slice (.pair (.int .i64) (.pair (.int .i64) .unit)))) (.pair (.slice (.pair .str (.pair (.pair (.int .i64) (.pair (.int .i64) (.pair .str (.pair .bool .unit)))) .unit))) (.pair (.int .i64) (.pair (.int .i64) .unit))))))]).T) : Option (kdP [(.int .i64)]).T :=
  (cond (Decidable.decide (LE.le x.1.1 (0 : Int))) (Option.some ((1 : Int), Unit.unit)) (cond (Decidable.decide (LT.lt (1073741824 : Int) x.1.1)) (Option.some ((1 : Int), Unit.unit)) (Option.bind (r21 (x.1.2.1, (x.1.2.2.1, Unit.unit))) (fun x0 => (cond (Decidable.decide (Eq x0.1 (0 : Int))) (Option.bind (r23 (x.1.2.2.2.1, (Bool.false, Unit.unit))) (fun x1 => (cond (Decidable.decide (Eq x1.1 (0 : Int))) (cond (Decidable.decide (LT.lt x.1.2.2.2.2.1 (0 : Int))) (Option.some ((1 : Int), Unit.unit)) (cond (Decidable.decide (LE.le x.1.2.2.2.2.2.1 x.1.2.2.2.2.1)) (Option.some ((1 : Int), Unit.unit)) (cond (Decidable.decide (LT.lt (1073741824 : Int) x.1.2.2.2.2.2.1)) (Option.some ((1 : Int), Unit.unit)) (Option.some (x1.1, Unit.unit))))) (Option.some (x1.1, Unit.unit))))) (cond (Decidable.decide (Eq x0.1 (0 : Int))) (cond (Decidable.decide (LT.lt x.1.2.2.2.2.1 (0 : Int))) (Option.some ((1 : Int), Unit.unit)) (cond (Decidable.decide (LE.le x.1.2.2.2.2.2.1 x.1.2.2.2.2.1)) (Option.some ((1 : Int), Unit.unit)) (cond (Decidable.decide (LT.lt (1073741824 : Int) x.1.2.2.2.2.2.1)) (Option.some ((1 : Int), Unit.unit)) (Option.some (x0.1, Unit.unit))))) (Option.some (x0.1, Unit.unit))))))))
theorem r19_ok : PureOk Go.Proofs.Tryd.prog 0 (fun _ => True) 19 [(.pair (.int .i64) (.pair (.int .i64) (.pair (.slice (.slice (.pair (.int .i64) (.pair (.int .i64) .unit)))) (.pair (.slice (.pair .str (.pair (.pair (.int .i64) (.pair (.int .i64) (.pair .str (.pair .bool .unit)))) .unit))) (.pair (.int .i64) (.pair (.int .i64) .unit))))))] [(.int .i64)] r19 :=
  pureOk_of_run (F := specOf [(21, pureSpec [(.int .i64), (.slice (.slice (.pair (.int .i64) (.pair (.int .i64) .unit))))] [(.int .i64)] r21), (23, pureSpec [(.slice (.pair .str (.pair (.pair (.int .i64) (.pair (.int .i64) (.pair .str (.pair .bool .unit)))) .unit))), .bool] [(.int .i64)] r23)]) (hs := hintOf []) stays_triv (specOf_cons (PureOk.spec r21_ok) (specOf_cons (PureOk.spec r23_ok) specOf_nil)) mixed Go.Proofs.Tryd.func19 rfl (by kernel_rfl) (fun _ => by kernel_rfl)

/-- terrier/terrref2.SurveyErr -/
noncomputable def r17 (x : (kdP [(.slice (.pair (.int .i64) (.pair (.int .i64) (.pair (.slice (.slice (.pair (.int .i64) (.pair (.int .i64) .unit)))) (.pair (.slice (.pair .str (.pair (.pair (.int .i64) (.pair (.int .i64) (.pair .str (.pair .bool .unit)))) .unit))) (.pair (.int .i64) (.pair (.int .i64) .unit)))))))]).T) : Option (kdP [(.int .i64)]).T :=
  (cond (Decidable.decide (LT.lt (200 : Int) (Nat.cast (List.length x.1) : Int))) (Option.some ((2 : Int), Unit.unit)) (Option.bind (loop (D := (Prod (Kd.T (.pair (.int .i64) (.pair (.int .i64) .unit))) (Kd.T .unit))) (O := (Sum (Kd.T (.pair (.pair (.int .i64) .unit) .unit)) (OutT (List.cons ((Ex3.exit 0), (Sh.mk (List.nil) (List.nil) (List.nil))) (List.nil))))) (fun x0 => (cond (Decidable.decide (LT.lt x0.1.2.1 (Nat.cast (List.length x.1) : Int))) (cond (inB x0.1.2.1 (List.length x.1)) (Option.bind (GetElem?.getElem? x.1 (Int.toNat x0.1.2.1)) (fun x1 => (Option.bind (r19 ((x1.1, (x1.2.1, (x1.2.2.1, (x1.2.2.2.1, (x1.2.2.2.2.1, (x1.2.2.2.2.2.1, Unit.unit)))))), Unit.unit)) (fun x2 => (cond (Bool.not (Decidable.decide (Eq x2.1 (0 : Int)))) (Option.some (Sum.inr (Sum.inl ((x2.1, Unit.unit), Unit.unit)))) (cond (Decidable.decide (LE.le x1.1 x0.1.1)) (Option.some (Sum.inr (Sum.inl (((9 : Int), Unit.unit), Unit.unit)))) (Option.some (Sum.inl ((x1.1, ((IntKind.wrap IntKind.i64 (HAdd.hAdd x0.1.2.1 (1 : Int))), Unit.unit)), Unit.unit))))))))) (Option.none)) (Option.some (Sum.inr (Sum.inr (Sum.inl (Unit.unit, Unit.unit))))))) (((0 : Int), ((0 : Int), Unit.unit)), Unit.unit)) (sumE (fun x0 => (Option.some (x0.1.1, Unit.unit))) (sumE (fun x0 => (Option.some ((0 : Int), Unit.unit))) (emptyE)))))
theorem r17_ok : PureOk Go.Proofs.Tryd.prog 0 (fun _ => True) 17 [(.slice (.pair (.int .i64) (.pair (.int .i64) (.pair (.slice (.slice (.pair (.int .i64) (.pair (.int .i64) .unit)))) (.pair (.slice (.pair .str (.pair (.pair (.int .i64) (.pair (.int .i64) (.pair .str (.pair .bool .unit)))) .unit))) (.pair (.int .i64) (.pair (.int .i64) .unit)))))))] [(.int .i64)] r17 :=
  pureOk_of_run (F := specOf [(19, pureSpec [(.pair (.int .i64) (.pair (.int .i64) (.pair (.slice (.slice (.pair (.int .i64) (.pair (.int .i64) .unit)))) (.pair (.slice (.pair .str (.pair (.pair (.int .i64) (.pair (.int .i64) (.pair .str (.pair .bool .unit)))) .unit))) (.pair (.int .i64) (.pair (.int .i64) .unit))))))] [(.int .i64)] r19)]) (hs := hintOf [(0, ⟨⟨[(3, .lf (.int .i64)), (12, .lf (.int .i64))], [], []⟩, [(.ret, ⟨[(2, .lf (.int .i64))], [], []⟩), ((.exit 0), ⟨[], [], []⟩)]⟩)]) stays_triv (specOf_cons (PureOk.spec r19_ok) specOf_nil) mixed Go.Proofs.Tryd.func17 rfl (by kernel_rfl) (fun _ => by kernel_rfl)

/-- terrier/terrref2.Number -/
noncomputable def r63 (x : (kdP [(.int .i64)]).T) : Option (kdP [.str]).T :=
  (cond (Decidable.decide (LT.lt x.1 (0 : Int))) (Option.bind (loop (D := (Prod (Kd.T (.pair .str (.pair (.int .u64) .unit))) (Kd.T .unit))) (O := (Sum (Kd.T (.pair (.pair .str (.pair (.int .u64) .unit)) .unit)) (OutT (List.nil)))) (fun x0 => (cond (Decidable.decide (LT.lt (127 : Int) x0.1.2.1)) (cond (Decidable.decide (LT.lt 9223372036854775807 (HAdd.hAdd (ByteArray.size x0.1.1) (ByteArray.size (mkStr (List.cons (IntKind.wrap IntKind.u8 (IntKind.wrap IntKind.u64 (HAdd.hAdd (Int.tmod x0.1.2.1 (128 : Int)) (128 : Int)))) (List.nil))))))) (Option.none) (Option.some (Sum.inl (((HAppend.hAppend x0.1.1 (mkStr (List.cons (IntKind.wrap IntKind.u8 (IntKind.wrap IntKind.u64 (HAdd.hAdd (Int.tmod x0.1.2.1 (128 : Int)) (128 : Int)))) (List.nil)))), ((IntKind.wrap IntKind.u64 (Int.tdiv x0.1.2.1 (128 : Int))), Unit.unit)), Unit.unit)))) (Option.some (Sum.inr (Sum.inl ((x0.1.1, (x0.1.2.1, Unit.unit)), Unit.unit)))))) (((ByteArray.mk (List.toArray (List.nil))), ((IntKind.wrap IntKind.u64 (Nat.cast (BitVec.toNat (HXor.hXor (BitVec.ofInt 64 (18446744073709551615 : Int)) (BitVec.ofInt 64 (IntKind.wrap IntKind.u64 (HMul.hMul (IntKind.wrap IntKind.u64 x.1) (2 : Int)))))) : Int)), Unit.unit)), Unit.unit)) (sumE (fun x0 => (cond (Decidable.decide (LT.lt 9223372036854775807 (HAdd.hAdd (ByteArray.size x0.1.1) (ByteArray.size (mkStr (List.cons (IntKind.wrap IntKind.u8 x0.1.2.1) (List.nil))))))) (Option.none) (Option.some ((HAppend.hAppend x0.1.1 (mkStr (List.cons (IntKind.wrap IntKind.u8 x0.1.2.1) (List.nil)))), Unit.unit)))) (emptyE))) (Option.bind (loop (D := (Prod (Kd.T (.pair .str (.pair (.int .u64) .unit))) (Kd.T .unit))) (O := (Sum (Kd.T (.pair (.pair .str (.pair (.int .u64) .unit)) .unit)) (OutT (List.nil)))) (fun x0 => (cond (Decidable.decide (LT.lt (127 : Int) x0.1.2.1)) (cond (Decidable.decide (LT.lt 9223372036854775807 (HAdd.hAdd (ByteArray.size x0.1.1) (ByteArray.size (mkStr (List.cons (IntKind.wrap IntKind.u8 (IntKind.wrap IntKind.u64 (HAdd.hAdd (Int.tmod x0.1.2.1 (128 : Int)) (128 : Int)))) (List.nil))))))) (Option.none) (Option.some (Sum.inl (((HAppend.hAppend x0.1.1 (mkStr (List.cons (IntKind.wrap IntKind.u8 (IntKind.wrap IntKind.u64 (HAdd.hAdd (Int.tmod x0.1.2.1 (128 : Int)) (128 : Int)))) (List.nil)))), ((IntKind.wrap IntKind.u64 (Int.tdiv x0.1.2.1 (128 : Int))), Unit.unit)), Unit.unit)))) (Option.some (Sum.inr (Sum.inl ((x0.1.1, (x0.1.2.1, Unit.unit)), Unit.unit)))))) (((ByteArray.mk (List.toArray (List.nil))), ((IntKind.wrap IntKind.u64 (HMul.hMul (IntKind.wrap IntKind.u64 x.1) (2 : Int))), Unit.unit)), Unit.unit)) (sumE (fun x0 => (cond (Decidable.decide (LT.lt 9223372036854775807 (HAdd.hAdd (ByteArray.size x0.1.1) (ByteArray.size (mkStr (List.cons (IntKind.wrap IntKind.u8 x0.1.2.1) (List.nil))))))) (Option.none) (Option.some ((HAppend.hAppend x0.1.1 (mkStr (List.cons (IntKind.wrap IntKind.u8 x0.1.2.1) (List.nil)))), Unit.unit)))) (emptyE))))
theorem r63_ok : PureOk Go.Proofs.Tryd.prog 0 (fun _ => True) 63 [(.int .i64)] [.str] r63 :=
  pureOk_of_run (F := specOf []) (hs := hintOf [(0, ⟨⟨[(4, .lf .str), (3, .lf (.int .u64))], [], []⟩, [((.exit 0), ⟨[(4, .lf .str), (3, .lf (.int .u64))], [], []⟩)]⟩)]) stays_triv specOf_nil mixed Go.Proofs.Tryd.func63 rfl (by kernel_rfl) (fun _ => by kernel_rfl)

/-- (*strings.Builder).WriteString -/
noncomputable def r62 (x : (kdP [.str]).T) (d : (kdL [.self 96, .own (.fb 5)]).T) : Option ((kdP [(.int .i64), .err]).T × (kdL [.self 96, .own (.fb 5)]).T) :=
  (cond (fits (HAdd.hAdd (List.length d.2.1) (List.length (bytesOf x.1))) 1) (Option.some (((Nat.cast (ByteArray.size x.1) : Int), (Bool.false, Unit.unit)), (Unit.unit, ((HAppend.hAppend d.2.1 (bytesOf x.1)), Unit.unit)))) (Option.none))
theorem r62_ok : SpecOk Go.Proofs.Tryd.prog 0 (fun _ => True) 62 (memSpec [.ptr 0 0, .dat .str] [(0, [.self 96, .own (.fb 5)])] [(0, [.self 96, .own (.fb 5)])] [(.int .i64), .err] r62) :=
  memSpec_ok (F := specOf [(97, copyCheckS)]) (hs := hintOf []) stays_triv (specOf_cons copyCheckS_ok specOf_nil) mixed Go.Proofs.Tryd.func62 rfl (by kernel_rfl) (by kernel_rfl) (fun _ _ => by kernel_rfl)

/-- terrier/terrref2.Bytes$1 -/
noncomputable def r64 (x : (kdP [(.slice (.int .i64))]).T) (d : (kdL [.self 96, .own (.fb 5)]).T) : Option ((kdP []).T × (kdL [.self 96, .own (.fb 5)]).T) :=
  (Option.bind (loop (D := (Prod (Kd.T (.pair (.int .i64) (.pair .unit (.pair (.slice (.fb 5)) .unit)))) (Kd.T .unit))) (O := (Sum (Kd.T (.pair (.pair .unit (.pair (.slice (.fb 5)) .unit)) .unit)) (OutT (List.nil)))) (fun x0 => (cond (Decidable.decide (LT.lt x0.1.1 (Nat.cast (List.length x.1) : Int))) (cond (inB x0.1.1 (List.length x.1)) (Option.bind (GetElem?.getElem? x.1 (Int.toNat x0.1.1)) (fun x1 => (Option.bind (r63 (x1, Unit.unit)) (fun x2 => (Option.bind (r62 (x2.1, Unit.unit) (Unit.unit, (x0.1.2.2.1, Unit.unit))) (fun x3 => (Option.some (Sum.inl (((IntKind.wrap IntKind.i64 (HAdd.hAdd x0.1.1 (1 : Int))), (Unit.unit, (x3.2.2.1, Unit.unit))), Unit.unit))))))))) (Option.none)) (Option.some (Sum.inr (Sum.inl ((Unit.unit, (x0.1.2.2.1, Unit.unit)), Unit.unit)))))) (((0 : Int), (Unit.unit, (d.2.1, Unit.unit))), Unit.unit)) (sumE (fun x0 => (Option.some (Unit.unit, (Unit.unit, (x0.1.2.1, Unit.unit))))) (emptyE)))
theorem r64_ok : SpecOk Go.Proofs.Tryd.prog 0 (fun _ => True) 64 (memSpec [.dat (.slice (.int .i64)), .ptr 0 0] [(0, [.self 96, .own (.fb 5)])] [(0, [.self 96, .own (.fb 5)])] [] r64) :=
  memSpec_ok (F := specOf [(63, pureSpec [(.int .i64)] [.str] r63), (62, memSpec [.ptr 0 0, .dat .str] [(0, [.self 96, .own (.fb 5)])] [(0, [.self 96, .own (.fb 5)])] [(.int .i64), .err] r62)]) (hs := hintOf [(0, ⟨⟨[(7, .lf (.int .i64))], [(0, [.self 96, .own (.fb 5)])], []⟩, [((.exit 0), ⟨[], [(0, [.self 96, .own (.fb 5)])], []⟩)]⟩)]) stays_triv (specOf_cons (PureOk.spec r63_ok) (specOf_cons r62_ok specOf_nil)) mixed Go.Proofs.Tryd.func64 rfl (by kernel_rfl) (by kernel_rfl) (fun _ _ => by kernel_rfl)

/-- (*strings.Builder).String -/
noncomputable def r66 (x : (kdP []).T) (d : (kdL [.self 96, .own (.fb 5)]).T) : Option ((kdP [.str]).T × (kdL [.self 96, .own (.fb 5)]).T) :=
  (cond (List.isEmpty d.2.1) (cond (Decidable.decide (Eq (Nat.cast (List.length d.2.1) : Int) (0 : Int))) (Option.some ((ByteArray.empty, Unit.unit), (Unit.unit, (d.2.1, Unit.unit)))) (Option.none)) (cond (Decidable.decide (And (Eq (Nat.cast (List.length d.2.1) : Int) (Nat.cast (List.length d.2.1) : Int)) (And (LT.lt (0 : Int) (Nat.cast (List.length d.2.1) : Int)) (LE.le (Nat.cast (List.length d.2.1) : Int) (9223372036854775807 : Int))))) (Option.some (((mkStr d.2.1), Unit.unit), (Unit.unit, (d.2.1, Unit.unit)))) (Option.none)))
theorem r66_ok : SpecOk Go.Proofs.Tryd.prog 0 (fun _ => True) 66 (memSpec [.ptr 0 0] [(0, [.self 96, .own (.fb 5)])] [(0, [.self 96, .own (.fb 5)])] [.str] r66) :=
  memSpec_ok (F := specOf []) (hs := hintOf []) stays_triv specOf_nil mixed Go.Proofs.Tryd.func66 rfl (by kernel_rfl) (by kernel_rfl) (fun _ _ => by kernel_rfl)

/-- terrier/terrref2.Sum -/
noncomputable def r65 (x : (kdP [.str]).T) : Option (kdP [(.int .u32)]).T :=
  (Option.bind (loop (D := (Prod (Kd.T (.pair (.int .u64) (.pair (.int .i64) .unit))) (Kd.T .unit))) (O := (Sum (Kd.T (.pair (.pair (.int .u64) .unit) .unit)) (OutT (List.nil)))) (fun x0 => (cond (Decidable.decide (LT.lt x0.1.2.1 (Nat.cast (ByteArray.size x.1) : Int))) (Option.bind (strAt x.1 x0.1.2.1) (fun x1 => (Option.some (Sum.inl (((Int.tmod (IntKind.wrap IntKind.u64 (HMul.hMul (IntKind.wrap IntKind.u64 (Nat.cast (BitVec.toNat (HXor.hXor (BitVec.ofInt 64 x0.1.1) (BitVec.ofInt 64 (IntKind.wrap IntKind.u64 (Nat.cast (UInt8.toNat x1) : Int))))) : Int)) (16777619 : Int))) (4294967296 : Int)), ((IntKind.wrap IntKind.i64 (HAdd.hAdd x0.1.2.1 (1 : Int))), Unit.unit)), Unit.unit))))) (Option.some (Sum.inr (Sum.inl ((x0.1.1, Unit.unit), Unit.unit)))))) (((2166136261 : Int), ((0 : Int), Unit.unit)), Unit.unit)) (sumE (fun x0 => (Option.some ((IntKind.wrap IntKind.u32 x0.1.1), Unit.unit))) (emptyE)))
theorem r65_ok : PureOk Go.Proofs.Tryd.prog 0 (fun _ => True) 65 [.str] [(.int .u32)] r65 :=
  pureOk_of_run (F := specOf []) (hs := hintOf [(0, ⟨⟨[(3, .lf (.int .u64)), (7, .lf (.int .i64))], [], []⟩, [((.exit 0), ⟨[(3, .lf (.int .u64))], [], []⟩)]⟩)]) stays_triv specOf_nil mixed Go.Proofs.Tryd.func65 rfl (by kernel_rfl) (fun _ => by kernel_rfl)

/-- (*strings.Builder).WriteByte -/
noncomputable def r67 (x : (kdP [(.int .u8)]).T) (d : (kdL [.self 96, .own (.fb 5)]).T) : Option ((kdP [.err]).T × (kdL [.self 96, .own (.fb 5)]).T) :=
  (cond (fits (HAdd.hAdd (List.length d.2.1) (List.length (List.cons x.1 (List.nil)))) 1) (Option.some ((Bool.false, Unit.unit), (Unit.unit, ((HAppend.hAppend d.2.1 (List.cons x.1 (List.nil))), Unit.unit)))) (Option.none))
theorem r67_ok : SpecOk Go.Proofs.Tryd.prog 0 (fun _ => True) 67 (memSpec [.ptr 0 0, .dat (.int .u8)] [(0, [.self 96, .own (.fb 5)])] [(0, [.self 96, .own (.fb 5)])] [.err] r67) :=
  memSpec_ok (F := specOf [(97, copyCheckS)]) (hs := hintOf []) stays_triv (specOf_cons copyCheckS_ok specOf_nil) mixed Go.Proofs.Tryd.func67 rfl (by kernel_rfl) (by kernel_rfl) (fun _ _ => by kernel_rfl)

/-- terrier/terrref2.Bytes -/
noncomputable def r34 (x : (kdP [(.slice (.pair (.int .i64) (.pair (.int .i64) (.pair (.slice (.slice (.pair (.int .i64) (.pair (.int .i64) .unit)))) (.pair (.slice (.pair .str (.pair (.pair (.int .i64) (.pair (.int .i64) (.pair .str (.pair .bool .unit)))) .unit))) (.pair (.int .i64) (.pair (.int .i64) .unit)))))))]).T) : Option (kdP [.str]).T :=
  (Option.bind (r63 ((Nat.cast (List.length x.1) : Int), Unit.unit)) (fun x0 => (cond (Decidable.decide (LT.lt 9223372036854775807 (HAdd.hAdd (ByteArray.size (ByteArray.mk (List.toArray (List.cons (84 : UInt8) (List.cons (49 : UInt8) (List.nil)))))) (ByteArray.size x0.1)))) (Option.none) (Option.bind (r62 ((HAppend.hAppend (ByteArray.mk (List.toArray (List.cons (84 : UInt8) (List.cons (49 : UInt8) (List.nil))))) x0.1), Unit.unit) (Unit.unit, ((List.nil), Unit.unit))) (fun x1 => (Option.bind (loop (D := (Prod (Kd.T (.pair (.int .i64) (.pair (.int .i64) (.pair .unit (.pair (.slice (.fb 5)) .unit))))) (Kd.T .unit))) (O := (Sum (Kd.T (.pair (.pair .unit (.pair (.slice (.fb 5)) .unit)) .unit)) (OutT (List.nil)))) (fun x2 => (cond (Decidable.decide (LT.lt x2.1.2.1 (Nat.cast (List.length x.1) : Int))) (cond (inB x2.1.2.1 (List.length x.1)) (Option.bind (GetElem?.getElem? x.1 (Int.toNat x2.1.2.1)) (fun x3 => (Option.bind (r64 ((List.cons (IntKind.wrap IntKind.i64 (HSub.hSub x3.1 x2.1.1)) (List.cons x3.2.1 (List.cons x3.2.2.2.2.1 (List.cons (IntKind.wrap IntKind.i64 (HSub.hSub x3.2.2.2.2.2.1 x3.2.2.2.2.1)) (List.cons (Nat.cast (List.length x3.2.2.1) : Int) (List.nil)))))), Unit.unit) (Unit.unit, (x2.1.2.2.2.1, Unit.unit))) (fun x4 => (Option.bind (loop (D := (Prod (Kd.T (.pair (.int .i64) (.pair (.int .i64) (.pair (.int .i64) (.pair .unit (.pair (.slice (.fb 5)) .unit)))))) (Kd.T .unit))) (O := (Sum (Kd.T (.pair (.pair .unit (.pair (.slice (.fb 5)) .unit)) .unit)) (OutT (List.nil)))) (fun x5 => (cond (Decidable.decide (LT.lt x5.1.2.2.1 (Nat.cast (List.length x3.2.2.1) : Int))) (cond (inB x5.1.2.2.1 (List.length x3.2.2.1)) (Option.bind (GetElem?.getElem? x3.2.2.1 (Int.toNat x5.1.2.2.1)) (fun x6 => (Option.bind (r64 ((List.cons (Nat.cast (List.length x6) : Int) (List.nil)), Unit.unit) (Unit.unit, (x5.1.2.2.2.2.1, Unit.unit))) (fun x7 => (Option.bind (loop (D := (Prod (Kd.T (.pair (.int .i64) (.pair (.int .i64) (.pair (.int .i64) (.pair .unit (.pair (.slice (.fb 5)) .unit)))))) (Kd.T .unit))) (O := (Sum (Kd.T (.pair (.pair (.int .i64) (.pair (.int .i64) (.pair .unit (.pair (.slice (.fb 5)) .unit)))) .unit)) (OutT (List.nil)))) (fun x8 => (cond (Decidable.decide (LT.lt x8.1.2.2.1 (Nat.cast (List.length x6) : Int))) (cond (inB x8.1.2.2.1 (List.length x6)) (Option.bind (GetElem?.getElem? x6 (Int.toNat x8.1.2.2.1)) (fun x9 => (Option.bind (r64 ((List.cons (IntKind.wrap IntKind.i64 (HSub.hSub x9.1 x8.1.1)) (List.cons (IntKind.wrap IntKind.i64 (HSub.hSub x9.2.1 x8.1.2.1)) (List.nil))), Unit.unit) (Unit.unit, (x8.1.2.2.2.2.1, Unit.unit))) (fun x10 => (Option.some (Sum.inl ((x9.1, (x9.2.1, ((IntKind.wrap IntKind.i64 (HAdd.hAdd x8.1.2.2.1 (1 : Int))), (Unit.unit, (x10.2.2.1, Unit.unit))))), Unit.unit))))))) (Option.none)) (Option.some (Sum.inr (Sum.inl ((x8.1.1, (x8.1.2.1, (Unit.unit, (x8.1.2.2.2.2.1, Unit.unit)))), Unit.unit)))))) ((x5.1.1, (x5.1.2.1, ((0 : Int), (Unit.unit, (x7.2.2.1, Unit.unit))))), Unit.unit)) (sumE (fun x8 => (Option.some (Sum.inl ((x8.1.1, (x8.1.2.1, ((IntKind.wrap IntKind.i64 (HAdd.hAdd x5.1.2.2.1 (1 : Int))), (Unit.unit, (x8.1.2.2.2.1, Unit.unit))))), Unit.unit)))) (emptyE))))))) (Option.none)) (Option.some (Sum.inr (Sum.inl ((Unit.unit, (x5.1.2.2.2.2.1, Unit.unit)), Unit.unit)))))) (((0 : Int), ((0 : Int), ((0 : Int), (Unit.unit, (x4.2.2.1, Unit.unit))))), Unit.unit)) (sumE (fun x5 => (Option.bind (r64 ((List.cons (Nat.cast (List.length x3.2.2.2.1) : Int) (List.nil)), Unit.unit) (Unit.unit, (x5.1.2.1, Unit.unit))) (fun x6 => (Option.bind (loop (D := (Prod (Kd.T (.pair (.int .i64) (.pair .unit (.pair (.slice (.fb 5)) .unit)))) (Kd.T .unit))) (O := (Sum (Kd.T (.pair (.pair .unit (.pair (.slice (.fb 5)) .unit)) .unit)) (OutT (List.nil)))) (fun x7 => (cond (Decidable.decide (LT.lt x7.1.1 (Nat.cast (List.length x3.2.2.2.1) : Int))) (cond (inB x7.1.1 (List.length x3.2.2.2.1)) (Option.bind (GetElem?.getElem? x3.2.2.2.1 (Int.toNat x7.1.1)) (fun x8 => (Option.bind (r63 ((Nat.cast (ByteArray.size x8.1) : Int), Unit.unit)) (fun x9 => (cond (Decidable.decide (LT.lt 9223372036854775807 (HAdd.hAdd (ByteArray.size x9.1) (ByteArray.size x8.1)))) (Option.none) (Option.bind (r63 (x8.2.1.1, Unit.unit)) (fun x10 => (cond (Decidable.decide (LT.lt 9223372036854775807 (HAdd.hAdd (ByteArray.size (HAppend.hAppend x9.1 x8.1)) (ByteArray.size x10.1)))) (Option.none) (Option.bind (r62 ((HAppend.hAppend (HAppend.hAppend x9.1 x8.1) x10.1), Unit.unit) (Unit.unit, (x7.1.2.2.1, Unit.unit))) (fun x11 => (cond (Decidable.decide (Eq x8.2.1.1 (1 : Int))) (Option.bind (r64 ((List.cons x8.2.1.2.1 (List.nil)), Unit.unit) (Unit.unit, (x11.2.2.1, Unit.unit))) (fun x12 => (Option.some (Sum.inl (((IntKind.wrap IntKind.i64 (HAdd.hAdd x7.1.1 (1 : Int))), (Unit.unit, (x12.2.2.1, Unit.unit))), Unit.unit))))) (cond (Decidable.decide (Eq x8.2.1.1 (2 : Int))) (Option.bind (r63 ((Nat.cast (ByteArray.size x8.2.1.2.2.1) : Int), Unit.unit)) (fun x12 => (cond (Decidable.decide (LT.lt 9223372036854775807 (HAdd.hAdd (ByteArray.size x12.1) (ByteArray.size x8.2.1.2.2.1)))) (Option.none) (Option.bind (r62 ((HAppend.hAppend x12.1 x8.2.1.2.2.1), Unit.unit) (Unit.unit, (x11.2.2.1, Unit.unit))) (fun x13 => (Option.some (Sum.inl (((IntKind.wrap IntKind.i64 (HAdd.hAdd x7.1.1 (1 : Int))), (Unit.unit, (x13.2.2.1, Unit.unit))), Unit.unit)))))))) (cond (Decidable.decide (Eq x8.2.1.1 (3 : Int))) (cond (BEq.beq x8.2.1.2.2.2.1 Bool.false) (Option.bind (r62 ((ByteArray.mk (List.toArray (List.cons (0 : UInt8) (List.nil)))), Unit.unit) (Unit.unit, (x11.2.2.1, Unit.unit))) (fun x12 => (Option.some (Sum.inl (((IntKind.wrap IntKind.i64 (HAdd.hAdd x7.1.1 (1 : Int))), (Unit.unit, (x12.2.2.1, Unit.unit))), Unit.unit))))) (cond (BEq.beq x8.2.1.2.2.2.1 Bool.true) (Option.bind (r62 ((ByteArray.mk (List.toArray (List.cons (2 : UInt8) (List.nil)))), Unit.unit) (Unit.unit, (x11.2.2.1, Unit.unit))) (fun x12 => (Option.some (Sum.inl (((IntKind.wrap IntKind.i64 (HAdd.hAdd x7.1.1 (1 : Int))), (Unit.unit, (x12.2.2.1, Unit.unit))), Unit.unit))))) (Option.bind (r62 ((ByteArray.mk (List.toArray (List.nil))), Unit.unit) (Unit.unit, (x11.2.2.1, Unit.unit))) (fun x12 => (Option.some (Sum.inl (((IntKind.wrap IntKind.i64 (HAdd.hAdd x7.1.1 (1 : Int))), (Unit.unit, (x12.2.2.1, Unit.unit))), Unit.unit))))))) (Option.some (Sum.inl (((IntKind.wrap IntKind.i64 (HAdd.hAdd x7.1.1 (1 : Int))), (Unit.unit, (x11.2.2.1, Unit.unit))), Unit.unit)))))))))))))))) (Option.none)) (Option.some (Sum.inr (Sum.inl ((Unit.unit, (x7.1.2.2.1, Unit.unit)), Unit.unit)))))) (((0 : Int), (Unit.unit, (x6.2.2.1, Unit.unit))), Unit.unit)) (sumE (fun x7 => (Option.some (Sum.inl ((x3.1, ((IntKind.wrap IntKind.i64 (HAdd.hAdd x2.1.2.1 (1 : Int))), (Unit.unit, (x7.1.2.1, Unit.unit)))), Unit.unit)))) (emptyE)))))) (emptyE))))))) (Option.none)) (Option.some (Sum.inr (Sum.inl ((Unit.unit, (x2.1.2.2.2.1, Unit.unit)), Unit.unit)))))) (((0 : Int), ((0 : Int), (Unit.unit, (x1.2.2.1, Unit.unit)))), Unit.unit)) (sumE (fun x2 => (Option.bind (r66 Unit.unit (Unit.unit, (x2.1.2.1, Unit.unit))) (fun x3 => (Option.bind (r65 (x3.1.1, Unit.unit)) (fun x4 => (Option.bind (loop (D := (Prod (Kd.T (.pair (.int .u32) (.pair (.int .i64) (.pair .unit (.pair (.slice (.fb 5)) .unit))))) (Kd.T .unit))) (O := (Sum (Kd.T (.pair (.pair .unit (.pair (.slice (.fb 5)) .unit)) .unit)) (OutT (List.nil)))) (fun x5 => (cond (Decidable.decide (LT.lt x5.1.2.1 (4 : Int))) (Option.bind (r67 ((IntKind.wrap IntKind.u8 x5.1.1), Unit.unit) (Unit.unit, (x5.1.2.2.2.1, Unit.unit))) (fun x6 => (Option.some (Sum.inl (((Int.fdiv x5.1.1 (256 : Int)), ((IntKind.wrap IntKind.i64 (HAdd.hAdd x5.1.2.1 (1 : Int))), (Unit.unit, (x6.2.2.1, Unit.unit)))), Unit.unit))))) (Option.some (Sum.inr (Sum.inl ((Unit.unit, (x5.1.2.2.2.1, Unit.unit)), Unit.unit)))))) ((x4.1, ((0 : Int), (Unit.unit, (x3.2.2.1, Unit.unit)))), Unit.unit)) (sumE (fun x5 => (Option.bind (r66 Unit.unit (Unit.unit, (x5.1.2.1, Unit.unit))) (fun x6 => (Option.some (x6.1.1, Unit.unit))))) (emptyE)))))))) (emptyE))))))))
theorem r34_ok : PureOk Go.Proofs.Tryd.prog 0 (fun _ => True) 34 [(.slice (.pair (.int .i64) (.pair (.int .i64) (.pair (.slice (.slice (.pair (.int .i64) (.pair (.int .i64) .unit)))) (.pair (.slice (.pair .str (.pair (.pair (.int .i64) (.pair (.int .i64) (.pair .str (.pair .bool .unit)))) .unit))) (.pair (.int .i64) (.pair (.int .i64) .unit)))))))] [.str] r34 :=
  pureOk_of_run (F := specOf [(63, pureSpec [(.int .i64)] [.str] r63), (62, memSpec [.ptr 0 0, .dat .str] [(0, [.self 96, .own (.fb 5)])] [(0, [.self 96, .own (.fb 5)])] [(.int .i64), .err] r62), (64, memSpec [.dat (.slice (.int .i64)), .ptr 0 0] [(0, [.self 96, .own (.fb 5)])] [(0, [.self 96, .own (.fb 5)])] [] r64), (66, memSpec [.ptr 0 0] [(0, [.self 96, .own (.fb 5)])] [(0, [.self 96, .own (.fb 5)])] [.str] r66), (65, pureSpec [.str] [(.int .u32)] r65), (67, memSpec [.ptr 0 0, .dat (.int .u8)] [(0, [.self 96, .own (.fb 5)])] [(0, [.self 96, .own (.fb 5)])] [.err] r67)]) (hs := hintOf [(9, ⟨⟨[(16, .lf (.int .u32)), (147, .lf (.int .i64))], [(64, [.self 96, .own (.fb 5)])], []⟩, [((.exit 9), ⟨[], [(64, [.self 96, .own (.fb 5)])], []⟩)]⟩), (6, ⟨⟨[(94, .lf (.int .i64))], [(64, [.self 96, .own (.fb 5)])], []⟩, [((.exit 6), ⟨[], [(64, [.self 96, .own (.fb 5)])], []⟩)]⟩), (4, ⟨⟨[(8, .lf (.int .i64)), (9, .lf (.int .i64)), (64, .lf (.int .i64))], [(64, [.self 96, .own (.fb 5)])], []⟩, [((.exit 4), ⟨[(8, .lf (.int .i64)), (9, .lf (.int .i64))], [(64, [.self 96, .own (.fb 5)])], []⟩)]⟩), (2, ⟨⟨[(8, .lf (.int .i64)), (9, .lf (.int .i64)), (53, .lf (.int .i64))], [(64, [.self 96, .own (.fb 5)])], []⟩, [((.exit 2), ⟨[], [(64, [.self 96, .own (.fb 5)])], []⟩)]⟩), (0, ⟨⟨[(5, .lf (.int .i64)), (25, .lf (.int .i64))], [(64, [.self 96, .own (.fb 5)])], []⟩, [((.exit 0), ⟨[], [(64, [.self 96, .own (.fb 5)])], []⟩)]⟩)]) stays_triv (specOf_cons (PureOk.spec r63_ok) (specOf_cons r62_ok (specOf_cons r64_ok (specOf_cons r66_ok (specOf_cons (PureOk.spec r65_ok) (specOf_cons r67_ok specOf_nil)))))) mixed Go.Proofs.Tryd.func34 rfl (by kernel_rfl) (fun _ => by kernel_rfl)

/-- terrier/terrlaw2.BinWrites -/
noncomputable def r7 (x : (kdP [(.slice (.pair (.int .i64) (.pair (.int .i64) (.pair (.slice (.slice (.pair (.int .i64) (.pair (.int .i64) .unit)))) (.pair (.slice (.pair .str (.pair (.pair (.int .i64) (.pair (.int .i64) (.pair .str (.pair .bool .unit)))) .unit))) (.pair (.int .i64) (.pair (.int .i64) .unit)))))))]).T) : Option (kdP [.bool]).T :=
  (Option.bind (r32 Unit.unit) (fun x0 => (cond (Bool.not x0.1) (Option.some (Bool.false, Unit.unit)) (Option.bind (r33 (x.1, Unit.unit)) (fun x1 => (Option.bind (r17 (x.1, Unit.unit)) (fun x2 => (cond (Decidable.decide (Eq x2.1 (0 : Int))) (Option.bind (r34 (x.1, Unit.unit)) (fun x3 => (cond (Decidable.decide (LT.lt (65536 : Int) (Nat.cast (ByteArray.size x3.1) : Int))) (cond (Decidable.decide (Eq x1.2.1 (2 : Int))) (Option.some ((Decidable.decide (Eq (Nat.cast (List.length x1.1) : Int) (0 : Int))), Unit.unit)) (Option.some (Bool.false, Unit.unit))) (cond (Bool.not (Decidable.decide (Eq x2.1 (0 : Int)))) (cond (Decidable.decide (Eq x1.2.1 x2.1)) (Option.some ((Decidable.decide (Eq (Nat.cast (List.length x1.1) : Int) (0 : Int))), Unit.unit)) (Option.some (Bool.false, Unit.unit))) (cond (Decidable.decide (Eq x1.2.1 (0 : Int))) (Option.bind (r34 (x.1, Unit.unit)) (fun x4 => (Option.some ((Decidable.decide (Eq (mkStr x1.1) x4.1)), Unit.unit)))) (Option.some (Bool.false, Unit.unit))))))) (cond (Bool.not (Decidable.decide (Eq x2.1 (0 : Int)))) (cond (Decidable.decide (Eq x1.2.1 x2.1)) (Option.some ((Decidable.decide (Eq (Nat.cast (List.length x1.1) : Int) (0 : Int))), Unit.unit)) (Option.some (Bool.false, Unit.unit))) (cond (Decidable.decide (Eq x1.2.1 (0 : Int))) (Option.bind (r34 (x.1, Unit.unit)) (fun x3 => (Option.some ((Decidable.decide (Eq (mkStr x1.1) x3.1)), Unit.unit)))) (Option.some (Bool.false, Unit.unit))))))))))))
theorem r7_ok : PureOk Go.Proofs.Tryd.prog 0 (fun _ => True) 7 [(.slice (.pair (.int .i64) (.pair (.int .i64) (.pair (.slice (.slice (.pair (.int .i64) (.pair (.int .i64) .unit)))) (.pair (.slice (.pair .str (.pair (.pair (.int .i64) (.pair (.int .i64) (.pair .str (.pair .bool .unit)))) .unit))) (.pair (.int .i64) (.pair (.int .i64) .unit)))))))] [.bool] r7 :=
  pureOk_of_run (F := specOf [(32, pureSpec [] [.bool] r32), (33, pureSpec [(.slice (.pair (.int .i64) (.pair (.int .i64) (.pair (.slice (.slice (.pair (.int .i64) (.pair (.int .i64) .unit)))) (.pair (.slice (.pair .str (.pair (.pair (.int .i64) (.pair (.int .i64) (.pair .str (.pair .bool .unit)))) .unit))) (.pair (.int .i64) (.pair (.int .i64) .unit)))))))] [(.slice (.int .u8)), (.int .i64)] r33), (17, pureSpec [(.slice (.pair (.int .i64) (.pair (.int .i64) (.pair (.slice (.slice (.pair (.int .i64) (.pair (.int .i64) .unit)))) (.pair (.slice (.pair .str (.pair (.pair (.int .i64) (.pair (.int .i64) (.pair .str (.pair .bool .unit)))) .unit))) (.pair (.int .i64) (.pair (.int .i64) .unit)))))))] [(.int .i64)] r17), (34, pureSpec [(.slice (.pair (.int .i64) (.pair (.int .i64) (.pair (.slice (.slice (.pair (.int .i64) (.pair (.int .i64) .unit)))) (.pair (.slice (.pair .str (.pair (.pair (.int .i64) (.pair (.int .i64) (.pair .str (.pair .bool .unit)))) .unit))) (.pair (.int .i64) (.pair (.int .i64) .unit)))))))] [.str] r34)]) (hs := hintOf []) stays_triv (specOf_cons (PureOk.spec r32_ok) (specOf_cons (PureOk.spec r33_ok) (specOf_cons (PureOk.spec r17_ok) (specOf_cons (PureOk.spec r34_ok) specOf_nil)))) mixed Go.Proofs.Tryd.func7 rfl (by kernel_rfl) (fun _ => by kernel_rfl)

end Go.Proofs.YtgabpbnndikheaaDoor.I

/-! Loops over lists and bytes, plainly. Of no program. -/
namespace Go.Proofs.YtgabpbnndikheaaDoor.I
open Go.RowKit
set_option linter.unusedVariables false
/-- A loop over a list, told by recursion. -/
def foldL {α S O : Type} (body : Nat → α → S → Option (S ⊕ O)) (out : S → O) : Nat → List α → S → Option O
  | _, [], s => some (out s)
  | i, a :: l, s => match body i a s with
    | none => none
    | some (.inl s') => foldL body out (i + 1) l s'
    | some (.inr o) => some o
def stepTo {D S O : Type} (emb : Int → S → D) (i : Nat) : Option (S ⊕ O) → Option (D ⊕ O)
  | none => none
  | some (.inl s') => some (.inl (emb ((i : Int) + 1) s'))
  | some (.inr o) => some (.inr o)
theorem loop_from {α S D O : Type} {step : D → Option (D ⊕ O)} (emb : Int → S → D) (xs : List α) (body : Nat → α → S → Option (S ⊕ O)) (out : S → O)
    (hin : ∀ (i : Nat) a s, xs[i]? = some a → step (emb i s) = stepTo emb i (body i a s))
    (hend : ∀ s, step (emb (xs.length : Int) s) = some (.inr (out s))) : ∀ (l : List α) (i : Nat) (s : S), i ≤ xs.length → xs.drop i = l → loop step (emb i s) = foldL body out i l s
  | [], i, s, hi, hl => by
    have : i = xs.length := by
      have := congrArg List.length hl
      simp at this; omega
    subst this
    rw [loop_eq, hend]
    rfl
  | a :: l, i, s, hi, hl => by
    have ha : xs[i]? = some a := by
      have := congrArg (fun l => l[0]?) hl
      simpa using this
    have hlt : i < xs.length := (List.getElem?_eq_some_iff.1 ha).1
    have hd : xs.drop (i + 1) = l := by rw [← List.drop_drop, hl]; rfl
    rw [loop_eq, hin i a s ha]
    simp only [foldL]
    cases hb : body i a s with
    | none => rfl
    | some r =>
      cases r with
      | inr o => rfl
      | inl s' =>
        simp only [stepTo]
        exact loop_from emb xs body out hin hend l (i + 1) s' hlt hd
theorem loop_list {α S D O : Type} {step : D → Option (D ⊕ O)} (emb : Int → S → D) (xs : List α) (body : Nat → α → S → Option (S ⊕ O)) (out : S → O)
    (hin : ∀ (i : Nat) a s, xs[i]? = some a → step (emb i s) = stepTo emb i (body i a s))
    (hend : ∀ s, step (emb (xs.length : Int) s) = some (.inr (out s))) (s : S) : loop step (emb 0 s) = foldL body out 0 xs s :=
  loop_from emb xs body out hin hend xs 0 s (Nat.zero_le _) rfl
theorem wrap64 {n : Int} (h1 : -9223372036854775808 ≤ n) (h2 : n ≤ 9223372036854775807) : IntKind.wrap .i64 n = n := by
  unfold IntKind.wrap
  simp only [IntKind.signed, IntKind.bits]
  simp
  omega
theorem lt_of_get {α : Type} {xs : List α} {i : Nat} {a : α} (h : xs[i]? = some a) : i < xs.length := (List.getElem?_eq_some_iff.1 h).1
theorem dec_lt {i n : Nat} (h : i < n) : decide ((i : Int) < (n : Int)) = true := by simp; omega
theorem dec_nlt {i : Nat} : decide ((i : Int) < (i : Int)) = false := by simp
theorem inB_lt {i n : Nat} (h : i < n) : inB (i : Int) n = true := by unfold inB; simp; omega
theorem wrapS {i n : Nat} (h : i < n) (hn : n ≤ 9223372036854775807) : IntKind.wrap .i64 ((i : Int) + 1) = (i : Int) + 1 := wrap64 (by omega) (by omega)
theorem bytes_get {s : ByteArray} {i : Nat} : strAt s (i : Int) = s.data.toList[i]? := by
  unfold strAt
  rw [if_pos (by omega)]
  simp only [Int.toNat_natCast]
  show s[i]? = _
  cases h : s.data.toList[i]? with
  | none =>
    have := List.getElem?_eq_none_iff.1 h
    rw [Array.length_toList] at this
    exact getElem?_neg s i (by show ¬ i < s.data.size; omega)
  | some b =>
    have h2 := (List.getElem?_eq_some_iff.1 h)
    obtain ⟨h3, h4⟩ := h2
    rw [Array.length_toList] at h3
    rw [getElem?_pos s i h3]
    congr 1
theorem bytes_len {s : ByteArray} : s.size = s.data.toList.length := by rw [Array.length_toList]; rfl
end Go.Proofs.YtgabpbnndikheaaDoor.I

/-! Surveys: the program's check and the reference's agree, plainly. -/
namespace Go.Proofs.YtgabpbnndikheaaDoor.I
open Go.RowKit
set_option linter.unusedVariables false

abbrev DPt := Int × Int × Unit
abbrev DVal := Int × Int × ByteArray × Bool × Unit
abbrev DAtt := ByteArray × DVal × Unit
abbrev DFea := Int × Int × List (List DPt) × List DAtt × Int × Int × Unit

def found {O : Type} : Option O → Option (Unit ⊕ O)
  | some o => some (.inr o)
  | none => some (.inl ())
theorem foldL_find {α O : Type} {body : Nat → α → Unit → Option (Unit ⊕ O)} {out : Unit → O} (g : α → Option O) : ∀ (xs : List α) (i : Nat), (∀ (j : Nat) a, xs[j]? = some a → body (i + j) a () = found (g a)) →
    foldL body out i xs () = some ((xs.findSome? g).getD (out ()))
  | [], i, _ => rfl
  | a :: l, i, h => by
    have h0 := h 0 a rfl
    simp only [Nat.add_zero] at h0
    simp only [foldL, h0, List.findSome?_cons]
    cases hg : g a with
    | some o => rfl
    | none =>
      simp only [found]
      exact foldL_find g l (i + 1) (fun j b hb => by
        have := h (j + 1) b (by simpa using hb)
        rwa [show i + 1 + j = i + (j + 1) by omega])

def okB (b : UInt8) : Bool := !(decide ((b.toNat : Int) < 32)) && (!(decide (126 < (b.toNat : Int))) && !(decide ((b.toNat : Int) = 34)))
theorem find_all {α : Type} (p : α → Bool) {O : Type} (o : O) : ∀ (xs : List α), xs.findSome? (fun a => if p a then none else some o) = if xs.all p then none else some o
  | [] => rfl
  | a :: l => by
    rw [List.findSome?_cons, List.all_cons]
    cases h : p a with
    | true => simp [find_all p o l]
    | false => simp
theorem r38_eq (s : ByteArray) (hs : s.size ≤ 9223372036854775807) : r38 (s, ()) = some (s.data.toList.all okB, ()) := by
  unfold r38
  rw [loop_list (fun i _ => ((i, ()), ())) s.data.toList (fun i b _ => found (if okB b then none else some (Sum.inl ((false, ()), ())))) (fun _ => Sum.inr (Sum.inl ((), ()))) (fun i b _ h => ?_) (fun _ => ?_) ()]
  · rw [foldL_find (fun b => if okB b then none else some (Sum.inl ((false, ()), ()))) s.data.toList 0 (fun j a _ => rfl), find_all]
    cases s.data.toList.all okB <;> rfl
  · have hl := lt_of_get h
    have hlen : s.size = s.data.toList.length := bytes_len
    simp only [hlen, dec_lt hl, bytes_get, h, cond_true, Option.bind_some]
    rw [wrapS hl (by omega)]
    unfold okB
    cases decide ((b.toNat : Int) < 32) <;> cases decide (126 < (b.toNat : Int)) <;> cases decide ((b.toNat : Int) = 34) <;> rfl
  · simp only [← bytes_len, dec_nlt, cond_false]

def checkV (v : DVal) : Int :=
  if v.1 < 0 then 8 else if 3 < v.1 then 8 else if ¬ v.1 = 1 ∧ ¬ v.2.1 = 0 then 3 else if ¬ v.1 = 2 ∧ ¬ v.2.2.1 = ByteArray.mk (List.toArray []) then 3 else if ¬ v.1 = 3 ∧ v.2.2.2.1 = true then 3
  else if v.2.1 < -1000000000000 then 2 else if 1000000000000 < v.2.1 then 2 else if 40 < (v.2.2.1.size : Int) then 2 else if v.2.2.1.data.toList.all okB = true then 0 else 3
theorem r10_eq (v : DVal) (hs : v.2.2.1.size ≤ 9223372036854775807) : r10 (v, ()) = some (checkV v, ()) := by
  obtain ⟨k, n, s, b, ⟨⟩⟩ := v
  have h38 := r38_eq s hs
  unfold r10 checkV
  simp only [h38, Option.bind_some]
  generalize s.data.toList.all okB = a
  clear h38 hs
  generalize s.size = z
  by_cases h1 : k < 0
  · simp [h1]
  by_cases h2 : 3 < k
  · simp [h1, h2]
  have hk : k = 0 ∨ k = 1 ∨ k = 2 ∨ k = 3 := by omega
  by_cases h3 : n = 0 <;> by_cases h4 : s = ByteArray.mk (List.toArray []) <;> by_cases h5 : n < -1000000000000 <;> by_cases h6 : 1000000000000 < n <;> by_cases h7 : 40 < (z : Int) <;> rcases hk with rfl | rfl | rfl | rfl <;> cases b <;> cases a <;> simp [h3, h4, h5, h6, h7]
def okI (b : Int) : Bool := !(decide (b < 32)) && (!(decide (126 < b)) && !(decide (b = 34)))
theorem okI_all (s : ByteArray) : (bytesOf s).all okI = s.data.toList.all okB := by
  unfold bytesOf
  rw [List.all_map]
  rfl
theorem r29_eq (v : DVal) (hs : v.2.2.1.size ≤ 9223372036854775807) : r29 (v, ()) = some (checkV v, ()) := by
  obtain ⟨k, n, s, b, ⟨⟩⟩ := v
  unfold r29 checkV
  have hb : (bytesOf s).length = s.size := by unfold bytesOf; rw [List.length_map, ← bytes_len]
  rw [loop_list (fun i _ => ((i, ()), ())) (bytesOf s) (fun i b _ => found (if okI b then none else some (Sum.inl ((3, ()), ())))) (fun _ => Sum.inr (Sum.inl ((), ()))) (fun i b _ h => ?_) (fun _ => ?_) ()]
  · rw [foldL_find (fun b => if okI b then none else some (Sum.inl ((3, ()), ()))) (bytesOf s) 0 (fun j a _ => rfl), find_all, okI_all]
    generalize s.data.toList.all okB = a
    clear hb hs
    generalize s.size = z
    by_cases h1 : k < 0
    · simp [h1]
    by_cases h2 : 3 < k
    · simp [h1, h2]
    have hk : k = 0 ∨ k = 1 ∨ k = 2 ∨ k = 3 := by omega
    have hn : ((0 : Int) = n) = (n = 0) := propext eq_comm
    have hc : ((ByteArray.mk #[]) = s) = (s = ByteArray.mk #[]) := propext eq_comm
    by_cases h3 : n = 0 <;> by_cases h4 : s = ByteArray.mk (List.toArray []) <;> by_cases h5 : n < -1000000000000 <;> by_cases h6 : 1000000000000 < n <;> by_cases h7 : 40 < (z : Int) <;> rcases hk with rfl | rfl | rfl | rfl <;> cases b <;> cases a <;> simp [h3, h4, h5, h6, h7, inB, sumE, hc, hn]
  · have hl := lt_of_get h
    simp only [dec_lt hl, inB_lt hl, Int.toNat_natCast, h, cond_true, Option.bind_some]
    rw [wrapS hl (by rw [hb]; exact hs)]
    unfold okI
    cases decide (b < 32) <;> cases decide (126 < b) <;> cases decide (b = 34) <;> rfl
  · simp only [dec_nlt, cond_false]
end Go.Proofs.YtgabpbnndikheaaDoor.I

/-! Attributes and parts: the program's check and the reference's agree, plainly. -/
namespace Go.Proofs.YtgabpbnndikheaaDoor.I
open Go.RowKit
set_option linter.unusedVariables false

/-- Element by element, each with the key of the one before. -/
def scan {α K O : Type} (F : K → α → Option O) (key : α → K) (o : O) : K → List α → O
  | _, [] => o
  | p, a :: l => match F p a with
    | some e => e
    | none => scan F key o (key a) l
def stepK {K O : Type} (k : K) : Option O → Option (K ⊕ O)
  | some o => some (.inr o)
  | none => some (.inl k)
theorem foldL_state {α K O : Type} {body : Nat → α → K → Option (K ⊕ O)} (F : K → α → Option O) (key : α → K) (o : O) : ∀ (l : List α) (i : Nat) (p : K), (∀ i a p, a ∈ l → body i a p = stepK (key a) (F p a)) → foldL body (fun _ => o) i l p = some (scan F key o p l)
  | [], _, _, _ => rfl
  | a :: l, i, p, h => by
    simp only [foldL, h i a p (by simp), scan]
    cases F p a with
    | some e => rfl
    | none => simp only [stepK]; exact foldL_state F key o l (i + 1) (key a) (fun i b p hb => h i b p (by simp [hb]))
def prevOf {α K : Type} (key : α → K) (p0 : K) (xs : List α) : Nat → K
  | 0 => p0
  | i + 1 => match xs[i]? with
    | some a => key a
    | none => p0
theorem foldL_prev {α K O : Type} {body : Nat → α → Unit → Option (Unit ⊕ O)} (F : K → α → Option O) (key : α → K) (o : O) (p0 : K) (xs : List α) (h : ∀ i a, xs[i]? = some a → body i a () = found (F (prevOf key p0 xs i) a)) :
    ∀ (l : List α) (i : Nat), xs.drop i = l → foldL body (fun _ => o) i l () = some (scan F key o (prevOf key p0 xs i) l)
  | [], _, _ => rfl
  | a :: l, i, hl => by
    have ha : xs[i]? = some a := by
      have := congrArg (fun l => l[0]?) hl
      simpa using this
    simp only [foldL, h i a ha, scan]
    cases F (prevOf key p0 xs i) a with
    | some e => rfl
    | none =>
      simp only [found]
      rw [foldL_prev F key o p0 xs h l (i + 1) (by rw [← List.drop_drop, hl]; rfl)]
      simp only [prevOf, ha]
theorem scan_map {α K O R : Type} (G : O → R) (F : K → α → Option O) (key : α → K) (o : O) : ∀ (l : List α) (p : K), G (scan F key o p l) = scan (fun p a => (F p a).map G) key (G o) p l
  | [], _ => rfl
  | a :: l, p => by
    simp only [scan]
    cases F p a with
    | some e => rfl
    | none => exact scan_map G F key o l (key a)
theorem scan_congr {α K O : Type} {F F' : K → α → Option O} {key : α → K} {o : O} : ∀ {l : List α} {p : K}, (∀ p a, a ∈ l → F p a = F' p a) → scan F key o p l = scan F' key o p l
  | [], _, _ => rfl
  | a :: l, p, h => by
    simp only [scan]
    rw [h p a (by simp)]
    cases F' p a with
    | some e => rfl
    | none => exact scan_congr (fun p b hb => h p b (by simp [hb]))

/-! ### Attributes -/
theorem less_nilS {k : ByteArray} (h : nameOk k = true) : strLt (ByteArray.mk (List.toArray [])) k = true := by
  have hs : 1 ≤ k.size := by
    unfold nameOk at h
    simp at h
    omega
  unfold strLt
  rw [ByteArray.toList_eq, ByteArray.toList_eq]
  have hl : k.data.toList ≠ [] := by
    intro e
    have : k.data.toList.length = 0 := by rw [e]; rfl
    rw [Array.length_toList] at this
    have h2 : k.size = k.data.size := rfl
    omega
  cases hk : k.data.toList with
  | nil => exact absurd hk hl
  | cons x m => rfl
theorem leq_lawL : ∀ a b : List UInt8, (Op.bytesLess a b || a == b) = !Op.bytesLess b a
  | [], [] => rfl
  | [], _ :: _ => rfl
  | _ :: _, [] => rfl
  | x :: l, y :: m => by
    have ih := leq_lawL l m
    unfold Op.bytesLess
    rcases Nat.lt_trichotomy x.toNat y.toNat with h | h | h
    · have h1 : x < y := UInt8.lt_iff_toNat_lt.2 h
      have h2 : ¬ y < x := fun e => by have := UInt8.lt_iff_toNat_lt.1 e; omega
      have h3 : (y == x) = false := by
        rw [beq_eq_false_iff_ne]
        intro e
        rw [e] at h
        omega
      simp [h1, h2, h3]
    · have h1 : x = y := UInt8.toNat_inj.1 h
      subst h1
      have h2 : ¬ x < x := fun e => by have := UInt8.lt_iff_toNat_lt.1 e; omega
      simp only [h2, decide_false, Bool.false_or, beq_self_eq_true, Bool.true_and, List.cons_beq_cons]
      exact ih
    · have h1 : ¬ x < y := fun e => by have := UInt8.lt_iff_toNat_lt.1 e; omega
      have h2 : y < x := UInt8.lt_iff_toNat_lt.2 h
      have h3 : (x == y) = false := by
        rw [beq_eq_false_iff_ne]
        intro e
        rw [e] at h
        omega
      simp [h1, h2, h3]
theorem leq_lawS (a b : ByteArray) : (strLt a b || decide (a = b)) = !strLt b a := by
  unfold strLt
  rw [← ba_beq, leq_lawL]
def attF (nils : Bool) (last : ByteArray) (a : DAtt) : Option Int :=
  if nameOk a.1 = false then some 16 else if strLt last a.1 = false then some 9 else if checkV a.2.1 ≠ 0 then some (checkV a.2.1) else if nils = false ∧ a.2.1.1 = 0 then some 3 else none
def attrsE (nils : Bool) (l : List DAtt) : Int := if 8 < l.length then 2 else scan (attF nils) (fun a => a.1) 0 (ByteArray.mk (List.toArray [])) l
def attW (e : Int) : ((Int × Unit) × Unit) ⊕ (Unit × Unit) ⊕ Empty := Sum.inl ((e, ()), ())
theorem attr_bounds {l : List DAtt} (h : small (.slice (.pair .str (.pair (.pair (.int .i64) (.pair (.int .i64) (.pair .str (.pair .bool .unit)))) .unit))) l) : l.length ≤ 9223372036854775807 ∧ ∀ a ∈ l, a.1.size ≤ 9223372036854775807 ∧ a.2.1.2.2.1.size ≤ 9223372036854775807 := by
  have hm : maxLen = 9223372036854775807 := rfl
  simp only [small, hm] at h
  exact ⟨h.1, fun a ha => ⟨(h.2 a ha).1, (h.2 a ha).2.1.2.2.1⟩⟩
theorem zeroV {v : DVal} (h : checkV v = 0) (hk : v.1 = 0) : v.2.1 = 0 ∧ v.2.2.1 = ByteArray.mk (List.toArray []) ∧ v.2.2.2.1 = false := by
  unfold checkV at h
  rw [hk] at h
  obtain ⟨k, n, s, b, ⟨⟩⟩ := v
  simp only at hk h ⊢
  subst hk
  by_cases h1 : n = 0
  · by_cases h2 : s = ByteArray.mk (List.toArray [])
    · cases b with
      | false => exact ⟨h1, h2, rfl⟩
      | true => simp [h1, h2] at h
    · simp only [List.toArray] at h2
      simp [h1, h2] at h
  · simp [h1] at h
set_option maxHeartbeats 1000000 in
theorem r22_eq (l : List DAtt) (nils : Bool) (hs : small (.slice (.pair .str (.pair (.pair (.int .i64) (.pair (.int .i64) (.pair .str (.pair .bool .unit)))) .unit))) l) : r22 (l, (nils, ())) = some (attrsE nils l, ()) := by
  obtain ⟨hl, hb⟩ := attr_bounds hs
  unfold r22 attrsE
  by_cases h8 : 8 < l.length
  · rw [if_pos h8]
    have : decide ((8 : Int) < (l.length : Int)) = true := by simp; omega
    simp only [this, cond_true]
  · rw [if_neg h8]
    have : decide ((8 : Int) < (l.length : Int)) = false := by simp; omega
    simp only [this, cond_false]
    rw [loop_list (fun i _ => ((i, ()), ())) l (fun i a _ => found ((attF nils (prevOf (fun a => a.1) (ByteArray.mk (List.toArray [])) l i) a).map attW)) (fun _ => Sum.inr (Sum.inl ((), ()))) (fun i a _ h => ?_) (fun _ => ?_) ()]
    · rw [foldL_prev (fun p a => (attF nils p a).map attW) (fun a => a.1) (Sum.inr (Sum.inl ((), ()))) (ByteArray.mk (List.toArray [])) l (fun i a _ => rfl) l 0 rfl]
      simp only [Option.bind_some]
      have := scan_map (sumE (fun x0 => some (x0.1.1, ())) (sumE (fun x0 => some ((0 : Int), ())) emptyE) : ((Int × Unit) × Unit) ⊕ (Unit × Unit) ⊕ Empty → Option (Int × Unit)) (fun p a => (attF nils p a).map attW) (fun a : DAtt => a.1) (Sum.inr (Sum.inl ((), ()))) l (ByteArray.mk (List.toArray []))
      refine this.trans ?_
      have h2 := scan_map (fun e : Int => some (e, ())) (attF nils) (fun a : DAtt => a.1) 0 l (ByteArray.mk (List.toArray []))
      refine Eq.trans ?_ h2.symm
      refine scan_congr (fun p a _ => ?_)
      cases attF nils p a <;> rfl
    · have hlt := lt_of_get h
      obtain ⟨hb1, hb2⟩ := hb a (List.mem_of_getElem? h)
      simp only [dec_lt hlt, inB_lt hlt, Int.toNat_natCast, h, cond_true, Option.bind_some]
      rw [wrapS hlt hl]
      have hn : r14 (a.1, ()) = some (nameOk a.1, ()) := by
        unfold r14
        have : decide (a.1.size ≤ 9223372036854775807) = true := by simp; omega
        simp only [this, cond_true]
      have hv := r10_eq a.2.1 hb2
      have hv' : r10 ((a.2.1.1, (a.2.1.2.1, (a.2.1.2.2.1, (a.2.1.2.2.2.1, ())))), ()) = some (checkV a.2.1, ()) := hv
      simp only [hn, hv', Option.bind_some]
      cases hno : nameOk a.1 with
      | false => simp [attF, hno, found, stepTo, attW]
      | true =>
        simp only [Bool.not_true, cond_false]
        cases i with
        | zero =>
          have hd0 : decide ((0 : Int) < ((0 : Nat) : Int)) = false := by simp
          simp only [hd0, cond_false, prevOf]
          have hless := less_nilS hno
          by_cases hc : checkV a.2.1 = 0 <;> by_cases hk : a.2.1.1 = 0 <;> cases nils <;> simp [attF, hno, hless, hc, hk, found, stepTo, attW]
        | succ j =>
          have hd0 : decide ((0 : Int) < ((j + 1 : Nat) : Int)) = true := by simp
          obtain ⟨b, hbj⟩ : ∃ b, l[j]? = some b := ⟨_, List.getElem?_eq_getElem (by omega)⟩
          have hw : IntKind.wrap .i64 (((j + 1 : Nat) : Int) - 1) = (j : Int) := by rw [wrap64 (by omega) (by omega)]; omega
          simp only [hd0, cond_true, prevOf, hbj, hw, inB_lt (show j < l.length by omega), Int.toNat_natCast, Option.bind_some]
          cases hless : strLt b.1 a.1 with
          | false => simp [attF, hno, hless, found, stepTo, attW]
          | true =>
            by_cases hc : checkV a.2.1 = 0 <;> by_cases hk : a.2.1.1 = 0 <;> cases nils <;> simp [attF, hno, hless, hc, hk, found, stepTo, attW]
    · simp only [dec_nlt, cond_false]
set_option maxHeartbeats 1000000 in
theorem r23_eq (l : List DAtt) (nils : Bool) (hs : small (.slice (.pair .str (.pair (.pair (.int .i64) (.pair (.int .i64) (.pair .str (.pair .bool .unit)))) .unit))) l) : r23 (l, (nils, ())) = some (attrsE nils l, ()) := by
  obtain ⟨hl, hb⟩ := attr_bounds hs
  unfold r23 attrsE
  by_cases h8 : 8 < l.length
  · rw [if_pos h8]
    have : decide ((8 : Int) < (l.length : Int)) = true := by simp; omega
    simp only [this, cond_true]
  · rw [if_neg h8]
    have : decide ((8 : Int) < (l.length : Int)) = false := by simp; omega
    simp only [this, cond_false]
    rw [loop_list (fun i (p : ByteArray) => ((p, (i, ())), ())) l (fun i a p => stepK a.1 ((attF nils p a).map attW)) (fun _ => Sum.inr (Sum.inl ((), ()))) (fun i a p h => ?_) (fun _ => ?_) (ByteArray.mk (List.toArray []))]
    · rw [foldL_state (fun p a => (attF nils p a).map attW) (fun a => a.1) (Sum.inr (Sum.inl ((), ()))) l 0 _ (fun i a p _ => rfl)]
      simp only [Option.bind_some]
      have := scan_map (sumE (fun x0 => some (x0.1.1, ())) (sumE (fun x0 => some ((0 : Int), ())) emptyE) : ((Int × Unit) × Unit) ⊕ (Unit × Unit) ⊕ Empty → Option (Int × Unit)) (fun p a => (attF nils p a).map attW) (fun a : DAtt => a.1) (Sum.inr (Sum.inl ((), ()))) l (ByteArray.mk (List.toArray []))
      refine this.trans ?_
      have h2 := scan_map (fun e : Int => some (e, ())) (attF nils) (fun a : DAtt => a.1) 0 l (ByteArray.mk (List.toArray []))
      refine Eq.trans ?_ h2.symm
      refine scan_congr (fun p a _ => ?_)
      cases attF nils p a <;> rfl
    · have hlt := lt_of_get h
      obtain ⟨hb1, hb2⟩ := hb a (List.mem_of_getElem? h)
      simp only [dec_lt hlt, inB_lt hlt, Int.toNat_natCast, h, cond_true, Option.bind_some]
      rw [wrapS hlt hl]
      have hn : r15 (a.1, ()) = some (nameOk a.1, ()) := by
        unfold r15
        have : decide (a.1.size ≤ 9223372036854775807) = true := by simp; omega
        simp only [this, cond_true]
      have hv' : r29 ((a.2.1.1, (a.2.1.2.1, (a.2.1.2.2.1, (a.2.1.2.2.2.1, ())))), ()) = some (checkV a.2.1, ()) := r29_eq a.2.1 hb2
      simp only [hn, hv', Option.bind_some, leq_lawS]
      cases hno : nameOk a.1 with
      | false => simp [attF, hno, stepK, stepTo, attW]
      | true =>
        cases hless : strLt p a.1 with
        | false => simp [attF, hno, hless, stepK, stepTo, attW]
        | true =>
          by_cases hc : checkV a.2.1 = 0
          · by_cases hk : a.2.1.1 = 0
            · obtain ⟨z1, z2, z3⟩ := zeroV hc hk
              cases nils <;> simp [attF, hno, hless, hc, hk, stepK, stepTo, attW, z1, z2, z3]
            · cases nils <;> simp [attF, hno, hless, hc, hk, stepK, stepTo, attW]
          · cases nils <;> simp [attF, hno, hless, hc, stepK, stepTo, attW]
    · simp only [dec_nlt, cond_false]
end Go.Proofs.YtgabpbnndikheaaDoor.I

/-! Parts, features, surveys: the program's check and the reference's agree, plainly. -/
namespace Go.Proofs.YtgabpbnndikheaaDoor.I
open Go.RowKit
set_option linter.unusedVariables false
set_option linter.constructorNameAsVariable false

/-- A search by index. -/
theorem foldL_index {α O : Type} {body : Nat → α → Unit → Option (Unit ⊕ O)} {out : Unit → O} (p : α → Bool) (W : Int → O) : ∀ (xs : List α) (i : Nat), (∀ (j : Nat) a, xs[j]? = some a → body (i + j) a () = found (if p a then some (W ((i + j : Nat) : Int)) else none)) →
    ∃ r, foldL body out i xs () = some r ∧ ((xs.any p = true ∧ ∃ j : Nat, r = W (j : Int)) ∨ (xs.any p = false ∧ r = out ()))
  | [], i, _ => ⟨out (), rfl, .inr ⟨rfl, rfl⟩⟩
  | a :: l, i, h => by
    have h0 := h 0 a rfl
    simp only [Nat.add_zero] at h0
    simp only [foldL, h0, List.any_cons]
    cases hp : p a with
    | true => exact ⟨_, rfl, .inl ⟨rfl, i, rfl⟩⟩
    | false =>
      obtain ⟨r, h1, h2⟩ := foldL_index p W l (i + 1) (fun j b hb => by
        have := h (j + 1) b (by simpa using hb)
        rwa [show i + 1 + j = i + (j + 1) by omega])
      exact ⟨r, h1, by simpa using h2⟩
theorem loop_list1 {α S D O : Type} {step : D → Option (D ⊕ O)} (emb : Int → S → D) (xs : List α) (body : Nat → α → S → Option (S ⊕ O)) (out : S → O)
    (hin : ∀ (i : Nat) a s, xs[i + 1]? = some a → step (emb ((i : Int) + 1) s) = stepTo emb (i + 1) (body (i + 1) a s))
    (hend : ∀ s, step (emb (xs.length : Int) s) = some (.inr (out s))) (h1 : 1 ≤ xs.length) (s : S) : loop step (emb 1 s) = foldL body out 1 (xs.drop 1) s := by
  have key : ∀ (l : List α) (i : Nat) (s : S), i + 1 ≤ xs.length → xs.drop (i + 1) = l → loop step (emb ((i + 1 : Nat) : Int) s) = foldL body out (i + 1) l s := by
    intro l
    induction l with
    | nil =>
      intro i s hi hl
      have : i + 1 = xs.length := by
        have := congrArg List.length hl
        simp at this; omega
      rw [this, loop_eq, hend]
      rfl
    | cons a l ih =>
      intro i s hi hl
      have ha : xs[i + 1]? = some a := by
        have := congrArg (fun l => l[0]?) hl
        simpa using this
      have hlt : i + 1 < xs.length := (List.getElem?_eq_some_iff.1 ha).1
      have hd : xs.drop (i + 1 + 1) = l := by rw [← List.drop_drop, hl]; rfl
      have hs := hin i a s ha
      rw [loop_eq, show ((i + 1 : Nat) : Int) = (i : Int) + 1 by omega, hs]
      simp only [foldL]
      cases hb : body (i + 1) a s with
      | none => rfl
      | some r =>
        cases r with
        | inr o => rfl
        | inl s' =>
          simp only [stepTo]
          have := ih (i + 1) s' (by omega) hd
          rwa [show ((i + 1 + 1 : Nat) : Int) = ((i + 1 : Nat) : Int) + 1 by omega] at this
  exact key (xs.drop 1) 0 s h1 rfl

def far (q : DPt) : Bool := decide (q.1 < -1048576) || (decide (1048576 < q.1) || (decide (q.2.1 < -1048576) || decide (1048576 < q.2.1)))
def ptEq (a b : DPt) : Bool := decide (a.1 = b.1) && decide (a.2.1 = b.2.1)
def adj : List DPt → Bool
  | a :: b :: l => ptEq a b || adj (b :: l)
  | _ => false
def partE (kind : Int) (p : List DPt) : Int :=
  if p.any far = true then 1 else if kind = 1 then (if p.length = 1 then 0 else 3) else if kind = 2 then (if p.length < 2 then 3 else if adj p = true then 3 else 0) else 0
theorem clamp_iff (x : Int) : decide (x = maxI (-1048576) (minI x 1048576)) = !(decide (x < -1048576) || decide (1048576 < x)) := by
  rw [Bool.eq_iff_iff]
  simp only [decide_eq_true_eq, Bool.not_eq_true', Bool.or_eq_false_iff, decide_eq_false_iff_not]
  unfold maxI minI
  split <;> split <;> omega
theorem r86_eq (q : DPt) : r86 (q, ()) = some (far q, ()) := by
  obtain ⟨x, y, ⟨⟩⟩ := q
  unfold r86 r87 r110 r127
  simp only [Option.bind_some]
  have hw : IntKind.wrap .i64 (0 - 1048576) = -1048576 := by rw [wrap64 (by omega) (by omega)]; rfl
  rw [hw, clamp_iff, clamp_iff]
  unfold far
  congr 2
  simp only
  cases decide (x < -1048576) <;> cases decide (1048576 < x) <;> cases decide (y < -1048576) <;> cases decide (1048576 < y) <;> rfl
theorem r48_eq (p : List DPt) : r48 (p, ()) = some (decide ((200 : Int) < (p.length : Int)), ()) := rfl
theorem r85_eq (p : List DPt) (hl : p.length ≤ 9223372036854775807) : r85_86 (p, ((), ())) = some (p.any far, ()) := by
  unfold r85_86 r109_86
  rw [loop_list (fun i _ => ((i, ()), ())) p (fun i a _ => found (if far a then some (Sum.inl (((i : Int), ()), ())) else none)) (fun _ => Sum.inr (Sum.inl ((), ()))) (fun i a _ h => ?_) (fun _ => ?_) ()]
  · obtain ⟨r, h1, h2⟩ := foldL_index (body := fun (i : Nat) a (_ : Unit) => found (if far a then some (Sum.inl (((i : Int), ()), ())) else none)) (out := fun _ => (Sum.inr (Sum.inl ((), ())) : ((Int × Unit) × Unit) ⊕ (Unit × Unit) ⊕ Empty)) far (fun i => Sum.inl ((i, ()), ())) p 0 (fun j a _ => rfl)
    rw [h1]
    rcases h2 with ⟨h2, j, rfl⟩ | ⟨h2, rfl⟩
    · rw [h2]; simp [sumE]
    · rw [h2]; rfl
  · have hlt := lt_of_get h
    have h86 : r86 ((a.1, (a.2.1, ())), ()) = some (far a, ()) := r86_eq a
    simp only [dec_lt hlt, inB_lt hlt, Int.toNat_natCast, h, cond_true, Option.bind_some, h86]
    rw [wrapS hlt hl]
    cases far a <;> rfl
  · simp only [dec_nlt, cond_false]
theorem adj_any : ∀ (p : List DPt), adj p = (List.range (p.length - 1)).any fun i => match p[i]?, p[i + 1]? with
    | some a, some b => ptEq a b
    | _, _ => false
  | [] => rfl
  | [_] => rfl
  | a :: b :: l => by
    have ih := adj_any (b :: l)
    simp only [adj, ih]
    simp only [List.length_cons, Nat.add_sub_cancel]
    rw [List.range_succ_eq_map, List.any_cons, List.any_map]
    rfl
theorem adj_scan : ∀ (l : List DPt) (a : DPt), adj (a :: l) = true ↔ scan (fun p b => if ptEq p b then some true else none) id false a l = true
  | [], _ => by simp [adj, scan]
  | b :: l, a => by
    simp only [adj, scan]
    cases h : ptEq a b with
    | true => simp
    | false => simpa using adj_scan l b
end Go.Proofs.YtgabpbnndikheaaDoor.I

/-! Parts: the program's check and the reference's agree, plainly. -/
namespace Go.Proofs.YtgabpbnndikheaaDoor.I
open Go.RowKit
set_option linter.unusedVariables false
set_option linter.constructorNameAsVariable false

theorem ptEq_comm (a b : DPt) : ptEq a b = ptEq b a := by
  unfold ptEq
  have h1 : decide (a.1 = b.1) = decide (b.1 = a.1) := decide_eq_decide.2 eq_comm
  have h2 : decide (a.2.1 = b.2.1) = decide (b.2.1 = a.2.1) := decide_eq_decide.2 eq_comm
  rw [h1, h2]
abbrev O3 := ((Int × Unit) × Unit) ⊕ (Unit × Unit) ⊕ Empty
def w3 (e : Int) : O3 := Sum.inl ((e, ()), ())
def w0 : O3 := Sum.inr (Sum.inl ((), ()))
theorem scan_adj (p : List DPt) (a : DPt) : scan (fun p b => if ptEq p b then some (w3 3) else none) id w0 a p = if adj (a :: p) then w3 3 else w0 := by
  induction p generalizing a with
  | nil => simp [adj, scan]
  | cons b l ih =>
    simp only [adj, scan]
    by_cases h : ptEq a b = true
    · simp [h]
    · simpa [h] using ih b
theorem foldL_ahead {body : Nat → DPt → Unit → Option (Unit ⊕ O3)} (xs : List DPt) (h : ∀ i a, xs[i]? = some a → body i a () = found (match xs[i + 1]? with | some b => if ptEq a b then some (w3 3) else none | none => none)) :
    ∀ (l : List DPt) (i : Nat), xs.drop i = l → foldL body (fun _ => w0) i l () = some (if adj l then w3 3 else w0)
  | [], _, _ => rfl
  | a :: l, i, hl => by
    have ha : xs[i]? = some a := by
      have := congrArg (fun l => l[0]?) hl
      simpa using this
    have hd : xs.drop (i + 1) = l := by rw [← List.drop_drop, hl]; rfl
    have hn : xs[i + 1]? = l[0]? := by rw [← hd]; simp
    simp only [foldL, h i a ha, hn]
    cases l with
    | nil =>
      simp only [List.getElem?_nil, found]
      rfl
    | cons b l =>
      simp only [List.getElem?_cons_zero, adj]
      by_cases hp : ptEq a b = true
      · simp [hp, found]
      · have ih := foldL_ahead xs h (b :: l) (i + 1) hd
        simpa [hp, found] using ih
theorem foldL_nothing {α O : Type} {body : Nat → α → Unit → Option (Unit ⊕ O)} {out : Unit → O} : ∀ (l : List α) (i : Nat), (∀ i a, a ∈ l → body i a () = some (.inl ())) → foldL body out i l () = some (out ())
  | [], _, _ => rfl
  | a :: l, i, h => by
    simp only [foldL, h i a (by simp)]
    exact foldL_nothing l (i + 1) (fun i b hb => h i b (by simp [hb]))
set_option maxHeartbeats 1000000 in
theorem r49_eq (kind : Int) (p : List DPt) (hl : p.length ≤ 9223372036854775807) : r49 (kind, (p, ())) = some (partE kind p, ()) := by
  unfold r49 partE
  simp only [r85_eq p hl, Option.bind_some]
  cases hf : p.any far with
  | true => simp
  | false =>
    simp only [cond_false, Bool.false_eq_true, if_false]
    by_cases h1 : kind = 1
    · subst h1
      by_cases h2 : p.length = 1
      · simp [h2]
      · have : ¬ ((p.length : Int) = 1) := by omega
        simp [h2, this]
    · by_cases h2 : kind = 2
      · subst h2
        by_cases h3 : p.length < 2
        · have : ((p.length : Int) < 2) := by omega
          simp [h3, this]
        · have h3' : ¬ ((p.length : Int) < 2) := by omega
          simp only [h1, h3, h3', decide_false, decide_true, cond_true, cond_false, if_false, if_true]
          rw [loop_list1 (fun i _ => ((i, ()), ())) p (fun i a _ => found (if ptEq (prevOf id a p i) a then some (w3 3) else none)) (fun _ => w0) (fun i a _ h => ?_) (fun _ => ?_) (by omega) ()]
          · obtain ⟨a, l, rfl⟩ : ∃ a l, p = a :: l := by
              cases p with
              | nil => simp at h3
              | cons a l => exact ⟨a, l, rfl⟩
            have := foldL_prev (body := fun i (b : DPt) _ => found (if ptEq (prevOf id b (a :: l) i) b then some (w3 3) else none)) (fun p b => if ptEq p b then some (w3 3) else none) id w0 a (a :: l) (fun i b hb => by
              cases i with
              | zero => simp at hb; subst hb; rfl
              | succ i =>
                have hlt := lt_of_get hb
                have : ∃ c, (a :: l)[i]? = some c := ⟨_, List.getElem?_eq_getElem (by omega)⟩
                obtain ⟨c, hc⟩ := this
                simp only [prevOf, hc]) l 1 rfl
            rw [show (a :: l).drop 1 = l from rfl, this]
            simp only [prevOf, List.getElem?_cons_zero, id, scan_adj, Option.bind_some]
            cases adj (a :: l) <;> rfl
          · have hlt := lt_of_get h
            obtain ⟨b, hb⟩ : ∃ b, p[i]? = some b := ⟨_, List.getElem?_eq_getElem (by omega)⟩
            have e1 : ((i : Int) + 1) = ((i + 1 : Nat) : Int) := by omega
            have hw : IntKind.wrap .i64 (((i + 1 : Nat) : Int) - 1) = (i : Int) := by rw [wrap64 (by omega) (by omega)]; omega
            simp only [e1, dec_lt hlt, inB_lt hlt, Int.toNat_natCast, h, cond_true, Option.bind_some, hw, inB_lt (show i < p.length by omega), hb, prevOf, id]
            rw [wrapS hlt hl, ← show ptEq a b = (decide (a.1 = b.1) && decide (a.2.1 = b.2.1)) from rfl, ptEq_comm a b]
            cases ptEq b a <;> rfl
          · simp only [dec_nlt, cond_false]
            rfl
      · simp [h1, h2]

/-- Both checks of parts, as far as the areas. -/
def partsE (area : Option (Int × Unit)) (kind : Int) (l : List (List DPt)) : Option (Int × Unit) :=
  if kind < 1 then some (8, ()) else if 3 < kind then some (8, ()) else if 20 < l.length then some (2, ()) else if l.any (fun p => decide ((200 : Int) < (p.length : Int))) = true then some (2, ()) else if l.length = 0 then some (4, ())
  else match l.findSome? (fun p => if partE kind p = 0 then none else some (partE kind p)) with
    | some e => some (e, ())
    | none => if kind = 3 then area else some (0, ())
theorem parts_bounds {l : List (List DPt)} (h : small (.slice (.slice (.pair (.int .i64) (.pair (.int .i64) .unit)))) l) : l.length ≤ 9223372036854775807 ∧ ∀ p ∈ l, p.length ≤ 9223372036854775807 := by
  have hm : maxLen = 9223372036854775807 := rfl
  simp only [small, hm] at h
  exact ⟨h.1, fun p hp => (h.2 p hp).1⟩
theorem find_w3 (F : List DPt → Int) (l : List (List DPt)) : (l.findSome? (fun p => if F p = 0 then none else some (w3 (F p)))).getD w0 = match l.findSome? (fun p => if F p = 0 then none else some (F p)) with
    | some e => w3 e
    | none => w0 := by
  induction l with
  | nil => rfl
  | cons p l ih =>
    simp only [List.findSome?_cons]
    by_cases h : F p = 0
    · simpa [h] using ih
    · simp [h]
theorem r47_eq (l : List (List DPt)) (hl : l.length ≤ 9223372036854775807) : r47_48 (l, ((), ())) = some (l.any (fun p => decide ((200 : Int) < (p.length : Int))), ()) := by
  unfold r47_48 r84_48
  rw [loop_list (fun i _ => ((i, ()), ())) l (fun i p _ => found (if (fun p : List DPt => decide ((200 : Int) < (p.length : Int))) p then some (w3 (i : Int)) else none)) (fun _ => w0) (fun i a _ h => ?_) (fun _ => ?_) ()]
  · obtain ⟨r, h1, h2⟩ := foldL_index (body := fun (i : Nat) p (_ : Unit) => found (if (fun p : List DPt => decide ((200 : Int) < (p.length : Int))) p then some (w3 (i : Int)) else none)) (out := fun _ => w0) (fun p : List DPt => decide ((200 : Int) < (p.length : Int))) w3 l 0 (fun j a _ => by rw [Nat.zero_add])
    rw [h1]
    rcases h2 with ⟨h2, j, rfl⟩ | ⟨h2, rfl⟩
    · rw [h2]; simp [sumE, w3]
    · rw [h2]; rfl
  · have hlt := lt_of_get h
    simp only [dec_lt hlt, inB_lt hlt, Int.toNat_natCast, h, cond_true, Option.bind_some]
    rw [wrapS hlt hl, r48_eq a]
    by_cases hd : (200 : Int) < (a.length : Int)
    · simp [hd, found, stepTo, w3]
    · simp [hd, found, stepTo]
  · simp only [dec_nlt, cond_false]
    rfl
set_option maxHeartbeats 1000000 in
theorem r20_eq (kind : Int) (l : List (List DPt)) (hs : small (.slice (.slice (.pair (.int .i64) (.pair (.int .i64) .unit)))) l) : r20 (kind, (l, ())) = partsE (Option.bind (r50 (l, ())) fun x => some (x.1, ())) kind l := by
  obtain ⟨hl, hb⟩ := parts_bounds hs
  unfold r20 partsE
  simp only [r47_eq l hl, Option.bind_some]
  by_cases h1 : kind < 1
  · simp [h1]
  by_cases h2 : 3 < kind
  · simp [h1, h2]
  by_cases h3 : 20 < l.length
  · have : (20 : Int) < (l.length : Int) := by omega
    simp [h1, h2, h3, this]
  have h3' : ¬ (20 : Int) < (l.length : Int) := by omega
  generalize l.any (fun p => decide ((200 : Int) < (p.length : Int))) = long
  by_cases h4 : l.length = 0
  · cases long <;> simp [h1, h2, h4]
  have h4' : ¬ (l.length : Int) = 0 := by omega
  simp only [h1, h2, h3, h3', h4, h4', decide_false, cond_false, if_false]
  cases long with
  | true => rfl
  | false =>
    simp only [cond_false, Bool.false_eq_true, if_false]
    rw [loop_list (fun i _ => ((i, ()), ())) l (fun i p _ => found (if partE kind p = 0 then none else some (w3 (partE kind p)))) (fun _ => w0) (fun i a _ h => ?_) (fun _ => ?_) ()]
    · rw [foldL_find (fun p => if partE kind p = 0 then none else some (w3 (partE kind p))) l 0 (fun j a _ => rfl), find_w3 (partE kind) l]
      simp only [Option.bind_some]
      cases l.findSome? (fun p => if partE kind p = 0 then none else some (partE kind p)) with
      | some e => rfl
      | none =>
        by_cases h5 : kind = 3
        · simp [h5, w0, sumE]
        · simp [h5, w0, sumE]
    · have hlt := lt_of_get h
      simp only [dec_lt hlt, inB_lt hlt, Int.toNat_natCast, h, cond_true, Option.bind_some, r49_eq kind a (hb a (List.mem_of_getElem? h))]
      rw [wrapS hlt hl]
      by_cases hp : partE kind a = 0
      · simp [hp, found, stepTo]
      · simp [hp, found, stepTo, w3]
    · simp only [dec_nlt, cond_false]
      rfl
set_option maxHeartbeats 4000000 in
theorem r21_eq (kind : Int) (l : List (List DPt)) (hs : small (.slice (.slice (.pair (.int .i64) (.pair (.int .i64) .unit)))) l) : r21 (kind, (l, ())) = partsE (Option.bind (r50 (l, ())) fun x => some (x.1, ())) kind l := by
  obtain ⟨hl, hb⟩ := parts_bounds hs
  unfold r21 partsE
  by_cases h1 : kind < 1
  · simp [h1]
  by_cases h2 : 3 < kind
  · simp [h1, h2]
  simp only [h1, h2, decide_false, cond_false, if_false]
  rw [loop_list (fun i (b : Bool) => ((b, (i, ())), ())) l (fun i p b => some (Sum.inl (b || decide ((200 : Int) < (p.length : Int))))) (fun b => Sum.inl ((b, ()), ())) (fun i a b h => ?_) (fun _ => ?_) (decide ((20 : Int) < (l.length : Int)))]
  · have key : ∀ (m : List (List DPt)) (i : Nat) (b : Bool), foldL (fun (i : Nat) (p : List DPt) (b : Bool) => (some (Sum.inl (b || decide ((200 : Int) < (p.length : Int)))) : Option (Bool ⊕ (((Bool × Unit) × Unit) ⊕ Empty)))) (fun b => Sum.inl ((b, ()), ())) i m b = some (Sum.inl ((b || m.any (fun p => decide ((200 : Int) < (p.length : Int))), ()), ())) := by
      intro m
      induction m with
      | nil => intro i b; simp [foldL]
      | cons p m ih => intro i b; simp only [foldL, ih, List.any_cons, Bool.or_assoc]
    rw [key]
    simp only [Option.bind_some, sumE]
    by_cases h3 : 20 < l.length
    · have : (20 : Int) < (l.length : Int) := by omega
      simp [h3, this]
    have h3' : ¬ (20 : Int) < (l.length : Int) := by omega
    simp only [h3, h3', decide_false, Bool.false_or, if_false]
    generalize l.any (fun p => decide ((200 : Int) < (p.length : Int))) = long
    cases long with
    | true => rfl
    | false =>
      simp only [cond_false, Bool.false_eq_true, if_false]
      by_cases h4 : l.length = 0
      · simp [h4]
      have h4' : ¬ (l.length : Int) = 0 := by omega
      simp only [h4, h4', decide_false, cond_false, if_false]
      rw [loop_list (fun i _ => ((i, ()), ())) l (fun i p _ => found (if partE kind p = 0 then none else some (w3 (partE kind p)))) (fun _ => w0) (fun i a _ h => ?_) (fun _ => ?_) ()]
      · rw [foldL_find (fun p => if partE kind p = 0 then none else some (w3 (partE kind p))) l 0 (fun j a _ => rfl), find_w3 (partE kind) l]
        simp only [Option.bind_some]
        cases l.findSome? (fun p => if partE kind p = 0 then none else some (partE kind p)) with
        | some e => rfl
        | none =>
          by_cases h5 : kind = 3
          · simp [h5, w0, sumE]
          · simp [h5, w0, sumE]
      · have hlt := lt_of_get h
        have hal := hb a (List.mem_of_getElem? h)
        simp only [dec_lt hlt, inB_lt hlt, Int.toNat_natCast, h, cond_true, Option.bind_some]
        rw [wrapS hlt hl]
        rw [loop_list (fun i _ => ((i, ()), ())) a (fun i q _ => found (if far q then some (w3 1) else none)) (fun _ => w0) (fun i q _ hq => ?_) (fun _ => ?_) ()]
        · rw [foldL_find (fun q => if far q then some (w3 1) else none) a 0 (fun j q _ => rfl)]
          have hfar : ∀ (m : List DPt), (m.findSome? (fun q => if far q then some (w3 1) else none)).getD w0 = cond (m.any far) (w3 1) w0 := by
            intro m
            induction m with
            | nil => rfl
            | cons q m ih =>
              simp only [List.findSome?_cons, List.any_cons]
              by_cases hq : far q = true
              · simp [hq]
              · have hq' : far q = false := by simpa using hq
                simp [hq', ih]
          rw [hfar]
          rw [loop_list (fun i _ => ((i, ()), ())) a (fun i q _ => found (if kind = 2 then (match a[i + 1]? with | some b => if ptEq q b then some (w3 3) else none | none => none) else none)) (fun _ => w0) (fun i q _ hq => ?_) (fun _ => ?_) ()]
          · have hadj : foldL (fun (i : Nat) (q : DPt) (_ : Unit) => found (if kind = 2 then (match a[i + 1]? with | some b => if ptEq q b then some (w3 3) else none | none => none) else none)) (fun _ => w0) 0 a () = some (if kind = 2 ∧ adj a = true then w3 3 else w0) := by
              by_cases hk : kind = 2
              · simp only [hk, if_true, true_and]
                exact foldL_ahead a (fun i q _ => rfl) a 0 rfl
              · simp only [hk, if_false, false_and]
                exact foldL_nothing a 0 (fun i q _ => rfl)
            rw [hadj]
            unfold partE
            simp only [Option.bind_some]
            by_cases hf : a.any far = true
            · simp [hf, found, stepTo, w3, sumE]
            · have hf' : a.any far = false := by simpa using hf
              by_cases k1 : kind = 1
              · subst k1
                by_cases hl1 : a.length = 1
                · simp [hf', hl1, w0, sumE, found, stepTo]
                · have hl1' : ¬ (a.length : Int) = 1 := by omega
                  simp [hf', hl1, hl1', w0, w3, sumE, found, stepTo]
              · by_cases k2 : kind = 2
                · subst k2
                  by_cases hl1 : a.length < 2
                  · have hl1' : (a.length : Int) < 2 := by omega
                    simp [hf', hl1, hl1', w0, w3, sumE, found, stepTo]
                  · have hl1' : ¬ (a.length : Int) < 2 := by omega
                    by_cases ha : adj a = true
                    · simp [hf', hl1, hl1', ha, w0, w3, sumE, found, stepTo]
                    · simp [hf', hl1, hl1', ha, w0, w3, sumE, found, stepTo]
                · simp [hf', k1, k2, w0, sumE, found, stepTo]
          · have hqt := lt_of_get hq
            simp only [dec_lt hqt, inB_lt hqt, Int.toNat_natCast, hq, cond_true, Option.bind_some]
            rw [wrapS hqt hal]
            by_cases hk : kind = 2
            · subst hk
              by_cases hn : i + 1 < a.length
              · obtain ⟨b, hb1⟩ : ∃ b, a[i + 1]? = some b := ⟨_, List.getElem?_eq_getElem hn⟩
                have e1 : ((i : Int) + 1) = ((i + 1 : Nat) : Int) := by omega
                simp only [e1, dec_lt hn, inB_lt hn, Int.toNat_natCast, hb1, cond_true, Option.bind_some, decide_true]
                rw [← show ptEq q b = (decide (q.1 = b.1) && decide (q.2.1 = b.2.1)) from rfl]
                by_cases hp : ptEq q b = true
                · simp [hp, found, stepTo, w3]
                · have hp' : ptEq q b = false := by simpa using hp
                  simp [hp', found, stepTo]
              · have hb1 : a[i + 1]? = none := List.getElem?_eq_none_iff.2 (by omega)
                have e2 : decide (((i : Int) + 1) < (a.length : Int)) = false := by simp; omega
                simp [e2, hb1, found, stepTo]
            · simp [hk, found, stepTo]
          · simp only [dec_nlt, cond_false]
            rfl
        · have hqt := lt_of_get hq
          simp only [dec_lt hqt, inB_lt hqt, Int.toNat_natCast, hq, cond_true, Option.bind_some]
          rw [wrapS hqt hal]
          unfold far
          cases decide (q.1 < -1048576) <;> cases decide (1048576 < q.1) <;> cases decide (q.2.1 < -1048576) <;> cases decide (1048576 < q.2.1) <;> rfl
        · simp only [dec_nlt, cond_false]
          rfl
      · simp only [dec_nlt, cond_false]
        rfl
  · have hlt := lt_of_get h
    simp only [dec_lt hlt, inB_lt hlt, Int.toNat_natCast, h, cond_true, Option.bind_some]
    rw [wrapS hlt hl]
    cases b <;> rfl
  · simp only [dec_nlt, cond_false]
end Go.Proofs.YtgabpbnndikheaaDoor.I

/-! The check of areas always answers, plainly. -/
namespace Go.Proofs.YtgabpbnndikheaaDoor.I
open Go.RowKit
set_option linter.unusedVariables false
set_option linter.constructorNameAsVariable false
def Tot {α : Type} (o : Option α) : Prop := ∃ y, o = some y
theorem tot_some {α : Type} (y : α) : Tot (some y) := ⟨y, rfl⟩
theorem tot_bind {α β : Type} {o : Option α} {f : α → Option β} (h : Tot o) (k : ∀ y, Tot (f y)) : Tot (o.bind f) := by
  obtain ⟨y, rfl⟩ := h
  exact k y
theorem tot_cond {α : Type} {b : Bool} {x y : Option α} (h : Tot x) (k : Tot y) : Tot (cond b x y) := by
  cases b
  · exact k
  · exact h
/-- A loop that counts. -/
theorem tot_count {S D O : Type} {step : D → Option (D ⊕ O)} (emb : Int → S → D) (Inv : Nat → S → Prop) (n : Nat)
    (hin : ∀ (i : Nat) s, i < n → Inv i s → ∃ r, step (emb i s) = some r ∧ ((∃ s', r = .inl (emb ((i : Int) + 1) s') ∧ Inv (i + 1) s') ∨ ∃ o, r = .inr o))
    (hend : ∀ s, ∃ o, step (emb (n : Int) s) = some (.inr o)) (s : S) (h0 : Inv 0 s) : Tot (loop step (emb 0 s)) := by
  have key : ∀ (m i : Nat) (s : S), n - i = m → i ≤ n → Inv i s → Tot (loop step (emb (i : Int) s)) := by
    intro m
    induction m with
    | zero =>
      intro i s hm hi hI
      have : i = n := by omega
      subst this
      obtain ⟨o, ho⟩ := hend s
      exact ⟨o, by rw [loop_eq, ho]⟩
    | succ m ih =>
      intro i s hm hi hI
      obtain ⟨r, hr, h⟩ := hin i s (by omega) hI
      rw [loop_eq, hr]
      rcases h with ⟨s', rfl, hI'⟩ | ⟨o, rfl⟩
      · exact ih (i + 1) s' (by omega) (by omega) hI'
      · exact ⟨o, rfl⟩
  exact key n 0 s (by omega) (Nat.zero_le _) h0
theorem tot_sumE {α β γ : Type} {f : α → Option γ} {g : β → Option γ} (h : ∀ a, Tot (f a)) (k : ∀ b, Tot (g b)) (o : α ⊕ β) : Tot (sumE f g o) := by
  cases o
  · exact h _
  · exact k _
theorem tot_emptyE {γ : Type} (o : Empty) : Tot (emptyE (γ := Option γ) o) := nomatch o
/-- What a round may come to. -/
def Good {S D O : Type} (emb : Int → S → D) (Inv : Nat → S → Prop) (i : Nat) (x : Option (D ⊕ O)) : Prop := (∃ s', x = some (.inl (emb ((i : Int) + 1) s')) ∧ Inv (i + 1) s') ∨ ∃ o, x = some (.inr o)
section
variable {S D O : Type} {emb : Int → S → D} {Inv : Nat → S → Prop} {i : Nat}
theorem good_cond {b : Bool} {x y : Option (D ⊕ O)} (h : Good emb Inv i x) (k : Good emb Inv i y) : Good emb Inv i (cond b x y) := by
  cases b
  · exact k
  · exact h
theorem good_bind {α : Type} {o : Option α} {f : α → Option (D ⊕ O)} (h : Tot o) (k : ∀ y, Good emb Inv i (f y)) : Good emb Inv i (o.bind f) := by
  obtain ⟨y, rfl⟩ := h
  exact k y
theorem good_out (o : O) : Good emb Inv i (some (.inr o) : Option (D ⊕ O)) := .inr ⟨o, rfl⟩
theorem good_next (s' : S) (h : Inv (i + 1) s') : Good emb Inv i (some (.inl (emb ((i : Int) + 1) s')) : Option (D ⊕ O)) := .inl ⟨s', rfl, h⟩
theorem good_sumE {α β : Type} {f : α → Option (D ⊕ O)} {g : β → Option (D ⊕ O)} (h : ∀ a, Good emb Inv i (f a)) (k : ∀ b, Good emb Inv i (g b)) (o : α ⊕ β) : Good emb Inv i (sumE f g o) := by
  cases o
  · exact h _
  · exact k _
theorem good_emptyE (o : Empty) : Good emb Inv i (emptyE (γ := Option (D ⊕ O)) o) := nomatch o
theorem tot_loop {step : D → Option (D ⊕ O)} (emb : Int → S → D) (Inv : Nat → S → Prop) (n : Nat) (hin : ∀ (i : Nat) s, i < n → Inv i s → Good emb Inv i (step (emb i s))) (hend : ∀ s, ∃ o, step (emb (n : Int) s) = some (.inr o)) (s : S) (h0 : Inv 0 s) : Tot (loop step (emb 0 s)) :=
  tot_count emb Inv n (fun i s hi hI => by
    rcases hin i s hi hI with ⟨s', h1, h2⟩ | ⟨o, h1⟩
    · exact ⟨_, h1, .inl ⟨s', rfl, h2⟩⟩
    · exact ⟨_, h1, .inr ⟨o, rfl⟩⟩) hend s h0
end
theorem at_next {α : Type} {xs : List α} {i : Nat} (hi : i < xs.length) (hl : xs.length ≤ 9223372036854775807) :
    inB (Int.tmod (IntKind.wrap .i64 ((i : Int) + 1)) (xs.length : Int)) xs.length = true ∧ ∃ a, xs[Int.toNat (Int.tmod (IntKind.wrap .i64 ((i : Int) + 1)) (xs.length : Int))]? = some a := by
  rw [wrapS hi hl, show (i : Int) + 1 = ((i + 1 : Nat) : Int) by omega, ← Int.ofNat_tmod]
  have hlt : (i + 1) % xs.length < xs.length := Nat.mod_lt _ (by omega)
  exact ⟨inB_lt hlt, by rw [Int.toNat_natCast]; exact ⟨_, List.getElem?_eq_getElem hlt⟩⟩
theorem t110 (x) : Tot (r110 x) := tot_bind (tot_some _) fun _ => tot_bind (tot_some _) fun _ => tot_some _
theorem t153 (x) : Tot (r153 x) := tot_bind (t110 _) fun _ => tot_bind (t110 _) fun _ => tot_some _
theorem t149 (x) : Tot (r149 x) := tot_bind (t153 _) fun _ => tot_bind (t153 _) fun _ => tot_some _
theorem t154 (x) : Tot (r154 x) := tot_bind (t153 _) fun _ => tot_bind (t153 _) fun _ => tot_some _
theorem t36 (x) : Tot (r36 x) := tot_bind (tot_some _) fun _ => tot_bind (tot_some _) fun _ => tot_cond (tot_cond (tot_some _) (tot_some _)) (tot_cond (tot_some _) (tot_cond (tot_some _) (tot_cond (tot_some _) (tot_some _))))
theorem t143 (x) : Tot (r143 x) := tot_bind (t149 _) fun _ => tot_bind (t36 _) fun _ => tot_some _
theorem t87 (x) : Tot (r87 x) := tot_bind (t110 _) fun _ => tot_some _
theorem t111 (x) : Tot (r111 x) := tot_bind (t87 _) fun _ => tot_some _
theorem t151 (x) : Tot (r151 x) := tot_bind (t143 _) fun _ => tot_cond (tot_bind (t154 _) fun _ => tot_some _) (tot_some _)
abbrev IU : Type := (Int × Unit) × Unit
@[reducible] def embI (i : Int) (_ : Unit) : IU := ((i, ()), ())
theorem t145 (l : List Int) (n : Int) (hl : l.length ≤ 9223372036854775807) : Tot (r145 (l, (n, ()))) := by
  unfold r145
  refine tot_bind (tot_loop embI (fun _ _ => True) l.length (fun i _ hi _ => ?_) (fun _ => ?_) () trivial) (tot_sumE (fun _ => tot_some _) (tot_sumE (fun _ => tot_some _) tot_emptyE))
  · obtain ⟨a, ha⟩ : ∃ a, l[i]? = some a := ⟨_, List.getElem?_eq_getElem hi⟩
    dsimp only [embI]
    simp only [dec_lt hi, inB_lt hi, Int.toNat_natCast, ha, cond_true, Option.bind_some]
    rw [wrapS hi hl]
    exact good_cond (good_out _) (good_next () trivial)
  · dsimp only [embI]
    simp only [dec_nlt, cond_false]
    exact ⟨_, rfl⟩
theorem t130 (l : List Int) (n : Int) (hl : l.length ≤ 9223372036854775807) : Tot (r130 (l, (n, ()))) := tot_bind (t145 l n hl) fun _ => tot_some _
theorem t109 (l : List DPt) (hl : l.length ≤ 9223372036854775807) : Tot (r109_111 (l, ((), ()))) := by
  unfold r109_111
  refine tot_bind (tot_loop embI (fun _ _ => True) l.length (fun i _ hi _ => ?_) (fun _ => ?_) () trivial) (tot_sumE (fun _ => tot_some _) (tot_sumE (fun _ => tot_some _) tot_emptyE))
  · obtain ⟨a, ha⟩ : ∃ a, l[i]? = some a := ⟨_, List.getElem?_eq_getElem hi⟩
    dsimp only [embI]
    simp only [dec_lt hi, inB_lt hi, Int.toNat_natCast, ha, cond_true, Option.bind_some]
    rw [wrapS hi hl]
    exact good_bind (t111 _) fun _ => good_cond (good_out _) (good_next () trivial)
  · dsimp only [embI]
    simp only [dec_nlt, cond_false]
    exact ⟨_, rfl⟩
theorem t85 (l : List DPt) (hl : l.length ≤ 9223372036854775807) : Tot (r85_111 (l, ((), ()))) := tot_bind (t109 l hl) fun _ => tot_some _
/-- A shared point is listed once. -/
theorem t150 (x) (d : List DPt) (hd : d.length ≤ 3) : ∃ d', r150 x (d, ()) = some ((), (d', ())) ∧ d'.length ≤ d.length + 1 := by
  unfold r150
  obtain ⟨y, hy⟩ := t151 ((x.2.1.1, (x.2.1.2.1, ())), ((x.2.2.1.1, (x.2.2.1.2.1, ())), ((x.1.1, (x.1.2.1, ())), ())))
  simp only [hy, Option.bind_some]
  cases y.1 with
  | false => exact ⟨d, rfl, by omega⟩
  | true =>
    simp only [Bool.not_true, cond_false]
    have hl : Tot (loop (fun (x1 : IU) => (cond (Decidable.decide (LT.lt x1.1.1 (Nat.cast (List.length d) : Int))) (cond (inB x1.1.1 (List.length d)) (Option.bind (GetElem?.getElem? d (Int.toNat x1.1.1)) (fun x2 => (cond (Bool.and (Decidable.decide (Eq x2.1 x.1.1)) (Decidable.decide (Eq x2.2.1 x.1.2.1))) (Option.some (Sum.inr (Sum.inl (Unit.unit, Unit.unit)))) (Option.some (Sum.inl (((IntKind.wrap IntKind.i64 (HAdd.hAdd x1.1.1 (1 : Int))), Unit.unit), Unit.unit)))))) (Option.none)) (Option.some (Sum.inr (Sum.inr (Sum.inl (Unit.unit, Unit.unit) : (Unit × Unit) ⊕ Empty) : (Unit × Unit) ⊕ (Unit × Unit) ⊕ Empty))))) (embI 0 ())) := by
      refine tot_loop embI (fun _ _ => True) d.length (fun i _ hi _ => ?_) (fun _ => ?_) () trivial
      · obtain ⟨a, ha⟩ : ∃ a, d[i]? = some a := ⟨_, List.getElem?_eq_getElem hi⟩
        dsimp only [embI]
        simp only [dec_lt hi, inB_lt hi, Int.toNat_natCast, ha, cond_true, Option.bind_some]
        rw [wrapS hi (by omega)]
        exact good_cond (good_out _) (good_next () trivial)
      · dsimp only [embI]
        simp only [dec_nlt, cond_false]
        exact ⟨_, rfl⟩
    obtain ⟨o, ho⟩ := hl
    refine Exists.imp (fun d' h => ⟨?_, h.2⟩) (p := fun d' => sumE (fun _ => some ((), (d, ()))) (sumE (fun _ => (cond (fits (d.length + (List.cons (x.1.1, (x.1.2.1, ())) []).length) 16) (some ((), ((d ++ [(x.1.1, (x.1.2.1, ()))]), ()))) none)) emptyE) o = some ((), (d', ())) ∧ d'.length ≤ d.length + 1) ?_
    · refine Eq.trans ?_ h.1
      exact congrArg (fun z => Option.bind z _) ho
    · rcases o with o | o | o
      · exact ⟨d, rfl, by omega⟩
      · refine ⟨d ++ [(x.1.1, (x.1.2.1, ()))], ?_, by simp⟩
        have : fits (d.length + 1) 16 = true := by unfold fits; simp; omega
        simp only [sumE, List.length_cons, List.length_nil, this, cond_true]
      · exact nomatch o
theorem t144 (x) : Tot (r144 x) := by
  unfold r144
  obtain ⟨d1, h1, l1⟩ := t150 ((x.1.1, (x.1.2.1, ())), ((x.2.2.1.1, (x.2.2.1.2.1, ())), ((x.2.2.2.1.1, (x.2.2.2.1.2.1, ())), ()))) [] (by simp)
  obtain ⟨d2, h2, l2⟩ := t150 ((x.2.1.1, (x.2.1.2.1, ())), ((x.2.2.1.1, (x.2.2.1.2.1, ())), ((x.2.2.2.1.1, (x.2.2.2.1.2.1, ())), ()))) d1 (by simp at l1; omega)
  obtain ⟨d3, h3, l3⟩ := t150 ((x.2.2.1.1, (x.2.2.1.2.1, ())), ((x.1.1, (x.1.2.1, ())), ((x.2.1.1, (x.2.1.2.1, ())), ()))) d2 (by simp at l1; omega)
  obtain ⟨d4, h4, l4⟩ := t150 ((x.2.2.2.1.1, (x.2.2.2.1.2.1, ())), ((x.1.1, (x.1.2.1, ())), ((x.2.1.1, (x.2.1.2.1, ())), ()))) d3 (by simp at l1; omega)
  simp only [h1, h2, h3, h4, Option.bind_some]
  exact tot_some _
theorem t128 (x) : Tot (r128 x) := tot_bind (t110 _) fun _ => tot_bind (t110 _) fun _ => tot_bind (t110 _) fun _ => tot_bind (t110 _) fun _ => tot_bind (t143 _) fun _ => tot_bind (t143 _) fun _ =>
  tot_cond (tot_bind (t143 _) fun _ => tot_bind (t143 _) fun _ => tot_cond (tot_some _) (tot_bind (t144 _) fun _ => tot_some _)) (tot_bind (t144 _) fun _ => tot_some _)
theorem t113 (x) : Tot (r113 x) := tot_bind (t128 _) fun _ => tot_cond (tot_some _) (tot_cond (tot_cond (tot_some _) (tot_cond (tot_some _) (tot_cond (tot_some _) (tot_some _)))) (tot_some _))
end Go.Proofs.YtgabpbnndikheaaDoor.I

/-! The check of areas always answers, plainly: rings, sides, areas. -/
namespace Go.Proofs.YtgabpbnndikheaaDoor.I
open Go.RowKit
set_option linter.unusedVariables false
set_option linter.constructorNameAsVariable false
theorem len0 {α : Type} {l : List α} {i : Nat} (h : i < l.length) : decide ((l.length : Int) = 0) = false := decide_eq_false (by omega)
theorem t112 (l : List DPt) (i k : Nat) (hi : i < l.length) (hk : k < l.length) (hl : l.length ≤ 9223372036854775807) : Tot (r112 (l, ((i : Int), ((k : Int), ())))) := by
  unfold r112
  obtain ⟨b1, a1, ha1⟩ := at_next hi hl
  obtain ⟨b2, a2, ha2⟩ := at_next hk hl
  obtain ⟨a3, ha3⟩ : ∃ a, l[i]? = some a := ⟨_, List.getElem?_eq_getElem hi⟩
  obtain ⟨a4, ha4⟩ : ∃ a, l[k]? = some a := ⟨_, List.getElem?_eq_getElem hk⟩
  simp only [inB_lt hi, inB_lt hk, Int.toNat_natCast, ha3, ha4, b1, b2, ha1, ha2, len0 hi, cond_true, cond_false, Option.bind_some]
  exact tot_cond (tot_some _) (tot_cond (tot_some _) (tot_cond (tot_bind (t128 _) fun _ => tot_some _) (tot_cond (tot_bind (t128 _) fun _ => tot_some _) (tot_bind (t128 _) fun _ => tot_some _))))
theorem t129 (l m : List DPt) (i : Nat) (hi : i < l.length) (hl : l.length ≤ 9223372036854775807) (hm : m.length ≤ 9223372036854775807) : Tot (r129 (l, ((i : Int), (m, ())))) := by
  unfold r129
  obtain ⟨b1, a1, ha1⟩ := at_next hi hl
  obtain ⟨a3, ha3⟩ : ∃ a, l[i]? = some a := ⟨_, List.getElem?_eq_getElem hi⟩
  simp only [inB_lt hi, Int.toNat_natCast, ha3, b1, ha1, len0 hi, cond_true, cond_false, Option.bind_some]
  refine tot_bind (tot_loop (fun i (n : Int) => ((n, (i, ())), ())) (fun _ _ => True) m.length (fun j n hj _ => ?_) (fun _ => ?_) (-1) trivial) (tot_sumE (fun _ => tot_some _) tot_emptyE)
  · obtain ⟨c1, d1, hd1⟩ := at_next hj hm
    obtain ⟨d3, hd3⟩ : ∃ a, m[j]? = some a := ⟨_, List.getElem?_eq_getElem hj⟩
    dsimp only
    simp only [dec_lt hj, inB_lt hj, Int.toNat_natCast, hd3, c1, hd1, len0 hj, cond_true, cond_false, Option.bind_some]
    rw [wrapS hj hm]
    refine good_cond (good_cond (good_cond (good_cond ?_ ?_) ?_) ?_) (good_cond (good_cond (good_cond ?_ ?_) ?_) ?_) <;> exact good_next _ trivial
  · dsimp only
    simp only [dec_nlt, cond_false]
    exact ⟨_, rfl⟩
theorem t114 (l m : List DPt) (hl : l.length ≤ 200) (hm : m.length ≤ 9223372036854775807) : Tot (r114 (l, (m, ()))) := by
  unfold r114
  refine tot_bind (tot_loop (fun i (s : List Int) => ((s, (i, ())), ())) (fun i s => s.length ≤ i) l.length (fun j s hj hs => ?_) (fun _ => ?_) [] (Nat.le_refl _)) (tot_sumE (fun _ => tot_some _) tot_emptyE)
  · dsimp only
    simp only [dec_lt hj, cond_true]
    rw [wrapS hj (by omega)]
    refine good_bind (t129 l m j hj (by omega) hm) fun n => good_bind (t130 s n.1 (by omega)) fun b => good_cond ?_ (good_next s (by omega))
    have : fits (s.length + 1) 8 = true := by unfold fits; simp; omega
    simp only [List.length_cons, List.length_nil, Nat.zero_add, this, cond_true]
    exact good_next (s ++ [n.1]) (by simp; omega)
  · dsimp only
    simp only [dec_nlt, cond_false]
    exact ⟨_, rfl⟩
theorem t89 (l m : List DPt) (hl : l.length ≤ 200) (hm : m.length ≤ 200) : Tot (r89 (l, (m, ()))) := by
  unfold r89
  refine tot_bind (tot_loop embI (fun _ _ => True) l.length (fun i _ hi _ => ?_) (fun _ => ?_) () trivial) (tot_sumE (fun _ => tot_some _) (tot_sumE (fun _ => ?_) tot_emptyE))
  · dsimp only [embI]
    simp only [dec_lt hi, cond_true]
    rw [wrapS hi (by omega)]
    refine good_bind (tot_loop embI (fun _ _ => True) m.length (fun j _ hj _ => ?_) (fun _ => ?_) () trivial) (good_sumE (fun _ => good_out _) (good_sumE (fun _ => good_next () trivial) good_emptyE))
    · obtain ⟨b1, a1, ha1⟩ := at_next hi (by omega)
      obtain ⟨b2, a2, ha2⟩ := at_next hj (by omega)
      rw [wrapS hi (by omega)] at b1 ha1
      obtain ⟨a3, ha3⟩ : ∃ a, l[i]? = some a := ⟨_, List.getElem?_eq_getElem hi⟩
      obtain ⟨a4, ha4⟩ : ∃ a, m[j]? = some a := ⟨_, List.getElem?_eq_getElem hj⟩
      dsimp only [embI]
      simp only [dec_lt hj, inB_lt hi, inB_lt hj, Int.toNat_natCast, ha3, ha4, b1, b2, ha1, ha2, len0 hi, len0 hj, cond_true, cond_false, Option.bind_some]
      refine good_bind (t113 _) fun _ => good_cond (good_out _) ?_
      rw [wrapS hj (by omega)]
      exact good_next () trivial
    · dsimp only [embI]
      simp only [dec_nlt, cond_false]
      exact ⟨_, rfl⟩
  · dsimp only [embI]
    simp only [dec_nlt, cond_false]
    exact ⟨_, rfl⟩
  · exact tot_bind (t114 l m hl (by omega)) fun _ => tot_cond (tot_bind (t114 m l hm (by omega)) fun _ => tot_some _) (tot_some _)
theorem t88 (l : List DPt) (hl : l.length ≤ 9223372036854775807) : Tot (r88 (l, ())) := by
  unfold r88
  refine tot_cond (tot_some _) (tot_cond (tot_some _) (tot_bind (t85 l hl) fun _ => tot_cond (tot_some _) (tot_bind (tot_loop embI (fun _ _ => True) l.length (fun i _ hi _ => ?_) (fun _ => ?_) () trivial) (tot_sumE (fun _ => tot_some _) (tot_sumE (fun _ => tot_some _) tot_emptyE)))))
  · dsimp only [embI]
    simp only [dec_lt hi, cond_true]
    rw [wrapS hi hl]
    refine good_bind (tot_loop embI (fun _ _ => True) i (fun j _ hj _ => ?_) (fun _ => ?_) () trivial) (good_sumE (fun _ => good_out _) (good_sumE (fun _ => good_next () trivial) good_emptyE))
    · dsimp only [embI]
      simp only [dec_lt hj, cond_true]
      rw [wrapS hj (by omega)]
      exact good_bind (t112 l j i (by omega) hi hl) fun _ => good_cond (good_out _) (good_next () trivial)
    · dsimp only [embI]
      simp only [dec_nlt, cond_false]
      exact ⟨_, rfl⟩
  · dsimp only [embI]
    simp only [dec_nlt, cond_false]
    exact ⟨_, rfl⟩
theorem t50 (l : List (List DPt)) (hl : l.length ≤ 9223372036854775807) (hp : ∀ p ∈ l, p.length ≤ 200) : Tot (r50 (l, ())) := by
  unfold r50
  refine tot_cond (tot_some _) (tot_bind (tot_loop embI (fun _ _ => True) l.length (fun i _ hi _ => ?_) (fun _ => ?_) () trivial) (tot_sumE (fun _ => tot_some _) (tot_sumE (fun _ => tot_bind (tot_loop embI (fun _ _ => True) l.length (fun i _ hi _ => ?_) (fun _ => ?_) () trivial) (tot_sumE (fun _ => tot_some _) (tot_sumE (fun _ => tot_some _) tot_emptyE))) tot_emptyE)))
  · obtain ⟨a, ha⟩ : ∃ a, l[i]? = some a := ⟨_, List.getElem?_eq_getElem hi⟩
    dsimp only [embI]
    simp only [dec_lt hi, inB_lt hi, Int.toNat_natCast, ha, cond_true, Option.bind_some]
    rw [wrapS hi hl]
    exact good_bind (t88 a (by have := hp a (List.mem_of_getElem? ha); omega)) fun _ => good_cond (good_out _) (good_next () trivial)
  · dsimp only [embI]
    simp only [dec_nlt, cond_false]
    exact ⟨_, rfl⟩
  · obtain ⟨a, ha⟩ : ∃ a, l[i]? = some a := ⟨_, List.getElem?_eq_getElem hi⟩
    have hup : upTo (i : Int) (l.length : Int) = true := by unfold upTo; simp; omega
    dsimp only [embI]
    simp only [dec_lt hi, inB_lt hi, Int.toNat_natCast, ha, hup, cond_true, Option.bind_some]
    rw [wrapS hi hl]
    refine good_bind (tot_loop embI (fun _ _ => True) (l.take i).length (fun j _ hj _ => ?_) (fun _ => ?_) () trivial) (good_sumE (fun _ => good_out _) (good_sumE (fun _ => good_next () trivial) good_emptyE))
    · obtain ⟨b, hb⟩ : ∃ a, (l.take i)[j]? = some a := ⟨_, List.getElem?_eq_getElem hj⟩
      have hjl : (l.take i).length ≤ 9223372036854775807 := by rw [List.length_take]; omega
      dsimp only [embI]
      simp only [dec_lt hj, inB_lt hj, Int.toNat_natCast, hb, cond_true, Option.bind_some]
      rw [wrapS hj hjl]
      exact good_bind (t89 a b (hp a (List.mem_of_getElem? ha)) (hp b (List.mem_of_mem_take (List.mem_of_getElem? hb)))) fun _ => good_cond (good_out _) (good_next () trivial)
    · dsimp only [embI]
      simp only [dec_nlt, cond_false]
      exact ⟨_, rfl⟩
  · dsimp only [embI]
    simp only [dec_nlt, cond_false]
    exact ⟨_, rfl⟩
end Go.Proofs.YtgabpbnndikheaaDoor.I

/-! Features and surveys: the program's check and the reference's agree and always answer, plainly. -/
namespace Go.Proofs.YtgabpbnndikheaaDoor.I
open Go.RowKit
set_option linter.unusedVariables false
set_option linter.constructorNameAsVariable false
abbrev kPt : Kd := .pair (.int .i64) (.pair (.int .i64) .unit)
abbrev kVal : Kd := .pair (.int .i64) (.pair (.int .i64) (.pair .str (.pair .bool .unit)))
abbrev kAtt : Kd := .pair .str (.pair kVal .unit)
abbrev kFea : Kd := .pair (.int .i64) (.pair (.int .i64) (.pair (.slice (.slice kPt)) (.pair (.slice kAtt) (.pair (.int .i64) (.pair (.int .i64) .unit)))))
noncomputable def areaO (l : List (List DPt)) : Option (Int × Unit) := Option.bind (r50 (l, ())) fun x => some (x.1, ())
noncomputable def partsV (kind : Int) (l : List (List DPt)) : Int := ((partsE (areaO l) kind l).getD (0, ())).1
theorem parts_some {kind : Int} {l : List (List DPt)} (hs : small (.slice (.slice kPt)) l) : partsE (areaO l) kind l = some (partsV kind l, ()) := by
  obtain ⟨hl, hb⟩ := parts_bounds hs
  have key : Tot (partsE (areaO l) kind l) := by
    unfold partsE
    split
    · exact tot_some _
    split
    · exact tot_some _
    split
    · exact tot_some _
    split
    · exact tot_some _
    rename_i hlong
    split
    · exact tot_some _
    split
    · exact tot_some _
    split
    · unfold areaO
      refine tot_bind (t50 l hl (fun p hp => ?_)) fun _ => tot_some _
      rcases Nat.lt_or_ge 200 p.length with h | h
      · exact absurd (List.any_eq_true.2 ⟨p, hp, by simp; omega⟩) hlong
      · exact h
    · exact tot_some _
  obtain ⟨y, hy⟩ := key
  unfold partsV
  rw [hy]
  rfl
noncomputable def featV (f : DFea) : Int :=
  if f.1 < 1 then 1 else if 1073741824 < f.1 then 1 else if partsV f.2.1 f.2.2.1 ≠ 0 then partsV f.2.1 f.2.2.1 else if attrsE false f.2.2.2.1 ≠ 0 then attrsE false f.2.2.2.1
  else if f.2.2.2.2.1 < 0 then 1 else if 1073741824 < f.2.2.2.2.2.1 then 1 else if f.2.2.2.2.2.1 ≤ f.2.2.2.2.1 then 1 else 0
theorem fea_small {f : DFea} (h : small kFea f) : small (.slice (.slice kPt)) f.2.2.1 ∧ small (.slice kAtt) f.2.2.2.1 := ⟨h.2.2.1, h.2.2.2.1⟩
theorem r18_eq (f : DFea) (h : small kFea f) : r18 (f, ()) = some (featV f, ()) := by
  obtain ⟨h1, h2⟩ := fea_small h
  unfold r18 featV
  have e1 : r20 (f.2.1, (f.2.2.1, ())) = some (partsV f.2.1 f.2.2.1, ()) := (r20_eq f.2.1 f.2.2.1 h1).trans (parts_some h1)
  have e2 : r22 (f.2.2.2.1, (false, ())) = some (attrsE false f.2.2.2.1, ()) := r22_eq f.2.2.2.1 false h2
  simp only [e1, e2, Option.bind_some]
  generalize partsV f.2.1 f.2.2.1 = p
  generalize attrsE false f.2.2.2.1 = a
  obtain ⟨id, kind, ps, ats, fr, tt, ⟨⟩⟩ := f
  simp only
  by_cases k1 : id < 1
  · simp [k1]
  by_cases k2 : 1073741824 < id
  · simp [k1, k2]
  by_cases k3 : p = 0 <;> by_cases k4 : a = 0 <;> by_cases k5 : fr < 0 <;> by_cases k6 : 1073741824 < tt <;> by_cases k7 : tt ≤ fr <;> simp [k1, k2, k3, k4, k5, k6, k7]
theorem r19_eq (f : DFea) (h : small kFea f) : r19 (f, ()) = some (featV f, ()) := by
  obtain ⟨h1, h2⟩ := fea_small h
  unfold r19 featV
  have e1 : r21 (f.2.1, (f.2.2.1, ())) = some (partsV f.2.1 f.2.2.1, ()) := (r21_eq f.2.1 f.2.2.1 h1).trans (parts_some h1)
  have e2 : r23 (f.2.2.2.1, (false, ())) = some (attrsE false f.2.2.2.1, ()) := r23_eq f.2.2.2.1 false h2
  simp only [e1, e2, Option.bind_some]
  generalize partsV f.2.1 f.2.2.1 = p
  generalize attrsE false f.2.2.2.1 = a
  obtain ⟨id, kind, ps, ats, fr, tt, ⟨⟩⟩ := f
  simp only
  by_cases k1 : id < 1
  · have : id ≤ 0 := by omega
    simp [k1, this]
  have k1' : ¬ id ≤ 0 := by omega
  by_cases k2 : 1073741824 < id
  · simp [k1, k1', k2]
  by_cases k3 : p = 0 <;> by_cases k4 : a = 0 <;> by_cases k5 : fr < 0 <;> by_cases k6 : 1073741824 < tt <;> by_cases k7 : tt ≤ fr <;> simp [k1, k1', k2, k3, k4, k5, k6, k7]
theorem featV_pos {f : DFea} (h : featV f = 0) : 1 ≤ f.1 := by
  unfold featV at h
  by_cases k1 : f.1 < 1
  · simp [k1] at h
  · omega
noncomputable def survF (last : Int) (f : DFea) : Option Int := if featV f ≠ 0 then some (featV f) else if f.1 ≤ last then some 9 else none
noncomputable def survV (l : List DFea) : Int := if 200 < l.length then 2 else scan survF (fun f => f.1) 0 0 l
theorem surv_end (l : List DFea) (p : Int) : (sumE (fun x0 => some (x0.1.1, ())) (sumE (fun x0 => some ((0 : Int), ())) emptyE) : O3 → Option (Int × Unit)) (scan (fun p a => (survF p a).map w3) (fun f => f.1) w0 p l) = some (scan survF (fun f => f.1) 0 p l, ()) := by
  have := scan_map (sumE (fun x0 => some (x0.1.1, ())) (sumE (fun x0 => some ((0 : Int), ())) emptyE) : O3 → Option (Int × Unit)) (fun p a => (survF p a).map w3) (fun f : DFea => f.1) w0 l p
  refine this.trans ?_
  have h2 := scan_map (fun e : Int => some (e, ())) survF (fun f : DFea => f.1) 0 l p
  refine Eq.trans ?_ h2.symm
  refine scan_congr (fun p a _ => ?_)
  cases survF p a <;> rfl
theorem surv_small {l : List DFea} (h : small (.slice kFea) l) : l.length ≤ 9223372036854775807 ∧ ∀ f ∈ l, small kFea f := by
  have hm : maxLen = 9223372036854775807 := rfl
  have h' := h
  unfold small at h'
  rw [hm] at h'
  exact h'
theorem r16_eq (l : List DFea) (h : small (.slice kFea) l) : r16 (l, ()) = some (survV l, ()) := by
  obtain ⟨hl, hb⟩ := surv_small h
  unfold r16 survV
  by_cases h8 : 200 < l.length
  · have : decide ((200 : Int) < (l.length : Int)) = true := by simp; omega
    rw [if_pos h8]
    simp only [this, cond_true]
  · rw [if_neg h8]
    have : decide ((200 : Int) < (l.length : Int)) = false := by simp; omega
    simp only [this, cond_false]
    rw [loop_list (fun i _ => ((i, ()), ())) l (fun i a _ => found ((survF (prevOf (fun f => f.1) 0 l i) a).map w3)) (fun _ => w0) (fun i a _ h => ?_) (fun _ => ?_) ()]
    · rw [foldL_prev (fun p a => (survF p a).map w3) (fun f => f.1) w0 0 l (fun i a _ => rfl) l 0 rfl]
      simp only [Option.bind_some]
      exact surv_end l 0
    · have hlt := lt_of_get h
      have hv : r18 ((a.1, (a.2.1, (a.2.2.1, (a.2.2.2.1, (a.2.2.2.2.1, (a.2.2.2.2.2.1, ())))))), ()) = some (featV a, ()) := r18_eq a (hb a (List.mem_of_getElem? h))
      simp only [dec_lt hlt, inB_lt hlt, Int.toNat_natCast, h, cond_true, Option.bind_some, hv]
      rw [wrapS hlt hl]
      by_cases hz : featV a = 0
      · cases i with
        | zero =>
          have hp := featV_pos hz
          have hd0 : decide ((0 : Int) < ((0 : Nat) : Int)) = false := by simp
          have hn : ¬ a.1 ≤ 0 := by omega
          simp [hd0, survF, prevOf, hz, hn, found, stepTo]
        | succ j =>
          have hd0 : decide ((0 : Int) < ((j + 1 : Nat) : Int)) = true := by simp
          obtain ⟨b, hbj⟩ : ∃ b, l[j]? = some b := ⟨_, List.getElem?_eq_getElem (by omega)⟩
          have hw : IntKind.wrap .i64 (((j + 1 : Nat) : Int) - 1) = (j : Int) := by rw [wrap64 (by omega) (by omega)]; omega
          simp only [hd0, cond_true, prevOf, hbj, hw, inB_lt (show j < l.length by omega), Int.toNat_natCast, Option.bind_some, hz]
          by_cases hc : a.1 ≤ b.1 <;> simp [survF, hz, hc, found, stepTo, w3]
      · simp [survF, hz, found, stepTo, w3]
    · simp only [dec_nlt, cond_false]
      rfl
theorem r17_eq (l : List DFea) (h : small (.slice kFea) l) : r17 (l, ()) = some (survV l, ()) := by
  obtain ⟨hl, hb⟩ := surv_small h
  unfold r17 survV
  by_cases h8 : 200 < l.length
  · have : decide ((200 : Int) < (l.length : Int)) = true := by simp; omega
    rw [if_pos h8]
    simp only [this, cond_true]
  · rw [if_neg h8]
    have : decide ((200 : Int) < (l.length : Int)) = false := by simp; omega
    simp only [this, cond_false]
    rw [loop_list (fun i (p : Int) => ((p, (i, ())), ())) l (fun i a p => stepK a.1 ((survF p a).map w3)) (fun _ => w0) (fun i a p h => ?_) (fun _ => ?_) 0]
    · rw [foldL_state (fun p a => (survF p a).map w3) (fun f => f.1) w0 l 0 _ (fun i a p _ => rfl)]
      simp only [Option.bind_some]
      exact surv_end l 0
    · have hlt := lt_of_get h
      have hv : r19 ((a.1, (a.2.1, (a.2.2.1, (a.2.2.2.1, (a.2.2.2.2.1, (a.2.2.2.2.2.1, ())))))), ()) = some (featV a, ()) := r19_eq a (hb a (List.mem_of_getElem? h))
      simp only [dec_lt hlt, inB_lt hlt, Int.toNat_natCast, h, cond_true, Option.bind_some, hv]
      rw [wrapS hlt hl]
      by_cases hz : featV a = 0
      · by_cases hc : a.1 ≤ p <;> simp [survF, hz, hc, stepK, stepTo, w3]
      · simp [survF, hz, stepK, stepTo, w3]
    · simp only [dec_nlt, cond_false]
      rfl
end Go.Proofs.YtgabpbnndikheaaDoor.I

/-! Numbers as bytes, plainly. -/
namespace Go.Proofs.YtgabpbnndikheaaDoor.I
open Go.RowKit
set_option linter.unusedVariables false
set_option linter.constructorNameAsVariable false
def toI (l : List UInt8) : List Int := l.map fun b => (b.toNat : Int)
theorem toI_len (l : List UInt8) : (toI l).length = l.length := by simp [toI]
theorem toI_app (a b : List UInt8) : toI (a ++ b) = toI a ++ toI b := by simp [toI]
theorem mkStr_toI (l : List UInt8) : mkStr (toI l) = ⟨l.toArray⟩ := by
  unfold mkStr toI
  congr 2
  rw [List.map_map]
  conv => rhs; rw [← List.map_id l]
  refine List.map_congr_left (fun b _ => ?_)
  simp
theorem bytesOf_toI (s : ByteArray) : bytesOf s = toI s.data.toList := rfl
def vpre (u : Nat) : List UInt8 := if h : u < 128 then [] else UInt8.ofNat (u % 128 + 128) :: vpre (u / 128)
def vlast (u : Nat) : Nat := if h : u < 128 then u else vlast (u / 128)
theorem varint_split (u : Nat) : varint u = vpre u ++ [UInt8.ofNat (vlast u)] := by
  induction u using Nat.strongRecOn with
  | _ u ih =>
    by_cases h : u < 128
    · rw [varint_lt h, vpre, dif_pos h, vlast, dif_pos h]; rfl
    · rw [varint_ge (by omega), vpre, dif_neg h, vlast, dif_neg h, ih (u / 128) (by omega)]; rfl
theorem vlast_lt (u : Nat) : vlast u < 128 := by
  induction u using Nat.strongRecOn with
  | _ u ih =>
    rw [vlast]
    split
    · assumption
    · exact ih _ (by omega)
theorem loop_var {D O σ : Type} {step : D → Option (D ⊕ O)} (emb : Int → σ → D) (push : σ → UInt8 → σ) (ok : σ → Nat → Prop) (out : Int → σ → O)
    (hge : ∀ (m : Nat) s, 128 ≤ m → m < 18446744073709551616 → ok s m → step (emb m s) = some (.inl (emb ((m / 128 : Nat) : Int) (push s (UInt8.ofNat (m % 128 + 128))))) ∧ ok (push s (UInt8.ofNat (m % 128 + 128))) (m / 128))
    (hlt : ∀ (m : Nat) s, m < 128 → ok s m → step (emb m s) = some (.inr (out m s))) : ∀ (m : Nat) (s : σ), m < 18446744073709551616 → ok s m → loop step (emb m s) = some (out (vlast m : Int) ((vpre m).foldl push s)) := by
  intro m
  induction m using Nat.strongRecOn with
  | _ m ih =>
    intro s hm hok
    by_cases h : m < 128
    · rw [loop_eq, hlt m s h hok, vpre, dif_pos h, vlast, dif_pos h]; rfl
    · obtain ⟨h1, h2⟩ := hge m s (by omega) hm hok
      rw [loop_eq, h1, vpre, dif_neg h, vlast, dif_neg h]
      exact ih (m / 128) (by omega) _ (by omega) h2
theorem fold_str (l p : List UInt8) : l.foldl (fun (s : ByteArray) b => s ++ mkStr [(b.toNat : Int)]) ⟨p.toArray⟩ = ⟨(p ++ l).toArray⟩ := by
  induction l generalizing p with
  | nil => simp
  | cons b l ih =>
    simp only [List.foldl_cons]
    rw [show mkStr [(b.toNat : Int)] = ⟨[b].toArray⟩ from mkStr_toI [b], ba_app, ih]
    simp
theorem fold_list (l : List UInt8) (p : List Int) : l.foldl (fun (s : List Int) b => s ++ [(b.toNat : Int)]) p = p ++ toI l := by
  induction l generalizing p with
  | nil => simp [toI]
  | cons b l ih =>
    simp only [List.foldl_cons]
    rw [ih]
    simp [toI]
theorem w64u (m : Nat) (h : m < 18446744073709551616) : IntKind.wrap .u64 (m : Int) = (m : Int) := u64w (by omega) (by omega)
theorem wu8 (x : Int) : IntKind.wrap .u8 x = x % 256 := by simp [IntKind.wrap, IntKind.bits, IntKind.signed]
theorem size_mk (l : List UInt8) : (ByteArray.mk l.toArray).size = l.length := by rw [bytes_len]
theorem mkStr1_size (x : Int) : (mkStr [x]).size = 1 := rfl
theorem wu64 (x : Int) : IntKind.wrap .u64 x = x % 18446744073709551616 := by simp [IntKind.wrap, IntKind.bits, IntKind.signed]
theorem byteA (m : Nat) : IntKind.wrap .u8 (IntKind.wrap .u64 (Int.tmod (m : Int) 128 + 128)) = ((UInt8.ofNat (m % 128 + 128)).toNat : Int) := by
  rw [wu8, wu64, Int.tmod_eq_emod_of_nonneg (by omega), UInt8.toNat_ofNat']
  omega
theorem divA (m : Nat) (h : m < 18446744073709551616) : IntKind.wrap .u64 (Int.tdiv (m : Int) 128) = ((m / 128 : Nat) : Int) := by
  rw [wu64, Int.tdiv_eq_ediv_of_nonneg (by omega)]
  omega
theorem byteL (m : Nat) (h : m < 128) : IntKind.wrap .u8 (m : Int) = ((UInt8.ofNat m).toNat : Int) := by
  rw [wu8, UInt8.toNat_ofNat']
  omega
theorem byteO (m : Nat) (h : m < 18446744073709551616) : IntKind.wrap .u8 (((BitVec.ofInt 8 (IntKind.wrap .u8 (m : Int)) ||| BitVec.ofInt 8 128).toNat : Nat) : Int) = ((UInt8.ofNat (m % 128 + 128)).toNat : Int) := by
  have := u8_or128' m
  rw [← wu8] at this
  exact this
theorem divF (m : Nat) : Int.fdiv (m : Int) 128 = ((m / 128 : Nat) : Int) := by
  rw [Int.fdiv_eq_ediv_of_nonneg _ (by omega)]
  omega
theorem str_push (p : List UInt8) (b : UInt8) : (ByteArray.mk p.toArray ++ mkStr [(b.toNat : Int)]) = ⟨(p ++ [b]).toArray⟩ := by
  rw [show mkStr [(b.toNat : Int)] = ⟨[b].toArray⟩ from mkStr_toI [b], ba_app]
set_option maxHeartbeats 1000000 in
/-- A number's bytes in the reference. -/
theorem r63_eq (n : Int) (h0 : -9223372036854775808 ≤ n) (h1 : n ≤ 9223372036854775807) : r63 (n, ()) = some (⟨(varint (zig n)).toArray⟩, ()) := by
  have hz := zig_lt h0 h1
  have hl := zig_len h0 h1
  unfold r63
  have hneg : n < 0 → IntKind.wrap IntKind.u64 ((((BitVec.ofInt 64 18446744073709551615) ^^^ (BitVec.ofInt 64 (IntKind.wrap IntKind.u64 (IntKind.wrap IntKind.u64 n * 2)))).toNat : Nat) : Int) = (zig n : Int) := fun h => by
    have := zig_not h0 h
    have e2 : IntKind.u64.max = 18446744073709551615 := by decide +kernel
    rw [e2] at this
    exact this
  have hpos : ¬ n < 0 → IntKind.wrap IntKind.u64 (IntKind.wrap IntKind.u64 n * 2) = (zig n : Int) := fun h => by
    rw [wu64, wu64]
    have := zig_pos h
    omega
  have H : ∀ (step : (ByteArray × Int × Unit) × Unit → Option (((ByteArray × Int × Unit) × Unit) ⊕ (((ByteArray × Int × Unit) × Unit) ⊕ Empty))) (fin : (((ByteArray × Int × Unit) × Unit) ⊕ Empty) → Option (ByteArray × Unit)),
      (∀ s (u : Int), step ((s, (u, ())), ()) = cond (decide (127 < u)) (cond (decide (9223372036854775807 < s.size + (mkStr [IntKind.wrap .u8 (IntKind.wrap .u64 (Int.tmod u 128 + 128))]).size)) none (some (Sum.inl ((s ++ mkStr [IntKind.wrap .u8 (IntKind.wrap .u64 (Int.tmod u 128 + 128))], (IntKind.wrap .u64 (Int.tdiv u 128), ())), ())))) (some (Sum.inr (Sum.inl ((s, (u, ())), ()))))) →
      (∀ s (u : Int), fin (Sum.inl ((s, (u, ())), ())) = cond (decide (9223372036854775807 < s.size + (mkStr [IntKind.wrap .u8 u]).size)) none (some (s ++ mkStr [IntKind.wrap .u8 u], ()))) →
      Option.bind (loop step ((ByteArray.mk (List.toArray []), ((zig n : Int), ())), ())) fin = some (⟨(varint (zig n)).toArray⟩, ()) := by
    intro step fin hs hf
    have hloop := loop_var (step := step) (fun i (s : List UInt8) => ((ByteArray.mk s.toArray, (i, ())), ())) (fun s b => s ++ [b]) (fun s m => s.length + (varint m).length ≤ 100) (fun i s => Sum.inl ((ByteArray.mk s.toArray, (i, ())), ())) (fun m s hm hm2 hok => ?_) (fun m s hm hok => ?_) (zig n) [] hz (by simp; omega)
    · have hloop' : loop step ((ByteArray.mk (List.toArray []), ((zig n : Int), ())), ()) = _ := hloop
      rw [hloop', Option.bind_some, hf]
      have hfold : ∀ (l p : List UInt8), l.foldl (fun (s : List UInt8) b => s ++ [b]) p = p ++ l := by
        intro l
        induction l with
        | nil => intro p; simp
        | cons b l ih => intro p; simp [List.foldl_cons, ih]
      rw [hfold, List.nil_append, byteL _ (vlast_lt _), str_push, ← varint_split]
      have hsz : decide (9223372036854775807 < (ByteArray.mk (vpre (zig n)).toArray).size + (mkStr [((UInt8.ofNat (vlast (zig n))).toNat : Int)]).size) = false := by
        rw [size_mk, mkStr1_size]
        have := congrArg List.length (varint_split (zig n))
        simp at this
        simp; omega
      rw [hsz]
      rfl
    · have hd : decide ((127 : Int) < (m : Int)) = true := by simp; omega
      have hv := varint_ge hm
      rw [hs, hd, byteA, divA m hm2, str_push]
      have hsz : decide (9223372036854775807 < (ByteArray.mk s.toArray).size + (mkStr [((UInt8.ofNat (m % 128 + 128)).toNat : Int)]).size) = false := by
        rw [size_mk, mkStr1_size]
        simp; omega
      rw [hsz]
      refine ⟨rfl, ?_⟩
      rw [hv] at hok
      simp at hok ⊢
      omega
    · have hd : decide ((127 : Int) < (m : Int)) = false := by simp; omega
      rw [hs, hd]
      rfl
  by_cases h : n < 0
  · simp only [decide_eq_true h, cond_true, hneg h]
    exact H _ _ (fun s u => rfl) (fun s u => rfl)
  · simp only [decide_eq_false h, cond_false, hpos h]
    exact H _ _ (fun s u => rfl) (fun s u => rfl)
/-- A loop over a list whose rounds all go on. -/
theorem loop_fold {α S D O : Type} {step : D → Option (D ⊕ O)} (emb : Int → S → D) (f : S → α → S) (Inv : Nat → S → Prop) (out : S → O) (xs : List α)
    (hin : ∀ (i : Nat) a s, xs[i]? = some a → Inv i s → step (emb i s) = some (.inl (emb ((i : Int) + 1) (f s a))) ∧ Inv (i + 1) (f s a))
    (hend : ∀ s, Inv xs.length s → step (emb (xs.length : Int) s) = some (.inr (out s))) (s : S) (h0 : Inv 0 s) : loop step (emb 0 s) = some (out (xs.foldl f s)) ∧ Inv xs.length (xs.foldl f s) := by
  have key : ∀ (l : List α) (i : Nat) (s : S), i ≤ xs.length → xs.drop i = l → Inv i s → loop step (emb (i : Int) s) = some (out (l.foldl f s)) ∧ Inv xs.length (l.foldl f s) := by
    intro l
    induction l with
    | nil =>
      intro i s hi hl hI
      have : i = xs.length := by
        have := congrArg List.length hl
        simp at this; omega
      subst this
      exact ⟨by rw [loop_eq, hend s hI]; rfl, hI⟩
    | cons a l ih =>
      intro i s hi hl hI
      have ha : xs[i]? = some a := by
        have := congrArg (fun l => l[0]?) hl
        simpa using this
      have hlt := lt_of_get ha
      have hd : xs.drop (i + 1) = l := by rw [← List.drop_drop, hl]; rfl
      obtain ⟨h1, h2⟩ := hin i a s ha hI
      rw [loop_eq, h1]
      exact ih (i + 1) _ hlt hd h2
  exact key xs 0 s (Nat.zero_le _) rfl h0
def encI (ns : List Int) : List Int := toI (encAll ns)
def inRange (ns : List Int) : Prop := ∀ x ∈ ns, -9223372036854775808 ≤ x ∧ x ≤ 9223372036854775807
theorem enc_cons (n : Int) (ns : List Int) : encI (n :: ns) = toI (varint (zig n)) ++ encI ns := by
  unfold encI encAll
  rw [List.flatMap_cons, toI_app]
set_option maxHeartbeats 1000000 in
/-- Numbers written behind each other. -/
theorem r59_eq (ns d : List Int) (hr : inRange ns) (hlen : d.length + 10 * ns.length ≤ 140737488355328) : r59 (ns, ()) (d, ()) = some ((), (d ++ encI ns, ())) := by
  unfold r59
  have hnl : ns.length ≤ 9223372036854775807 := by omega
  have hfold : ∀ (ms : List Int) (b : List Int), ms.foldl (fun b n => b ++ toI (varint (zig n))) b = b ++ encI ms := by
    intro ms
    induction ms with
    | nil => intro b; simp [encI, encAll, toI]
    | cons n ms ih => intro b; rw [List.foldl_cons, ih, enc_cons, List.append_assoc]
  rw [(loop_fold (fun i (b : List Int) => ((i, (b, ())), ())) (fun b n => b ++ toI (varint (zig n))) (fun i b => b.length ≤ d.length + 10 * i) (fun b => Sum.inl ((b, ()), ())) ns (fun i n b h hI => ?_) (fun _ _ => ?_) d (by omega)).1]
  · rw [hfold]
    rfl
  · have hlt := lt_of_get h
    obtain ⟨g0, g1⟩ := hr n (List.mem_of_getElem? h)
    have hz := zig_lt g0 g1
    have hl := zig_len g0 g1
    have hzb : IntKind.wrap IntKind.u64 (((BitVec.ofInt 64 (IntKind.wrap IntKind.u64 (IntKind.wrap IntKind.u64 n * 2)) ^^^ BitVec.ofInt 64 (IntKind.wrap IntKind.u64 (Int.fdiv n 9223372036854775808))).toNat : Nat) : Int) = (zig n : Int) := by
      rw [Int.fdiv_eq_ediv_of_nonneg _ (by omega)]
      exact zig_bits g0 g1
    simp only [dec_lt hlt, inB_lt hlt, Int.toNat_natCast, h, cond_true, Option.bind_some, hzb]
    rw [wrapS hlt hnl]
    have hfit : ∀ k : Nat, k ≤ 140737488355328 → fits k 1 = true := fun k hk => by unfold fits; simp; omega
    have hsp := congrArg List.length (varint_split (zig n))
    rw [List.length_append, List.length_singleton] at hsp
    rw [loop_var (fun i (b : List Int) => ((i, (b, ())), ())) (fun b x => b ++ [(x.toNat : Int)]) (fun b m => b.length + (varint m).length ≤ 140737488355328) (fun i b => Sum.inl ((i, (b, ())), ())) (fun m b hm hm2 hok => ?_) (fun m b hm hok => ?_) (zig n) b hz (by omega)]
    · rw [fold_list]
      simp only [Option.bind_some, sumE, List.length_cons, List.length_nil, byteL _ (vlast_lt _)]
      rw [hfit _ (by rw [List.length_append, toI_len]; omega)]
      refine ⟨?_, ?_⟩
      · simp only [cond_true]
        rw [varint_split (zig n), toI_app, ← List.append_assoc]
        rfl
      · rw [List.length_append, toI_len]; omega
    · have hd : decide ((128 : Int) ≤ (m : Int)) = true := by simp; omega
      have hv := varint_ge hm
      rw [hv] at hok
      rw [List.length_cons] at hok
      simp only [hd, cond_true, byteO m hm2, divF, List.length_cons, List.length_nil]
      rw [hfit _ (by omega)]
      exact ⟨rfl, by rw [List.length_append]; simp; omega⟩
    · have hd : decide ((128 : Int) ≤ (m : Int)) = false := by simp; omega
      simp only [hd, cond_false]
  · simp only [dec_nlt, cond_false]
theorem encI_len (ns : List Int) (hr : inRange ns) : (encI ns).length ≤ 10 * ns.length := by
  unfold encI
  rw [toI_len]
  exact encAll_len ns hr
/-- A text written behind its length. -/
theorem r96_eq (s : ByteArray) (d : List Int) (hs : s.size ≤ 1000000) (hlen : d.length + 1000020 ≤ 140737488355328) : r96 (s, ()) (d, ()) = some ((), (d ++ encI [(s.size : Int)] ++ bytesOf s, ())) := by
  unfold r96
  have hin : inRange [(s.size : Int)] := fun x hx => by simp at hx; omega
  rw [r59_eq [(s.size : Int)] d hin (by simp; omega)]
  simp only [Option.bind_some]
  have hl := encI_len [(s.size : Int)] hin
  have hb : (bytesOf s).length = s.size := by unfold bytesOf; rw [List.length_map, ← bytes_len]
  have hf : fits ((d ++ encI [(s.size : Int)]).length + (bytesOf s).length) 1 = true := by
    unfold fits
    rw [List.length_append, hb]
    simp at hl ⊢; omega
  rw [hf]
  rfl
end Go.Proofs.YtgabpbnndikheaaDoor.I

/-! Checksums and builders, plainly. -/
namespace Go.Proofs.YtgabpbnndikheaaDoor.I
open Go.RowKit
set_option linter.unusedVariables false
set_option linter.constructorNameAsVariable false
theorem wu32 (x : Int) : IntKind.wrap .u32 x = x % 4294967296 := by simp [IntKind.wrap, IntKind.bits, IntKind.signed]
theorem fitsB {k : Nat} (h : k ≤ 140737488355328) : fits k 1 = true := by unfold fits; simp; omega
theorem bytesOf_len (s : ByteArray) : (bytesOf s).length = s.size := by unfold bytesOf; rw [List.length_map, ← bytes_len]
theorem bytesOf_mk (l : List UInt8) : bytesOf ⟨l.toArray⟩ = toI l := rfl
theorem r61_eq (l : List UInt8) (hl : l.length ≤ 9223372036854775807) : r61 (toI l, ()) = some ((fnv l : Int), ()) := by
  unfold r61
  have hlen := toI_len l
  have h := (loop_fold (step := fun (x0 : (Int × Int × Unit) × Unit) => (cond (Decidable.decide (LT.lt x0.1.2.1 (Nat.cast (List.length (toI l)) : Int))) (cond (inB x0.1.2.1 (List.length (toI l))) (Option.bind (GetElem?.getElem? (toI l) (Int.toNat x0.1.2.1)) (fun x1 => (Option.some (Sum.inl (((IntKind.wrap IntKind.u32 (HMul.hMul (IntKind.wrap IntKind.u32 (Nat.cast (BitVec.toNat (HXor.hXor (BitVec.ofInt 32 x0.1.1) (BitVec.ofInt 32 (IntKind.wrap IntKind.u32 x1)))) : Int)) (16777619 : Int))), ((IntKind.wrap IntKind.i64 (HAdd.hAdd x0.1.2.1 (1 : Int))), Unit.unit)), Unit.unit))))) (Option.none)) (Option.some (Sum.inr (Sum.inl ((x0.1.1, Unit.unit), Unit.unit) : ((Int × Unit) × Unit) ⊕ Empty)))))
    (fun i (h : Nat) => (((h : Int), (i, ())), ())) (fun h x => fnvStep h (UInt8.ofNat x.toNat)) (fun _ h => h < 4294967296) (fun h => Sum.inl (((h : Int), ()), ())) (toI l) (fun i x h hx hI => ?_) (fun _ _ => ?_) 2166136261 (by omega)).1
  · have hf : ∀ (m : List UInt8) (h : Nat), (toI m).foldl (fun h x => fnvStep h (UInt8.ofNat x.toNat)) h = m.foldl fnvStep h := by
      intro m
      induction m with
      | nil => intro h; rfl
      | cons c m ih =>
        intro h
        simp only [toI, List.map_cons, List.foldl_cons] at ih ⊢
        rw [show UInt8.ofNat ((c.toNat : Int)).toNat = c by simp]
        exact ih _
    rw [hf] at h
    refine (congrArg (fun z => Option.bind z _) h).trans ?_
    rfl
  · have hlt := lt_of_get hx
    obtain ⟨c, hc⟩ : ∃ c : UInt8, x = (c.toNat : Int) := by
      unfold toI at hx
      rw [List.getElem?_map] at hx
      obtain ⟨c, _, hc⟩ := Option.map_eq_some_iff.1 hx
      exact ⟨c, hc.symm⟩
    subst hc
    have hcl := c.toNat_lt
    have hw : IntKind.wrap .u32 ((c.toNat : Int)) = (c.toNat : Int) := by rw [wu32]; omega
    have hx32 := fnv32 h c hI
    dsimp only
    simp only [dec_lt hlt, inB_lt hlt, Int.toNat_natCast, hx, cond_true, Option.bind_some, hw]
    rw [wrapS hlt (by omega), wu32 (_ * _)]
    have e : IntKind.wrap IntKind.u32 ((((BitVec.ofInt 32 (h : Int)) ^^^ (BitVec.ofInt 32 (c.toNat : Int))).toNat : Nat) : Int) * 16777619 % 4294967296 = (fnvStep h c : Int) := hx32
    rw [e]
    refine ⟨?_, ?_⟩
    · rw [show UInt8.ofNat c.toNat = c by simp]
    · rw [show UInt8.ofNat c.toNat = c by simp]; unfold fnvStep; omega
  · dsimp only
    simp only [dec_nlt, cond_false]
theorem r65_eq (s : ByteArray) (hl : s.size ≤ 9223372036854775807) : r65 (s, ()) = some ((fnv s.data.toList : Int), ()) := by
  unfold r65
  have hlen : s.size = s.data.toList.length := bytes_len
  have h := (loop_fold (step := fun (x0 : (Int × Int × Unit) × Unit) => (cond (Decidable.decide (LT.lt x0.1.2.1 (Nat.cast (ByteArray.size s) : Int))) (Option.bind (strAt s x0.1.2.1) (fun x1 => (Option.some (Sum.inl (((Int.tmod (IntKind.wrap IntKind.u64 (HMul.hMul (IntKind.wrap IntKind.u64 (Nat.cast (BitVec.toNat (HXor.hXor (BitVec.ofInt 64 x0.1.1) (BitVec.ofInt 64 (IntKind.wrap IntKind.u64 (Nat.cast (UInt8.toNat x1) : Int))))) : Int)) (16777619 : Int))) (4294967296 : Int)), ((IntKind.wrap IntKind.i64 (HAdd.hAdd x0.1.2.1 (1 : Int))), Unit.unit)), Unit.unit))))) (Option.some (Sum.inr (Sum.inl ((x0.1.1, Unit.unit), Unit.unit) : ((Int × Unit) × Unit) ⊕ Empty)))))
    (fun i (h : Nat) => (((h : Int), (i, ())), ())) fnvStep (fun _ h => h < 4294967296) (fun h => Sum.inl (((h : Int), ()), ())) s.data.toList (fun i c h hx hI => ?_) (fun _ _ => ?_) 2166136261 (by omega))
  · refine (congrArg (fun z => Option.bind z _) h.1).trans ?_
    have hlt : fnv s.data.toList < 4294967296 := h.2
    simp only [Option.bind_some, sumE]
    rw [wu32]
    show some (((fnv s.data.toList : Int) % 4294967296), ()) = _
    rw [show (fnv s.data.toList : Int) % 4294967296 = (fnv s.data.toList : Int) by omega]
  · have hlt := lt_of_get hx
    have hcl := c.toNat_lt
    have hw : IntKind.wrap .u64 ((c.toNat : Int)) = (c.toNat : Int) := by rw [wu64]; omega
    have hx64 := fnv64 h c hI
    dsimp only
    simp only [hlen, dec_lt hlt, bytes_get, hx, cond_true, Option.bind_some, hw]
    rw [wrapS hlt (by omega)]
    have e : Int.tmod (IntKind.wrap IntKind.u64 (IntKind.wrap IntKind.u64 ((((BitVec.ofInt 64 (h : Int)) ^^^ (BitVec.ofInt 64 (c.toNat : Int))).toNat : Nat) : Int) * 16777619)) 4294967296 = (fnvStep h c : Int) := hx64
    rw [e]
    exact ⟨rfl, by unfold fnvStep; omega⟩
  · dsimp only
    simp only [hlen, dec_nlt, cond_false]
abbrev DB := Unit × List Int × Unit
theorem r62_eq (s : ByteArray) (d : List Int) (h : d.length + s.size ≤ 140737488355328) : r62 (s, ()) ((), (d, ())) = some (((s.size : Int), (false, ())), ((), (d ++ bytesOf s, ()))) := by
  unfold r62
  simp only [bytesOf_len, fitsB h, cond_true]
theorem r67_eq (x : Int) (d : List Int) (h : d.length + 1 ≤ 140737488355328) : r67 (x, ()) ((), (d, ())) = some ((false, ()), ((), (d ++ [x], ()))) := by
  unfold r67
  simp only [List.length_cons, List.length_nil, fitsB h, cond_true]
theorem r66_eq (d : List Int) (h : d.length ≤ 140737488355328) : r66 () ((), (d, ())) = some ((mkStr d, ()), ((), (d, ()))) := by
  unfold r66
  cases d with
  | nil => rfl
  | cons a d =>
    have hl : ((a :: d).length : Int) ≤ 140737488355328 := by omega
    have hp : (0 : Int) < ((a :: d).length : Int) := by rw [List.length_cons]; omega
    show cond (decide (((a :: d).length : Int) = ((a :: d).length : Int) ∧ 0 < ((a :: d).length : Int) ∧ ((a :: d).length : Int) ≤ 9223372036854775807)) _ _ = _
    rw [decide_eq_true ⟨rfl, hp, by omega⟩]
    rfl
theorem r64_eq (ns d : List Int) (hr : inRange ns) (hlen : d.length + 10 * ns.length ≤ 140737488355328) : r64 (ns, ()) ((), (d, ())) = some ((), ((), (d ++ encI ns, ()))) := by
  unfold r64
  have hnl : ns.length ≤ 9223372036854775807 := by omega
  have hfold : ∀ (ms : List Int) (b : List Int), ms.foldl (fun b n => b ++ toI (varint (zig n))) b = b ++ encI ms := by
    intro ms
    induction ms with
    | nil => intro b; simp [encI, encAll, toI]
    | cons n ms ih => intro b; rw [List.foldl_cons, ih, enc_cons, List.append_assoc]
  rw [(loop_fold (fun i (b : List Int) => ((i, ((), (b, ()))), ())) (fun b n => b ++ toI (varint (zig n))) (fun i b => b.length ≤ d.length + 10 * i) (fun b => Sum.inl (((), (b, ())), ())) ns (fun i n b h hI => ?_) (fun _ _ => ?_) d (by omega)).1]
  · rw [hfold]
    rfl
  · have hlt := lt_of_get h
    obtain ⟨g0, g1⟩ := hr n (List.mem_of_getElem? h)
    have hl := zig_len g0 g1
    simp only [dec_lt hlt, inB_lt hlt, Int.toNat_natCast, h, cond_true, Option.bind_some, r63_eq n g0 g1]
    rw [r62_eq _ b (by rw [size_mk]; omega), wrapS hlt hnl]
    simp only [Option.bind_some, bytesOf_mk]
    exact ⟨trivial, by rw [List.length_append, toI_len]; omega⟩
  · simp only [dec_nlt, cond_false]
end Go.Proofs.YtgabpbnndikheaaDoor.I

/-! A feature as bytes: the program's and the reference's, plainly. -/
namespace Go.Proofs.YtgabpbnndikheaaDoor.I
open Go.RowKit
set_option linter.unusedVariables false
set_option linter.constructorNameAsVariable false
theorem n59 (ns : List Int) (d : List UInt8) (hr : inRange ns) (hlen : d.length + 10 * ns.length ≤ 140737488355328) : r59 (ns, ()) (toI d, ()) = some ((), (toI (d ++ encAll ns), ())) := by
  rw [r59_eq ns (toI d) hr (by rw [toI_len]; exact hlen), toI_app]
  rfl
theorem n64 (ns : List Int) (d : List UInt8) (hr : inRange ns) (hlen : d.length + 10 * ns.length ≤ 140737488355328) : r64 (ns, ()) ((), (toI d, ())) = some ((), ((), (toI (d ++ encAll ns), ()))) := by
  rw [r64_eq ns (toI d) hr (by rw [toI_len]; exact hlen), toI_app]
  rfl
def ofS (s : ByteArray) : List UInt8 := s.data.toList
theorem ofS_len (s : ByteArray) : (ofS s).length = s.size := bytes_len.symm
theorem n96 (s : ByteArray) (d : List UInt8) (hs : s.size ≤ 1000000) (hlen : d.length + 1000020 ≤ 140737488355328) : r96 (s, ()) (toI d, ()) = some ((), (toI (d ++ (encAll [(s.size : Int)] ++ ofS s)), ())) := by
  rw [r96_eq s (toI d) hs (by rw [toI_len]; exact hlen), toI_app, toI_app, ← List.append_assoc]
  rfl
theorem n62 (s : ByteArray) (d : List UInt8) (h : d.length + s.size ≤ 140737488355328) : r62 (s, ()) ((), (toI d, ())) = some (((s.size : Int), (false, ())), ((), (toI (d ++ ofS s), ()))) := by
  rw [r62_eq s (toI d) (by rw [toI_len]; exact h), toI_app]
  rfl
theorem wrap64_in (x : Int) : -9223372036854775808 ≤ IntKind.wrap .i64 x ∧ IntKind.wrap .i64 x ≤ 9223372036854775807 := by
  unfold IntKind.wrap
  simp [IntKind.signed, IntKind.bits]
  split <;> omega
theorem in_nil : inRange [] := fun x hx => by cases hx
theorem in_cons {x : Int} {l : List Int} (h : -9223372036854775808 ≤ x ∧ x ≤ 9223372036854775807) (k : inRange l) : inRange (x :: l) := fun y hy => by
  rcases List.mem_cons.1 hy with rfl | hy
  · exact h
  · exact k y hy
theorem wf_in {x : Int} (h : (Lit.int .i64 x).wf = true) : -9223372036854775808 ≤ x ∧ x ≤ 9223372036854775807 := bounds_i64 h

/-! ### Points -/
abbrev PtS := Int × Int × List UInt8
def ptF (s : PtS) (q : DPt) : PtS := (q.1, q.2.1, s.2.2 ++ encAll [IntKind.wrap .i64 (q.1 - s.1), IntKind.wrap .i64 (q.2.1 - s.2.1)])
theorem pt_in (s : PtS) (q : DPt) : inRange [IntKind.wrap .i64 (q.1 - s.1), IntKind.wrap .i64 (q.2.1 - s.2.1)] := in_cons (wrap64_in _) (in_cons (wrap64_in _) in_nil)
theorem ptF_len (s : PtS) (q : DPt) : (ptF s q).2.2.length ≤ s.2.2.length + 20 := by
  unfold ptF
  have := encAll_len _ (pt_in s q)
  simp only [List.length_append, List.length_cons, List.length_nil] at this ⊢
  omega
theorem fold_len {α S : Type} (f : S → α → S) (g : S → Nat) (k : Nat) : ∀ (l : List α) (s : S), (∀ s a, a ∈ l → g (f s a) ≤ g s + k) → g (l.foldl f s) ≤ g s + k * l.length
  | [], s, _ => by simp
  | a :: l, s, h => by
    have h1 := h s a (by simp)
    have h2 := fold_len f g k l (f s a) (fun s b hb => h s b (by simp [hb]))
    rw [List.foldl_cons, List.length_cons, Nat.mul_succ]
    omega
/-! ### Parts -/
def partF (s : PtS) (p : List DPt) : PtS := p.foldl ptF (s.1, s.2.1, s.2.2 ++ encAll [(p.length : Int)])
theorem len_in {α : Type} {l : List α} (h : l.length ≤ 200) : inRange [(l.length : Int)] := in_cons (by omega) in_nil
theorem partF_len (s : PtS) (p : List DPt) (h : p.length ≤ 200) : (partF s p).2.2.length ≤ s.2.2.length + 4010 := by
  unfold partF
  have h1 := fold_len ptF (fun s => s.2.2.length) 20 p (s.1, s.2.1, s.2.2 ++ encAll [(p.length : Int)]) (fun s q _ => ptF_len s q)
  have h2 := encAll_len _ (len_in h)
  simp only [List.length_append, List.length_cons, List.length_nil] at h1 h2 ⊢
  omega
/-! ### Attributes -/
def attB (d : List UInt8) (a : DAtt) : List UInt8 :=
  d ++ (encAll [(a.1.size : Int)] ++ ofS a.1) ++ encAll [a.2.1.1] ++ (if a.2.1.1 = 1 then encAll [a.2.1.2.1] else if a.2.1.1 = 2 then encAll [(a.2.1.2.2.1.size : Int)] ++ ofS a.2.1.2.2.1 else if a.2.1.1 = 3 then [if a.2.1.2.2.2.1 then 2 else 0] else [])
structure AttOk (a : DAtt) : Prop where
  key : a.1.size ≤ 12
  text : a.2.1.2.2.1.size ≤ 40
  kind : -9223372036854775808 ≤ a.2.1.1 ∧ a.2.1.1 ≤ 9223372036854775807
  num : -9223372036854775808 ≤ a.2.1.2.1 ∧ a.2.1.2.1 ≤ 9223372036854775807
theorem attB_len {d : List UInt8} {a : DAtt} (h : AttOk a) : (attB d a).length ≤ d.length + 82 := by
  obtain ⟨h1, h2, h3, h4⟩ := h
  have e1 := encAll_len [(a.1.size : Int)] (in_cons (by omega) in_nil)
  have e2 := encAll_len [a.2.1.1] (in_cons h3 in_nil)
  have e3 := encAll_len [a.2.1.2.1] (in_cons h4 in_nil)
  have e4 := encAll_len [(a.2.1.2.2.1.size : Int)] (in_cons (by omega) in_nil)
  unfold attB
  simp only [List.length_append, List.length_cons, List.length_nil, ofS_len] at *
  split
  · omega
  · split
    · simp only [List.length_append, ofS_len]; omega
    · split
      · simp; omega
      · simp; omega
structure FeaOk (f : DFea) : Prop where
  parts : f.2.2.1.length ≤ 20
  pts : ∀ p ∈ f.2.2.1, p.length ≤ 200
  atts : f.2.2.2.1.length ≤ 8
  att : ∀ a ∈ f.2.2.2.1, AttOk a
  kind : -9223372036854775808 ≤ f.2.1 ∧ f.2.1 ≤ 9223372036854775807
  fr : -9223372036854775808 ≤ f.2.2.2.2.1 ∧ f.2.2.2.2.1 ≤ 9223372036854775807
def heads (last : Int) (f : DFea) : List Int := [IntKind.wrap .i64 (f.1 - last), f.2.1, f.2.2.2.2.1, IntKind.wrap .i64 (f.2.2.2.2.2.1 - f.2.2.2.2.1), (f.2.2.1.length : Int)]
theorem heads_in {last : Int} {f : DFea} (h : FeaOk f) : inRange (heads last f) := in_cons (wrap64_in _) (in_cons h.kind (in_cons h.fr (in_cons (wrap64_in _) (in_cons (by have := h.parts; omega) in_nil))))
def partsB (d : List UInt8) (f : DFea) (last : Int) : PtS := f.2.2.1.foldl partF (0, 0, d ++ encAll (heads last f))
def attsB (d : List UInt8) (f : DFea) (last : Int) : List UInt8 := (partsB d f last).2.2 ++ encAll [(f.2.2.2.1.length : Int)]
def feaB (d : List UInt8) (f : DFea) (last : Int) : List UInt8 := f.2.2.2.1.foldl attB (attsB d f last)
theorem partsB_len {d : List UInt8} {f : DFea} {last : Int} (h : FeaOk f) : (partsB d f last).2.2.length ≤ d.length + 80250 := by
  unfold partsB
  have h1 := fold_len partF (fun s => s.2.2.length) 4010 f.2.2.1 (0, 0, d ++ encAll (heads last f)) (fun s p hp => partF_len s p (h.pts p hp))
  have h2 := encAll_len _ (heads_in (last := last) h)
  have h3 := h.parts
  have h4 : (heads last f).length = 5 := rfl
  simp only [List.length_append] at h1
  have h5 : 4010 * f.2.2.1.length ≤ 80200 := by omega
  omega
theorem attsB_len {d : List UInt8} {f : DFea} {last : Int} (h : FeaOk f) : (attsB d f last).length ≤ d.length + 80260 := by
  unfold attsB
  have h1 := partsB_len (d := d) (last := last) h
  have h2 := encAll_len [(f.2.2.2.1.length : Int)] (in_cons (by have := h.atts; omega) in_nil)
  rw [List.length_append]
  simp at h2
  omega
theorem feaB_len {d : List UInt8} {f : DFea} {last : Int} (h : FeaOk f) : (feaB d f last).length ≤ d.length + 90000 := by
  unfold feaB
  have h1 := fold_len attB List.length 82 f.2.2.2.1 (attsB d f last) (fun d a ha => attB_len (h.att a ha))
  have h2 := attsB_len (d := d) (last := last) h
  have h3 := h.atts
  omega
end Go.Proofs.YtgabpbnndikheaaDoor.I

/-! A feature as bytes: the program's, plainly. -/
namespace Go.Proofs.YtgabpbnndikheaaDoor.I
open Go.RowKit
set_option linter.unusedVariables false
set_option linter.constructorNameAsVariable false
@[reducible] def embP (i : Int) (s : PtS) : (Int × Int × Int × List Int × Unit) × Unit := ((i, (s.1, (s.2.1, (toI s.2.2, ())))), ())
@[reducible] def outP (s : PtS) : ((Int × Int × List Int × Unit) × Unit) ⊕ Empty := Sum.inl ((s.1, (s.2.1, (toI s.2.2, ()))), ())
theorem app3 (a b c d : List UInt8) : a ++ b ++ c ++ d = a ++ (b ++ (c ++ d)) := by simp
set_option maxHeartbeats 4000000 in
set_option maxRecDepth 100000 in
theorem r60_eq (f : DFea) (last : Int) (d : List UInt8) (h : FeaOk f) (hd : d.length ≤ 100000000) : r60 (f, (last, ())) (toI d, ()) = some ((), (toI (feaB d f last), ())) := by
  have hb1 := partsB_len (d := d) (last := last) h
  have hb2 := attsB_len (d := d) (last := last) h
  unfold r60
  have h1 := n59 (heads last f) d (heads_in h) (by show d.length + 10 * 5 ≤ _; omega)
  have h1' : r59 ((List.cons (IntKind.wrap IntKind.i64 (HSub.hSub f.1 last)) (List.cons f.2.1 (List.cons f.2.2.2.2.1 (List.cons (IntKind.wrap IntKind.i64 (HSub.hSub f.2.2.2.2.2.1 f.2.2.2.2.1)) (List.cons (Nat.cast (List.length f.2.2.1) : Int) (List.nil)))))), ()) (toI d, ()) = some ((), (toI (d ++ encAll (heads last f)), ())) := h1
  simp only [h1', Option.bind_some]
  have hd0 : (d ++ encAll (heads last f)).length ≤ d.length + 50 := by
    have := encAll_len _ (heads_in (last := last) h)
    rw [List.length_append]
    have h4 : (heads last f).length = 5 := rfl
    omega
  rw [(loop_fold embP partF (fun i s => s.2.2.length ≤ d.length + 50 + 4010 * i) outP f.2.2.1 (fun i p s hp hI => ?_) (fun s _ => ?_) (0, 0, d ++ encAll (heads last f)) (by omega)).1]
  · rw [show f.2.2.1.foldl partF (0, 0, d ++ encAll (heads last f)) = partsB d f last from rfl]
    simp only [Option.bind_some, sumE]
    rw [n59 [(f.2.2.2.1.length : Int)] (partsB d f last).2.2 (in_cons (by have := h.atts; omega) in_nil) (by simp; omega)]
    simp only [Option.bind_some]
    rw [show (partsB d f last).2.2 ++ encAll [(f.2.2.2.1.length : Int)] = attsB d f last from rfl]
    rw [(loop_fold (fun i (b : List UInt8) => ((i, (toI b, ())), ())) attB (fun i b => b.length ≤ (attsB d f last).length + 82 * i) (fun b => Sum.inl ((toI b, ()), ())) f.2.2.2.1 (fun i a b ha hI => ?_) (fun b _ => ?_) (attsB d f last) (by omega)).1]
    · rfl
    · have hlt := lt_of_get ha
      have hal := h.atts
      have hok := h.att a (List.mem_of_getElem? ha)
      have hal2 := attB_len (d := b) hok
      obtain ⟨k1, k2, k3, k4⟩ := hok
      have e1 := encAll_len [(a.1.size : Int)] (in_cons (by omega) in_nil)
      have e2 := encAll_len [a.2.1.1] (in_cons k3 in_nil)
      simp only [List.length_cons, List.length_nil] at e1 e2
      simp only [dec_lt hlt, inB_lt hlt, Int.toNat_natCast, ha, cond_true, Option.bind_some]
      rw [wrapS hlt (by omega), n96 a.1 b (by omega) (by omega)]
      simp only [Option.bind_some]
      rw [n59 [a.2.1.1] _ (in_cons k3 in_nil) (by simp only [List.length_append, ofS_len, List.length_cons, List.length_nil]; omega)]
      simp only [Option.bind_some]
      refine ⟨?_, by omega⟩
      have hlen2 : (b ++ (encAll [(a.1.size : Int)] ++ ofS a.1) ++ encAll [a.2.1.1]).length ≤ 100100000 := by simp only [List.length_append, ofS_len]; omega
      by_cases c1 : a.2.1.1 = 1
      · simp only [c1, decide_true, cond_true] at hlen2 ⊢
        rw [n59 [a.2.1.2.1] _ (in_cons k4 in_nil) (by simp only [List.length_cons, List.length_nil]; omega)]
        simp only [Option.bind_some, attB, c1, if_true]
      · by_cases c2 : a.2.1.1 = 2
        · have c1' : ¬ (2 : Int) = 1 := by decide
          simp only [c2, c1', decide_true, decide_false, cond_true, cond_false] at hlen2 ⊢
          rw [n96 a.2.1.2.2.1 _ (by omega) (by omega)]
          simp only [Option.bind_some, attB, c2, c1', if_true, if_false]
        · by_cases c3 : a.2.1.1 = 3
          · have c1' : ¬ (3 : Int) = 1 := by decide
            have c2' : ¬ (3 : Int) = 2 := by decide
            simp only [c3, c1', c2', decide_true, decide_false, cond_true, cond_false] at hlen2 ⊢
            have z1 : encAll [1] = [2] := by
              unfold encAll
              simp only [List.flatMap_cons, List.flatMap_nil, List.append_nil]
              rw [show zig 1 = 2 from rfl, varint_lt (by omega)]
              rfl
            have z0 : encAll [0] = [0] := by
              unfold encAll
              simp only [List.flatMap_cons, List.flatMap_nil, List.append_nil]
              rw [show zig 0 = 0 from rfl, varint_lt (by omega)]
              rfl
            cases hbv : a.2.1.2.2.2.1 with
            | true =>
              simp only [cond_true]
              rw [n59 [1] _ (in_cons (by omega) in_nil) (by simp only [List.length_cons, List.length_nil]; omega), z1]
              simp only [Option.bind_some, attB, c3, c1', c2', if_true, if_false, hbv]
            | false =>
              simp only [cond_false]
              rw [n59 [0] _ (in_cons (by omega) in_nil) (by simp only [List.length_cons, List.length_nil]; omega), z0]
              simp only [Option.bind_some, attB, c3, c1', c2', if_true, if_false, hbv]
              simp
          · simp only [c1, c2, c3, decide_false, cond_false, attB, if_false, List.append_nil]
    · simp only [dec_nlt, cond_false]
  · have hlt := lt_of_get hp
    have hpl := h.pts p (List.mem_of_getElem? hp)
    have hparts := h.parts
    have hpf := partF_len s p hpl
    dsimp only [embP]
    simp only [dec_lt hlt, inB_lt hlt, Int.toNat_natCast, hp, cond_true, Option.bind_some]
    have he := encAll_len _ (len_in hpl)
    simp only [List.length_cons, List.length_nil] at he
    rw [wrapS hlt (by omega), n59 [(p.length : Int)] s.2.2 (len_in hpl) (by simp only [List.length_cons, List.length_nil]; omega)]
    simp only [Option.bind_some]
    have hs0 : (s.2.2 ++ encAll [(p.length : Int)]).length ≤ s.2.2.length + 10 := by rw [List.length_append]; omega
    rw [(loop_fold embP ptF (fun i t => t.2.2.length ≤ s.2.2.length + 10 + 20 * i) outP p (fun j q t hq hJ => ?_) (fun t _ => ?_) (s.1, s.2.1, s.2.2 ++ encAll [(p.length : Int)]) (by omega)).1]
    · exact ⟨rfl, by omega⟩
    · have hqt := lt_of_get hq
      have hqf := ptF_len t q
      dsimp only [embP]
      simp only [dec_lt hqt, inB_lt hqt, Int.toNat_natCast, hq, cond_true, Option.bind_some]
      rw [wrapS hqt (by omega), n59 [IntKind.wrap .i64 (q.1 - t.1), IntKind.wrap .i64 (q.2.1 - t.2.1)] t.2.2 (pt_in t q) (by simp only [List.length_cons, List.length_nil]; omega)]
      exact ⟨rfl, by omega⟩
    · dsimp only [embP]
      simp only [dec_nlt, cond_false]
  · dsimp only [embP]
    simp only [dec_nlt, cond_false]
end Go.Proofs.YtgabpbnndikheaaDoor.I

/-! A survey as bytes: the program's and the reference's, plainly. -/
namespace Go.Proofs.YtgabpbnndikheaaDoor.I
open Go.RowKit
set_option linter.unusedVariables false
set_option linter.constructorNameAsVariable false
theorem ofS_app (a b : ByteArray) : ofS (a ++ b) = ofS a ++ ofS b := by
  unfold ofS
  rw [ByteArray.data_append, Array.toList_append]
theorem ofS_mk (l : List UInt8) : ofS ⟨l.toArray⟩ = l := rfl
theorem enc1 (n : Int) : encAll [n] = varint (zig n) := by unfold encAll; simp
theorem size_app (a b : ByteArray) : (a ++ b).size = a.size + b.size := by
  rw [bytes_len, bytes_len, bytes_len, ← List.length_append]
  exact congrArg List.length (ofS_app a b)
def sumB (n : Nat) : List UInt8 := [UInt8.ofNat (n % 256), UInt8.ofNat (n / 256 % 256), UInt8.ofNat (n / 65536 % 256), UInt8.ofNat (n / 16777216 % 256)]
def surF (s : Int × List UInt8) (f : DFea) : Int × List UInt8 := (f.1, feaB s.2 f s.1)
def surB (l : List DFea) : List UInt8 := (l.foldl surF (0, [84, 49] ++ encAll [(l.length : Int)])).2
def total (l : List DFea) : List UInt8 := surB l ++ sumB (fnv (surB l))
theorem surB_len {l : List DFea} (h : ∀ f ∈ l, FeaOk f) (hl : l.length ≤ 200) : (surB l).length ≤ 20000000 := by
  unfold surB
  have h1 := fold_len surF (fun s => s.2.length) 90000 l (0, [84, 49] ++ encAll [(l.length : Int)]) (fun s f hf => feaB_len (h f hf))
  have h2 := encAll_len _ (len_in hl)
  simp only [List.length_append, List.length_cons, List.length_nil] at h1 h2
  have : 90000 * l.length ≤ 18000000 := by omega
  omega
theorem byte0 (n : Nat) : IntKind.wrap .u8 (n : Int) = ((UInt8.ofNat (n % 256)).toNat : Int) := by
  rw [wu8, UInt8.toNat_ofNat']; omega
theorem byte1 (n k : Nat) : IntKind.wrap .u8 (Int.fdiv (n : Int) (k : Int)) = ((UInt8.ofNat (n / k % 256)).toNat : Int) := by
  rw [wu8, Int.fdiv_eq_ediv_of_nonneg _ (by omega), UInt8.toNat_ofNat', ← Int.natCast_ediv]
  omega
set_option maxRecDepth 100000 in
set_option maxHeartbeats 1000000 in
theorem r33_eq (l : List DFea) (hs : small (.slice kFea) l) (h : ∀ f ∈ l, FeaOk f) (hl : l.length ≤ 200) (h0 : survV l = 0) :
    r33 (l, ()) = some (if 65536 < (total l).length then ([], (2, ())) else (toI (total l), (0, ()))) := by
  unfold r33
  have hb := surB_len h hl
  have e16 : r16 (l, ()) = some (survV l, ()) := r16_eq l hs
  simp only [e16, Option.bind_some, h0]
  have e2 : r59 ([(l.length : Int)], ()) ((List.cons (84 : Int) (List.cons (49 : Int) (List.nil))), ()) = some ((), (toI ([84, 49] ++ encAll [(l.length : Int)]), ())) := n59 [(l.length : Int)] [84, 49] (len_in hl) (by simp)
  simp only [e2, Option.bind_some]
  rw [(loop_fold (fun i (s : Int × List UInt8) => ((s.1, (i, (toI s.2, ()))), ())) surF (fun i s => s.2.length ≤ 20 + 90000 * i) (fun s => Sum.inl ((toI s.2, ()), ())) l (fun i f s hf hI => ?_) (fun s _ => ?_) (0, [84, 49] ++ encAll [(l.length : Int)]) (by have := encAll_len _ (len_in hl); simp at this ⊢; omega)).1]
  · rw [show (l.foldl surF (0, [84, 49] ++ encAll [(l.length : Int)])).2 = surB l from rfl]
    simp only [Option.bind_some, sumE]
    rw [r61_eq (surB l) (by omega)]
    have hsum : (List.cons (IntKind.wrap IntKind.u8 (fnv (surB l) : Int)) (List.cons (IntKind.wrap IntKind.u8 (Int.fdiv (fnv (surB l) : Int) (256 : Int))) (List.cons (IntKind.wrap IntKind.u8 (Int.fdiv (fnv (surB l) : Int) (65536 : Int))) (List.cons (IntKind.wrap IntKind.u8 (Int.fdiv (fnv (surB l) : Int) (16777216 : Int))) (List.nil))))) = toI (sumB (fnv (surB l))) := by
      generalize fnv (surB l) = n
      have b1 : IntKind.wrap IntKind.u8 (Int.fdiv (n : Int) (256 : Int)) = ((UInt8.ofNat (n / 256 % 256)).toNat : Int) := byte1 n 256
      have b2 : IntKind.wrap IntKind.u8 (Int.fdiv (n : Int) (65536 : Int)) = ((UInt8.ofNat (n / 65536 % 256)).toNat : Int) := byte1 n 65536
      have b3 : IntKind.wrap IntKind.u8 (Int.fdiv (n : Int) (16777216 : Int)) = ((UInt8.ofNat (n / 16777216 % 256)).toNat : Int) := byte1 n 16777216
      have b0 := byte0 n
      rw [b0, b1, b2, b3]
      rfl
    simp only [Option.bind_some, hsum, ← toI_app]
    rw [show surB l ++ sumB (fnv (surB l)) = total l from rfl]
    have ht : (total l).length = (surB l).length + 4 := by unfold total; rw [List.length_append]; rfl
    have hfit : fits ((toI (surB l)).length + (toI (sumB (fnv (surB l)))).length) 1 = true := fitsB (by rw [toI_len, toI_len]; show _ + 4 ≤ _; omega)
    rw [hfit, toI_len]
    by_cases hc : 65536 < (total l).length
    · have : decide ((65536 : Int) < ((total l).length : Int)) = true := by simp; omega
      simp [this, hc]
    · have : decide ((65536 : Int) < ((total l).length : Int)) = false := by simp; omega
      simp [this, hc]
  · have hlt := lt_of_get hf
    have hok := h f (List.mem_of_getElem? hf)
    have hfl := feaB_len (d := s.2) (last := s.1) hok
    have hI' : s.2.length ≤ 20 + 90000 * i := hI
    have hsl : s.2.length ≤ 100000000 := by clear hI hs; omega
    have e60 := r60_eq f s.1 s.2 hok hsl
    obtain ⟨id, kind, ps, ats, fr, tt, ⟨⟩⟩ := f
    simp only [dec_lt hlt, inB_lt hlt, Int.toNat_natCast, hf, cond_true, Option.bind_some]
    rw [e60, wrapS hlt (by omega)]
    refine ⟨rfl, ?_⟩
    refine Nat.le_trans hfl ?_
    clear hfl e60 hI hs
    omega
  · simp only [dec_nlt, cond_false]
end Go.Proofs.YtgabpbnndikheaaDoor.I

/-! A survey as bytes: the reference's, plainly. -/
namespace Go.Proofs.YtgabpbnndikheaaDoor.I
open Go.RowKit
set_option linter.unusedVariables false
set_option linter.constructorNameAsVariable false
@[reducible] def embR (i : Int) (s : PtS) : (Int × Int × Int × Unit × List Int × Unit) × Unit := ((s.1, (s.2.1, (i, ((), (toI s.2.2, ()))))), ())
@[reducible] def outR (s : PtS) : ((Int × Int × Unit × List Int × Unit) × Unit) ⊕ Empty := Sum.inl ((s.1, (s.2.1, ((), (toI s.2.2, ())))), ())
@[reducible] def outQ (s : PtS) : ((Unit × List Int × Unit) × Unit) ⊕ Empty := Sum.inl (((), (toI s.2.2, ())), ())
theorem big {n : Nat} (h : n ≤ 1000000000) : decide (9223372036854775807 < n) = false := by simp; omega
theorem r63_size {n : Int} (h0 : -9223372036854775808 ≤ n) (h1 : n ≤ 9223372036854775807) : (ByteArray.mk (varint (zig n)).toArray).size ≤ 10 := by
  rw [size_mk]; exact zig_len h0 h1
/-- The four bytes of the sum. -/
def sumF (s : Nat × List UInt8) (_ : Unit) : Nat × List UInt8 := (s.1 / 256, s.2 ++ [UInt8.ofNat (s.1 % 256)])
theorem sumF_eq (n : Nat) (b : List UInt8) : ([(), (), (), ()].foldl sumF (n, b)).2 = b ++ sumB n := by
  simp only [List.foldl_cons, List.foldl_nil, sumF, sumB, List.append_assoc, List.cons_append, List.nil_append]
  rw [Nat.div_div_eq_div_mul, Nat.div_div_eq_div_mul]
set_option maxRecDepth 100000 in
set_option maxHeartbeats 4000000 in
theorem r34_eq (l : List DFea) (h : ∀ f ∈ l, FeaOk f) (hl : l.length ≤ 200) : r34 (l, ()) = some (⟨(total l).toArray⟩, ()) := by
  unfold r34
  have hb := surB_len h hl
  have hin := len_in hl
  have hz := r63_size (n := (l.length : Int)) (by omega) (by omega)
  have hhead : ofS (ByteArray.mk (List.toArray (List.cons (84 : UInt8) (List.cons (49 : UInt8) (List.nil))))) = [84, 49] := rfl
  have hsz2 : (ByteArray.mk (List.toArray (List.cons (84 : UInt8) (List.cons (49 : UInt8) (List.nil))))).size = 2 := rfl
  simp only [r63_eq (l.length : Int) (by omega) (by omega), Option.bind_some, hsz2, big (show 2 + (ByteArray.mk (varint (zig (l.length : Int))).toArray).size ≤ 1000000000 by omega), cond_false]
  have e62' : r62 (((ByteArray.mk (List.toArray (List.cons (84 : UInt8) (List.cons (49 : UInt8) (List.nil))))) ++ (ByteArray.mk (varint (zig (l.length : Int))).toArray)), ()) ((), (List.nil, ())) = some ((((((ByteArray.mk (List.toArray (List.cons (84 : UInt8) (List.cons (49 : UInt8) (List.nil))))) ++ (ByteArray.mk (varint (zig (l.length : Int))).toArray)).size : Nat) : Int), (false, ())), ((), (toI ([84, 49] ++ encAll [(l.length : Int)]), ()))) := by
    have e62 := n62 ((ByteArray.mk (List.toArray (List.cons (84 : UInt8) (List.cons (49 : UInt8) (List.nil))))) ++ (ByteArray.mk (varint (zig (l.length : Int))).toArray)) [] (by rw [size_app, hsz2]; simp; omega)
    rw [List.nil_append, ofS_app, hhead, ofS_mk] at e62
    rw [enc1]
    exact e62
  simp only [e62', Option.bind_some]
  rw [(loop_fold (fun i (s : Int × List UInt8) => ((s.1, (i, ((), (toI s.2, ())))), ())) surF (fun i s => s.2.length ≤ 20 + 90000 * i) (fun s => Sum.inl (((), (toI s.2, ())), ())) l (fun i f s hf hI => ?_) (fun s _ => ?_) (0, [84, 49] ++ encAll [(l.length : Int)]) (by have := encAll_len _ hin; simp at this ⊢; omega)).1]
  · rw [show (l.foldl surF (0, [84, 49] ++ encAll [(l.length : Int)])).2 = surB l from rfl]
    simp only [Option.bind_some, sumE]
    rw [r66_eq (toI (surB l)) (by rw [toI_len]; omega)]
    simp only [Option.bind_some, mkStr_toI]
    rw [r65_eq ⟨(surB l).toArray⟩ (by rw [size_mk]; omega)]
    simp only [Option.bind_some]
    rw [(loop_fold (fun i (s : Nat × List UInt8) => (((s.1 : Int), (i, ((), (toI s.2, ())))), ())) sumF (fun i s => s.2.length ≤ 20000000 + i) (fun s => Sum.inl (((), (toI s.2, ())), ())) [(), (), (), ()] (fun i f s hf hI => ?_) (fun s _ => ?_) (fnv (surB l), surB l) (by omega)).1]
    · have ht : (total l).length = (surB l).length + 4 := by unfold total; rw [List.length_append]; rfl
      simp only [Option.bind_some, sumE]
      rw [sumF_eq, show surB l ++ sumB (fnv (surB l)) = total l from rfl, r66_eq (toI (total l)) (by rw [toI_len]; omega)]
      simp only [Option.bind_some, mkStr_toI]
    · have hlt := lt_of_get hf
      have hlt4 : i < 4 := hlt
      have hd : decide ((i : Int) < 4) = true := by simp; omega
      have hI' : s.2.length ≤ 20000000 + i := hI
      simp only [hd, cond_true]
      rw [r67_eq _ (toI s.2) (by rw [toI_len]; omega), wrapS hlt (by decide), byte0, show Int.fdiv (s.1 : Int) 256 = ((s.1 / 256 : Nat) : Int) by rw [Int.fdiv_eq_ediv_of_nonneg _ (by omega)]; omega]
      simp only [Option.bind_some]
      refine ⟨?_, ?_⟩
      · show some _ = some _
        simp only [sumF, toI_app]
        rfl
      · show (s.2 ++ [_]).length ≤ _
        rw [List.length_append]
        simp
        omega
    · have hd : decide (((([(), (), (), ()] : List Unit).length : Nat) : Int) < 4) = false := by decide
      simp only [hd, cond_false]
  · have hlt := lt_of_get hf
    have hok := h f (List.mem_of_getElem? hf)
    have hI' : s.2.length ≤ 20 + 90000 * i := hI
    have hsl : s.2.length ≤ 100000000 := by clear hI; omega
    have hfl := feaB_len (d := s.2) (last := s.1) hok
    have hb1 := partsB_len (d := s.2) (last := s.1) hok
    have hb2 := attsB_len (d := s.2) (last := s.1) hok
    clear hI
    simp only [dec_lt hlt, inB_lt hlt, Int.toNat_natCast, hf, cond_true, Option.bind_some]
    rw [wrapS hlt (by omega)]
    have h1 := n64 (heads s.1 f) s.2 (heads_in hok) (by show s.2.length + 10 * 5 ≤ _; omega)
    have h1' : r64 ((List.cons (IntKind.wrap IntKind.i64 (HSub.hSub f.1 s.1)) (List.cons f.2.1 (List.cons f.2.2.2.2.1 (List.cons (IntKind.wrap IntKind.i64 (HSub.hSub f.2.2.2.2.2.1 f.2.2.2.2.1)) (List.cons (Nat.cast (List.length f.2.2.1) : Int) (List.nil)))))), ()) ((), (toI s.2, ())) = some ((), ((), (toI (s.2 ++ encAll (heads s.1 f)), ()))) := h1
    simp only [h1', Option.bind_some]
    have hd0 : (s.2 ++ encAll (heads s.1 f)).length ≤ s.2.length + 50 := by
      have := encAll_len _ (heads_in (last := s.1) hok)
      rw [List.length_append]
      have h4 : (heads s.1 f).length = 5 := rfl
      omega
    rw [(loop_fold embR partF (fun i t => t.2.2.length ≤ s.2.length + 50 + 4010 * i) outQ f.2.2.1 (fun j p t hp hJ => ?_) (fun t _ => ?_) (0, 0, s.2 ++ encAll (heads s.1 f)) (by omega)).1]
    · rw [show f.2.2.1.foldl partF (0, 0, s.2 ++ encAll (heads s.1 f)) = partsB s.2 f s.1 from rfl]
      simp only [Option.bind_some, sumE]
      rw [n64 [(f.2.2.2.1.length : Int)] (partsB s.2 f s.1).2.2 (in_cons (by have := hok.atts; omega) in_nil) (by simp; omega)]
      simp only [Option.bind_some]
      rw [show (partsB s.2 f s.1).2.2 ++ encAll [(f.2.2.2.1.length : Int)] = attsB s.2 f s.1 from rfl]
      rw [(loop_fold (fun i (b : List UInt8) => ((i, ((), (toI b, ()))), ())) attB (fun i b => b.length ≤ (attsB s.2 f s.1).length + 82 * i) (fun b => Sum.inl (((), (toI b, ())), ())) f.2.2.2.1 (fun j a b ha hJ => ?_) (fun b _ => ?_) (attsB s.2 f s.1) (by omega)).1]
      · refine ⟨rfl, ?_⟩
        refine Nat.le_trans hfl ?_
        clear hfl h1 h1' e62'
        omega
      · have hjt := lt_of_get ha
        have hal := hok.atts
        have hka := hok.att a (List.mem_of_getElem? ha)
        have hal2 := attB_len (d := b) hka
        obtain ⟨k1, k2, k3, k4⟩ := hka
        have hJ' : b.length ≤ (attsB s.2 f s.1).length + 82 * j := hJ
        have hbl : b.length ≤ 200000000 := by clear hJ h1 h1' e62'; omega
        have e1 := r63_size (n := (a.1.size : Int)) (by omega) (by omega)
        have e2 := r63_size (n := a.2.1.1) k3.1 k3.2
        simp only [dec_lt hjt, inB_lt hjt, Int.toNat_natCast, ha, cond_true, Option.bind_some, r63_eq (a.1.size : Int) (by omega) (by omega), r63_eq a.2.1.1 k3.1 k3.2]
        rw [wrapS hjt (by omega), big (show (ByteArray.mk (varint (zig (a.1.size : Int))).toArray).size + a.1.size ≤ 1000000000 by omega), big (show (ByteArray.mk (varint (zig (a.1.size : Int))).toArray ++ a.1).size + (ByteArray.mk (varint (zig a.2.1.1)).toArray).size ≤ 1000000000 by rw [size_app]; omega)]
        simp only [cond_false]
        have e4 := encAll_len [(a.1.size : Int)] (in_cons (by omega) in_nil)
        have e5 := encAll_len [a.2.1.1] (in_cons k3 in_nil)
        simp only [List.length_cons, List.length_nil] at e4 e5
        have hlen2 : (b ++ (encAll [(a.1.size : Int)] ++ ofS a.1) ++ encAll [a.2.1.1]).length ≤ 200001000 := by simp only [List.length_append, ofS_len]; omega
        rw [n62 ((ByteArray.mk (varint (zig (a.1.size : Int))).toArray ++ a.1) ++ ByteArray.mk (varint (zig a.2.1.1)).toArray) b (by rw [size_app, size_app]; omega)]
        simp only [Option.bind_some]
        rw [ofS_app, ofS_app, ofS_mk (varint (zig (a.1.size : Int))), ofS_mk (varint (zig a.2.1.1)), ← enc1 (a.1.size : Int), ← enc1 a.2.1.1, ← List.append_assoc b (encAll [(a.1.size : Int)] ++ ofS a.1) (encAll [a.2.1.1])]
        refine ⟨?_, by omega⟩
        by_cases c1 : a.2.1.1 = 1
        · simp only [c1, decide_true, cond_true] at hlen2 ⊢
          rw [n64 [a.2.1.2.1] _ (in_cons k4 in_nil) (by simp only [List.length_cons, List.length_nil]; omega)]
          simp only [Option.bind_some, attB, c1, if_true]
        · by_cases c2 : a.2.1.1 = 2
          · have c1' : ¬ (2 : Int) = 1 := by decide
            have e6 := r63_size (n := (a.2.1.2.2.1.size : Int)) (by omega) (by omega)
            simp only [c2, c1', decide_true, decide_false, cond_true, cond_false, r63_eq (a.2.1.2.2.1.size : Int) (by omega) (by omega), Option.bind_some] at hlen2 ⊢
            rw [big (show (ByteArray.mk (varint (zig (a.2.1.2.2.1.size : Int))).toArray).size + a.2.1.2.2.1.size ≤ 1000000000 by omega)]
            simp only [cond_false]
            rw [n62 (ByteArray.mk (varint (zig (a.2.1.2.2.1.size : Int))).toArray ++ a.2.1.2.2.1) _ (by rw [size_app]; omega), ofS_app, ofS_mk (varint (zig (a.2.1.2.2.1.size : Int))), ← enc1 (a.2.1.2.2.1.size : Int)]
            simp only [Option.bind_some, attB, c2, c1', if_true, if_false]
          · by_cases c3 : a.2.1.1 = 3
            · have c1' : ¬ (3 : Int) = 1 := by decide
              have c2' : ¬ (3 : Int) = 2 := by decide
              simp only [c3, c1', c2', decide_true, decide_false, cond_true, cond_false] at hlen2 ⊢
              cases hbv : a.2.1.2.2.2.1 with
              | true =>
                simp only [show (true == false) = false from rfl, show (true == true) = true from rfl, cond_true, cond_false]
                rw [n62 (ByteArray.mk (List.toArray (List.cons (2 : UInt8) List.nil))) _ (Nat.le_trans (Nat.add_le_add_right hlen2 1) (by decide)), ofS_mk [2]]
                simp only [Option.bind_some, attB, c3, c1', c2', if_true, if_false, hbv]
              | false =>
                simp only [show (false == false) = true from rfl, cond_true]
                rw [n62 (ByteArray.mk (List.toArray (List.cons (0 : UInt8) List.nil))) _ (Nat.le_trans (Nat.add_le_add_right hlen2 1) (by decide)), ofS_mk [0]]
                simp only [Option.bind_some, attB, c3, c1', c2', if_true, if_false, hbv]
                simp
            · simp only [c1, c2, c3, decide_false, cond_false, attB, if_false, List.append_nil]
      · simp only [dec_nlt, cond_false]
    · have hjt := lt_of_get hp
      have hpl := hok.pts p (List.mem_of_getElem? hp)
      have hparts := hok.parts
      have hpf := partF_len t p hpl
      have hJ' : t.2.2.length ≤ s.2.length + 50 + 4010 * j := hJ
      have htl : t.2.2.length ≤ 200000000 := by clear hJ h1 h1' e62'; omega
      dsimp only [embR]
      simp only [dec_lt hjt, inB_lt hjt, Int.toNat_natCast, hp, cond_true, Option.bind_some]
      have he := encAll_len _ (len_in hpl)
      simp only [List.length_cons, List.length_nil] at he
      rw [wrapS hjt (by omega), n64 [(p.length : Int)] t.2.2 (len_in hpl) (by simp only [List.length_cons, List.length_nil]; omega)]
      simp only [Option.bind_some]
      have hs0 : (t.2.2 ++ encAll [(p.length : Int)]).length ≤ t.2.2.length + 10 := by rw [List.length_append]; omega
      rw [(loop_fold embR ptF (fun i u => u.2.2.length ≤ t.2.2.length + 10 + 20 * i) outR p (fun k q u hq hK => ?_) (fun u _ => ?_) (t.1, t.2.1, t.2.2 ++ encAll [(p.length : Int)]) (by omega)).1]
      · exact ⟨rfl, by clear hJ h1 h1' e62'; omega⟩
      · have hqt := lt_of_get hq
        have hqf := ptF_len u q
        have hK' : u.2.2.length ≤ t.2.2.length + 10 + 20 * k := hK
        dsimp only [embR]
        simp only [dec_lt hqt, inB_lt hqt, Int.toNat_natCast, hq, cond_true, Option.bind_some]
        rw [wrapS hqt (by omega), n64 [IntKind.wrap .i64 (q.1 - u.1), IntKind.wrap .i64 (q.2.1 - u.2.1)] u.2.2 (pt_in u q) (by simp only [List.length_cons, List.length_nil]; omega)]
        exact ⟨rfl, by omega⟩
      · dsimp only [embR]
        simp only [dec_nlt, cond_false]
    · dsimp only [embR]
      simp only [dec_nlt, cond_false]
  · simp only [dec_nlt, cond_false]
end Go.Proofs.YtgabpbnndikheaaDoor.I

/-! The law BinWrites, plainly. -/
namespace Go.Proofs.YtgabpbnndikheaaDoor.I
open Go.RowKit
set_option linter.unusedVariables false
set_option linter.constructorNameAsVariable false
theorem scan_zero (l : List DFea) (p : Int) (h : scan survF (fun f => f.1) 0 p l = 0) : ∀ f ∈ l, featV f = 0 := by
  induction l generalizing p with
  | nil => intro f hf; cases hf
  | cons a l ih =>
    simp only [scan] at h
    by_cases hz : featV a = 0
    · by_cases hc : a.1 ≤ p
      · simp [survF, hz, hc] at h
      · simp only [survF, hz, hc, ne_eq, not_true, if_false] at h
        intro f hf
        rcases List.mem_cons.1 hf with rfl | hf
        · exact hz
        · exact ih _ h f hf
    · simp [survF, hz] at h
theorem surv_zero {l : List DFea} (h : survV l = 0) : l.length ≤ 200 ∧ ∀ f ∈ l, featV f = 0 := by
  unfold survV at h
  by_cases h8 : 200 < l.length
  · simp [h8] at h
  · rw [if_neg h8] at h
    exact ⟨by omega, scan_zero l 0 h⟩
theorem feat_zero {f : DFea} (h : featV f = 0) : partsV f.2.1 f.2.2.1 = 0 ∧ attrsE false f.2.2.2.1 = 0 := by
  unfold featV at h
  by_cases k1 : f.1 < 1
  · simp [k1] at h
  by_cases k2 : 1073741824 < f.1
  · simp [k1, k2] at h
  by_cases k3 : partsV f.2.1 f.2.2.1 = 0
  · by_cases k4 : attrsE false f.2.2.2.1 = 0
    · exact ⟨k3, k4⟩
    · simp [k1, k2, k3, k4] at h
  · simp [k1, k2, k3] at h
theorem parts_zero {kind : Int} {l : List (List DPt)} (h : partsV kind l = 0) : l.length ≤ 20 ∧ ∀ p ∈ l, p.length ≤ 200 := by
  unfold partsV partsE at h
  by_cases k1 : kind < 1
  · simp [k1] at h
  by_cases k2 : 3 < kind
  · simp [k1, k2] at h
  by_cases k3 : 20 < l.length
  · simp [k1, k2, k3] at h
  by_cases k4 : l.any (fun p => decide ((200 : Int) < (p.length : Int))) = true
  · simp only [k1, k2, k3, k4, if_true, if_false] at h
    simp at h
  · refine ⟨by omega, fun p hp => ?_⟩
    rcases Nat.lt_or_ge 200 p.length with hl | hl
    · exact absurd (List.any_eq_true.2 ⟨p, hp, by simp; omega⟩) k4
    · exact hl
theorem name_size {s : ByteArray} (h : nameOk s = true) : s.size ≤ 12 := by
  unfold nameOk at h
  simp at h
  omega
theorem check_size {v : DVal} (h : checkV v = 0) : v.2.2.1.size ≤ 40 := by
  unfold checkV at h
  rcases Nat.lt_or_ge 40 v.2.2.1.size with hl | hl
  · have hl' : (40 : Int) < (v.2.2.1.size : Int) := by omega
    simp only [hl', if_true] at h
    split at h
    · cases h
    split at h
    · cases h
    split at h
    · cases h
    split at h
    · cases h
    split at h
    · cases h
    split at h
    · cases h
    split at h <;> cases h
  · exact hl
theorem attr_scan (l : List DAtt) (p : ByteArray) (h : scan (attF false) (fun a => a.1) 0 p l = 0) : ∀ a ∈ l, nameOk a.1 = true ∧ checkV a.2.1 = 0 := by
  induction l generalizing p with
  | nil => intro f hf; cases hf
  | cons a l ih =>
    simp only [scan] at h
    cases hno : nameOk a.1 with
    | false => simp [attF, hno] at h
    | true =>
      cases hless : strLt p a.1 with
      | false => simp [attF, hno, hless] at h
      | true =>
        by_cases hc : checkV a.2.1 = 0
        · by_cases hk : a.2.1.1 = 0
          · simp [attF, hno, hless, hc, hk] at h
          · simp only [attF, hno, hless, hc, hk, ne_eq, not_true, if_false, and_false, Bool.true_eq_false, reduceCtorEq] at h
            intro b hb
            rcases List.mem_cons.1 hb with rfl | hb
            · exact ⟨hno, hc⟩
            · exact ih _ h b hb
        · simp [attF, hno, hless, hc] at h
theorem attr_zero {l : List DAtt} (h : attrsE false l = 0) : l.length ≤ 8 ∧ ∀ a ∈ l, nameOk a.1 = true ∧ checkV a.2.1 = 0 := by
  unfold attrsE at h
  by_cases h8 : 8 < l.length
  · simp [h8] at h
  · rw [if_neg h8] at h
    exact ⟨by omega, attr_scan l _ h⟩
theorem fea_ok {f : DFea} (hs : small kFea f) (h : featV f = 0) : FeaOk f := by
  obtain ⟨h1, h2⟩ := feat_zero h
  obtain ⟨p1, p2⟩ := parts_zero h1
  obtain ⟨a1, a2⟩ := attr_zero h2
  have hs2 : small (.slice kAtt) f.2.2.2.1 := (fea_small hs).2
  refine ⟨p1, p2, a1, fun a ha => ?_, wf_in hs.2.1, wf_in hs.2.2.2.2.1⟩
  obtain ⟨n1, n2⟩ := a2 a ha
  have hsa : small kAtt a := hs2.2 a ha
  exact ⟨name_size n1, check_size n2, wf_in hsa.2.1.1, wf_in hsa.2.1.2.1⟩
theorem binWrites_raw (l : List DFea) (hs : small (.slice kFea) l) : r7 (l, ()) = some (true, ()) := by
  obtain ⟨hl, hb⟩ := surv_small hs
  unfold r7
  have e32 : r32 () = some (true, ()) := rfl
  have e17 : r17 (l, ()) = some (survV l, ()) := r17_eq l hs
  simp only [e32, e17, Option.bind_some, Bool.not_true, cond_false]
  by_cases h0 : survV l = 0
  · obtain ⟨k1, k2⟩ := surv_zero h0
    have hok : ∀ f ∈ l, FeaOk f := fun f hf => fea_ok (hb f hf) (k2 f hf)
    rw [r33_eq l hs hok k1 h0, r34_eq l hok k1]
    simp only [Option.bind_some, h0, decide_true, cond_true, Bool.not_true, cond_false]
    by_cases hc : 65536 < (total l).length
    · have hd : decide ((65536 : Int) < ((ByteArray.mk (total l).toArray).size : Int)) = true := by rw [size_mk]; simp; omega
      simp only [hd, cond_true, hc, if_true]
      rfl
    · have hd : decide ((65536 : Int) < ((ByteArray.mk (total l).toArray).size : Int)) = false := by rw [size_mk]; simp; omega
      simp only [hd, cond_false, hc, if_false, decide_true, cond_true, mkStr_toI]
  · have e33 : r33 (l, ()) = some ([], (survV l, ())) := by
      unfold r33
      have e16 : r16 (l, ()) = some (survV l, ()) := r16_eq l hs
      simp only [e16, Option.bind_some, decide_eq_false h0, Bool.not_false, cond_true]
    rw [e33]
    simp only [Option.bind_some, decide_eq_false h0, cond_false, Bool.not_false, cond_true, decide_true]
    rfl
end Go.Proofs.YtgabpbnndikheaaDoor.I
