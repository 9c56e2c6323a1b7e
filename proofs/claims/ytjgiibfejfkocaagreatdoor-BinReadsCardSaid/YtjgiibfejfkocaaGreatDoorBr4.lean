import Derived.Test.YtjgiibfejfkocaaGreatDoorBr3
import Derived.Test.YtjgiibfejfkocaaGreatDoorProg
import Derived.Lib.ItoaLen
import Derived.OpenShut
import Derived.Lib.Small
import Derived.Lib.Join
namespace Go.Proofs.YtjgiibfejfkocaaGreatDoor.I
open Go.RowKit
set_option linter.unusedVariables false
set_option maxRecDepth 100000
/-- terrier/bin.Put -/
noncomputable def r11 (x : (kdP [(.slice (.int .u8)), (.int .i64)]).T) : Option (kdP [(.slice (.int .u8))]).T :=
  (Option.bind (cloneByR (x.1, Unit.unit)) (fun x0 => (Option.bind (loop (D := (Prod (Kd.T (.pair (.slice (.int .u8)) (.pair (.int .u64) .unit))) (Kd.T .unit))) (O := (Sum (Kd.T (.pair (.pair (.slice (.int .u8)) (.pair (.int .u64) .unit)) .unit)) (OutT (List.nil)))) (fun x1 => (cond (Decidable.decide (LE.le (128 : Int) x1.1.2.1)) (cond (fits (HAdd.hAdd (List.length x1.1.1) (List.length (List.cons (IntKind.wrap IntKind.u8 (Nat.cast (BitVec.toNat (HOr.hOr (BitVec.ofInt 8 (IntKind.wrap IntKind.u8 x1.1.2.1)) (BitVec.ofInt 8 (128 : Int)))) : Int)) (List.nil)))) 1) (Option.some (Sum.inl (((HAppend.hAppend x1.1.1 (List.cons (IntKind.wrap IntKind.u8 (Nat.cast (BitVec.toNat (HOr.hOr (BitVec.ofInt 8 (IntKind.wrap IntKind.u8 x1.1.2.1)) (BitVec.ofInt 8 (128 : Int)))) : Int)) (List.nil))), ((Int.fdiv x1.1.2.1 (128 : Int)), Unit.unit)), Unit.unit))) (Option.none)) (Option.some (Sum.inr (Sum.inl ((x1.1.1, (x1.1.2.1, Unit.unit)), Unit.unit)))))) ((x0, ((IntKind.wrap IntKind.u64 (Nat.cast (BitVec.toNat (HXor.hXor (BitVec.ofInt 64 (IntKind.wrap IntKind.u64 (HMul.hMul (IntKind.wrap IntKind.u64 x.2.1) (2 : Int)))) (BitVec.ofInt 64 (IntKind.wrap IntKind.u64 (Int.fdiv x.2.1 (9223372036854775808 : Int)))))) : Int)), Unit.unit)), Unit.unit)) (sumE (fun x1 => (cond (fits (HAdd.hAdd (List.length x1.1.1) (List.length (List.cons (IntKind.wrap IntKind.u8 x1.1.2.1) (List.nil)))) 1) (Option.some ((HAppend.hAppend x1.1.1 (List.cons (IntKind.wrap IntKind.u8 x1.1.2.1) (List.nil))), Unit.unit)) (Option.none))) (emptyE)))))
theorem r11_ok : PureOk Go.Proofs.Tryz.prog nG gG 11 [(.slice (.int .u8)), (.int .i64)] [(.slice (.int .u8))] r11 :=
  pureOk_of_run (F := specOf [(25, cloneByS)]) (hs := hintOf [(0, ⟨⟨[(5, .own (.int .u8)), (6, .lf (.int .u64))], [], []⟩, [((.exit 0), ⟨[(5, .own (.int .u8)), (6, .lf (.int .u64))], [], []⟩)]⟩)]) stays_G (specOf_cons cloneByS_ok specOf_nil) mixed Go.Proofs.Tryz.func11 rfl (by kernel_rfl) (fun _ => by kernel_rfl)

/-- slices.Equal[[]byte,byte] -/
noncomputable def r10 (x : (kdP [(.slice (.int .u8)), (.slice (.int .u8))]).T) : Option (kdP [.bool]).T :=
  (cond (Bool.not (Decidable.decide (Eq (Nat.cast (List.length x.1) : Int) (Nat.cast (List.length x.2.1) : Int)))) (Option.some (Bool.false, Unit.unit)) (Option.bind (loop (D := (Prod (Kd.T (.pair (.int .i64) .unit)) (Kd.T .unit))) (O := (Sum (Kd.T (.pair (.pair .bool .unit) .unit)) (OutT (List.cons ((Ex3.exit 0), (Sh.mk (List.nil) (List.nil) (List.nil))) (List.nil))))) (fun x0 => (cond (Decidable.decide (LT.lt x0.1.1 (Nat.cast (List.length x.1) : Int))) (cond (inB x0.1.1 (List.length x.1)) (Option.bind (GetElem?.getElem? x.1 (Int.toNat x0.1.1)) (fun x1 => (cond (inB x0.1.1 (List.length x.2.1)) (Option.bind (GetElem?.getElem? x.2.1 (Int.toNat x0.1.1)) (fun x2 => (cond (Bool.not (Decidable.decide (Eq x1 x2))) (Option.some (Sum.inr (Sum.inl ((Bool.false, Unit.unit), Unit.unit)))) (Option.some (Sum.inl (((IntKind.wrap IntKind.i64 (HAdd.hAdd x0.1.1 (1 : Int))), Unit.unit), Unit.unit)))))) (Option.none)))) (Option.none)) (Option.some (Sum.inr (Sum.inr (Sum.inl (Unit.unit, Unit.unit))))))) (((0 : Int), Unit.unit), Unit.unit)) (sumE (fun x0 => (Option.some (x0.1.1, Unit.unit))) (sumE (fun x0 => (Option.some (Bool.true, Unit.unit))) (emptyE)))))
theorem r10_ok : PureOk Go.Proofs.Tryz.prog nG gG 10 [(.slice (.int .u8)), (.slice (.int .u8))] [.bool] r10 :=
  pureOk_of_run (F := specOf []) (hs := hintOf [(0, ⟨⟨[(13, .lf (.int .i64))], [], []⟩, [(.ret, ⟨[(4, .lf .bool)], [], []⟩), ((.exit 0), ⟨[], [], []⟩)]⟩)]) stays_G specOf_nil mixed Go.Proofs.Tryz.func10 rfl (by kernel_rfl) (fun _ => by kernel_rfl)

/-- terrier/terrlaw2.binBegun -/
noncomputable def r4 (x : (kdP []).T) : Option (kdP [.bool]).T :=
  (Option.bind (r11 ((List.nil), ((Neg.neg (1 : Int)), Unit.unit))) (fun x0 => (Option.bind (r10 (x0.1, ((List.cons (1 : Int) (List.nil)), Unit.unit))) (fun x1 => (Option.some (x1.1, Unit.unit))))))
theorem r4_ok : PureOk Go.Proofs.Tryz.prog nG gG 4 [] [.bool] r4 :=
  pureOk_of_run (F := specOf [(11, pureSpec [(.slice (.int .u8)), (.int .i64)] [(.slice (.int .u8))] r11), (10, pureSpec [(.slice (.int .u8)), (.slice (.int .u8))] [.bool] r10)]) (hs := hintOf []) stays_G (specOf_cons (PureOk.spec r11_ok) (specOf_cons (PureOk.spec r10_ok) specOf_nil)) mixed Go.Proofs.Tryz.func4 rfl (by kernel_rfl) (fun _ => by kernel_rfl)

/-- terrier/point.limit -/
noncomputable def r93 (x : (kdP [(.int .i64), (.int .i64)]).T) : Option (kdP [(.int .i64)]).T :=
  (Option.some ((maxI (IntKind.wrap IntKind.i64 (HSub.hSub (0 : Int) x.2.1)) (minI x.1 x.2.1)), Unit.unit))
theorem r93_ok : PureOk Go.Proofs.Tryz.prog nG gG 93 [(.int .i64), (.int .i64)] [(.int .i64)] r93 :=
  pureOk_of_run (F := specOf []) (hs := hintOf []) stays_G specOf_nil mixed Go.Proofs.Tryz.func93 rfl (by kernel_rfl) (fun _ => by kernel_rfl)

/-- terrier/point.Clamp -/
noncomputable def r79 (x : (kdP [(.pair (.int .i64) (.pair (.int .i64) .unit))]).T) : Option (kdP [(.pair (.int .i64) (.pair (.int .i64) .unit))]).T :=
  (Option.bind (r93 (x.1.1, ((1048576 : Int), Unit.unit))) (fun x0 => (Option.bind (r93 (x.1.2.1, ((1048576 : Int), Unit.unit))) (fun x1 => (Option.some ((x0.1, (x1.1, Unit.unit)), Unit.unit))))))
theorem r79_ok : PureOk Go.Proofs.Tryz.prog nG gG 79 [(.pair (.int .i64) (.pair (.int .i64) .unit))] [(.pair (.int .i64) (.pair (.int .i64) .unit))] r79 :=
  pureOk_of_run (F := specOf [(93, pureSpec [(.int .i64), (.int .i64)] [(.int .i64)] r93)]) (hs := hintOf []) stays_G (specOf_cons (PureOk.spec r93_ok) specOf_nil) mixed Go.Proofs.Tryz.func79 rfl (by kernel_rfl) (fun _ => by kernel_rfl)

/-- terrier/point.Ok -/
noncomputable def r56 (x : (kdP [(.pair (.int .i64) (.pair (.int .i64) .unit))]).T) : Option (kdP [.bool]).T :=
  (Option.bind (r79 ((x.1.1, (x.1.2.1, Unit.unit)), Unit.unit)) (fun x0 => (Option.some ((Bool.and (Decidable.decide (Eq x.1.1 x0.1.1)) (Decidable.decide (Eq x.1.2.1 x0.1.2.1))), Unit.unit))))
theorem r56_ok : PureOk Go.Proofs.Tryz.prog nG gG 56 [(.pair (.int .i64) (.pair (.int .i64) .unit))] [.bool] r56 :=
  pureOk_of_run (F := specOf [(79, pureSpec [(.pair (.int .i64) (.pair (.int .i64) .unit))] [(.pair (.int .i64) (.pair (.int .i64) .unit))] r79)]) (hs := hintOf []) stays_G (specOf_cons (PureOk.spec r79_ok) specOf_nil) mixed Go.Proofs.Tryz.func56 rfl (by kernel_rfl) (fun _ => by kernel_rfl)

/-- terrier/ring.Check$1 -/
noncomputable def r55 (x : (kdP [(.pair (.int .i64) (.pair (.int .i64) .unit))]).T) : Option (kdP [.bool]).T :=
  (Option.bind (r56 ((x.1.1, (x.1.2.1, Unit.unit)), Unit.unit)) (fun x0 => (Option.some ((Bool.not x0.1), Unit.unit))))
theorem r55_ok : PureOk Go.Proofs.Tryz.prog nG gG 55 [(.pair (.int .i64) (.pair (.int .i64) .unit))] [.bool] r55 :=
  pureOk_of_run (F := specOf [(56, pureSpec [(.pair (.int .i64) (.pair (.int .i64) .unit))] [.bool] r56)]) (hs := hintOf []) stays_G (specOf_cons (PureOk.spec r56_ok) specOf_nil) mixed Go.Proofs.Tryz.func55 rfl (by kernel_rfl) (fun _ => by kernel_rfl)

/-- slices.IndexFunc[[]terrier/api.Point,terrier/api.Point] -/
noncomputable def r78_55 (x : (kdP [(.slice (.pair (.int .i64) (.pair (.int .i64) .unit))), (.fn 55)]).T) : Option (kdP [(.int .i64)]).T :=
  (Option.bind (loop (D := (Prod (Kd.T (.pair (.int .i64) .unit)) (Kd.T .unit))) (O := (Sum (Kd.T (.pair (.pair (.int .i64) .unit) .unit)) (OutT (List.cons ((Ex3.exit 0), (Sh.mk (List.nil) (List.nil) (List.nil))) (List.nil))))) (fun x0 => (cond (Decidable.decide (LT.lt x0.1.1 (Nat.cast (List.length x.1) : Int))) (cond (inB x0.1.1 (List.length x.1)) (Option.bind (GetElem?.getElem? x.1 (Int.toNat x0.1.1)) (fun x1 => (Option.bind (r55 ((x1.1, (x1.2.1, Unit.unit)), Unit.unit)) (fun x2 => (cond x2.1 (Option.some (Sum.inr (Sum.inl ((x0.1.1, Unit.unit), Unit.unit)))) (Option.some (Sum.inl (((IntKind.wrap IntKind.i64 (HAdd.hAdd x0.1.1 (1 : Int))), Unit.unit), Unit.unit)))))))) (Option.none)) (Option.some (Sum.inr (Sum.inr (Sum.inl (Unit.unit, Unit.unit))))))) (((0 : Int), Unit.unit), Unit.unit)) (sumE (fun x0 => (Option.some (x0.1.1, Unit.unit))) (sumE (fun x0 => (Option.some ((Neg.neg (1 : Int)), Unit.unit))) (emptyE))))
theorem r78_55_ok : PureOk Go.Proofs.Tryz.prog nG gG 78 [(.slice (.pair (.int .i64) (.pair (.int .i64) .unit))), (.fn 55)] [(.int .i64)] r78_55 :=
  pureOk_of_run (F := specOf [(55, pureSpec [(.pair (.int .i64) (.pair (.int .i64) .unit))] [.bool] r55)]) (hs := hintOf [(0, ⟨⟨[(8, .lf (.int .i64))], [], []⟩, [(.ret, ⟨[(4, .lf (.int .i64))], [], []⟩), ((.exit 0), ⟨[], [], []⟩)]⟩)]) stays_G (specOf_cons (PureOk.spec r55_ok) specOf_nil) mixed Go.Proofs.Tryz.func78 rfl (by kernel_rfl) (fun _ => by kernel_rfl)

/-- slices.ContainsFunc[[]terrier/api.Point,terrier/api.Point] -/
noncomputable def r54_55 (x : (kdP [(.slice (.pair (.int .i64) (.pair (.int .i64) .unit))), (.fn 55)]).T) : Option (kdP [.bool]).T :=
  (Option.bind (r78_55 (x.1, (Unit.unit, Unit.unit))) (fun x0 => (Option.some ((Decidable.decide (LE.le (0 : Int) x0.1)), Unit.unit))))
theorem r54_55_ok : PureOk Go.Proofs.Tryz.prog nG gG 54 [(.slice (.pair (.int .i64) (.pair (.int .i64) .unit))), (.fn 55)] [.bool] r54_55 :=
  pureOk_of_run (F := specOf [(78, pickS [([55], pureSpec [(.slice (.pair (.int .i64) (.pair (.int .i64) .unit))), (.fn 55)] [(.int .i64)] r78_55)])]) (hs := hintOf []) stays_G (specOf_cons (pickS_one (PureOk.spec r78_55_ok)) specOf_nil) mixed Go.Proofs.Tryz.func54 rfl (by kernel_rfl) (fun _ => by kernel_rfl)

/-- terrier/point.way -/
noncomputable def r109 (x : (kdP [(.pair (.int .i64) (.pair (.int .i64) .unit)), (.pair (.int .i64) (.pair (.int .i64) .unit))]).T) : Option (kdP [(.pair (.int .i64) (.pair (.int .i64) .unit))]).T :=
  (Option.bind (r79 ((x.1.1, (x.1.2.1, Unit.unit)), Unit.unit)) (fun x0 => (Option.bind (r79 ((x.2.1.1, (x.2.1.2.1, Unit.unit)), Unit.unit)) (fun x1 => (Option.some (((IntKind.wrap IntKind.i64 (HSub.hSub x1.1.1 x0.1.1)), ((IntKind.wrap IntKind.i64 (HSub.hSub x1.1.2.1 x0.1.2.1)), Unit.unit)), Unit.unit))))))
theorem r109_ok : PureOk Go.Proofs.Tryz.prog nG gG 109 [(.pair (.int .i64) (.pair (.int .i64) .unit)), (.pair (.int .i64) (.pair (.int .i64) .unit))] [(.pair (.int .i64) (.pair (.int .i64) .unit))] r109 :=
  pureOk_of_run (F := specOf [(79, pureSpec [(.pair (.int .i64) (.pair (.int .i64) .unit))] [(.pair (.int .i64) (.pair (.int .i64) .unit))] r79)]) (hs := hintOf []) stays_G (specOf_cons (PureOk.spec r79_ok) specOf_nil) mixed Go.Proofs.Tryz.func109 rfl (by kernel_rfl) (fun _ => by kernel_rfl)

/-- terrier/point.Cross -/
noncomputable def r101 (x : (kdP [(.pair (.int .i64) (.pair (.int .i64) .unit)), (.pair (.int .i64) (.pair (.int .i64) .unit)), (.pair (.int .i64) (.pair (.int .i64) .unit))]).T) : Option (kdP [(.int .i64)]).T :=
  (Option.bind (r109 ((x.1.1, (x.1.2.1, Unit.unit)), ((x.2.1.1, (x.2.1.2.1, Unit.unit)), Unit.unit))) (fun x0 => (Option.bind (r109 ((x.1.1, (x.1.2.1, Unit.unit)), ((x.2.2.1.1, (x.2.2.1.2.1, Unit.unit)), Unit.unit))) (fun x1 => (Option.some ((IntKind.wrap IntKind.i64 (HSub.hSub (IntKind.wrap IntKind.i64 (HMul.hMul x0.1.1 x1.1.2.1)) (IntKind.wrap IntKind.i64 (HMul.hMul x0.1.2.1 x1.1.1)))), Unit.unit))))))
theorem r101_ok : PureOk Go.Proofs.Tryz.prog nG gG 101 [(.pair (.int .i64) (.pair (.int .i64) .unit)), (.pair (.int .i64) (.pair (.int .i64) .unit)), (.pair (.int .i64) (.pair (.int .i64) .unit))] [(.int .i64)] r101 :=
  pureOk_of_run (F := specOf [(109, pureSpec [(.pair (.int .i64) (.pair (.int .i64) .unit)), (.pair (.int .i64) (.pair (.int .i64) .unit))] [(.pair (.int .i64) (.pair (.int .i64) .unit))] r109)]) (hs := hintOf []) stays_G (specOf_cons (PureOk.spec r109_ok) specOf_nil) mixed Go.Proofs.Tryz.func101 rfl (by kernel_rfl) (fun _ => by kernel_rfl)

/-- cmp.isNaN[int] -/
noncomputable def r108 (x : (kdP [(.int .i64)]).T) : Option (kdP [.bool]).T :=
  (Option.some ((Bool.not (Decidable.decide (Eq x.1 x.1))), Unit.unit))
theorem r108_ok : PureOk Go.Proofs.Tryz.prog nG gG 108 [(.int .i64)] [.bool] r108 :=
  pureOk_of_run (F := specOf []) (hs := hintOf []) stays_G specOf_nil mixed Go.Proofs.Tryz.func108 rfl (by kernel_rfl) (fun _ => by kernel_rfl)

/-- cmp.Compare[int] -/
noncomputable def r100 (x : (kdP [(.int .i64), (.int .i64)]).T) : Option (kdP [(.int .i64)]).T :=
  (Option.bind (r108 (x.1, Unit.unit)) (fun x0 => (Option.bind (r108 (x.2.1, Unit.unit)) (fun x1 => (cond x0.1 (cond x1.1 (Option.some ((0 : Int), Unit.unit)) (Option.some ((Neg.neg (1 : Int)), Unit.unit))) (cond x1.1 (Option.some ((1 : Int), Unit.unit)) (cond (Decidable.decide (LT.lt x.1 x.2.1)) (Option.some ((Neg.neg (1 : Int)), Unit.unit)) (cond (Decidable.decide (LT.lt x.2.1 x.1)) (Option.some ((1 : Int), Unit.unit)) (Option.some ((0 : Int), Unit.unit))))))))))
theorem r100_ok : PureOk Go.Proofs.Tryz.prog nG gG 100 [(.int .i64), (.int .i64)] [(.int .i64)] r100 :=
  pureOk_of_run (F := specOf [(108, pureSpec [(.int .i64)] [.bool] r108)]) (hs := hintOf []) stays_G (specOf_cons (PureOk.spec r108_ok) specOf_nil) mixed Go.Proofs.Tryz.func100 rfl (by kernel_rfl) (fun _ => by kernel_rfl)

/-- terrier/point.Turn -/
noncomputable def r94 (x : (kdP [(.pair (.int .i64) (.pair (.int .i64) .unit)), (.pair (.int .i64) (.pair (.int .i64) .unit)), (.pair (.int .i64) (.pair (.int .i64) .unit))]).T) : Option (kdP [(.int .i64)]).T :=
  (Option.bind (r101 ((x.1.1, (x.1.2.1, Unit.unit)), ((x.2.1.1, (x.2.1.2.1, Unit.unit)), ((x.2.2.1.1, (x.2.2.1.2.1, Unit.unit)), Unit.unit)))) (fun x0 => (Option.bind (r100 (x0.1, ((0 : Int), Unit.unit))) (fun x1 => (Option.some (x1.1, Unit.unit))))))
theorem r94_ok : PureOk Go.Proofs.Tryz.prog nG gG 94 [(.pair (.int .i64) (.pair (.int .i64) .unit)), (.pair (.int .i64) (.pair (.int .i64) .unit)), (.pair (.int .i64) (.pair (.int .i64) .unit))] [(.int .i64)] r94 :=
  pureOk_of_run (F := specOf [(101, pureSpec [(.pair (.int .i64) (.pair (.int .i64) .unit)), (.pair (.int .i64) (.pair (.int .i64) .unit)), (.pair (.int .i64) (.pair (.int .i64) .unit))] [(.int .i64)] r101), (100, pureSpec [(.int .i64), (.int .i64)] [(.int .i64)] r100)]) (hs := hintOf []) stays_G (specOf_cons (PureOk.spec r101_ok) (specOf_cons (PureOk.spec r100_ok) specOf_nil)) mixed Go.Proofs.Tryz.func94 rfl (by kernel_rfl) (fun _ => by kernel_rfl)

/-- terrier/point.Dot -/
noncomputable def r110 (x : (kdP [(.pair (.int .i64) (.pair (.int .i64) .unit)), (.pair (.int .i64) (.pair (.int .i64) .unit)), (.pair (.int .i64) (.pair (.int .i64) .unit))]).T) : Option (kdP [(.int .i64)]).T :=
  (Option.bind (r109 ((x.1.1, (x.1.2.1, Unit.unit)), ((x.2.1.1, (x.2.1.2.1, Unit.unit)), Unit.unit))) (fun x0 => (Option.bind (r109 ((x.1.1, (x.1.2.1, Unit.unit)), ((x.2.2.1.1, (x.2.2.1.2.1, Unit.unit)), Unit.unit))) (fun x1 => (Option.some ((IntKind.wrap IntKind.i64 (HAdd.hAdd (IntKind.wrap IntKind.i64 (HMul.hMul x0.1.1 x1.1.1)) (IntKind.wrap IntKind.i64 (HMul.hMul x0.1.2.1 x1.1.2.1)))), Unit.unit))))))
theorem r110_ok : PureOk Go.Proofs.Tryz.prog nG gG 110 [(.pair (.int .i64) (.pair (.int .i64) .unit)), (.pair (.int .i64) (.pair (.int .i64) .unit)), (.pair (.int .i64) (.pair (.int .i64) .unit))] [(.int .i64)] r110 :=
  pureOk_of_run (F := specOf [(109, pureSpec [(.pair (.int .i64) (.pair (.int .i64) .unit)), (.pair (.int .i64) (.pair (.int .i64) .unit))] [(.pair (.int .i64) (.pair (.int .i64) .unit))] r109)]) (hs := hintOf []) stays_G (specOf_cons (PureOk.spec r109_ok) specOf_nil) mixed Go.Proofs.Tryz.func110 rfl (by kernel_rfl) (fun _ => by kernel_rfl)

/-- terrier/point.On -/
noncomputable def r103 (x : (kdP [(.pair (.int .i64) (.pair (.int .i64) .unit)), (.pair (.int .i64) (.pair (.int .i64) .unit)), (.pair (.int .i64) (.pair (.int .i64) .unit))]).T) : Option (kdP [.bool]).T :=
  (Option.bind (r94 ((x.1.1, (x.1.2.1, Unit.unit)), ((x.2.1.1, (x.2.1.2.1, Unit.unit)), ((x.2.2.1.1, (x.2.2.1.2.1, Unit.unit)), Unit.unit)))) (fun x0 => (cond (Decidable.decide (Eq x0.1 (0 : Int))) (Option.bind (r110 ((x.2.2.1.1, (x.2.2.1.2.1, Unit.unit)), ((x.1.1, (x.1.2.1, Unit.unit)), ((x.2.1.1, (x.2.1.2.1, Unit.unit)), Unit.unit)))) (fun x1 => (Option.some ((Decidable.decide (LE.le x1.1 (0 : Int))), Unit.unit)))) (Option.some (Bool.false, Unit.unit)))))
theorem r103_ok : PureOk Go.Proofs.Tryz.prog nG gG 103 [(.pair (.int .i64) (.pair (.int .i64) .unit)), (.pair (.int .i64) (.pair (.int .i64) .unit)), (.pair (.int .i64) (.pair (.int .i64) .unit))] [.bool] r103 :=
  pureOk_of_run (F := specOf [(94, pureSpec [(.pair (.int .i64) (.pair (.int .i64) .unit)), (.pair (.int .i64) (.pair (.int .i64) .unit)), (.pair (.int .i64) (.pair (.int .i64) .unit))] [(.int .i64)] r94), (110, pureSpec [(.pair (.int .i64) (.pair (.int .i64) .unit)), (.pair (.int .i64) (.pair (.int .i64) .unit)), (.pair (.int .i64) (.pair (.int .i64) .unit))] [(.int .i64)] r110)]) (hs := hintOf []) stays_G (specOf_cons (PureOk.spec r94_ok) (specOf_cons (PureOk.spec r110_ok) specOf_nil)) mixed Go.Proofs.Tryz.func103 rfl (by kernel_rfl) (fun _ => by kernel_rfl)

/-- terrier/seg.shared$1 -/
noncomputable def r102 (x : (kdP [(.pair (.int .i64) (.pair (.int .i64) .unit)), (.pair (.int .i64) (.pair (.int .i64) .unit)), (.pair (.int .i64) (.pair (.int .i64) .unit))]).T) (d : (kdL [.own (.pair (.int .i64) (.pair (.int .i64) .unit))]).T) : Option ((kdP []).T × (kdL [.own (.pair (.int .i64) (.pair (.int .i64) .unit))]).T) :=
  (Option.bind (r103 ((x.2.1.1, (x.2.1.2.1, Unit.unit)), ((x.2.2.1.1, (x.2.2.1.2.1, Unit.unit)), ((x.1.1, (x.1.2.1, Unit.unit)), Unit.unit)))) (fun x0 => (cond (Bool.not x0.1) (Option.some (Unit.unit, (d.1, Unit.unit))) (Option.bind (loop (D := (Prod (Kd.T (.pair (.int .i64) .unit)) (Kd.T .unit))) (O := (Sum (Kd.T (.pair .unit .unit)) (OutT (List.cons ((Ex3.exit 0), (Sh.mk (List.nil) (List.nil) (List.nil))) (List.nil))))) (fun x1 => (cond (Decidable.decide (LT.lt x1.1.1 (Nat.cast (List.length d.1) : Int))) (cond (inB x1.1.1 (List.length d.1)) (Option.bind (GetElem?.getElem? d.1 (Int.toNat x1.1.1)) (fun x2 => (cond (Bool.and (Decidable.decide (Eq x2.1 x.1.1)) (Decidable.decide (Eq x2.2.1 x.1.2.1))) (Option.some (Sum.inr (Sum.inl (Unit.unit, Unit.unit)))) (Option.some (Sum.inl (((IntKind.wrap IntKind.i64 (HAdd.hAdd x1.1.1 (1 : Int))), Unit.unit), Unit.unit)))))) (Option.none)) (Option.some (Sum.inr (Sum.inr (Sum.inl (Unit.unit, Unit.unit))))))) (((0 : Int), Unit.unit), Unit.unit)) (sumE (fun x1 => (Option.some (Unit.unit, (d.1, Unit.unit)))) (sumE (fun x1 => (cond (fits (HAdd.hAdd (List.length d.1) (List.length (List.cons (x.1.1, (x.1.2.1, Unit.unit)) (List.nil)))) 16) (Option.some (Unit.unit, ((HAppend.hAppend d.1 (List.cons (x.1.1, (x.1.2.1, Unit.unit)) (List.nil))), Unit.unit))) (Option.none))) (emptyE)))))))
theorem r102_ok : SpecOk Go.Proofs.Tryz.prog nG gG 102 (memSpec [.dat (.pair (.int .i64) (.pair (.int .i64) .unit)), .dat (.pair (.int .i64) (.pair (.int .i64) .unit)), .dat (.pair (.int .i64) (.pair (.int .i64) .unit)), .ptr 0 0] [(0, [.own (.pair (.int .i64) (.pair (.int .i64) .unit))])] [(0, [.own (.pair (.int .i64) (.pair (.int .i64) .unit))])] [] r102) :=
  memSpec_ok (F := specOf [(103, pureSpec [(.pair (.int .i64) (.pair (.int .i64) .unit)), (.pair (.int .i64) (.pair (.int .i64) .unit)), (.pair (.int .i64) (.pair (.int .i64) .unit))] [.bool] r103)]) (hs := hintOf [(0, ⟨⟨[(16, .lf (.int .i64))], [], []⟩, [(.ret, ⟨[], [], []⟩), ((.exit 0), ⟨[], [], []⟩)]⟩)]) stays_G (specOf_cons (PureOk.spec r103_ok) specOf_nil) mixed Go.Proofs.Tryz.func102 rfl (by kernel_rfl) (by kernel_rfl) (fun _ _ => by kernel_rfl)

/-- terrier/seg.shared -/
noncomputable def r95 (x : (kdP [(.pair (.int .i64) (.pair (.int .i64) .unit)), (.pair (.int .i64) (.pair (.int .i64) .unit)), (.pair (.int .i64) (.pair (.int .i64) .unit)), (.pair (.int .i64) (.pair (.int .i64) .unit))]).T) : Option (kdP [(.slice (.pair (.int .i64) (.pair (.int .i64) .unit)))]).T :=
  (Option.bind (r102 ((x.1.1, (x.1.2.1, Unit.unit)), ((x.2.2.1.1, (x.2.2.1.2.1, Unit.unit)), ((x.2.2.2.1.1, (x.2.2.2.1.2.1, Unit.unit)), Unit.unit))) ((List.nil), Unit.unit)) (fun x0 => (Option.bind (r102 ((x.2.1.1, (x.2.1.2.1, Unit.unit)), ((x.2.2.1.1, (x.2.2.1.2.1, Unit.unit)), ((x.2.2.2.1.1, (x.2.2.2.1.2.1, Unit.unit)), Unit.unit))) (x0.2.1, Unit.unit)) (fun x1 => (Option.bind (r102 ((x.2.2.1.1, (x.2.2.1.2.1, Unit.unit)), ((x.1.1, (x.1.2.1, Unit.unit)), ((x.2.1.1, (x.2.1.2.1, Unit.unit)), Unit.unit))) (x1.2.1, Unit.unit)) (fun x2 => (Option.bind (r102 ((x.2.2.2.1.1, (x.2.2.2.1.2.1, Unit.unit)), ((x.1.1, (x.1.2.1, Unit.unit)), ((x.2.1.1, (x.2.1.2.1, Unit.unit)), Unit.unit))) (x2.2.1, Unit.unit)) (fun x3 => (Option.some (x3.2.1, Unit.unit))))))))))
theorem r95_ok : PureOk Go.Proofs.Tryz.prog nG gG 95 [(.pair (.int .i64) (.pair (.int .i64) .unit)), (.pair (.int .i64) (.pair (.int .i64) .unit)), (.pair (.int .i64) (.pair (.int .i64) .unit)), (.pair (.int .i64) (.pair (.int .i64) .unit))] [(.slice (.pair (.int .i64) (.pair (.int .i64) .unit)))] r95 :=
  pureOk_of_run (F := specOf [(102, memSpec [.dat (.pair (.int .i64) (.pair (.int .i64) .unit)), .dat (.pair (.int .i64) (.pair (.int .i64) .unit)), .dat (.pair (.int .i64) (.pair (.int .i64) .unit)), .ptr 0 0] [(0, [.own (.pair (.int .i64) (.pair (.int .i64) .unit))])] [(0, [.own (.pair (.int .i64) (.pair (.int .i64) .unit))])] [] r102)]) (hs := hintOf []) stays_G (specOf_cons r102_ok specOf_nil) mixed Go.Proofs.Tryz.func95 rfl (by kernel_rfl) (fun _ => by kernel_rfl)

/-- terrier/seg.Meet -/
noncomputable def r80 (x : (kdP [(.pair (.int .i64) (.pair (.int .i64) .unit)), (.pair (.int .i64) (.pair (.int .i64) .unit)), (.pair (.int .i64) (.pair (.int .i64) .unit)), (.pair (.int .i64) (.pair (.int .i64) .unit))]).T) : Option (kdP [(.int .i64)]).T :=
  (Option.bind (r79 ((x.1.1, (x.1.2.1, Unit.unit)), Unit.unit)) (fun x0 => (Option.bind (r79 ((x.2.1.1, (x.2.1.2.1, Unit.unit)), Unit.unit)) (fun x1 => (Option.bind (r79 ((x.2.2.1.1, (x.2.2.1.2.1, Unit.unit)), Unit.unit)) (fun x2 => (Option.bind (r79 ((x.2.2.2.1.1, (x.2.2.2.1.2.1, Unit.unit)), Unit.unit)) (fun x3 => (Option.bind (r94 ((x0.1.1, (x0.1.2.1, Unit.unit)), ((x1.1.1, (x1.1.2.1, Unit.unit)), ((x2.1.1, (x2.1.2.1, Unit.unit)), Unit.unit)))) (fun x4 => (Option.bind (r94 ((x0.1.1, (x0.1.2.1, Unit.unit)), ((x1.1.1, (x1.1.2.1, Unit.unit)), ((x3.1.1, (x3.1.2.1, Unit.unit)), Unit.unit)))) (fun x5 => (cond (Decidable.decide (LT.lt (IntKind.wrap IntKind.i64 (HMul.hMul x4.1 x5.1)) (0 : Int))) (Option.bind (r94 ((x2.1.1, (x2.1.2.1, Unit.unit)), ((x3.1.1, (x3.1.2.1, Unit.unit)), ((x0.1.1, (x0.1.2.1, Unit.unit)), Unit.unit)))) (fun x6 => (Option.bind (r94 ((x2.1.1, (x2.1.2.1, Unit.unit)), ((x3.1.1, (x3.1.2.1, Unit.unit)), ((x1.1.1, (x1.1.2.1, Unit.unit)), Unit.unit)))) (fun x7 => (cond (Decidable.decide (LT.lt (IntKind.wrap IntKind.i64 (HMul.hMul x6.1 x7.1)) (0 : Int))) (Option.some ((1 : Int), Unit.unit)) (Option.bind (r95 ((x0.1.1, (x0.1.2.1, Unit.unit)), ((x1.1.1, (x1.1.2.1, Unit.unit)), ((x2.1.1, (x2.1.2.1, Unit.unit)), ((x3.1.1, (x3.1.2.1, Unit.unit)), Unit.unit))))) (fun x8 => (Option.some ((minI (2 : Int) (Nat.cast (List.length x8.1) : Int)), Unit.unit))))))))) (Option.bind (r95 ((x0.1.1, (x0.1.2.1, Unit.unit)), ((x1.1.1, (x1.1.2.1, Unit.unit)), ((x2.1.1, (x2.1.2.1, Unit.unit)), ((x3.1.1, (x3.1.2.1, Unit.unit)), Unit.unit))))) (fun x6 => (Option.some ((minI (2 : Int) (Nat.cast (List.length x6.1) : Int)), Unit.unit)))))))))))))))))
theorem r80_ok : PureOk Go.Proofs.Tryz.prog nG gG 80 [(.pair (.int .i64) (.pair (.int .i64) .unit)), (.pair (.int .i64) (.pair (.int .i64) .unit)), (.pair (.int .i64) (.pair (.int .i64) .unit)), (.pair (.int .i64) (.pair (.int .i64) .unit))] [(.int .i64)] r80 :=
  pureOk_of_run (F := specOf [(79, pureSpec [(.pair (.int .i64) (.pair (.int .i64) .unit))] [(.pair (.int .i64) (.pair (.int .i64) .unit))] r79), (94, pureSpec [(.pair (.int .i64) (.pair (.int .i64) .unit)), (.pair (.int .i64) (.pair (.int .i64) .unit)), (.pair (.int .i64) (.pair (.int .i64) .unit))] [(.int .i64)] r94), (95, pureSpec [(.pair (.int .i64) (.pair (.int .i64) .unit)), (.pair (.int .i64) (.pair (.int .i64) .unit)), (.pair (.int .i64) (.pair (.int .i64) .unit)), (.pair (.int .i64) (.pair (.int .i64) .unit))] [(.slice (.pair (.int .i64) (.pair (.int .i64) .unit)))] r95)]) (hs := hintOf []) stays_G (specOf_cons (PureOk.spec r79_ok) (specOf_cons (PureOk.spec r94_ok) (specOf_cons (PureOk.spec r95_ok) specOf_nil))) mixed Go.Proofs.Tryz.func80 rfl (by kernel_rfl) (fun _ => by kernel_rfl)

/-- terrier/ring.apart -/
noncomputable def r57 (x : (kdP [(.slice (.pair (.int .i64) (.pair (.int .i64) .unit))), (.int .i64), (.int .i64)]).T) : Option (kdP [.bool]).T :=
  (cond (inB x.2.1 (List.length x.1)) (Option.bind (GetElem?.getElem? x.1 (Int.toNat x.2.1)) (fun x0 => (cond (Decidable.decide (Eq (Nat.cast (List.length x.1) : Int) (0 : Int))) (Option.none) (cond (inB (Int.tmod (IntKind.wrap IntKind.i64 (HAdd.hAdd x.2.1 (1 : Int))) (Nat.cast (List.length x.1) : Int)) (List.length x.1)) (Option.bind (GetElem?.getElem? x.1 (Int.toNat (Int.tmod (IntKind.wrap IntKind.i64 (HAdd.hAdd x.2.1 (1 : Int))) (Nat.cast (List.length x.1) : Int)))) (fun x1 => (cond (inB x.2.2.1 (List.length x.1)) (Option.bind (GetElem?.getElem? x.1 (Int.toNat x.2.2.1)) (fun x2 => (cond (Decidable.decide (Eq (Nat.cast (List.length x.1) : Int) (0 : Int))) (Option.none) (cond (inB (Int.tmod (IntKind.wrap IntKind.i64 (HAdd.hAdd x.2.2.1 (1 : Int))) (Nat.cast (List.length x.1) : Int)) (List.length x.1)) (Option.bind (GetElem?.getElem? x.1 (Int.toNat (Int.tmod (IntKind.wrap IntKind.i64 (HAdd.hAdd x.2.2.1 (1 : Int))) (Nat.cast (List.length x.1) : Int)))) (fun x3 => (cond (Decidable.decide (Eq (Nat.cast (List.length x.1) : Int) (0 : Int))) (Option.none) (cond (Bool.and (Decidable.decide (Eq x0.1 x1.1)) (Decidable.decide (Eq x0.2.1 x1.2.1))) (Option.some (Bool.false, Unit.unit)) (cond (Bool.and (Decidable.decide (Eq x2.1 x3.1)) (Decidable.decide (Eq x2.2.1 x3.2.1))) (Option.some (Bool.false, Unit.unit)) (cond (Decidable.decide (Eq (IntKind.wrap IntKind.i64 (HAdd.hAdd x.2.1 (1 : Int))) x.2.2.1)) (Option.bind (r80 ((x0.1, (x0.2.1, Unit.unit)), ((x1.1, (x1.2.1, Unit.unit)), ((x2.1, (x2.2.1, Unit.unit)), ((x3.1, (x3.2.1, Unit.unit)), Unit.unit))))) (fun x4 => (Option.some ((Decidable.decide (Eq x4.1 (1 : Int))), Unit.unit)))) (cond (Decidable.decide (Eq (Int.tmod (IntKind.wrap IntKind.i64 (HAdd.hAdd x.2.2.1 (1 : Int))) (Nat.cast (List.length x.1) : Int)) x.2.1)) (Option.bind (r80 ((x0.1, (x0.2.1, Unit.unit)), ((x1.1, (x1.2.1, Unit.unit)), ((x2.1, (x2.2.1, Unit.unit)), ((x3.1, (x3.2.1, Unit.unit)), Unit.unit))))) (fun x4 => (Option.some ((Decidable.decide (Eq x4.1 (1 : Int))), Unit.unit)))) (Option.bind (r80 ((x0.1, (x0.2.1, Unit.unit)), ((x1.1, (x1.2.1, Unit.unit)), ((x2.1, (x2.2.1, Unit.unit)), ((x3.1, (x3.2.1, Unit.unit)), Unit.unit))))) (fun x4 => (Option.some ((Decidable.decide (Eq x4.1 (0 : Int))), Unit.unit))))))))))) (Option.none))))) (Option.none)))) (Option.none))))) (Option.none))
theorem r57_ok : PureOk Go.Proofs.Tryz.prog nG gG 57 [(.slice (.pair (.int .i64) (.pair (.int .i64) .unit))), (.int .i64), (.int .i64)] [.bool] r57 :=
  pureOk_of_run (F := specOf [(80, pureSpec [(.pair (.int .i64) (.pair (.int .i64) .unit)), (.pair (.int .i64) (.pair (.int .i64) .unit)), (.pair (.int .i64) (.pair (.int .i64) .unit)), (.pair (.int .i64) (.pair (.int .i64) .unit))] [(.int .i64)] r80)]) (hs := hintOf []) stays_G (specOf_cons (PureOk.spec r80_ok) specOf_nil) mixed Go.Proofs.Tryz.func57 rfl (by kernel_rfl) (fun _ => by kernel_rfl)

/-- terrier/ring.Check -/
noncomputable def r43 (x : (kdP [(.slice (.pair (.int .i64) (.pair (.int .i64) .unit)))]).T) : Option (kdP [(.int .i64)]).T :=
  (cond (Decidable.decide (LT.lt (200 : Int) (Nat.cast (List.length x.1) : Int))) (Option.some ((2 : Int), Unit.unit)) (cond (Decidable.decide (LT.lt (Nat.cast (List.length x.1) : Int) (3 : Int))) (Option.some ((3 : Int), Unit.unit)) (Option.bind (r54_55 (x.1, (Unit.unit, Unit.unit))) (fun x0 => (cond x0.1 (Option.some ((1 : Int), Unit.unit)) (Option.bind (loop (D := (Prod (Kd.T (.pair (.int .i64) .unit)) (Kd.T .unit))) (O := (Sum (Kd.T (.pair (.pair (.int .i64) .unit) .unit)) (OutT (List.cons ((Ex3.exit 1), (Sh.mk (List.nil) (List.nil) (List.nil))) (List.nil))))) (fun x1 => (cond (Decidable.decide (LT.lt x1.1.1 (Nat.cast (List.length x.1) : Int))) (Option.bind (loop (D := (Prod (Kd.T (.pair (.int .i64) .unit)) (Kd.T .unit))) (O := (Sum (Kd.T (.pair (.pair (.int .i64) .unit) .unit)) (OutT (List.cons ((Ex3.exit 3), (Sh.mk (List.nil) (List.nil) (List.nil))) (List.nil))))) (fun x2 => (cond (Decidable.decide (LT.lt x2.1.1 x1.1.1)) (Option.bind (r57 (x.1, (x2.1.1, (x1.1.1, Unit.unit)))) (fun x3 => (cond (Bool.not x3.1) (Option.some (Sum.inr (Sum.inl (((10 : Int), Unit.unit), Unit.unit)))) (Option.some (Sum.inl (((IntKind.wrap IntKind.i64 (HAdd.hAdd x2.1.1 (1 : Int))), Unit.unit), Unit.unit)))))) (Option.some (Sum.inr (Sum.inr (Sum.inl (Unit.unit, Unit.unit))))))) (((0 : Int), Unit.unit), Unit.unit)) (sumE (fun x2 => (Option.some (Sum.inr (Sum.inl ((x2.1.1, Unit.unit), Unit.unit))))) (sumE (fun x2 => (Option.some (Sum.inl (((IntKind.wrap IntKind.i64 (HAdd.hAdd x1.1.1 (1 : Int))), Unit.unit), Unit.unit)))) (emptyE)))) (Option.some (Sum.inr (Sum.inr (Sum.inl (Unit.unit, Unit.unit))))))) (((0 : Int), Unit.unit), Unit.unit)) (sumE (fun x1 => (Option.some (x1.1.1, Unit.unit))) (sumE (fun x1 => (Option.some ((0 : Int), Unit.unit))) (emptyE)))))))))
theorem r43_ok : PureOk Go.Proofs.Tryz.prog nG gG 43 [(.slice (.pair (.int .i64) (.pair (.int .i64) .unit)))] [(.int .i64)] r43 :=
  pureOk_of_run (F := specOf [(54, pickS [([55], pureSpec [(.slice (.pair (.int .i64) (.pair (.int .i64) .unit))), (.fn 55)] [.bool] r54_55)]), (57, pureSpec [(.slice (.pair (.int .i64) (.pair (.int .i64) .unit))), (.int .i64), (.int .i64)] [.bool] r57)]) (hs := hintOf [(3, ⟨⟨[(22, .lf (.int .i64))], [], []⟩, [(.ret, ⟨[(2, .lf (.int .i64))], [], []⟩), ((.exit 3), ⟨[], [], []⟩)]⟩), (1, ⟨⟨[(18, .lf (.int .i64))], [], []⟩, [(.ret, ⟨[(2, .lf (.int .i64))], [], []⟩), ((.exit 1), ⟨[], [], []⟩)]⟩)]) stays_G (specOf_cons (pickS_one (PureOk.spec r54_55_ok)) (specOf_cons (PureOk.spec r57_ok) specOf_nil)) mixed Go.Proofs.Tryz.func43 rfl (by kernel_rfl) (fun _ => by kernel_rfl)

/-- terrier/area.corners -/
noncomputable def r58 (x : (kdP [(.pair (.int .i64) (.pair (.int .i64) .unit)), (.pair (.int .i64) (.pair (.int .i64) .unit)), (.pair (.int .i64) (.pair (.int .i64) .unit)), (.pair (.int .i64) (.pair (.int .i64) .unit))]).T) : Option (kdP [.bool]).T :=
  (Option.bind (r80 ((x.1.1, (x.1.2.1, Unit.unit)), ((x.2.1.1, (x.2.1.2.1, Unit.unit)), ((x.2.2.1.1, (x.2.2.1.2.1, Unit.unit)), ((x.2.2.2.1.1, (x.2.2.2.1.2.1, Unit.unit)), Unit.unit))))) (fun x0 => (cond (Decidable.decide (Eq x0.1 (0 : Int))) (Option.some (Bool.true, Unit.unit)) (cond (Decidable.decide (Eq x0.1 (1 : Int))) (cond (Bool.and (Decidable.decide (Eq x.1.1 x.2.2.1.1)) (Decidable.decide (Eq x.1.2.1 x.2.2.1.2.1))) (Option.some (Bool.true, Unit.unit)) (cond (Bool.and (Decidable.decide (Eq x.1.1 x.2.2.2.1.1)) (Decidable.decide (Eq x.1.2.1 x.2.2.2.1.2.1))) (Option.some (Bool.true, Unit.unit)) (cond (Bool.and (Decidable.decide (Eq x.2.1.1 x.2.2.1.1)) (Decidable.decide (Eq x.2.1.2.1 x.2.2.1.2.1))) (Option.some (Bool.true, Unit.unit)) (Option.some ((Bool.and (Decidable.decide (Eq x.2.1.1 x.2.2.2.1.1)) (Decidable.decide (Eq x.2.1.2.1 x.2.2.2.1.2.1))), Unit.unit))))) (Option.some (Bool.false, Unit.unit))))))
theorem r58_ok : PureOk Go.Proofs.Tryz.prog nG gG 58 [(.pair (.int .i64) (.pair (.int .i64) .unit)), (.pair (.int .i64) (.pair (.int .i64) .unit)), (.pair (.int .i64) (.pair (.int .i64) .unit)), (.pair (.int .i64) (.pair (.int .i64) .unit))] [.bool] r58 :=
  pureOk_of_run (F := specOf [(80, pureSpec [(.pair (.int .i64) (.pair (.int .i64) .unit)), (.pair (.int .i64) (.pair (.int .i64) .unit)), (.pair (.int .i64) (.pair (.int .i64) .unit)), (.pair (.int .i64) (.pair (.int .i64) .unit))] [(.int .i64)] r80)]) (hs := hintOf []) stays_G (specOf_cons (PureOk.spec r80_ok) specOf_nil) mixed Go.Proofs.Tryz.func58 rfl (by kernel_rfl) (fun _ => by kernel_rfl)

/-- terrier/area.side -/
noncomputable def r81 (x : (kdP [(.slice (.pair (.int .i64) (.pair (.int .i64) .unit))), (.int .i64), (.slice (.pair (.int .i64) (.pair (.int .i64) .unit)))]).T) : Option (kdP [(.int .i64)]).T :=
  (cond (inB x.2.1 (List.length x.1)) (Option.bind (GetElem?.getElem? x.1 (Int.toNat x.2.1)) (fun x0 => (cond (Decidable.decide (Eq (Nat.cast (List.length x.1) : Int) (0 : Int))) (Option.none) (cond (inB (Int.tmod (IntKind.wrap IntKind.i64 (HAdd.hAdd x.2.1 (1 : Int))) (Nat.cast (List.length x.1) : Int)) (List.length x.1)) (Option.bind (GetElem?.getElem? x.1 (Int.toNat (Int.tmod (IntKind.wrap IntKind.i64 (HAdd.hAdd x.2.1 (1 : Int))) (Nat.cast (List.length x.1) : Int)))) (fun x1 => (Option.bind (loop (D := (Prod (Kd.T (.pair (.int .i64) (.pair (.int .i64) .unit))) (Kd.T .unit))) (O := (Sum (Kd.T (.pair (.pair (.int .i64) .unit) .unit)) (OutT (List.nil)))) (fun x2 => (cond (Decidable.decide (LT.lt x2.1.2.1 (Nat.cast (List.length x.2.2.1) : Int))) (cond (inB x2.1.2.1 (List.length x.2.2.1)) (Option.bind (GetElem?.getElem? x.2.2.1 (Int.toNat x2.1.2.1)) (fun x3 => (cond (Decidable.decide (Eq (Nat.cast (List.length x.2.2.1) : Int) (0 : Int))) (Option.none) (cond (inB (Int.tmod (IntKind.wrap IntKind.i64 (HAdd.hAdd x2.1.2.1 (1 : Int))) (Nat.cast (List.length x.2.2.1) : Int)) (List.length x.2.2.1)) (Option.bind (GetElem?.getElem? x.2.2.1 (Int.toNat (Int.tmod (IntKind.wrap IntKind.i64 (HAdd.hAdd x2.1.2.1 (1 : Int))) (Nat.cast (List.length x.2.2.1) : Int)))) (fun x4 => (cond (Decidable.decide (LT.lt x4.2.1 x3.2.1)) (cond (Decidable.decide (LT.lt (IntKind.wrap IntKind.i64 (HMul.hMul (2 : Int) x4.2.1)) (IntKind.wrap IntKind.i64 (HAdd.hAdd x0.2.1 x1.2.1)))) (cond (Decidable.decide (LE.le (IntKind.wrap IntKind.i64 (HAdd.hAdd x0.2.1 x1.2.1)) (IntKind.wrap IntKind.i64 (HMul.hMul (2 : Int) x3.2.1)))) (cond (Decidable.decide (LT.lt (0 : Int) (IntKind.wrap IntKind.i64 (HSub.hSub (IntKind.wrap IntKind.i64 (HMul.hMul (IntKind.wrap IntKind.i64 (HSub.hSub x3.1 x4.1)) (IntKind.wrap IntKind.i64 (HSub.hSub (IntKind.wrap IntKind.i64 (HAdd.hAdd x0.2.1 x1.2.1)) (IntKind.wrap IntKind.i64 (HMul.hMul (2 : Int) x4.2.1)))))) (IntKind.wrap IntKind.i64 (HMul.hMul (IntKind.wrap IntKind.i64 (HSub.hSub x3.2.1 x4.2.1)) (IntKind.wrap IntKind.i64 (HSub.hSub (IntKind.wrap IntKind.i64 (HAdd.hAdd x0.1 x1.1)) (IntKind.wrap IntKind.i64 (HMul.hMul (2 : Int) x4.1)))))))))) (Option.some (Sum.inl (((IntKind.wrap IntKind.i64 (HSub.hSub (0 : Int) x2.1.1)), ((IntKind.wrap IntKind.i64 (HAdd.hAdd x2.1.2.1 (1 : Int))), Unit.unit)), Unit.unit))) (Option.some (Sum.inl ((x2.1.1, ((IntKind.wrap IntKind.i64 (HAdd.hAdd x2.1.2.1 (1 : Int))), Unit.unit)), Unit.unit)))) (Option.some (Sum.inl ((x2.1.1, ((IntKind.wrap IntKind.i64 (HAdd.hAdd x2.1.2.1 (1 : Int))), Unit.unit)), Unit.unit)))) (Option.some (Sum.inl ((x2.1.1, ((IntKind.wrap IntKind.i64 (HAdd.hAdd x2.1.2.1 (1 : Int))), Unit.unit)), Unit.unit)))) (cond (Decidable.decide (LT.lt (IntKind.wrap IntKind.i64 (HMul.hMul (2 : Int) x3.2.1)) (IntKind.wrap IntKind.i64 (HAdd.hAdd x0.2.1 x1.2.1)))) (cond (Decidable.decide (LE.le (IntKind.wrap IntKind.i64 (HAdd.hAdd x0.2.1 x1.2.1)) (IntKind.wrap IntKind.i64 (HMul.hMul (2 : Int) x4.2.1)))) (cond (Decidable.decide (LT.lt (0 : Int) (IntKind.wrap IntKind.i64 (HSub.hSub (IntKind.wrap IntKind.i64 (HMul.hMul (IntKind.wrap IntKind.i64 (HSub.hSub x4.1 x3.1)) (IntKind.wrap IntKind.i64 (HSub.hSub (IntKind.wrap IntKind.i64 (HAdd.hAdd x0.2.1 x1.2.1)) (IntKind.wrap IntKind.i64 (HMul.hMul (2 : Int) x3.2.1)))))) (IntKind.wrap IntKind.i64 (HMul.hMul (IntKind.wrap IntKind.i64 (HSub.hSub x4.2.1 x3.2.1)) (IntKind.wrap IntKind.i64 (HSub.hSub (IntKind.wrap IntKind.i64 (HAdd.hAdd x0.1 x1.1)) (IntKind.wrap IntKind.i64 (HMul.hMul (2 : Int) x3.1)))))))))) (Option.some (Sum.inl (((IntKind.wrap IntKind.i64 (HSub.hSub (0 : Int) x2.1.1)), ((IntKind.wrap IntKind.i64 (HAdd.hAdd x2.1.2.1 (1 : Int))), Unit.unit)), Unit.unit))) (Option.some (Sum.inl ((x2.1.1, ((IntKind.wrap IntKind.i64 (HAdd.hAdd x2.1.2.1 (1 : Int))), Unit.unit)), Unit.unit)))) (Option.some (Sum.inl ((x2.1.1, ((IntKind.wrap IntKind.i64 (HAdd.hAdd x2.1.2.1 (1 : Int))), Unit.unit)), Unit.unit)))) (Option.some (Sum.inl ((x2.1.1, ((IntKind.wrap IntKind.i64 (HAdd.hAdd x2.1.2.1 (1 : Int))), Unit.unit)), Unit.unit))))))) (Option.none))))) (Option.none)) (Option.some (Sum.inr (Sum.inl ((x2.1.1, Unit.unit), Unit.unit)))))) (((Neg.neg (1 : Int)), ((0 : Int), Unit.unit)), Unit.unit)) (sumE (fun x2 => (Option.some (x2.1.1, Unit.unit))) (emptyE))))) (Option.none))))) (Option.none))
theorem r81_ok : PureOk Go.Proofs.Tryz.prog nG gG 81 [(.slice (.pair (.int .i64) (.pair (.int .i64) .unit))), (.int .i64), (.slice (.pair (.int .i64) (.pair (.int .i64) .unit)))] [(.int .i64)] r81 :=
  pureOk_of_run (F := specOf []) (hs := hintOf [(0, ⟨⟨[(10, .lf (.int .i64)), (40, .lf (.int .i64))], [], []⟩, [((.exit 0), ⟨[(10, .lf (.int .i64))], [], []⟩)]⟩)]) stays_G specOf_nil mixed Go.Proofs.Tryz.func81 rfl (by kernel_rfl) (fun _ => by kernel_rfl)

/-- slices.Index[[]int,int] -/
noncomputable def r96 (x : (kdP [(.slice (.int .i64)), (.int .i64)]).T) : Option (kdP [(.int .i64)]).T :=
  (Option.bind (loop (D := (Prod (Kd.T (.pair (.int .i64) .unit)) (Kd.T .unit))) (O := (Sum (Kd.T (.pair (.pair (.int .i64) .unit) .unit)) (OutT (List.cons ((Ex3.exit 0), (Sh.mk (List.nil) (List.nil) (List.nil))) (List.nil))))) (fun x0 => (cond (Decidable.decide (LT.lt x0.1.1 (Nat.cast (List.length x.1) : Int))) (cond (inB x0.1.1 (List.length x.1)) (Option.bind (GetElem?.getElem? x.1 (Int.toNat x0.1.1)) (fun x1 => (cond (Decidable.decide (Eq x.2.1 x1)) (Option.some (Sum.inr (Sum.inl ((x0.1.1, Unit.unit), Unit.unit)))) (Option.some (Sum.inl (((IntKind.wrap IntKind.i64 (HAdd.hAdd x0.1.1 (1 : Int))), Unit.unit), Unit.unit)))))) (Option.none)) (Option.some (Sum.inr (Sum.inr (Sum.inl (Unit.unit, Unit.unit))))))) (((0 : Int), Unit.unit), Unit.unit)) (sumE (fun x0 => (Option.some (x0.1.1, Unit.unit))) (sumE (fun x0 => (Option.some ((Neg.neg (1 : Int)), Unit.unit))) (emptyE))))
theorem r96_ok : PureOk Go.Proofs.Tryz.prog nG gG 96 [(.slice (.int .i64)), (.int .i64)] [(.int .i64)] r96 :=
  pureOk_of_run (F := specOf []) (hs := hintOf [(0, ⟨⟨[(8, .lf (.int .i64))], [], []⟩, [(.ret, ⟨[(4, .lf (.int .i64))], [], []⟩), ((.exit 0), ⟨[], [], []⟩)]⟩)]) stays_G specOf_nil mixed Go.Proofs.Tryz.func96 rfl (by kernel_rfl) (fun _ => by kernel_rfl)

/-- slices.Contains[[]int,int] -/
noncomputable def r82 (x : (kdP [(.slice (.int .i64)), (.int .i64)]).T) : Option (kdP [.bool]).T :=
  (Option.bind (r96 (x.1, (x.2.1, Unit.unit))) (fun x0 => (Option.some ((Decidable.decide (LE.le (0 : Int) x0.1)), Unit.unit))))
theorem r82_ok : PureOk Go.Proofs.Tryz.prog nG gG 82 [(.slice (.int .i64)), (.int .i64)] [.bool] r82 :=
  pureOk_of_run (F := specOf [(96, pureSpec [(.slice (.int .i64)), (.int .i64)] [(.int .i64)] r96)]) (hs := hintOf []) stays_G (specOf_cons (PureOk.spec r96_ok) specOf_nil) mixed Go.Proofs.Tryz.func82 rfl (by kernel_rfl) (fun _ => by kernel_rfl)

/-- terrier/area.sides -/
noncomputable def r59 (x : (kdP [(.slice (.pair (.int .i64) (.pair (.int .i64) .unit))), (.slice (.pair (.int .i64) (.pair (.int .i64) .unit)))]).T) : Option (kdP [(.slice (.int .i64))]).T :=
  (Option.bind (loop (D := (Prod (Kd.T (.pair (.slice (.int .i64)) (.pair (.int .i64) .unit))) (Kd.T .unit))) (O := (Sum (Kd.T (.pair (.pair (.slice (.int .i64)) .unit) .unit)) (OutT (List.nil)))) (fun x0 => (cond (Decidable.decide (LT.lt x0.1.2.1 (Nat.cast (List.length x.1) : Int))) (Option.bind (r81 (x.1, (x0.1.2.1, (x.2.1, Unit.unit)))) (fun x1 => (Option.bind (r82 (x0.1.1, (x1.1, Unit.unit))) (fun x2 => (cond (Bool.not x2.1) (cond (fits (HAdd.hAdd (List.length x0.1.1) (List.length (List.cons x1.1 (List.nil)))) 8) (Option.some (Sum.inl (((HAppend.hAppend x0.1.1 (List.cons x1.1 (List.nil))), ((IntKind.wrap IntKind.i64 (HAdd.hAdd x0.1.2.1 (1 : Int))), Unit.unit)), Unit.unit))) (Option.none)) (Option.some (Sum.inl ((x0.1.1, ((IntKind.wrap IntKind.i64 (HAdd.hAdd x0.1.2.1 (1 : Int))), Unit.unit)), Unit.unit)))))))) (Option.some (Sum.inr (Sum.inl ((x0.1.1, Unit.unit), Unit.unit)))))) (((List.nil), ((0 : Int), Unit.unit)), Unit.unit)) (sumE (fun x0 => (Option.some (x0.1.1, Unit.unit))) (emptyE)))
theorem r59_ok : PureOk Go.Proofs.Tryz.prog nG gG 59 [(.slice (.pair (.int .i64) (.pair (.int .i64) .unit))), (.slice (.pair (.int .i64) (.pair (.int .i64) .unit)))] [(.slice (.int .i64))] r59 :=
  pureOk_of_run (F := specOf [(81, pureSpec [(.slice (.pair (.int .i64) (.pair (.int .i64) .unit))), (.int .i64), (.slice (.pair (.int .i64) (.pair (.int .i64) .unit)))] [(.int .i64)] r81), (82, pureSpec [(.slice (.int .i64)), (.int .i64)] [.bool] r82)]) (hs := hintOf [(0, ⟨⟨[(5, .own (.int .i64)), (10, .lf (.int .i64))], [], []⟩, [((.exit 0), ⟨[(5, .own (.int .i64))], [], []⟩)]⟩)]) stays_G (specOf_cons (PureOk.spec r81_ok) (specOf_cons (PureOk.spec r82_ok) specOf_nil)) mixed Go.Proofs.Tryz.func59 rfl (by kernel_rfl) (fun _ => by kernel_rfl)

/-- terrier/area.fits -/
noncomputable def r44 (x : (kdP [(.slice (.pair (.int .i64) (.pair (.int .i64) .unit))), (.slice (.pair (.int .i64) (.pair (.int .i64) .unit)))]).T) : Option (kdP [.bool]).T :=
  (Option.bind (loop (D := (Prod (Kd.T (.pair (.int .i64) .unit)) (Kd.T .unit))) (O := (Sum (Kd.T (.pair (.pair .bool .unit) .unit)) (OutT (List.cons ((Ex3.exit 0), (Sh.mk (List.nil) (List.nil) (List.nil))) (List.nil))))) (fun x0 => (cond (Decidable.decide (LT.lt x0.1.1 (Nat.cast (List.length x.1) : Int))) (Option.bind (loop (D := (Prod (Kd.T (.pair (.int .i64) .unit)) (Kd.T .unit))) (O := (Sum (Kd.T (.pair (.pair .bool .unit) .unit)) (OutT (List.cons ((Ex3.exit 2), (Sh.mk (List.nil) (List.nil) (List.nil))) (List.nil))))) (fun x1 => (cond (Decidable.decide (LT.lt x1.1.1 (Nat.cast (List.length x.2.1) : Int))) (cond (inB x0.1.1 (List.length x.1)) (Option.bind (GetElem?.getElem? x.1 (Int.toNat x0.1.1)) (fun x2 => (cond (Decidable.decide (Eq (Nat.cast (List.length x.1) : Int) (0 : Int))) (Option.none) (cond (inB (Int.tmod (IntKind.wrap IntKind.i64 (HAdd.hAdd x0.1.1 (1 : Int))) (Nat.cast (List.length x.1) : Int)) (List.length x.1)) (Option.bind (GetElem?.getElem? x.1 (Int.toNat (Int.tmod (IntKind.wrap IntKind.i64 (HAdd.hAdd x0.1.1 (1 : Int))) (Nat.cast (List.length x.1) : Int)))) (fun x3 => (cond (inB x1.1.1 (List.length x.2.1)) (Option.bind (GetElem?.getElem? x.2.1 (Int.toNat x1.1.1)) (fun x4 => (cond (Decidable.decide (Eq (Nat.cast (List.length x.2.1) : Int) (0 : Int))) (Option.none) (cond (inB (Int.tmod (IntKind.wrap IntKind.i64 (HAdd.hAdd x1.1.1 (1 : Int))) (Nat.cast (List.length x.2.1) : Int)) (List.length x.2.1)) (Option.bind (GetElem?.getElem? x.2.1 (Int.toNat (Int.tmod (IntKind.wrap IntKind.i64 (HAdd.hAdd x1.1.1 (1 : Int))) (Nat.cast (List.length x.2.1) : Int)))) (fun x5 => (Option.bind (r58 ((x2.1, (x2.2.1, Unit.unit)), ((x3.1, (x3.2.1, Unit.unit)), ((x4.1, (x4.2.1, Unit.unit)), ((x5.1, (x5.2.1, Unit.unit)), Unit.unit))))) (fun x6 => (cond (Bool.not x6.1) (Option.some (Sum.inr (Sum.inl ((Bool.false, Unit.unit), Unit.unit)))) (Option.some (Sum.inl (((IntKind.wrap IntKind.i64 (HAdd.hAdd x1.1.1 (1 : Int))), Unit.unit), Unit.unit)))))))) (Option.none))))) (Option.none)))) (Option.none))))) (Option.none)) (Option.some (Sum.inr (Sum.inr (Sum.inl (Unit.unit, Unit.unit))))))) (((0 : Int), Unit.unit), Unit.unit)) (sumE (fun x1 => (Option.some (Sum.inr (Sum.inl ((x1.1.1, Unit.unit), Unit.unit))))) (sumE (fun x1 => (Option.some (Sum.inl (((IntKind.wrap IntKind.i64 (HAdd.hAdd x0.1.1 (1 : Int))), Unit.unit), Unit.unit)))) (emptyE)))) (Option.some (Sum.inr (Sum.inr (Sum.inl (Unit.unit, Unit.unit))))))) (((0 : Int), Unit.unit), Unit.unit)) (sumE (fun x0 => (Option.some (x0.1.1, Unit.unit))) (sumE (fun x0 => (Option.bind (r59 (x.1, (x.2.1, Unit.unit))) (fun x1 => (cond (Decidable.decide (Eq (Nat.cast (List.length x1.1) : Int) (1 : Int))) (Option.bind (r59 (x.2.1, (x.1, Unit.unit))) (fun x2 => (Option.some ((Decidable.decide (Eq (Nat.cast (List.length x2.1) : Int) (1 : Int))), Unit.unit)))) (Option.some (Bool.false, Unit.unit)))))) (emptyE))))
theorem r44_ok : PureOk Go.Proofs.Tryz.prog nG gG 44 [(.slice (.pair (.int .i64) (.pair (.int .i64) .unit))), (.slice (.pair (.int .i64) (.pair (.int .i64) .unit)))] [.bool] r44 :=
  pureOk_of_run (F := specOf [(58, pureSpec [(.pair (.int .i64) (.pair (.int .i64) .unit)), (.pair (.int .i64) (.pair (.int .i64) .unit)), (.pair (.int .i64) (.pair (.int .i64) .unit)), (.pair (.int .i64) (.pair (.int .i64) .unit))] [.bool] r58), (59, pureSpec [(.slice (.pair (.int .i64) (.pair (.int .i64) .unit))), (.slice (.pair (.int .i64) (.pair (.int .i64) .unit)))] [(.slice (.int .i64))] r59)]) (hs := hintOf [(2, ⟨⟨[(14, .lf (.int .i64))], [], []⟩, [(.ret, ⟨[(4, .lf .bool)], [], []⟩), ((.exit 2), ⟨[], [], []⟩)]⟩), (0, ⟨⟨[(9, .lf (.int .i64))], [], []⟩, [(.ret, ⟨[(4, .lf .bool)], [], []⟩), ((.exit 0), ⟨[], [], []⟩)]⟩)]) stays_G (specOf_cons (PureOk.spec r58_ok) (specOf_cons (PureOk.spec r59_ok) specOf_nil)) mixed Go.Proofs.Tryz.func44 rfl (by kernel_rfl) (fun _ => by kernel_rfl)

/-- terrier/area.Check -/
noncomputable def r36 (x : (kdP [(.slice (.slice (.pair (.int .i64) (.pair (.int .i64) .unit))))]).T) : Option (kdP [(.int .i64)]).T :=
  (cond (Decidable.decide (LT.lt (20 : Int) (Nat.cast (List.length x.1) : Int))) (Option.some ((2 : Int), Unit.unit)) (Option.bind (loop (D := (Prod (Kd.T (.pair (.int .i64) .unit)) (Kd.T .unit))) (O := (Sum (Kd.T (.pair (.pair (.int .i64) .unit) .unit)) (OutT (List.cons ((Ex3.exit 0), (Sh.mk (List.nil) (List.nil) (List.nil))) (List.nil))))) (fun x0 => (cond (Decidable.decide (LT.lt x0.1.1 (Nat.cast (List.length x.1) : Int))) (cond (inB x0.1.1 (List.length x.1)) (Option.bind (GetElem?.getElem? x.1 (Int.toNat x0.1.1)) (fun x1 => (Option.bind (r43 (x1, Unit.unit)) (fun x2 => (cond (Bool.not (Decidable.decide (Eq x2.1 (0 : Int)))) (Option.some (Sum.inr (Sum.inl ((x2.1, Unit.unit), Unit.unit)))) (Option.some (Sum.inl (((IntKind.wrap IntKind.i64 (HAdd.hAdd x0.1.1 (1 : Int))), Unit.unit), Unit.unit)))))))) (Option.none)) (Option.some (Sum.inr (Sum.inr (Sum.inl (Unit.unit, Unit.unit))))))) (((0 : Int), Unit.unit), Unit.unit)) (sumE (fun x0 => (Option.some (x0.1.1, Unit.unit))) (sumE (fun x0 => (Option.bind (loop (D := (Prod (Kd.T (.pair (.int .i64) .unit)) (Kd.T .unit))) (O := (Sum (Kd.T (.pair (.pair (.int .i64) .unit) .unit)) (OutT (List.cons ((Ex3.exit 2), (Sh.mk (List.nil) (List.nil) (List.nil))) (List.nil))))) (fun x1 => (cond (Decidable.decide (LT.lt x1.1.1 (Nat.cast (List.length x.1) : Int))) (cond (inB x1.1.1 (List.length x.1)) (Option.bind (GetElem?.getElem? x.1 (Int.toNat x1.1.1)) (fun x2 => (cond (upTo x1.1.1 (Nat.cast (List.length x.1) : Int)) (Option.bind (loop (D := (Prod (Kd.T (.pair (.int .i64) .unit)) (Kd.T .unit))) (O := (Sum (Kd.T (.pair (.pair (.int .i64) .unit) .unit)) (OutT (List.cons ((Ex3.exit 4), (Sh.mk (List.nil) (List.nil) (List.nil))) (List.nil))))) (fun x3 => (cond (Decidable.decide (LT.lt x3.1.1 (Nat.cast (List.length (List.take (Int.toNat x1.1.1) x.1)) : Int))) (cond (inB x3.1.1 (List.length (List.take (Int.toNat x1.1.1) x.1))) (Option.bind (GetElem?.getElem? (List.take (Int.toNat x1.1.1) x.1) (Int.toNat x3.1.1)) (fun x4 => (Option.bind (r44 (x2, (x4, Unit.unit))) (fun x5 => (cond (Bool.not x5.1) (Option.some (Sum.inr (Sum.inl (((10 : Int), Unit.unit), Unit.unit)))) (Option.some (Sum.inl (((IntKind.wrap IntKind.i64 (HAdd.hAdd x3.1.1 (1 : Int))), Unit.unit), Unit.unit)))))))) (Option.none)) (Option.some (Sum.inr (Sum.inr (Sum.inl (Unit.unit, Unit.unit))))))) (((0 : Int), Unit.unit), Unit.unit)) (sumE (fun x3 => (Option.some (Sum.inr (Sum.inl ((x3.1.1, Unit.unit), Unit.unit))))) (sumE (fun x3 => (Option.some (Sum.inl (((IntKind.wrap IntKind.i64 (HAdd.hAdd x1.1.1 (1 : Int))), Unit.unit), Unit.unit)))) (emptyE)))) (Option.none)))) (Option.none)) (Option.some (Sum.inr (Sum.inr (Sum.inl (Unit.unit, Unit.unit))))))) (((0 : Int), Unit.unit), Unit.unit)) (sumE (fun x1 => (Option.some (x1.1.1, Unit.unit))) (sumE (fun x1 => (Option.some ((0 : Int), Unit.unit))) (emptyE))))) (emptyE)))))
theorem r36_ok : PureOk Go.Proofs.Tryz.prog nG gG 36 [(.slice (.slice (.pair (.int .i64) (.pair (.int .i64) .unit))))] [(.int .i64)] r36 :=
  pureOk_of_run (F := specOf [(43, pureSpec [(.slice (.pair (.int .i64) (.pair (.int .i64) .unit)))] [(.int .i64)] r43), (44, pureSpec [(.slice (.pair (.int .i64) (.pair (.int .i64) .unit))), (.slice (.pair (.int .i64) (.pair (.int .i64) .unit)))] [.bool] r44)]) (hs := hintOf [(4, ⟨⟨[(36, .lf (.int .i64))], [], []⟩, [(.ret, ⟨[(2, .lf (.int .i64))], [], []⟩), ((.exit 4), ⟨[], [], []⟩)]⟩), (2, ⟨⟨[(27, .lf (.int .i64))], [], []⟩, [(.ret, ⟨[(2, .lf (.int .i64))], [], []⟩), ((.exit 2), ⟨[], [], []⟩)]⟩), (0, ⟨⟨[(15, .lf (.int .i64))], [], []⟩, [(.ret, ⟨[(2, .lf (.int .i64))], [], []⟩), ((.exit 0), ⟨[], [], []⟩)]⟩)]) stays_G (specOf_cons (PureOk.spec r43_ok) (specOf_cons (PureOk.spec r44_ok) specOf_nil)) mixed Go.Proofs.Tryz.func36 rfl (by kernel_rfl) (fun _ => by kernel_rfl)

/-- terrier/terrref2.PartsErr -/
noncomputable def r26 (x : (kdP [(.int .i64), (.slice (.slice (.pair (.int .i64) (.pair (.int .i64) .unit))))]).T) : Option (kdP [(.int .i64)]).T :=
  (cond (Decidable.decide (LT.lt x.1 (1 : Int))) (Option.some ((8 : Int), Unit.unit)) (cond (Decidable.decide (LT.lt (3 : Int) x.1)) (Option.some ((8 : Int), Unit.unit)) (Option.bind (loop (D := (Prod (Kd.T (.pair .bool (.pair (.int .i64) .unit))) (Kd.T .unit))) (O := (Sum (Kd.T (.pair (.pair .bool .unit) .unit)) (OutT (List.nil)))) (fun x0 => (cond (Decidable.decide (LT.lt x0.1.2.1 (Nat.cast (List.length x.2.1) : Int))) (cond (inB x0.1.2.1 (List.length x.2.1)) (Option.bind (GetElem?.getElem? x.2.1 (Int.toNat x0.1.2.1)) (fun x1 => (cond x0.1.1 (Option.some (Sum.inl ((Bool.true, ((IntKind.wrap IntKind.i64 (HAdd.hAdd x0.1.2.1 (1 : Int))), Unit.unit)), Unit.unit))) (Option.some (Sum.inl (((Decidable.decide (LT.lt (200 : Int) (Nat.cast (List.length x1) : Int))), ((IntKind.wrap IntKind.i64 (HAdd.hAdd x0.1.2.1 (1 : Int))), Unit.unit)), Unit.unit)))))) (Option.none)) (Option.some (Sum.inr (Sum.inl ((x0.1.1, Unit.unit), Unit.unit)))))) (((Decidable.decide (LT.lt (20 : Int) (Nat.cast (List.length x.2.1) : Int))), ((0 : Int), Unit.unit)), Unit.unit)) (sumE (fun x0 => (cond x0.1.1 (Option.some ((2 : Int), Unit.unit)) (cond (Decidable.decide (Eq (Nat.cast (List.length x.2.1) : Int) (0 : Int))) (Option.some ((4 : Int), Unit.unit)) (Option.bind (loop (D := (Prod (Kd.T (.pair (.int .i64) .unit)) (Kd.T .unit))) (O := (Sum (Kd.T (.pair (.pair (.int .i64) .unit) .unit)) (OutT (List.cons ((Ex3.exit 2), (Sh.mk (List.nil) (List.nil) (List.nil))) (List.nil))))) (fun x1 => (cond (Decidable.decide (LT.lt x1.1.1 (Nat.cast (List.length x.2.1) : Int))) (cond (inB x1.1.1 (List.length x.2.1)) (Option.bind (GetElem?.getElem? x.2.1 (Int.toNat x1.1.1)) (fun x2 => (Option.bind (loop (D := (Prod (Kd.T (.pair (.int .i64) .unit)) (Kd.T .unit))) (O := (Sum (Kd.T (.pair (.pair (.int .i64) .unit) .unit)) (OutT (List.cons ((Ex3.exit 4), (Sh.mk (List.nil) (List.nil) (List.nil))) (List.nil))))) (fun x3 => (cond (Decidable.decide (LT.lt x3.1.1 (Nat.cast (List.length x2) : Int))) (cond (inB x3.1.1 (List.length x2)) (Option.bind (GetElem?.getElem? x2 (Int.toNat x3.1.1)) (fun x4 => (cond (Decidable.decide (LT.lt x4.1 (Neg.neg (1048576 : Int)))) (Option.some (Sum.inr (Sum.inl (((1 : Int), Unit.unit), Unit.unit)))) (cond (Decidable.decide (LT.lt (1048576 : Int) x4.1)) (Option.some (Sum.inr (Sum.inl (((1 : Int), Unit.unit), Unit.unit)))) (cond (Decidable.decide (LT.lt x4.2.1 (Neg.neg (1048576 : Int)))) (Option.some (Sum.inr (Sum.inl (((1 : Int), Unit.unit), Unit.unit)))) (cond (Decidable.decide (LT.lt (1048576 : Int) x4.2.1)) (Option.some (Sum.inr (Sum.inl (((1 : Int), Unit.unit), Unit.unit)))) (Option.some (Sum.inl (((IntKind.wrap IntKind.i64 (HAdd.hAdd x3.1.1 (1 : Int))), Unit.unit), Unit.unit))))))))) (Option.none)) (Option.some (Sum.inr (Sum.inr (Sum.inl (Unit.unit, Unit.unit))))))) (((0 : Int), Unit.unit), Unit.unit)) (sumE (fun x3 => (Option.some (Sum.inr (Sum.inl ((x3.1.1, Unit.unit), Unit.unit))))) (sumE (fun x3 => (cond (Decidable.decide (Eq x.1 (1 : Int))) (cond (Bool.not (Decidable.decide (Eq (Nat.cast (List.length x2) : Int) (1 : Int)))) (Option.some (Sum.inr (Sum.inl (((3 : Int), Unit.unit), Unit.unit)))) (cond (Decidable.decide (Eq x.1 (2 : Int))) (cond (Decidable.decide (LT.lt (Nat.cast (List.length x2) : Int) (2 : Int))) (Option.some (Sum.inr (Sum.inl (((3 : Int), Unit.unit), Unit.unit)))) (Option.bind (loop (D := (Prod (Kd.T (.pair (.int .i64) .unit)) (Kd.T .unit))) (O := (Sum (Kd.T (.pair (.pair (.int .i64) .unit) .unit)) (OutT (List.cons ((Ex3.exit 6), (Sh.mk (List.nil) (List.nil) (List.nil))) (List.nil))))) (fun x4 => (cond (Decidable.decide (LT.lt x4.1.1 (Nat.cast (List.length x2) : Int))) (cond (Decidable.decide (Eq x.1 (2 : Int))) (cond (Decidable.decide (LT.lt (IntKind.wrap IntKind.i64 (HAdd.hAdd x4.1.1 (1 : Int))) (Nat.cast (List.length x2) : Int))) (cond (inB x4.1.1 (List.length x2)) (Option.bind (GetElem?.getElem? x2 (Int.toNat x4.1.1)) (fun x5 => (cond (inB (IntKind.wrap IntKind.i64 (HAdd.hAdd x4.1.1 (1 : Int))) (List.length x2)) (Option.bind (GetElem?.getElem? x2 (Int.toNat (IntKind.wrap IntKind.i64 (HAdd.hAdd x4.1.1 (1 : Int))))) (fun x6 => (cond (Bool.and (Decidable.decide (Eq x5.1 x6.1)) (Decidable.decide (Eq x5.2.1 x6.2.1))) (Option.some (Sum.inr (Sum.inl (((3 : Int), Unit.unit), Unit.unit)))) (Option.some (Sum.inl (((IntKind.wrap IntKind.i64 (HAdd.hAdd x4.1.1 (1 : Int))), Unit.unit), Unit.unit)))))) (Option.none)))) (Option.none)) (Option.some (Sum.inl (((IntKind.wrap IntKind.i64 (HAdd.hAdd x4.1.1 (1 : Int))), Unit.unit), Unit.unit)))) (Option.some (Sum.inl (((IntKind.wrap IntKind.i64 (HAdd.hAdd x4.1.1 (1 : Int))), Unit.unit), Unit.unit)))) (Option.some (Sum.inr (Sum.inr (Sum.inl (Unit.unit, Unit.unit))))))) (((0 : Int), Unit.unit), Unit.unit)) (sumE (fun x4 => (Option.some (Sum.inr (Sum.inl ((x4.1.1, Unit.unit), Unit.unit))))) (sumE (fun x4 => (Option.some (Sum.inl (((IntKind.wrap IntKind.i64 (HAdd.hAdd x1.1.1 (1 : Int))), Unit.unit), Unit.unit)))) (emptyE))))) (Option.bind (loop (D := (Prod (Kd.T (.pair (.int .i64) .unit)) (Kd.T .unit))) (O := (Sum (Kd.T (.pair (.pair (.int .i64) .unit) .unit)) (OutT (List.cons ((Ex3.exit 6), (Sh.mk (List.nil) (List.nil) (List.nil))) (List.nil))))) (fun x4 => (cond (Decidable.decide (LT.lt x4.1.1 (Nat.cast (List.length x2) : Int))) (cond (Decidable.decide (Eq x.1 (2 : Int))) (cond (Decidable.decide (LT.lt (IntKind.wrap IntKind.i64 (HAdd.hAdd x4.1.1 (1 : Int))) (Nat.cast (List.length x2) : Int))) (cond (inB x4.1.1 (List.length x2)) (Option.bind (GetElem?.getElem? x2 (Int.toNat x4.1.1)) (fun x5 => (cond (inB (IntKind.wrap IntKind.i64 (HAdd.hAdd x4.1.1 (1 : Int))) (List.length x2)) (Option.bind (GetElem?.getElem? x2 (Int.toNat (IntKind.wrap IntKind.i64 (HAdd.hAdd x4.1.1 (1 : Int))))) (fun x6 => (cond (Bool.and (Decidable.decide (Eq x5.1 x6.1)) (Decidable.decide (Eq x5.2.1 x6.2.1))) (Option.some (Sum.inr (Sum.inl (((3 : Int), Unit.unit), Unit.unit)))) (Option.some (Sum.inl (((IntKind.wrap IntKind.i64 (HAdd.hAdd x4.1.1 (1 : Int))), Unit.unit), Unit.unit)))))) (Option.none)))) (Option.none)) (Option.some (Sum.inl (((IntKind.wrap IntKind.i64 (HAdd.hAdd x4.1.1 (1 : Int))), Unit.unit), Unit.unit)))) (Option.some (Sum.inl (((IntKind.wrap IntKind.i64 (HAdd.hAdd x4.1.1 (1 : Int))), Unit.unit), Unit.unit)))) (Option.some (Sum.inr (Sum.inr (Sum.inl (Unit.unit, Unit.unit))))))) (((0 : Int), Unit.unit), Unit.unit)) (sumE (fun x4 => (Option.some (Sum.inr (Sum.inl ((x4.1.1, Unit.unit), Unit.unit))))) (sumE (fun x4 => (Option.some (Sum.inl (((IntKind.wrap IntKind.i64 (HAdd.hAdd x1.1.1 (1 : Int))), Unit.unit), Unit.unit)))) (emptyE)))))) (cond (Decidable.decide (Eq x.1 (2 : Int))) (cond (Decidable.decide (LT.lt (Nat.cast (List.length x2) : Int) (2 : Int))) (Option.some (Sum.inr (Sum.inl (((3 : Int), Unit.unit), Unit.unit)))) (Option.bind (loop (D := (Prod (Kd.T (.pair (.int .i64) .unit)) (Kd.T .unit))) (O := (Sum (Kd.T (.pair (.pair (.int .i64) .unit) .unit)) (OutT (List.cons ((Ex3.exit 6), (Sh.mk (List.nil) (List.nil) (List.nil))) (List.nil))))) (fun x4 => (cond (Decidable.decide (LT.lt x4.1.1 (Nat.cast (List.length x2) : Int))) (cond (Decidable.decide (Eq x.1 (2 : Int))) (cond (Decidable.decide (LT.lt (IntKind.wrap IntKind.i64 (HAdd.hAdd x4.1.1 (1 : Int))) (Nat.cast (List.length x2) : Int))) (cond (inB x4.1.1 (List.length x2)) (Option.bind (GetElem?.getElem? x2 (Int.toNat x4.1.1)) (fun x5 => (cond (inB (IntKind.wrap IntKind.i64 (HAdd.hAdd x4.1.1 (1 : Int))) (List.length x2)) (Option.bind (GetElem?.getElem? x2 (Int.toNat (IntKind.wrap IntKind.i64 (HAdd.hAdd x4.1.1 (1 : Int))))) (fun x6 => (cond (Bool.and (Decidable.decide (Eq x5.1 x6.1)) (Decidable.decide (Eq x5.2.1 x6.2.1))) (Option.some (Sum.inr (Sum.inl (((3 : Int), Unit.unit), Unit.unit)))) (Option.some (Sum.inl (((IntKind.wrap IntKind.i64 (HAdd.hAdd x4.1.1 (1 : Int))), Unit.unit), Unit.unit)))))) (Option.none)))) (Option.none)) (Option.some (Sum.inl (((IntKind.wrap IntKind.i64 (HAdd.hAdd x4.1.1 (1 : Int))), Unit.unit), Unit.unit)))) (Option.some (Sum.inl (((IntKind.wrap IntKind.i64 (HAdd.hAdd x4.1.1 (1 : Int))), Unit.unit), Unit.unit)))) (Option.some (Sum.inr (Sum.inr (Sum.inl (Unit.unit, Unit.unit))))))) (((0 : Int), Unit.unit), Unit.unit)) (sumE (fun x4 => (Option.some (Sum.inr (Sum.inl ((x4.1.1, Unit.unit), Unit.unit))))) (sumE (fun x4 => (Option.some (Sum.inl (((IntKind.wrap IntKind.i64 (HAdd.hAdd x1.1.1 (1 : Int))), Unit.unit), Unit.unit)))) (emptyE))))) (Option.bind (loop (D := (Prod (Kd.T (.pair (.int .i64) .unit)) (Kd.T .unit))) (O := (Sum (Kd.T (.pair (.pair (.int .i64) .unit) .unit)) (OutT (List.cons ((Ex3.exit 6), (Sh.mk (List.nil) (List.nil) (List.nil))) (List.nil))))) (fun x4 => (cond (Decidable.decide (LT.lt x4.1.1 (Nat.cast (List.length x2) : Int))) (cond (Decidable.decide (Eq x.1 (2 : Int))) (cond (Decidable.decide (LT.lt (IntKind.wrap IntKind.i64 (HAdd.hAdd x4.1.1 (1 : Int))) (Nat.cast (List.length x2) : Int))) (cond (inB x4.1.1 (List.length x2)) (Option.bind (GetElem?.getElem? x2 (Int.toNat x4.1.1)) (fun x5 => (cond (inB (IntKind.wrap IntKind.i64 (HAdd.hAdd x4.1.1 (1 : Int))) (List.length x2)) (Option.bind (GetElem?.getElem? x2 (Int.toNat (IntKind.wrap IntKind.i64 (HAdd.hAdd x4.1.1 (1 : Int))))) (fun x6 => (cond (Bool.and (Decidable.decide (Eq x5.1 x6.1)) (Decidable.decide (Eq x5.2.1 x6.2.1))) (Option.some (Sum.inr (Sum.inl (((3 : Int), Unit.unit), Unit.unit)))) (Option.some (Sum.inl (((IntKind.wrap IntKind.i64 (HAdd.hAdd x4.1.1 (1 : Int))), Unit.unit), Unit.unit)))))) (Option.none)))) (Option.none)) (Option.some (Sum.inl (((IntKind.wrap IntKind.i64 (HAdd.hAdd x4.1.1 (1 : Int))), Unit.unit), Unit.unit)))) (Option.some (Sum.inl (((IntKind.wrap IntKind.i64 (HAdd.hAdd x4.1.1 (1 : Int))), Unit.unit), Unit.unit)))) (Option.some (Sum.inr (Sum.inr (Sum.inl (Unit.unit, Unit.unit))))))) (((0 : Int), Unit.unit), Unit.unit)) (sumE (fun x4 => (Option.some (Sum.inr (Sum.inl ((x4.1.1, Unit.unit), Unit.unit))))) (sumE (fun x4 => (Option.some (Sum.inl (((IntKind.wrap IntKind.i64 (HAdd.hAdd x1.1.1 (1 : Int))), Unit.unit), Unit.unit)))) (emptyE))))))) (emptyE)))))) (Option.none)) (Option.some (Sum.inr (Sum.inr (Sum.inl (Unit.unit, Unit.unit))))))) (((0 : Int), Unit.unit), Unit.unit)) (sumE (fun x1 => (Option.some (x1.1.1, Unit.unit))) (sumE (fun x1 => (cond (Decidable.decide (Eq x.1 (3 : Int))) (Option.bind (r36 (x.2.1, Unit.unit)) (fun x2 => (Option.some (x2.1, Unit.unit)))) (Option.some ((0 : Int), Unit.unit)))) (emptyE))))))) (emptyE)))))
theorem r26_ok : PureOk Go.Proofs.Tryz.prog nG gG 26 [(.int .i64), (.slice (.slice (.pair (.int .i64) (.pair (.int .i64) .unit))))] [(.int .i64)] r26 :=
  pureOk_of_run (F := specOf [(36, pureSpec [(.slice (.slice (.pair (.int .i64) (.pair (.int .i64) .unit))))] [(.int .i64)] r36)]) (hs := hintOf [(6, ⟨⟨[(88, .lf (.int .i64))], [], []⟩, [(.ret, ⟨[(4, .lf (.int .i64))], [], []⟩), ((.exit 6), ⟨[], [], []⟩)]⟩), (4, ⟨⟨[(47, .lf (.int .i64))], [], []⟩, [(.ret, ⟨[(4, .lf (.int .i64))], [], []⟩), ((.exit 4), ⟨[], [], []⟩)]⟩), (2, ⟨⟨[(41, .lf (.int .i64))], [], []⟩, [(.ret, ⟨[(4, .lf (.int .i64))], [], []⟩), ((.exit 2), ⟨[], [], []⟩)]⟩), (0, ⟨⟨[(5, .lf .bool), (24, .lf (.int .i64))], [], []⟩, [((.exit 0), ⟨[(5, .lf .bool)], [], []⟩)]⟩)]) stays_G (specOf_cons (PureOk.spec r36_ok) specOf_nil) mixed Go.Proofs.Tryz.func26 rfl (by kernel_rfl) (fun _ => by kernel_rfl)

/-- terrier/terrref2.ValueErr -/
noncomputable def r38 (x : (kdP [(.pair (.int .i64) (.pair (.int .i64) (.pair .str (.pair .bool .unit))))]).T) : Option (kdP [(.int .i64)]).T :=
  (cond (Decidable.decide (LT.lt x.1.1 (0 : Int))) (Option.some ((8 : Int), Unit.unit)) (cond (Decidable.decide (LT.lt (3 : Int) x.1.1)) (Option.some ((8 : Int), Unit.unit)) (cond (inB x.1.1 (List.length (List.cons ((0 : Int), ((0 : Int), ((ByteArray.mk (List.toArray (List.nil))), (Bool.false, Unit.unit)))) (List.cons ((1 : Int), (x.1.2.1, ((ByteArray.mk (List.toArray (List.nil))), (Bool.false, Unit.unit)))) (List.cons ((2 : Int), ((0 : Int), (x.1.2.2.1, (Bool.false, Unit.unit)))) (List.cons ((3 : Int), ((0 : Int), ((ByteArray.mk (List.toArray (List.nil))), (x.1.2.2.2.1, Unit.unit)))) (List.nil))))))) (Option.bind (GetElem?.getElem? (List.cons ((0 : Int), ((0 : Int), ((ByteArray.mk (List.toArray (List.nil))), (Bool.false, Unit.unit)))) (List.cons ((1 : Int), (x.1.2.1, ((ByteArray.mk (List.toArray (List.nil))), (Bool.false, Unit.unit)))) (List.cons ((2 : Int), ((0 : Int), (x.1.2.2.1, (Bool.false, Unit.unit)))) (List.cons ((3 : Int), ((0 : Int), ((ByteArray.mk (List.toArray (List.nil))), (x.1.2.2.2.1, Unit.unit)))) (List.nil))))) (Int.toNat x.1.1)) (fun x0 => (cond (Bool.not (Bool.and (Decidable.decide (Eq x0.1 x.1.1)) (Bool.and (Decidable.decide (Eq x0.2.1 x.1.2.1)) (Bool.and (Decidable.decide (Eq x0.2.2.1 x.1.2.2.1)) (Decidable.decide (Eq x0.2.2.2.1 x.1.2.2.2.1)))))) (Option.some ((3 : Int), Unit.unit)) (cond (Decidable.decide (LT.lt (1000000000000 : Int) x.1.2.1)) (Option.some ((2 : Int), Unit.unit)) (cond (Decidable.decide (LT.lt x.1.2.1 (Neg.neg (1000000000000 : Int)))) (Option.some ((2 : Int), Unit.unit)) (cond (Decidable.decide (LT.lt (40 : Int) (Nat.cast (ByteArray.size x.1.2.2.1) : Int))) (Option.some ((2 : Int), Unit.unit)) (Option.bind (loop (D := (Prod (Kd.T (.pair (.int .i64) .unit)) (Kd.T .unit))) (O := (Sum (Kd.T (.pair (.pair (.int .i64) .unit) .unit)) (OutT (List.cons ((Ex3.exit 0), (Sh.mk (List.nil) (List.nil) (List.nil))) (List.nil))))) (fun x1 => (cond (Decidable.decide (LT.lt x1.1.1 (Nat.cast (List.length (bytesOf x.1.2.2.1)) : Int))) (cond (inB x1.1.1 (List.length (bytesOf x.1.2.2.1))) (Option.bind (GetElem?.getElem? (bytesOf x.1.2.2.1) (Int.toNat x1.1.1)) (fun x2 => (cond (Decidable.decide (LT.lt x2 (32 : Int))) (Option.some (Sum.inr (Sum.inl (((3 : Int), Unit.unit), Unit.unit)))) (cond (Decidable.decide (LT.lt (126 : Int) x2)) (Option.some (Sum.inr (Sum.inl (((3 : Int), Unit.unit), Unit.unit)))) (cond (Decidable.decide (Eq x2 (34 : Int))) (Option.some (Sum.inr (Sum.inl (((3 : Int), Unit.unit), Unit.unit)))) (Option.some (Sum.inl (((IntKind.wrap IntKind.i64 (HAdd.hAdd x1.1.1 (1 : Int))), Unit.unit), Unit.unit)))))))) (Option.none)) (Option.some (Sum.inr (Sum.inr (Sum.inl (Unit.unit, Unit.unit))))))) (((0 : Int), Unit.unit), Unit.unit)) (sumE (fun x1 => (Option.some (x1.1.1, Unit.unit))) (sumE (fun x1 => (Option.some ((0 : Int), Unit.unit))) (emptyE)))))))))) (Option.none))))
theorem r38_ok : PureOk Go.Proofs.Tryz.prog nG gG 38 [(.pair (.int .i64) (.pair (.int .i64) (.pair .str (.pair .bool .unit))))] [(.int .i64)] r38 :=
  pureOk_of_run (F := specOf []) (hs := hintOf [(0, ⟨⟨[(50, .lf (.int .i64))], [], []⟩, [(.ret, ⟨[(2, .lf (.int .i64))], [], []⟩), ((.exit 0), ⟨[], [], []⟩)]⟩)]) stays_G specOf_nil mixed Go.Proofs.Tryz.func38 rfl (by kernel_rfl) (fun _ => by kernel_rfl)

/-- terrier/terrref2.AttrsErr -/
noncomputable def r27 (x : (kdP [(.slice (.pair .str (.pair (.pair (.int .i64) (.pair (.int .i64) (.pair .str (.pair .bool .unit)))) .unit))), .bool]).T) : Option (kdP [(.int .i64)]).T :=
  (cond (Decidable.decide (LT.lt (8 : Int) (Nat.cast (List.length x.1) : Int))) (Option.some ((2 : Int), Unit.unit)) (Option.bind (loop (D := (Prod (Kd.T (.pair .str (.pair (.int .i64) .unit))) (Kd.T .unit))) (O := (Sum (Kd.T (.pair (.pair (.int .i64) .unit) .unit)) (OutT (List.cons ((Ex3.exit 0), (Sh.mk (List.nil) (List.nil) (List.nil))) (List.nil))))) (fun x0 => (cond (Decidable.decide (LT.lt x0.1.2.1 (Nat.cast (List.length x.1) : Int))) (cond (inB x0.1.2.1 (List.length x.1)) (Option.bind (GetElem?.getElem? x.1 (Int.toNat x0.1.2.1)) (fun x1 => (Option.bind (r37 (x1.1, Unit.unit)) (fun x2 => (cond (Bool.not x2.1) (Option.some (Sum.inr (Sum.inl (((16 : Int), Unit.unit), Unit.unit)))) (cond (Bool.or (strLt x1.1 x0.1.1) (Decidable.decide (Eq x1.1 x0.1.1))) (Option.some (Sum.inr (Sum.inl (((9 : Int), Unit.unit), Unit.unit)))) (Option.bind (r38 ((x1.2.1.1, (x1.2.1.2.1, (x1.2.1.2.2.1, (x1.2.1.2.2.2.1, Unit.unit)))), Unit.unit)) (fun x3 => (cond (Bool.not (Decidable.decide (Eq x3.1 (0 : Int)))) (Option.some (Sum.inr (Sum.inl ((x3.1, Unit.unit), Unit.unit)))) (cond (Bool.not x.2.1) (cond (Bool.and (Decidable.decide (Eq x1.2.1.1 (0 : Int))) (Bool.and (Decidable.decide (Eq x1.2.1.2.1 (0 : Int))) (Bool.and (Decidable.decide (Eq x1.2.1.2.2.1 (ByteArray.mk (List.toArray (List.nil))))) (Decidable.decide (Eq x1.2.1.2.2.2.1 Bool.false))))) (Option.some (Sum.inr (Sum.inl (((3 : Int), Unit.unit), Unit.unit)))) (Option.some (Sum.inl ((x1.1, ((IntKind.wrap IntKind.i64 (HAdd.hAdd x0.1.2.1 (1 : Int))), Unit.unit)), Unit.unit)))) (Option.some (Sum.inl ((x1.1, ((IntKind.wrap IntKind.i64 (HAdd.hAdd x0.1.2.1 (1 : Int))), Unit.unit)), Unit.unit))))))))))))) (Option.none)) (Option.some (Sum.inr (Sum.inr (Sum.inl (Unit.unit, Unit.unit))))))) (((ByteArray.mk (List.toArray (List.nil))), ((0 : Int), Unit.unit)), Unit.unit)) (sumE (fun x0 => (Option.some (x0.1.1, Unit.unit))) (sumE (fun x0 => (Option.some ((0 : Int), Unit.unit))) (emptyE)))))
theorem r27_ok : PureOk Go.Proofs.Tryz.prog nG gG 27 [(.slice (.pair .str (.pair (.pair (.int .i64) (.pair (.int .i64) (.pair .str (.pair .bool .unit)))) .unit))), .bool] [(.int .i64)] r27 :=
  pureOk_of_run (F := specOf [(37, pureSpec [.str] [.bool] r37), (38, pureSpec [(.pair (.int .i64) (.pair (.int .i64) (.pair .str (.pair .bool .unit))))] [(.int .i64)] r38)]) (hs := hintOf [(0, ⟨⟨[(5, .lf .str), (14, .lf (.int .i64))], [], []⟩, [(.ret, ⟨[(4, .lf (.int .i64))], [], []⟩), ((.exit 0), ⟨[], [], []⟩)]⟩)]) stays_G (specOf_cons (PureOk.spec r37_ok) (specOf_cons (PureOk.spec r38_ok) specOf_nil)) mixed Go.Proofs.Tryz.func27 rfl (by kernel_rfl) (fun _ => by kernel_rfl)

/-- terrier/terrref2.FeatErr -/
noncomputable def r12 (x : (kdP [(.pair (.int .i64) (.pair (.int .i64) (.pair (.slice (.slice (.pair (.int .i64) (.pair (.int .i64) .unit)))) (.pair (.slice (.pair .str (.pair (.pair (.int .i64) (.pair (.int .i64) (.pair .str (.pair .bool .unit)))) .unit))) (.pair (.int .i64) (.pair (.int .i64) .unit))))))]).T) : Option (kdP [(.int .i64)]).T :=
  (cond (Decidable.decide (LE.le x.1.1 (0 : Int))) (Option.some ((1 : Int), Unit.unit)) (cond (Decidable.decide (LT.lt (1073741824 : Int) x.1.1)) (Option.some ((1 : Int), Unit.unit)) (Option.bind (r26 (x.1.2.1, (x.1.2.2.1, Unit.unit))) (fun x0 => (cond (Decidable.decide (Eq x0.1 (0 : Int))) (Option.bind (r27 (x.1.2.2.2.1, (Bool.false, Unit.unit))) (fun x1 => (cond (Decidable.decide (Eq x1.1 (0 : Int))) (cond (Decidable.decide (LT.lt x.1.2.2.2.2.1 (0 : Int))) (Option.some ((1 : Int), Unit.unit)) (cond (Decidable.decide (LE.le x.1.2.2.2.2.2.1 x.1.2.2.2.2.1)) (Option.some ((1 : Int), Unit.unit)) (cond (Decidable.decide (LT.lt (1073741824 : Int) x.1.2.2.2.2.2.1)) (Option.some ((1 : Int), Unit.unit)) (Option.some (x1.1, Unit.unit))))) (Option.some (x1.1, Unit.unit))))) (cond (Decidable.decide (Eq x0.1 (0 : Int))) (cond (Decidable.decide (LT.lt x.1.2.2.2.2.1 (0 : Int))) (Option.some ((1 : Int), Unit.unit)) (cond (Decidable.decide (LE.le x.1.2.2.2.2.2.1 x.1.2.2.2.2.1)) (Option.some ((1 : Int), Unit.unit)) (cond (Decidable.decide (LT.lt (1073741824 : Int) x.1.2.2.2.2.2.1)) (Option.some ((1 : Int), Unit.unit)) (Option.some (x0.1, Unit.unit))))) (Option.some (x0.1, Unit.unit))))))))
theorem r12_ok : PureOk Go.Proofs.Tryz.prog nG gG 12 [(.pair (.int .i64) (.pair (.int .i64) (.pair (.slice (.slice (.pair (.int .i64) (.pair (.int .i64) .unit)))) (.pair (.slice (.pair .str (.pair (.pair (.int .i64) (.pair (.int .i64) (.pair .str (.pair .bool .unit)))) .unit))) (.pair (.int .i64) (.pair (.int .i64) .unit))))))] [(.int .i64)] r12 :=
  pureOk_of_run (F := specOf [(26, pureSpec [(.int .i64), (.slice (.slice (.pair (.int .i64) (.pair (.int .i64) .unit))))] [(.int .i64)] r26), (27, pureSpec [(.slice (.pair .str (.pair (.pair (.int .i64) (.pair (.int .i64) (.pair .str (.pair .bool .unit)))) .unit))), .bool] [(.int .i64)] r27)]) (hs := hintOf []) stays_G (specOf_cons (PureOk.spec r26_ok) (specOf_cons (PureOk.spec r27_ok) specOf_nil)) mixed Go.Proofs.Tryz.func12 rfl (by kernel_rfl) (fun _ => by kernel_rfl)

/-- terrier/terrref2.SurveyErr -/
noncomputable def r5 (x : (kdP [(.slice (.pair (.int .i64) (.pair (.int .i64) (.pair (.slice (.slice (.pair (.int .i64) (.pair (.int .i64) .unit)))) (.pair (.slice (.pair .str (.pair (.pair (.int .i64) (.pair (.int .i64) (.pair .str (.pair .bool .unit)))) .unit))) (.pair (.int .i64) (.pair (.int .i64) .unit)))))))]).T) : Option (kdP [(.int .i64)]).T :=
  (cond (Decidable.decide (LT.lt (200 : Int) (Nat.cast (List.length x.1) : Int))) (Option.some ((2 : Int), Unit.unit)) (Option.bind (loop (D := (Prod (Kd.T (.pair (.int .i64) (.pair (.int .i64) .unit))) (Kd.T .unit))) (O := (Sum (Kd.T (.pair (.pair (.int .i64) .unit) .unit)) (OutT (List.cons ((Ex3.exit 0), (Sh.mk (List.nil) (List.nil) (List.nil))) (List.nil))))) (fun x0 => (cond (Decidable.decide (LT.lt x0.1.2.1 (Nat.cast (List.length x.1) : Int))) (cond (inB x0.1.2.1 (List.length x.1)) (Option.bind (GetElem?.getElem? x.1 (Int.toNat x0.1.2.1)) (fun x1 => (Option.bind (r12 ((x1.1, (x1.2.1, (x1.2.2.1, (x1.2.2.2.1, (x1.2.2.2.2.1, (x1.2.2.2.2.2.1, Unit.unit)))))), Unit.unit)) (fun x2 => (cond (Bool.not (Decidable.decide (Eq x2.1 (0 : Int)))) (Option.some (Sum.inr (Sum.inl ((x2.1, Unit.unit), Unit.unit)))) (cond (Decidable.decide (LE.le x1.1 x0.1.1)) (Option.some (Sum.inr (Sum.inl (((9 : Int), Unit.unit), Unit.unit)))) (Option.some (Sum.inl ((x1.1, ((IntKind.wrap IntKind.i64 (HAdd.hAdd x0.1.2.1 (1 : Int))), Unit.unit)), Unit.unit))))))))) (Option.none)) (Option.some (Sum.inr (Sum.inr (Sum.inl (Unit.unit, Unit.unit))))))) (((0 : Int), ((0 : Int), Unit.unit)), Unit.unit)) (sumE (fun x0 => (Option.some (x0.1.1, Unit.unit))) (sumE (fun x0 => (Option.some ((0 : Int), Unit.unit))) (emptyE)))))
theorem r5_ok : PureOk Go.Proofs.Tryz.prog nG gG 5 [(.slice (.pair (.int .i64) (.pair (.int .i64) (.pair (.slice (.slice (.pair (.int .i64) (.pair (.int .i64) .unit)))) (.pair (.slice (.pair .str (.pair (.pair (.int .i64) (.pair (.int .i64) (.pair .str (.pair .bool .unit)))) .unit))) (.pair (.int .i64) (.pair (.int .i64) .unit)))))))] [(.int .i64)] r5 :=
  pureOk_of_run (F := specOf [(12, pureSpec [(.pair (.int .i64) (.pair (.int .i64) (.pair (.slice (.slice (.pair (.int .i64) (.pair (.int .i64) .unit)))) (.pair (.slice (.pair .str (.pair (.pair (.int .i64) (.pair (.int .i64) (.pair .str (.pair .bool .unit)))) .unit))) (.pair (.int .i64) (.pair (.int .i64) .unit))))))] [(.int .i64)] r12)]) (hs := hintOf [(0, ⟨⟨[(3, .lf (.int .i64)), (12, .lf (.int .i64))], [], []⟩, [(.ret, ⟨[(2, .lf (.int .i64))], [], []⟩), ((.exit 0), ⟨[], [], []⟩)]⟩)]) stays_G (specOf_cons (PureOk.spec r12_ok) specOf_nil) mixed Go.Proofs.Tryz.func5 rfl (by kernel_rfl) (fun _ => by kernel_rfl)

/-- terrier/terrref2.Number -/
noncomputable def r14 (x : (kdP [(.int .i64)]).T) : Option (kdP [.str]).T :=
  (cond (Decidable.decide (LT.lt x.1 (0 : Int))) (Option.bind (loop (D := (Prod (Kd.T (.pair .str (.pair (.int .u64) .unit))) (Kd.T .unit))) (O := (Sum (Kd.T (.pair (.pair .str (.pair (.int .u64) .unit)) .unit)) (OutT (List.nil)))) (fun x0 => (cond (Decidable.decide (LT.lt (127 : Int) x0.1.2.1)) (cond (Decidable.decide (LT.lt 9223372036854775807 (HAdd.hAdd (ByteArray.size x0.1.1) (ByteArray.size (mkStr (List.cons (IntKind.wrap IntKind.u8 (IntKind.wrap IntKind.u64 (HAdd.hAdd (Int.tmod x0.1.2.1 (128 : Int)) (128 : Int)))) (List.nil))))))) (Option.none) (Option.some (Sum.inl (((HAppend.hAppend x0.1.1 (mkStr (List.cons (IntKind.wrap IntKind.u8 (IntKind.wrap IntKind.u64 (HAdd.hAdd (Int.tmod x0.1.2.1 (128 : Int)) (128 : Int)))) (List.nil)))), ((IntKind.wrap IntKind.u64 (Int.tdiv x0.1.2.1 (128 : Int))), Unit.unit)), Unit.unit)))) (Option.some (Sum.inr (Sum.inl ((x0.1.1, (x0.1.2.1, Unit.unit)), Unit.unit)))))) (((ByteArray.mk (List.toArray (List.nil))), ((IntKind.wrap IntKind.u64 (Nat.cast (BitVec.toNat (HXor.hXor (BitVec.ofInt 64 (18446744073709551615 : Int)) (BitVec.ofInt 64 (IntKind.wrap IntKind.u64 (HMul.hMul (IntKind.wrap IntKind.u64 x.1) (2 : Int)))))) : Int)), Unit.unit)), Unit.unit)) (sumE (fun x0 => (cond (Decidable.decide (LT.lt 9223372036854775807 (HAdd.hAdd (ByteArray.size x0.1.1) (ByteArray.size (mkStr (List.cons (IntKind.wrap IntKind.u8 x0.1.2.1) (List.nil))))))) (Option.none) (Option.some ((HAppend.hAppend x0.1.1 (mkStr (List.cons (IntKind.wrap IntKind.u8 x0.1.2.1) (List.nil)))), Unit.unit)))) (emptyE))) (Option.bind (loop (D := (Prod (Kd.T (.pair .str (.pair (.int .u64) .unit))) (Kd.T .unit))) (O := (Sum (Kd.T (.pair (.pair .str (.pair (.int .u64) .unit)) .unit)) (OutT (List.nil)))) (fun x0 => (cond (Decidable.decide (LT.lt (127 : Int) x0.1.2.1)) (cond (Decidable.decide (LT.lt 9223372036854775807 (HAdd.hAdd (ByteArray.size x0.1.1) (ByteArray.size (mkStr (List.cons (IntKind.wrap IntKind.u8 (IntKind.wrap IntKind.u64 (HAdd.hAdd (Int.tmod x0.1.2.1 (128 : Int)) (128 : Int)))) (List.nil))))))) (Option.none) (Option.some (Sum.inl (((HAppend.hAppend x0.1.1 (mkStr (List.cons (IntKind.wrap IntKind.u8 (IntKind.wrap IntKind.u64 (HAdd.hAdd (Int.tmod x0.1.2.1 (128 : Int)) (128 : Int)))) (List.nil)))), ((IntKind.wrap IntKind.u64 (Int.tdiv x0.1.2.1 (128 : Int))), Unit.unit)), Unit.unit)))) (Option.some (Sum.inr (Sum.inl ((x0.1.1, (x0.1.2.1, Unit.unit)), Unit.unit)))))) (((ByteArray.mk (List.toArray (List.nil))), ((IntKind.wrap IntKind.u64 (HMul.hMul (IntKind.wrap IntKind.u64 x.1) (2 : Int))), Unit.unit)), Unit.unit)) (sumE (fun x0 => (cond (Decidable.decide (LT.lt 9223372036854775807 (HAdd.hAdd (ByteArray.size x0.1.1) (ByteArray.size (mkStr (List.cons (IntKind.wrap IntKind.u8 x0.1.2.1) (List.nil))))))) (Option.none) (Option.some ((HAppend.hAppend x0.1.1 (mkStr (List.cons (IntKind.wrap IntKind.u8 x0.1.2.1) (List.nil)))), Unit.unit)))) (emptyE))))
theorem r14_ok : PureOk Go.Proofs.Tryz.prog nG gG 14 [(.int .i64)] [.str] r14 :=
  pureOk_of_run (F := specOf []) (hs := hintOf [(0, ⟨⟨[(4, .lf .str), (3, .lf (.int .u64))], [], []⟩, [((.exit 0), ⟨[(4, .lf .str), (3, .lf (.int .u64))], [], []⟩)]⟩)]) stays_G specOf_nil mixed Go.Proofs.Tryz.func14 rfl (by kernel_rfl) (fun _ => by kernel_rfl)

/-- (*strings.Builder).WriteString -/
noncomputable def r13 (x : (kdP [.str]).T) (d : (kdL [.self 43, .own (.fb 5)]).T) : Option ((kdP [(.int .i64), .err]).T × (kdL [.self 43, .own (.fb 5)]).T) :=
  (cond (fits (HAdd.hAdd (List.length d.2.1) (List.length (bytesOf x.1))) 1) (Option.some (((Nat.cast (ByteArray.size x.1) : Int), (Bool.false, Unit.unit)), (Unit.unit, ((HAppend.hAppend d.2.1 (bytesOf x.1)), Unit.unit)))) (Option.none))
theorem r13_ok : SpecOk Go.Proofs.Tryz.prog nG gG 13 (memSpec [.ptr 0 0, .dat .str] [(0, [.self 43, .own (.fb 5)])] [(0, [.self 43, .own (.fb 5)])] [(.int .i64), .err] r13) :=
  memSpec_ok (F := specOf [(28, copyCheckS)]) (hs := hintOf []) stays_G (specOf_cons copyCheckS_ok specOf_nil) mixed Go.Proofs.Tryz.func13 rfl (by kernel_rfl) (by kernel_rfl) (fun _ _ => by kernel_rfl)

/-- terrier/terrref2.Bytes$1 -/
noncomputable def r15 (x : (kdP [(.slice (.int .i64))]).T) (d : (kdL [.self 43, .own (.fb 5)]).T) : Option ((kdP []).T × (kdL [.self 43, .own (.fb 5)]).T) :=
  (Option.bind (loop (D := (Prod (Kd.T (.pair (.int .i64) (.pair .unit (.pair (.slice (.fb 5)) .unit)))) (Kd.T .unit))) (O := (Sum (Kd.T (.pair (.pair .unit (.pair (.slice (.fb 5)) .unit)) .unit)) (OutT (List.nil)))) (fun x0 => (cond (Decidable.decide (LT.lt x0.1.1 (Nat.cast (List.length x.1) : Int))) (cond (inB x0.1.1 (List.length x.1)) (Option.bind (GetElem?.getElem? x.1 (Int.toNat x0.1.1)) (fun x1 => (Option.bind (r14 (x1, Unit.unit)) (fun x2 => (Option.bind (r13 (x2.1, Unit.unit) (Unit.unit, (x0.1.2.2.1, Unit.unit))) (fun x3 => (Option.some (Sum.inl (((IntKind.wrap IntKind.i64 (HAdd.hAdd x0.1.1 (1 : Int))), (Unit.unit, (x3.2.2.1, Unit.unit))), Unit.unit))))))))) (Option.none)) (Option.some (Sum.inr (Sum.inl ((Unit.unit, (x0.1.2.2.1, Unit.unit)), Unit.unit)))))) (((0 : Int), (Unit.unit, (d.2.1, Unit.unit))), Unit.unit)) (sumE (fun x0 => (Option.some (Unit.unit, (Unit.unit, (x0.1.2.1, Unit.unit))))) (emptyE)))
theorem r15_ok : SpecOk Go.Proofs.Tryz.prog nG gG 15 (memSpec [.dat (.slice (.int .i64)), .ptr 0 0] [(0, [.self 43, .own (.fb 5)])] [(0, [.self 43, .own (.fb 5)])] [] r15) :=
  memSpec_ok (F := specOf [(14, pureSpec [(.int .i64)] [.str] r14), (13, memSpec [.ptr 0 0, .dat .str] [(0, [.self 43, .own (.fb 5)])] [(0, [.self 43, .own (.fb 5)])] [(.int .i64), .err] r13)]) (hs := hintOf [(0, ⟨⟨[(7, .lf (.int .i64))], [(0, [.self 43, .own (.fb 5)])], []⟩, [((.exit 0), ⟨[], [(0, [.self 43, .own (.fb 5)])], []⟩)]⟩)]) stays_G (specOf_cons (PureOk.spec r14_ok) (specOf_cons r13_ok specOf_nil)) mixed Go.Proofs.Tryz.func15 rfl (by kernel_rfl) (by kernel_rfl) (fun _ _ => by kernel_rfl)

/-- (*strings.Builder).String -/
noncomputable def r16 (x : (kdP []).T) (d : (kdL [.self 43, .own (.fb 5)]).T) : Option ((kdP [.str]).T × (kdL [.self 43, .own (.fb 5)]).T) :=
  (cond (List.isEmpty d.2.1) (cond (Decidable.decide (Eq (Nat.cast (List.length d.2.1) : Int) (0 : Int))) (Option.some ((ByteArray.empty, Unit.unit), (Unit.unit, (d.2.1, Unit.unit)))) (Option.none)) (cond (Decidable.decide (And (Eq (Nat.cast (List.length d.2.1) : Int) (Nat.cast (List.length d.2.1) : Int)) (And (LT.lt (0 : Int) (Nat.cast (List.length d.2.1) : Int)) (LE.le (Nat.cast (List.length d.2.1) : Int) (9223372036854775807 : Int))))) (Option.some (((mkStr d.2.1), Unit.unit), (Unit.unit, (d.2.1, Unit.unit)))) (Option.none)))
theorem r16_ok : SpecOk Go.Proofs.Tryz.prog nG gG 16 (memSpec [.ptr 0 0] [(0, [.self 43, .own (.fb 5)])] [(0, [.self 43, .own (.fb 5)])] [.str] r16) :=
  memSpec_ok (F := specOf []) (hs := hintOf []) stays_G specOf_nil mixed Go.Proofs.Tryz.func16 rfl (by kernel_rfl) (by kernel_rfl) (fun _ _ => by kernel_rfl)

/-- terrier/terrref2.Sum -/
noncomputable def r9 (x : (kdP [.str]).T) : Option (kdP [(.int .u32)]).T :=
  (Option.bind (loop (D := (Prod (Kd.T (.pair (.int .u64) (.pair (.int .i64) .unit))) (Kd.T .unit))) (O := (Sum (Kd.T (.pair (.pair (.int .u64) .unit) .unit)) (OutT (List.nil)))) (fun x0 => (cond (Decidable.decide (LT.lt x0.1.2.1 (Nat.cast (ByteArray.size x.1) : Int))) (Option.bind (strAt x.1 x0.1.2.1) (fun x1 => (Option.some (Sum.inl (((Int.tmod (IntKind.wrap IntKind.u64 (HMul.hMul (IntKind.wrap IntKind.u64 (Nat.cast (BitVec.toNat (HXor.hXor (BitVec.ofInt 64 x0.1.1) (BitVec.ofInt 64 (IntKind.wrap IntKind.u64 (Nat.cast (UInt8.toNat x1) : Int))))) : Int)) (16777619 : Int))) (4294967296 : Int)), ((IntKind.wrap IntKind.i64 (HAdd.hAdd x0.1.2.1 (1 : Int))), Unit.unit)), Unit.unit))))) (Option.some (Sum.inr (Sum.inl ((x0.1.1, Unit.unit), Unit.unit)))))) (((2166136261 : Int), ((0 : Int), Unit.unit)), Unit.unit)) (sumE (fun x0 => (Option.some ((IntKind.wrap IntKind.u32 x0.1.1), Unit.unit))) (emptyE)))
theorem r9_ok : PureOk Go.Proofs.Tryz.prog nG gG 9 [.str] [(.int .u32)] r9 :=
  pureOk_of_run (F := specOf []) (hs := hintOf [(0, ⟨⟨[(3, .lf (.int .u64)), (7, .lf (.int .i64))], [], []⟩, [((.exit 0), ⟨[(3, .lf (.int .u64))], [], []⟩)]⟩)]) stays_G specOf_nil mixed Go.Proofs.Tryz.func9 rfl (by kernel_rfl) (fun _ => by kernel_rfl)

/-- (*strings.Builder).WriteByte -/
noncomputable def r17 (x : (kdP [(.int .u8)]).T) (d : (kdL [.self 43, .own (.fb 5)]).T) : Option ((kdP [.err]).T × (kdL [.self 43, .own (.fb 5)]).T) :=
  (cond (fits (HAdd.hAdd (List.length d.2.1) (List.length (List.cons x.1 (List.nil)))) 1) (Option.some ((Bool.false, Unit.unit), (Unit.unit, ((HAppend.hAppend d.2.1 (List.cons x.1 (List.nil))), Unit.unit)))) (Option.none))
theorem r17_ok : SpecOk Go.Proofs.Tryz.prog nG gG 17 (memSpec [.ptr 0 0, .dat (.int .u8)] [(0, [.self 43, .own (.fb 5)])] [(0, [.self 43, .own (.fb 5)])] [.err] r17) :=
  memSpec_ok (F := specOf [(28, copyCheckS)]) (hs := hintOf []) stays_G (specOf_cons copyCheckS_ok specOf_nil) mixed Go.Proofs.Tryz.func17 rfl (by kernel_rfl) (by kernel_rfl) (fun _ _ => by kernel_rfl)

/-- terrier/terrref2.Bytes -/
noncomputable def r6 (x : (kdP [(.slice (.pair (.int .i64) (.pair (.int .i64) (.pair (.slice (.slice (.pair (.int .i64) (.pair (.int .i64) .unit)))) (.pair (.slice (.pair .str (.pair (.pair (.int .i64) (.pair (.int .i64) (.pair .str (.pair .bool .unit)))) .unit))) (.pair (.int .i64) (.pair (.int .i64) .unit)))))))]).T) : Option (kdP [.str]).T :=
  (Option.bind (r14 ((Nat.cast (List.length x.1) : Int), Unit.unit)) (fun x0 => (cond (Decidable.decide (LT.lt 9223372036854775807 (HAdd.hAdd (ByteArray.size (ByteArray.mk (List.toArray (List.cons (84 : UInt8) (List.cons (49 : UInt8) (List.nil)))))) (ByteArray.size x0.1)))) (Option.none) (Option.bind (r13 ((HAppend.hAppend (ByteArray.mk (List.toArray (List.cons (84 : UInt8) (List.cons (49 : UInt8) (List.nil))))) x0.1), Unit.unit) (Unit.unit, ((List.nil), Unit.unit))) (fun x1 => (Option.bind (loop (D := (Prod (Kd.T (.pair (.int .i64) (.pair (.int .i64) (.pair .unit (.pair (.slice (.fb 5)) .unit))))) (Kd.T .unit))) (O := (Sum (Kd.T (.pair (.pair .unit (.pair (.slice (.fb 5)) .unit)) .unit)) (OutT (List.nil)))) (fun x2 => (cond (Decidable.decide (LT.lt x2.1.2.1 (Nat.cast (List.length x.1) : Int))) (cond (inB x2.1.2.1 (List.length x.1)) (Option.bind (GetElem?.getElem? x.1 (Int.toNat x2.1.2.1)) (fun x3 => (Option.bind (r15 ((List.cons (IntKind.wrap IntKind.i64 (HSub.hSub x3.1 x2.1.1)) (List.cons x3.2.1 (List.cons x3.2.2.2.2.1 (List.cons (IntKind.wrap IntKind.i64 (HSub.hSub x3.2.2.2.2.2.1 x3.2.2.2.2.1)) (List.cons (Nat.cast (List.length x3.2.2.1) : Int) (List.nil)))))), Unit.unit) (Unit.unit, (x2.1.2.2.2.1, Unit.unit))) (fun x4 => (Option.bind (loop (D := (Prod (Kd.T (.pair (.int .i64) (.pair (.int .i64) (.pair (.int .i64) (.pair .unit (.pair (.slice (.fb 5)) .unit)))))) (Kd.T .unit))) (O := (Sum (Kd.T (.pair (.pair .unit (.pair (.slice (.fb 5)) .unit)) .unit)) (OutT (List.nil)))) (fun x5 => (cond (Decidable.decide (LT.lt x5.1.2.2.1 (Nat.cast (List.length x3.2.2.1) : Int))) (cond (inB x5.1.2.2.1 (List.length x3.2.2.1)) (Option.bind (GetElem?.getElem? x3.2.2.1 (Int.toNat x5.1.2.2.1)) (fun x6 => (Option.bind (r15 ((List.cons (Nat.cast (List.length x6) : Int) (List.nil)), Unit.unit) (Unit.unit, (x5.1.2.2.2.2.1, Unit.unit))) (fun x7 => (Option.bind (loop (D := (Prod (Kd.T (.pair (.int .i64) (.pair (.int .i64) (.pair (.int .i64) (.pair .unit (.pair (.slice (.fb 5)) .unit)))))) (Kd.T .unit))) (O := (Sum (Kd.T (.pair (.pair (.int .i64) (.pair (.int .i64) (.pair .unit (.pair (.slice (.fb 5)) .unit)))) .unit)) (OutT (List.nil)))) (fun x8 => (cond (Decidable.decide (LT.lt x8.1.2.2.1 (Nat.cast (List.length x6) : Int))) (cond (inB x8.1.2.2.1 (List.length x6)) (Option.bind (GetElem?.getElem? x6 (Int.toNat x8.1.2.2.1)) (fun x9 => (Option.bind (r15 ((List.cons (IntKind.wrap IntKind.i64 (HSub.hSub x9.1 x8.1.1)) (List.cons (IntKind.wrap IntKind.i64 (HSub.hSub x9.2.1 x8.1.2.1)) (List.nil))), Unit.unit) (Unit.unit, (x8.1.2.2.2.2.1, Unit.unit))) (fun x10 => (Option.some (Sum.inl ((x9.1, (x9.2.1, ((IntKind.wrap IntKind.i64 (HAdd.hAdd x8.1.2.2.1 (1 : Int))), (Unit.unit, (x10.2.2.1, Unit.unit))))), Unit.unit))))))) (Option.none)) (Option.some (Sum.inr (Sum.inl ((x8.1.1, (x8.1.2.1, (Unit.unit, (x8.1.2.2.2.2.1, Unit.unit)))), Unit.unit)))))) ((x5.1.1, (x5.1.2.1, ((0 : Int), (Unit.unit, (x7.2.2.1, Unit.unit))))), Unit.unit)) (sumE (fun x8 => (Option.some (Sum.inl ((x8.1.1, (x8.1.2.1, ((IntKind.wrap IntKind.i64 (HAdd.hAdd x5.1.2.2.1 (1 : Int))), (Unit.unit, (x8.1.2.2.2.1, Unit.unit))))), Unit.unit)))) (emptyE))))))) (Option.none)) (Option.some (Sum.inr (Sum.inl ((Unit.unit, (x5.1.2.2.2.2.1, Unit.unit)), Unit.unit)))))) (((0 : Int), ((0 : Int), ((0 : Int), (Unit.unit, (x4.2.2.1, Unit.unit))))), Unit.unit)) (sumE (fun x5 => (Option.bind (r15 ((List.cons (Nat.cast (List.length x3.2.2.2.1) : Int) (List.nil)), Unit.unit) (Unit.unit, (x5.1.2.1, Unit.unit))) (fun x6 => (Option.bind (loop (D := (Prod (Kd.T (.pair (.int .i64) (.pair .unit (.pair (.slice (.fb 5)) .unit)))) (Kd.T .unit))) (O := (Sum (Kd.T (.pair (.pair .unit (.pair (.slice (.fb 5)) .unit)) .unit)) (OutT (List.nil)))) (fun x7 => (cond (Decidable.decide (LT.lt x7.1.1 (Nat.cast (List.length x3.2.2.2.1) : Int))) (cond (inB x7.1.1 (List.length x3.2.2.2.1)) (Option.bind (GetElem?.getElem? x3.2.2.2.1 (Int.toNat x7.1.1)) (fun x8 => (Option.bind (r14 ((Nat.cast (ByteArray.size x8.1) : Int), Unit.unit)) (fun x9 => (cond (Decidable.decide (LT.lt 9223372036854775807 (HAdd.hAdd (ByteArray.size x9.1) (ByteArray.size x8.1)))) (Option.none) (Option.bind (r14 (x8.2.1.1, Unit.unit)) (fun x10 => (cond (Decidable.decide (LT.lt 9223372036854775807 (HAdd.hAdd (ByteArray.size (HAppend.hAppend x9.1 x8.1)) (ByteArray.size x10.1)))) (Option.none) (Option.bind (r13 ((HAppend.hAppend (HAppend.hAppend x9.1 x8.1) x10.1), Unit.unit) (Unit.unit, (x7.1.2.2.1, Unit.unit))) (fun x11 => (cond (Decidable.decide (Eq x8.2.1.1 (1 : Int))) (Option.bind (r15 ((List.cons x8.2.1.2.1 (List.nil)), Unit.unit) (Unit.unit, (x11.2.2.1, Unit.unit))) (fun x12 => (Option.some (Sum.inl (((IntKind.wrap IntKind.i64 (HAdd.hAdd x7.1.1 (1 : Int))), (Unit.unit, (x12.2.2.1, Unit.unit))), Unit.unit))))) (cond (Decidable.decide (Eq x8.2.1.1 (2 : Int))) (Option.bind (r14 ((Nat.cast (ByteArray.size x8.2.1.2.2.1) : Int), Unit.unit)) (fun x12 => (cond (Decidable.decide (LT.lt 9223372036854775807 (HAdd.hAdd (ByteArray.size x12.1) (ByteArray.size x8.2.1.2.2.1)))) (Option.none) (Option.bind (r13 ((HAppend.hAppend x12.1 x8.2.1.2.2.1), Unit.unit) (Unit.unit, (x11.2.2.1, Unit.unit))) (fun x13 => (Option.some (Sum.inl (((IntKind.wrap IntKind.i64 (HAdd.hAdd x7.1.1 (1 : Int))), (Unit.unit, (x13.2.2.1, Unit.unit))), Unit.unit)))))))) (cond (Decidable.decide (Eq x8.2.1.1 (3 : Int))) (cond (BEq.beq x8.2.1.2.2.2.1 Bool.false) (Option.bind (r13 ((ByteArray.mk (List.toArray (List.cons (0 : UInt8) (List.nil)))), Unit.unit) (Unit.unit, (x11.2.2.1, Unit.unit))) (fun x12 => (Option.some (Sum.inl (((IntKind.wrap IntKind.i64 (HAdd.hAdd x7.1.1 (1 : Int))), (Unit.unit, (x12.2.2.1, Unit.unit))), Unit.unit))))) (cond (BEq.beq x8.2.1.2.2.2.1 Bool.true) (Option.bind (r13 ((ByteArray.mk (List.toArray (List.cons (2 : UInt8) (List.nil)))), Unit.unit) (Unit.unit, (x11.2.2.1, Unit.unit))) (fun x12 => (Option.some (Sum.inl (((IntKind.wrap IntKind.i64 (HAdd.hAdd x7.1.1 (1 : Int))), (Unit.unit, (x12.2.2.1, Unit.unit))), Unit.unit))))) (Option.bind (r13 ((ByteArray.mk (List.toArray (List.nil))), Unit.unit) (Unit.unit, (x11.2.2.1, Unit.unit))) (fun x12 => (Option.some (Sum.inl (((IntKind.wrap IntKind.i64 (HAdd.hAdd x7.1.1 (1 : Int))), (Unit.unit, (x12.2.2.1, Unit.unit))), Unit.unit))))))) (Option.some (Sum.inl (((IntKind.wrap IntKind.i64 (HAdd.hAdd x7.1.1 (1 : Int))), (Unit.unit, (x11.2.2.1, Unit.unit))), Unit.unit)))))))))))))))) (Option.none)) (Option.some (Sum.inr (Sum.inl ((Unit.unit, (x7.1.2.2.1, Unit.unit)), Unit.unit)))))) (((0 : Int), (Unit.unit, (x6.2.2.1, Unit.unit))), Unit.unit)) (sumE (fun x7 => (Option.some (Sum.inl ((x3.1, ((IntKind.wrap IntKind.i64 (HAdd.hAdd x2.1.2.1 (1 : Int))), (Unit.unit, (x7.1.2.1, Unit.unit)))), Unit.unit)))) (emptyE)))))) (emptyE))))))) (Option.none)) (Option.some (Sum.inr (Sum.inl ((Unit.unit, (x2.1.2.2.2.1, Unit.unit)), Unit.unit)))))) (((0 : Int), ((0 : Int), (Unit.unit, (x1.2.2.1, Unit.unit)))), Unit.unit)) (sumE (fun x2 => (Option.bind (r16 Unit.unit (Unit.unit, (x2.1.2.1, Unit.unit))) (fun x3 => (Option.bind (r9 (x3.1.1, Unit.unit)) (fun x4 => (Option.bind (loop (D := (Prod (Kd.T (.pair (.int .u32) (.pair (.int .i64) (.pair .unit (.pair (.slice (.fb 5)) .unit))))) (Kd.T .unit))) (O := (Sum (Kd.T (.pair (.pair .unit (.pair (.slice (.fb 5)) .unit)) .unit)) (OutT (List.nil)))) (fun x5 => (cond (Decidable.decide (LT.lt x5.1.2.1 (4 : Int))) (Option.bind (r17 ((IntKind.wrap IntKind.u8 x5.1.1), Unit.unit) (Unit.unit, (x5.1.2.2.2.1, Unit.unit))) (fun x6 => (Option.some (Sum.inl (((Int.fdiv x5.1.1 (256 : Int)), ((IntKind.wrap IntKind.i64 (HAdd.hAdd x5.1.2.1 (1 : Int))), (Unit.unit, (x6.2.2.1, Unit.unit)))), Unit.unit))))) (Option.some (Sum.inr (Sum.inl ((Unit.unit, (x5.1.2.2.2.1, Unit.unit)), Unit.unit)))))) ((x4.1, ((0 : Int), (Unit.unit, (x3.2.2.1, Unit.unit)))), Unit.unit)) (sumE (fun x5 => (Option.bind (r16 Unit.unit (Unit.unit, (x5.1.2.1, Unit.unit))) (fun x6 => (Option.some (x6.1.1, Unit.unit))))) (emptyE)))))))) (emptyE))))))))
theorem r6_ok : PureOk Go.Proofs.Tryz.prog nG gG 6 [(.slice (.pair (.int .i64) (.pair (.int .i64) (.pair (.slice (.slice (.pair (.int .i64) (.pair (.int .i64) .unit)))) (.pair (.slice (.pair .str (.pair (.pair (.int .i64) (.pair (.int .i64) (.pair .str (.pair .bool .unit)))) .unit))) (.pair (.int .i64) (.pair (.int .i64) .unit)))))))] [.str] r6 :=
  pureOk_of_run (F := specOf [(14, pureSpec [(.int .i64)] [.str] r14), (13, memSpec [.ptr 0 0, .dat .str] [(0, [.self 43, .own (.fb 5)])] [(0, [.self 43, .own (.fb 5)])] [(.int .i64), .err] r13), (15, memSpec [.dat (.slice (.int .i64)), .ptr 0 0] [(0, [.self 43, .own (.fb 5)])] [(0, [.self 43, .own (.fb 5)])] [] r15), (16, memSpec [.ptr 0 0] [(0, [.self 43, .own (.fb 5)])] [(0, [.self 43, .own (.fb 5)])] [.str] r16), (9, pureSpec [.str] [(.int .u32)] r9), (17, memSpec [.ptr 0 0, .dat (.int .u8)] [(0, [.self 43, .own (.fb 5)])] [(0, [.self 43, .own (.fb 5)])] [.err] r17)]) (hs := hintOf [(9, ⟨⟨[(16, .lf (.int .u32)), (147, .lf (.int .i64))], [(64, [.self 43, .own (.fb 5)])], []⟩, [((.exit 9), ⟨[], [(64, [.self 43, .own (.fb 5)])], []⟩)]⟩), (6, ⟨⟨[(94, .lf (.int .i64))], [(64, [.self 43, .own (.fb 5)])], []⟩, [((.exit 6), ⟨[], [(64, [.self 43, .own (.fb 5)])], []⟩)]⟩), (4, ⟨⟨[(8, .lf (.int .i64)), (9, .lf (.int .i64)), (64, .lf (.int .i64))], [(64, [.self 43, .own (.fb 5)])], []⟩, [((.exit 4), ⟨[(8, .lf (.int .i64)), (9, .lf (.int .i64))], [(64, [.self 43, .own (.fb 5)])], []⟩)]⟩), (2, ⟨⟨[(8, .lf (.int .i64)), (9, .lf (.int .i64)), (53, .lf (.int .i64))], [(64, [.self 43, .own (.fb 5)])], []⟩, [((.exit 2), ⟨[], [(64, [.self 43, .own (.fb 5)])], []⟩)]⟩), (0, ⟨⟨[(5, .lf (.int .i64)), (25, .lf (.int .i64))], [(64, [.self 43, .own (.fb 5)])], []⟩, [((.exit 0), ⟨[], [(64, [.self 43, .own (.fb 5)])], []⟩)]⟩)]) stays_G (specOf_cons (PureOk.spec r14_ok) (specOf_cons r13_ok (specOf_cons r15_ok (specOf_cons r16_ok (specOf_cons (PureOk.spec r9_ok) (specOf_cons r17_ok specOf_nil)))))) mixed Go.Proofs.Tryz.func6 rfl (by kernel_rfl) (fun _ => by kernel_rfl)

/-- terrier/bin.Sum -/
noncomputable def r18 (x : (kdP [(.slice (.int .u8))]).T) : Option (kdP [(.int .u32)]).T :=
  (Option.bind (loop (D := (Prod (Kd.T (.pair (.int .u32) (.pair (.int .i64) .unit))) (Kd.T .unit))) (O := (Sum (Kd.T (.pair (.pair (.int .u32) .unit) .unit)) (OutT (List.nil)))) (fun x0 => (cond (Decidable.decide (LT.lt x0.1.2.1 (Nat.cast (List.length x.1) : Int))) (cond (inB x0.1.2.1 (List.length x.1)) (Option.bind (GetElem?.getElem? x.1 (Int.toNat x0.1.2.1)) (fun x1 => (Option.some (Sum.inl (((IntKind.wrap IntKind.u32 (HMul.hMul (IntKind.wrap IntKind.u32 (Nat.cast (BitVec.toNat (HXor.hXor (BitVec.ofInt 32 x0.1.1) (BitVec.ofInt 32 (IntKind.wrap IntKind.u32 x1)))) : Int)) (16777619 : Int))), ((IntKind.wrap IntKind.i64 (HAdd.hAdd x0.1.2.1 (1 : Int))), Unit.unit)), Unit.unit))))) (Option.none)) (Option.some (Sum.inr (Sum.inl ((x0.1.1, Unit.unit), Unit.unit)))))) (((2166136261 : Int), ((0 : Int), Unit.unit)), Unit.unit)) (sumE (fun x0 => (Option.some (x0.1.1, Unit.unit))) (emptyE)))
theorem r18_ok : PureOk Go.Proofs.Tryz.prog nG gG 18 [(.slice (.int .u8))] [(.int .u32)] r18 :=
  pureOk_of_run (F := specOf []) (hs := hintOf [(0, ⟨⟨[(3, .lf (.int .u32)), (8, .lf (.int .i64))], [], []⟩, [((.exit 0), ⟨[(3, .lf (.int .u32))], [], []⟩)]⟩)]) stays_G specOf_nil mixed Go.Proofs.Tryz.func18 rfl (by kernel_rfl) (fun _ => by kernel_rfl)

/-- (*terrier/bin.reader).num -/
noncomputable def r29 (x : (kdP []).T) (d : (kdL [.lf (.slice (.int .u8)), .lf .bool]).T) : Option ((kdP [(.int .i64)]).T × (kdL [.lf (.slice (.int .u8)), .lf .bool]).T) :=
  (Option.bind (loop (D := (Prod (Kd.T (.pair (.int .u64) (.pair (.int .i64) .unit))) (Kd.T .unit))) (O := (Sum (Kd.T (.pair (.pair (.int .i64) (.pair (.slice (.int .u8)) (.pair .bool .unit))) .unit)) (OutT (List.cons ((Ex3.exit 0), (Sh.mk (List.nil) (List.nil) (List.nil))) (List.nil))))) (fun x0 => (cond (Decidable.decide (LT.lt x0.1.2.1 (Nat.cast (List.length d.1) : Int))) (cond (inB x0.1.2.1 (List.length d.1)) (Option.bind (GetElem?.getElem? d.1 (Int.toNat x0.1.2.1)) (fun x1 => (cond (Decidable.decide (Eq x0.1.2.1 (9 : Int))) (cond (Decidable.decide (LT.lt (1 : Int) x1)) (Option.some (Sum.inr (Sum.inr (Sum.inl (Unit.unit, Unit.unit))))) (cond (Decidable.decide (LT.lt (IntKind.wrap IntKind.i64 (HMul.hMul (7 : Int) x0.1.2.1)) (0 : Int))) (Option.none) (cond (Decidable.decide (LT.lt x1 (128 : Int))) (cond (upTo (IntKind.wrap IntKind.i64 (HAdd.hAdd x0.1.2.1 (1 : Int))) (Nat.cast (List.length d.1) : Int)) (Option.some (Sum.inr (Sum.inl (((IntKind.wrap IntKind.i64 (Nat.cast (BitVec.toNat (HXor.hXor (BitVec.ofInt 64 (IntKind.wrap IntKind.i64 (Int.fdiv (IntKind.wrap IntKind.u64 (Nat.cast (BitVec.toNat (HOr.hOr (BitVec.ofInt 64 x0.1.1) (BitVec.ofInt 64 (IntKind.wrap IntKind.u64 (HMul.hMul (IntKind.wrap IntKind.u64 (IntKind.wrap IntKind.u8 (Nat.cast (BitVec.toNat (HAnd.hAnd (BitVec.ofInt 8 x1) (BitVec.ofInt 8 (127 : Int)))) : Int))) (HPow.hPow (2 : Int) (Min.min (Int.toNat (IntKind.wrap IntKind.i64 (HMul.hMul (7 : Int) x0.1.2.1))) 64))))))) : Int)) (2 : Int)))) (BitVec.ofInt 64 (IntKind.wrap IntKind.i64 (HSub.hSub (0 : Int) (IntKind.wrap IntKind.i64 (IntKind.wrap IntKind.u64 (Nat.cast (BitVec.toNat (HAnd.hAnd (BitVec.ofInt 64 (IntKind.wrap IntKind.u64 (Nat.cast (BitVec.toNat (HOr.hOr (BitVec.ofInt 64 x0.1.1) (BitVec.ofInt 64 (IntKind.wrap IntKind.u64 (HMul.hMul (IntKind.wrap IntKind.u64 (IntKind.wrap IntKind.u8 (Nat.cast (BitVec.toNat (HAnd.hAnd (BitVec.ofInt 8 x1) (BitVec.ofInt 8 (127 : Int)))) : Int))) (HPow.hPow (2 : Int) (Min.min (Int.toNat (IntKind.wrap IntKind.i64 (HMul.hMul (7 : Int) x0.1.2.1))) 64))))))) : Int))) (BitVec.ofInt 64 (1 : Int)))) : Int)))))))) : Int)), ((List.drop (Int.toNat (IntKind.wrap IntKind.i64 (HAdd.hAdd x0.1.2.1 (1 : Int)))) d.1), (d.2.1, Unit.unit))), Unit.unit)))) (Option.none)) (Option.some (Sum.inl (((IntKind.wrap IntKind.u64 (Nat.cast (BitVec.toNat (HOr.hOr (BitVec.ofInt 64 x0.1.1) (BitVec.ofInt 64 (IntKind.wrap IntKind.u64 (HMul.hMul (IntKind.wrap IntKind.u64 (IntKind.wrap IntKind.u8 (Nat.cast (BitVec.toNat (HAnd.hAnd (BitVec.ofInt 8 x1) (BitVec.ofInt 8 (127 : Int)))) : Int))) (HPow.hPow (2 : Int) (Min.min (Int.toNat (IntKind.wrap IntKind.i64 (HMul.hMul (7 : Int) x0.1.2.1))) 64))))))) : Int)), ((IntKind.wrap IntKind.i64 (HAdd.hAdd x0.1.2.1 (1 : Int))), Unit.unit)), Unit.unit)))))) (cond (Decidable.decide (LT.lt (IntKind.wrap IntKind.i64 (HMul.hMul (7 : Int) x0.1.2.1)) (0 : Int))) (Option.none) (cond (Decidable.decide (LT.lt x1 (128 : Int))) (cond (upTo (IntKind.wrap IntKind.i64 (HAdd.hAdd x0.1.2.1 (1 : Int))) (Nat.cast (List.length d.1) : Int)) (Option.some (Sum.inr (Sum.inl (((IntKind.wrap IntKind.i64 (Nat.cast (BitVec.toNat (HXor.hXor (BitVec.ofInt 64 (IntKind.wrap IntKind.i64 (Int.fdiv (IntKind.wrap IntKind.u64 (Nat.cast (BitVec.toNat (HOr.hOr (BitVec.ofInt 64 x0.1.1) (BitVec.ofInt 64 (IntKind.wrap IntKind.u64 (HMul.hMul (IntKind.wrap IntKind.u64 (IntKind.wrap IntKind.u8 (Nat.cast (BitVec.toNat (HAnd.hAnd (BitVec.ofInt 8 x1) (BitVec.ofInt 8 (127 : Int)))) : Int))) (HPow.hPow (2 : Int) (Min.min (Int.toNat (IntKind.wrap IntKind.i64 (HMul.hMul (7 : Int) x0.1.2.1))) 64))))))) : Int)) (2 : Int)))) (BitVec.ofInt 64 (IntKind.wrap IntKind.i64 (HSub.hSub (0 : Int) (IntKind.wrap IntKind.i64 (IntKind.wrap IntKind.u64 (Nat.cast (BitVec.toNat (HAnd.hAnd (BitVec.ofInt 64 (IntKind.wrap IntKind.u64 (Nat.cast (BitVec.toNat (HOr.hOr (BitVec.ofInt 64 x0.1.1) (BitVec.ofInt 64 (IntKind.wrap IntKind.u64 (HMul.hMul (IntKind.wrap IntKind.u64 (IntKind.wrap IntKind.u8 (Nat.cast (BitVec.toNat (HAnd.hAnd (BitVec.ofInt 8 x1) (BitVec.ofInt 8 (127 : Int)))) : Int))) (HPow.hPow (2 : Int) (Min.min (Int.toNat (IntKind.wrap IntKind.i64 (HMul.hMul (7 : Int) x0.1.2.1))) 64))))))) : Int))) (BitVec.ofInt 64 (1 : Int)))) : Int)))))))) : Int)), ((List.drop (Int.toNat (IntKind.wrap IntKind.i64 (HAdd.hAdd x0.1.2.1 (1 : Int)))) d.1), (d.2.1, Unit.unit))), Unit.unit)))) (Option.none)) (Option.some (Sum.inl (((IntKind.wrap IntKind.u64 (Nat.cast (BitVec.toNat (HOr.hOr (BitVec.ofInt 64 x0.1.1) (BitVec.ofInt 64 (IntKind.wrap IntKind.u64 (HMul.hMul (IntKind.wrap IntKind.u64 (IntKind.wrap IntKind.u8 (Nat.cast (BitVec.toNat (HAnd.hAnd (BitVec.ofInt 8 x1) (BitVec.ofInt 8 (127 : Int)))) : Int))) (HPow.hPow (2 : Int) (Min.min (Int.toNat (IntKind.wrap IntKind.i64 (HMul.hMul (7 : Int) x0.1.2.1))) 64))))))) : Int)), ((IntKind.wrap IntKind.i64 (HAdd.hAdd x0.1.2.1 (1 : Int))), Unit.unit)), Unit.unit)))))))) (Option.none)) (Option.some (Sum.inr (Sum.inr (Sum.inl (Unit.unit, Unit.unit))))))) (((0 : Int), ((0 : Int), Unit.unit)), Unit.unit)) (sumE (fun x0 => (Option.some ((x0.1.1, Unit.unit), (x0.1.2.1, (x0.1.2.2.1, Unit.unit))))) (sumE (fun x0 => (Option.some (((0 : Int), Unit.unit), (d.1, (Bool.true, Unit.unit))))) (emptyE))))
theorem r29_ok : SpecOk Go.Proofs.Tryz.prog nG gG 29 (memSpec [.ptr 0 0] [(0, [.lf (.slice (.int .u8)), .lf .bool])] [(0, [.lf (.slice (.int .u8)), .lf .bool])] [(.int .i64)] r29) :=
  memSpec_ok (F := specOf []) (hs := hintOf [(0, ⟨⟨[(3, .lf (.int .u64)), (11, .lf (.int .i64))], [], []⟩, [(.ret, ⟨[(2, .lf (.int .i64))], [(0, [.lf (.slice (.int .u8)), .lf .bool])], []⟩), ((.exit 0), ⟨[], [], []⟩)]⟩)]) stays_G specOf_nil mixed Go.Proofs.Tryz.func29 rfl (by kernel_rfl) (by kernel_rfl) (fun _ _ => by kernel_rfl)

/-- (*terrier/bin.reader).count -/
noncomputable def r19 (x : (kdP [(.int .i64)]).T) (d : (kdL [.lf (.slice (.int .u8)), .lf .bool]).T) : Option ((kdP [(.int .i64)]).T × (kdL [.lf (.slice (.int .u8)), .lf .bool]).T) :=
  (Option.bind (r29 Unit.unit (d.1, (d.2.1, Unit.unit))) (fun x0 => (cond (Decidable.decide (LT.lt x0.1.1 (0 : Int))) (Option.some (((0 : Int), Unit.unit), (x0.2.1, (Bool.true, Unit.unit)))) (cond (Decidable.decide (LT.lt x.1 x0.1.1)) (Option.some (((0 : Int), Unit.unit), (x0.2.1, (Bool.true, Unit.unit)))) (Option.some ((x0.1.1, Unit.unit), (x0.2.1, (x0.2.2.1, Unit.unit))))))))
theorem r19_ok : SpecOk Go.Proofs.Tryz.prog nG gG 19 (memSpec [.ptr 0 0, .dat (.int .i64)] [(0, [.lf (.slice (.int .u8)), .lf .bool])] [(0, [.lf (.slice (.int .u8)), .lf .bool])] [(.int .i64)] r19) :=
  memSpec_ok (F := specOf [(29, memSpec [.ptr 0 0] [(0, [.lf (.slice (.int .u8)), .lf .bool])] [(0, [.lf (.slice (.int .u8)), .lf .bool])] [(.int .i64)] r29)]) (hs := hintOf []) stays_G (specOf_cons r29_ok specOf_nil) mixed Go.Proofs.Tryz.func19 rfl (by kernel_rfl) (by kernel_rfl) (fun _ _ => by kernel_rfl)

/-- (*terrier/bin.reader).text -/
noncomputable def r30 (x : (kdP []).T) (d : (kdL [.lf (.slice (.int .u8)), .lf .bool]).T) : Option ((kdP [.str]).T × (kdL [.lf (.slice (.int .u8)), .lf .bool]).T) :=
  (Option.bind (r19 ((Nat.cast (List.length d.1) : Int), Unit.unit) (d.1, (d.2.1, Unit.unit))) (fun x0 => (cond x0.2.2.1 (Option.some (((ByteArray.mk (List.toArray (List.nil))), Unit.unit), (x0.2.1, (Bool.true, Unit.unit)))) (cond (Decidable.decide (LT.lt (Nat.cast (List.length x0.2.1) : Int) x0.1.1)) (Option.some (((ByteArray.mk (List.toArray (List.nil))), Unit.unit), (x0.2.1, (Bool.true, Unit.unit)))) (cond (upTo x0.1.1 (Nat.cast (List.length x0.2.1) : Int)) (cond (upTo x0.1.1 (Nat.cast (List.length x0.2.1) : Int)) (Option.some (((mkStr (List.take (Int.toNat x0.1.1) x0.2.1)), Unit.unit), ((List.drop (Int.toNat x0.1.1) x0.2.1), (x0.2.2.1, Unit.unit)))) (Option.none)) (Option.none))))))
theorem r30_ok : SpecOk Go.Proofs.Tryz.prog nG gG 30 (memSpec [.ptr 0 0] [(0, [.lf (.slice (.int .u8)), .lf .bool])] [(0, [.lf (.slice (.int .u8)), .lf .bool])] [.str] r30) :=
  memSpec_ok (F := specOf [(19, memSpec [.ptr 0 0, .dat (.int .i64)] [(0, [.lf (.slice (.int .u8)), .lf .bool])] [(0, [.lf (.slice (.int .u8)), .lf .bool])] [(.int .i64)] r19)]) (hs := hintOf []) stays_G (specOf_cons r19_ok specOf_nil) mixed Go.Proofs.Tryz.func30 rfl (by kernel_rfl) (by kernel_rfl) (fun _ _ => by kernel_rfl)

/-- (*terrier/bin.reader).feature -/
noncomputable def r20 (x : (kdP [(.int .i64)]).T) (d : (kdL [.lf (.slice (.int .u8)), .lf .bool]).T) : Option ((kdP [(.pair (.int .i64) (.pair (.int .i64) (.pair (.slice (.slice (.pair (.int .i64) (.pair (.int .i64) .unit)))) (.pair (.slice (.pair .str (.pair (.pair (.int .i64) (.pair (.int .i64) (.pair .str (.pair .bool .unit)))) .unit))) (.pair (.int .i64) (.pair (.int .i64) .unit))))))]).T × (kdL [.lf (.slice (.int .u8)), .lf .bool]).T) :=
  (Option.bind (r29 Unit.unit (d.1, (d.2.1, Unit.unit))) (fun x0 => (Option.bind (r29 Unit.unit (x0.2.1, (x0.2.2.1, Unit.unit))) (fun x1 => (Option.bind (r29 Unit.unit (x1.2.1, (x1.2.2.1, Unit.unit))) (fun x2 => (Option.bind (r29 Unit.unit (x2.2.1, (x2.2.2.1, Unit.unit))) (fun x3 => (Option.bind (r19 ((20 : Int), Unit.unit) (x3.2.1, (x3.2.2.1, Unit.unit))) (fun x4 => (Option.bind (loop (D := (Prod (Kd.T (.pair (.int .i64) (.pair (.int .i64) (.pair (.int .i64) (.pair (.slice (.slice (.pair (.int .i64) (.pair (.int .i64) .unit)))) (.pair .unit (.pair (.int .i64) (.pair (.int .i64) (.pair (.int .i64) (.pair (.int .i64) (.pair (.slice (.int .u8)) (.pair .bool .unit)))))))))))) (Kd.T .unit))) (O := (Sum (Kd.T (.pair (.pair (.int .i64) (.pair (.int .i64) (.pair (.slice (.slice (.pair (.int .i64) (.pair (.int .i64) .unit)))) (.pair .unit (.pair (.int .i64) (.pair (.int .i64) (.pair (.int .i64) (.pair (.int .i64) (.pair (.slice (.int .u8)) (.pair .bool .unit)))))))))) .unit)) (OutT (List.nil)))) (fun x5 => (cond (Decidable.decide (LT.lt x5.1.1 x4.1.1)) (Option.bind (r19 ((200 : Int), Unit.unit) (x5.1.2.2.2.2.2.2.2.2.2.1, (x5.1.2.2.2.2.2.2.2.2.2.2.1, Unit.unit))) (fun x6 => (Option.bind (loop (D := (Prod (Kd.T (.pair (.slice (.pair (.int .i64) (.pair (.int .i64) .unit))) (.pair (.int .i64) (.pair (.int .i64) (.pair (.int .i64) (.pair (.slice (.int .u8)) (.pair .bool .unit))))))) (Kd.T .unit))) (O := (Sum (Kd.T (.pair (.pair (.slice (.pair (.int .i64) (.pair (.int .i64) .unit))) (.pair (.int .i64) (.pair (.int .i64) (.pair (.slice (.int .u8)) (.pair .bool .unit))))) .unit)) (OutT (List.nil)))) (fun x7 => (cond (Decidable.decide (LT.lt x7.1.2.1 x6.1.1)) (Option.bind (r29 Unit.unit (x7.1.2.2.2.2.1, (x7.1.2.2.2.2.2.1, Unit.unit))) (fun x8 => (Option.bind (r29 Unit.unit (x8.2.1, (x8.2.2.1, Unit.unit))) (fun x9 => (cond (fits (HAdd.hAdd (List.length x7.1.1) (List.length (List.cons ((IntKind.wrap IntKind.i64 (HAdd.hAdd x7.1.2.2.1 x8.1.1)), ((IntKind.wrap IntKind.i64 (HAdd.hAdd x7.1.2.2.2.1 x9.1.1)), Unit.unit)) (List.nil)))) 16) (Option.some (Sum.inl (((HAppend.hAppend x7.1.1 (List.cons ((IntKind.wrap IntKind.i64 (HAdd.hAdd x7.1.2.2.1 x8.1.1)), ((IntKind.wrap IntKind.i64 (HAdd.hAdd x7.1.2.2.2.1 x9.1.1)), Unit.unit)) (List.nil))), ((IntKind.wrap IntKind.i64 (HAdd.hAdd x7.1.2.1 (1 : Int))), ((IntKind.wrap IntKind.i64 (HAdd.hAdd x7.1.2.2.1 x8.1.1)), ((IntKind.wrap IntKind.i64 (HAdd.hAdd x7.1.2.2.2.1 x9.1.1)), (x9.2.1, (x9.2.2.1, Unit.unit)))))), Unit.unit))) (Option.none)))))) (Option.some (Sum.inr (Sum.inl ((x7.1.1, (x7.1.2.2.1, (x7.1.2.2.2.1, (x7.1.2.2.2.2.1, (x7.1.2.2.2.2.2.1, Unit.unit))))), Unit.unit)))))) (((List.nil), ((0 : Int), (x5.1.2.2.2.2.2.2.2.1, (x5.1.2.2.2.2.2.2.2.2.1, (x6.2.1, (x6.2.2.1, Unit.unit)))))), Unit.unit)) (sumE (fun x7 => (cond (fits (HAdd.hAdd (List.length x5.1.2.2.2.1) (List.length (List.cons x7.1.1 (List.nil)))) 24) (Option.some (Sum.inl (((IntKind.wrap IntKind.i64 (HAdd.hAdd x5.1.1 (1 : Int))), (x5.1.2.1, (x5.1.2.2.1, ((HAppend.hAppend x5.1.2.2.2.1 (List.cons x7.1.1 (List.nil))), (Unit.unit, (x5.1.2.2.2.2.2.1, (x5.1.2.2.2.2.2.2.1, (x7.1.2.1, (x7.1.2.2.1, (x7.1.2.2.2.1, (x7.1.2.2.2.2.1, Unit.unit))))))))))), Unit.unit))) (Option.none))) (emptyE))))) (Option.some (Sum.inr (Sum.inl ((x5.1.2.1, (x5.1.2.2.1, (x5.1.2.2.2.1, (Unit.unit, (x5.1.2.2.2.2.2.1, (x5.1.2.2.2.2.2.2.1, (x5.1.2.2.2.2.2.2.2.1, (x5.1.2.2.2.2.2.2.2.2.1, (x5.1.2.2.2.2.2.2.2.2.2.1, (x5.1.2.2.2.2.2.2.2.2.2.2.1, Unit.unit)))))))))), Unit.unit)))))) (((0 : Int), ((IntKind.wrap IntKind.i64 (HAdd.hAdd x.1 x0.1.1)), (x1.1.1, ((List.nil), (Unit.unit, (x2.1.1, ((IntKind.wrap IntKind.i64 (HAdd.hAdd x2.1.1 x3.1.1)), ((0 : Int), ((0 : Int), (x4.2.1, (x4.2.2.1, Unit.unit))))))))))), Unit.unit)) (sumE (fun x5 => (Option.bind (r19 ((8 : Int), Unit.unit) (x5.1.2.2.2.2.2.2.2.2.1, (x5.1.2.2.2.2.2.2.2.2.2.1, Unit.unit))) (fun x6 => (Option.bind (loop (D := (Prod (Kd.T (.pair (.int .i64) (.pair (.int .i64) (.pair (.int .i64) (.pair (.slice (.slice (.pair (.int .i64) (.pair (.int .i64) .unit)))) (.pair (.slice (.pair .str (.pair (.pair (.int .i64) (.pair (.int .i64) (.pair .str (.pair .bool .unit)))) .unit))) (.pair (.int .i64) (.pair (.int .i64) (.pair (.slice (.int .u8)) (.pair .bool .unit)))))))))) (Kd.T .unit))) (O := (Sum (Kd.T (.pair (.pair (.int .i64) (.pair (.int .i64) (.pair (.slice (.slice (.pair (.int .i64) (.pair (.int .i64) .unit)))) (.pair (.slice (.pair .str (.pair (.pair (.int .i64) (.pair (.int .i64) (.pair .str (.pair .bool .unit)))) .unit))) (.pair (.int .i64) (.pair (.int .i64) (.pair (.slice (.int .u8)) (.pair .bool .unit)))))))) .unit)) (OutT (List.nil)))) (fun x7 => (cond (Decidable.decide (LT.lt x7.1.1 x6.1.1)) (Option.bind (r30 Unit.unit (x7.1.2.2.2.2.2.2.2.1, (x7.1.2.2.2.2.2.2.2.2.1, Unit.unit))) (fun x8 => (Option.bind (r29 Unit.unit (x8.2.1, (x8.2.2.1, Unit.unit))) (fun x9 => (cond (Decidable.decide (Eq x9.1.1 (1 : Int))) (Option.bind (r29 Unit.unit (x9.2.1, (x9.2.2.1, Unit.unit))) (fun x10 => (cond (fits (HAdd.hAdd (List.length x7.1.2.2.2.2.1) (List.length (List.cons (x8.1.1, ((x9.1.1, (x10.1.1, ((ByteArray.mk (List.toArray (List.nil))), (Bool.false, Unit.unit)))), Unit.unit)) (List.nil)))) 56) (Option.some (Sum.inl (((IntKind.wrap IntKind.i64 (HAdd.hAdd x7.1.1 (1 : Int))), (x7.1.2.1, (x7.1.2.2.1, (x7.1.2.2.2.1, ((HAppend.hAppend x7.1.2.2.2.2.1 (List.cons (x8.1.1, ((x9.1.1, (x10.1.1, ((ByteArray.mk (List.toArray (List.nil))), (Bool.false, Unit.unit)))), Unit.unit)) (List.nil))), (x7.1.2.2.2.2.2.1, (x7.1.2.2.2.2.2.2.1, (x10.2.1, (x10.2.2.1, Unit.unit))))))))), Unit.unit))) (Option.none)))) (cond (Decidable.decide (Eq x9.1.1 (2 : Int))) (Option.bind (r30 Unit.unit (x9.2.1, (x9.2.2.1, Unit.unit))) (fun x10 => (cond (fits (HAdd.hAdd (List.length x7.1.2.2.2.2.1) (List.length (List.cons (x8.1.1, ((x9.1.1, ((0 : Int), (x10.1.1, (Bool.false, Unit.unit)))), Unit.unit)) (List.nil)))) 56) (Option.some (Sum.inl (((IntKind.wrap IntKind.i64 (HAdd.hAdd x7.1.1 (1 : Int))), (x7.1.2.1, (x7.1.2.2.1, (x7.1.2.2.2.1, ((HAppend.hAppend x7.1.2.2.2.2.1 (List.cons (x8.1.1, ((x9.1.1, ((0 : Int), (x10.1.1, (Bool.false, Unit.unit)))), Unit.unit)) (List.nil))), (x7.1.2.2.2.2.2.1, (x7.1.2.2.2.2.2.2.1, (x10.2.1, (x10.2.2.1, Unit.unit))))))))), Unit.unit))) (Option.none)))) (cond (Decidable.decide (Eq x9.1.1 (3 : Int))) (Option.bind (r29 Unit.unit (x9.2.1, (x9.2.2.1, Unit.unit))) (fun x10 => (cond (fits (HAdd.hAdd (List.length x7.1.2.2.2.2.1) (List.length (List.cons (x8.1.1, ((x9.1.1, ((0 : Int), ((ByteArray.mk (List.toArray (List.nil))), ((Decidable.decide (Eq x10.1.1 (1 : Int))), Unit.unit)))), Unit.unit)) (List.nil)))) 56) (Option.some (Sum.inl (((IntKind.wrap IntKind.i64 (HAdd.hAdd x7.1.1 (1 : Int))), (x7.1.2.1, (x7.1.2.2.1, (x7.1.2.2.2.1, ((HAppend.hAppend x7.1.2.2.2.2.1 (List.cons (x8.1.1, ((x9.1.1, ((0 : Int), ((ByteArray.mk (List.toArray (List.nil))), ((Decidable.decide (Eq x10.1.1 (1 : Int))), Unit.unit)))), Unit.unit)) (List.nil))), (x7.1.2.2.2.2.2.1, (x7.1.2.2.2.2.2.2.1, (x10.2.1, (x10.2.2.1, Unit.unit))))))))), Unit.unit))) (Option.none)))) (cond (fits (HAdd.hAdd (List.length x7.1.2.2.2.2.1) (List.length (List.cons (x8.1.1, ((x9.1.1, ((0 : Int), ((ByteArray.mk (List.toArray (List.nil))), (Bool.false, Unit.unit)))), Unit.unit)) (List.nil)))) 56) (Option.some (Sum.inl (((IntKind.wrap IntKind.i64 (HAdd.hAdd x7.1.1 (1 : Int))), (x7.1.2.1, (x7.1.2.2.1, (x7.1.2.2.2.1, ((HAppend.hAppend x7.1.2.2.2.2.1 (List.cons (x8.1.1, ((x9.1.1, ((0 : Int), ((ByteArray.mk (List.toArray (List.nil))), (Bool.false, Unit.unit)))), Unit.unit)) (List.nil))), (x7.1.2.2.2.2.2.1, (x7.1.2.2.2.2.2.2.1, (x9.2.1, (x9.2.2.1, Unit.unit))))))))), Unit.unit))) (Option.none))))))))) (Option.some (Sum.inr (Sum.inl ((x7.1.2.1, (x7.1.2.2.1, (x7.1.2.2.2.1, (x7.1.2.2.2.2.1, (x7.1.2.2.2.2.2.1, (x7.1.2.2.2.2.2.2.1, (x7.1.2.2.2.2.2.2.2.1, (x7.1.2.2.2.2.2.2.2.2.1, Unit.unit)))))))), Unit.unit)))))) (((0 : Int), (x5.1.1, (x5.1.2.1, (x5.1.2.2.1, ((List.nil), (x5.1.2.2.2.2.1, (x5.1.2.2.2.2.2.1, (x6.2.1, (x6.2.2.1, Unit.unit))))))))), Unit.unit)) (sumE (fun x7 => (Option.some (((x7.1.1, (x7.1.2.1, (x7.1.2.2.1, (x7.1.2.2.2.1, (x7.1.2.2.2.2.1, (x7.1.2.2.2.2.2.1, Unit.unit)))))), Unit.unit), (x7.1.2.2.2.2.2.2.1, (x7.1.2.2.2.2.2.2.2.1, Unit.unit))))) (emptyE)))))) (emptyE)))))))))))))
theorem r20_ok : SpecOk Go.Proofs.Tryz.prog nG gG 20 (memSpec [.ptr 0 0, .dat (.int .i64)] [(0, [.lf (.slice (.int .u8)), .lf .bool])] [(0, [.lf (.slice (.int .u8)), .lf .bool])] [(.pair (.int .i64) (.pair (.int .i64) (.pair (.slice (.slice (.pair (.int .i64) (.pair (.int .i64) .unit)))) (.pair (.slice (.pair .str (.pair (.pair (.int .i64) (.pair (.int .i64) (.pair .str (.pair .bool .unit)))) .unit))) (.pair (.int .i64) (.pair (.int .i64) .unit))))))] r20) :=
  memSpec_ok (F := specOf [(29, memSpec [.ptr 0 0] [(0, [.lf (.slice (.int .u8)), .lf .bool])] [(0, [.lf (.slice (.int .u8)), .lf .bool])] [(.int .i64)] r29), (19, memSpec [.ptr 0 0, .dat (.int .i64)] [(0, [.lf (.slice (.int .u8)), .lf .bool])] [(0, [.lf (.slice (.int .u8)), .lf .bool])] [(.int .i64)] r19), (30, memSpec [.ptr 0 0] [(0, [.lf (.slice (.int .u8)), .lf .bool])] [(0, [.lf (.slice (.int .u8)), .lf .bool])] [.str] r30)]) (hs := hintOf [(4, ⟨⟨[(59, .lf (.int .i64))], [(768, [.lf (.int .i64), .lf (.int .i64), .own (.slice (.pair (.int .i64) (.pair (.int .i64) .unit))), .own (.pair .str (.pair (.pair (.int .i64) (.pair (.int .i64) (.pair .str (.pair .bool .unit)))) .unit)), .lf (.int .i64), .lf (.int .i64)]), (0, [.lf (.slice (.int .u8)), .lf .bool])], []⟩, [((.exit 4), ⟨[], [(768, [.lf (.int .i64), .lf (.int .i64), .own (.slice (.pair (.int .i64) (.pair (.int .i64) .unit))), .own (.pair .str (.pair (.pair (.int .i64) (.pair (.int .i64) (.pair .str (.pair .bool .unit)))) .unit)), .lf (.int .i64), .lf (.int .i64)]), (0, [.lf (.slice (.int .u8)), .lf .bool])], []⟩)]⟩), (2, ⟨⟨[(7, .own (.pair (.int .i64) (.pair (.int .i64) .unit))), (31, .lf (.int .i64))], [(1408, [.lf (.int .i64), .lf (.int .i64)]), (0, [.lf (.slice (.int .u8)), .lf .bool])], []⟩, [((.exit 2), ⟨[(7, .own (.pair (.int .i64) (.pair (.int .i64) .unit)))], [(1408, [.lf (.int .i64), .lf (.int .i64)]), (0, [.lf (.slice (.int .u8)), .lf .bool])], []⟩)]⟩), (0, ⟨⟨[(27, .lf (.int .i64))], [(768, [.lf (.int .i64), .lf (.int .i64), .own (.slice (.pair (.int .i64) (.pair (.int .i64) .unit))), .nils, .lf (.int .i64), .lf (.int .i64)]), (1408, [.lf (.int .i64), .lf (.int .i64)]), (0, [.lf (.slice (.int .u8)), .lf .bool])], []⟩, [((.exit 0), ⟨[], [(768, [.lf (.int .i64), .lf (.int .i64), .own (.slice (.pair (.int .i64) (.pair (.int .i64) .unit))), .nils, .lf (.int .i64), .lf (.int .i64)]), (1408, [.lf (.int .i64), .lf (.int .i64)]), (0, [.lf (.slice (.int .u8)), .lf .bool])], []⟩)]⟩)]) stays_G (specOf_cons r29_ok (specOf_cons r19_ok (specOf_cons r30_ok specOf_nil))) mixed Go.Proofs.Tryz.func20 rfl (by kernel_rfl) (by kernel_rfl) (fun _ _ => by kernel_rfl)

/-- terrier/feat.Parts$1 -/
noncomputable def r69 (x : (kdP [(.slice (.pair (.int .i64) (.pair (.int .i64) .unit)))]).T) : Option (kdP [.bool]).T :=
  (Option.some ((Decidable.decide (LT.lt (200 : Int) (Nat.cast (List.length x.1) : Int))), Unit.unit))
theorem r69_ok : PureOk Go.Proofs.Tryz.prog nG gG 69 [(.slice (.pair (.int .i64) (.pair (.int .i64) .unit)))] [.bool] r69 :=
  pureOk_of_run (F := specOf []) (hs := hintOf []) stays_G specOf_nil mixed Go.Proofs.Tryz.func69 rfl (by kernel_rfl) (fun _ => by kernel_rfl)

/-- slices.IndexFunc[[][]terrier/api.Point,[]terrier/api.Point] -/
noncomputable def r88_69 (x : (kdP [(.slice (.slice (.pair (.int .i64) (.pair (.int .i64) .unit)))), (.fn 69)]).T) : Option (kdP [(.int .i64)]).T :=
  (Option.bind (loop (D := (Prod (Kd.T (.pair (.int .i64) .unit)) (Kd.T .unit))) (O := (Sum (Kd.T (.pair (.pair (.int .i64) .unit) .unit)) (OutT (List.cons ((Ex3.exit 0), (Sh.mk (List.nil) (List.nil) (List.nil))) (List.nil))))) (fun x0 => (cond (Decidable.decide (LT.lt x0.1.1 (Nat.cast (List.length x.1) : Int))) (cond (inB x0.1.1 (List.length x.1)) (Option.bind (GetElem?.getElem? x.1 (Int.toNat x0.1.1)) (fun x1 => (Option.bind (r69 (x1, Unit.unit)) (fun x2 => (cond x2.1 (Option.some (Sum.inr (Sum.inl ((x0.1.1, Unit.unit), Unit.unit)))) (Option.some (Sum.inl (((IntKind.wrap IntKind.i64 (HAdd.hAdd x0.1.1 (1 : Int))), Unit.unit), Unit.unit)))))))) (Option.none)) (Option.some (Sum.inr (Sum.inr (Sum.inl (Unit.unit, Unit.unit))))))) (((0 : Int), Unit.unit), Unit.unit)) (sumE (fun x0 => (Option.some (x0.1.1, Unit.unit))) (sumE (fun x0 => (Option.some ((Neg.neg (1 : Int)), Unit.unit))) (emptyE))))
theorem r88_69_ok : PureOk Go.Proofs.Tryz.prog nG gG 88 [(.slice (.slice (.pair (.int .i64) (.pair (.int .i64) .unit)))), (.fn 69)] [(.int .i64)] r88_69 :=
  pureOk_of_run (F := specOf [(69, pureSpec [(.slice (.pair (.int .i64) (.pair (.int .i64) .unit)))] [.bool] r69)]) (hs := hintOf [(0, ⟨⟨[(8, .lf (.int .i64))], [], []⟩, [(.ret, ⟨[(4, .lf (.int .i64))], [], []⟩), ((.exit 0), ⟨[], [], []⟩)]⟩)]) stays_G (specOf_cons (PureOk.spec r69_ok) specOf_nil) mixed Go.Proofs.Tryz.func88 rfl (by kernel_rfl) (fun _ => by kernel_rfl)

/-- slices.ContainsFunc[[][]terrier/api.Point,[]terrier/api.Point] -/
noncomputable def r68_69 (x : (kdP [(.slice (.slice (.pair (.int .i64) (.pair (.int .i64) .unit)))), (.fn 69)]).T) : Option (kdP [.bool]).T :=
  (Option.bind (r88_69 (x.1, (Unit.unit, Unit.unit))) (fun x0 => (Option.some ((Decidable.decide (LE.le (0 : Int) x0.1)), Unit.unit))))
theorem r68_69_ok : PureOk Go.Proofs.Tryz.prog nG gG 68 [(.slice (.slice (.pair (.int .i64) (.pair (.int .i64) .unit)))), (.fn 69)] [.bool] r68_69 :=
  pureOk_of_run (F := specOf [(88, pickS [([69], pureSpec [(.slice (.slice (.pair (.int .i64) (.pair (.int .i64) .unit)))), (.fn 69)] [(.int .i64)] r88_69)])]) (hs := hintOf []) stays_G (specOf_cons (pickS_one (PureOk.spec r88_69_ok)) specOf_nil) mixed Go.Proofs.Tryz.func68 rfl (by kernel_rfl) (fun _ => by kernel_rfl)

/-- terrier/feat.points$1 -/
noncomputable def r89 (x : (kdP [(.pair (.int .i64) (.pair (.int .i64) .unit))]).T) : Option (kdP [.bool]).T :=
  (Option.bind (r56 ((x.1.1, (x.1.2.1, Unit.unit)), Unit.unit)) (fun x0 => (Option.some ((Bool.not x0.1), Unit.unit))))
theorem r89_ok : PureOk Go.Proofs.Tryz.prog nG gG 89 [(.pair (.int .i64) (.pair (.int .i64) .unit))] [.bool] r89 :=
  pureOk_of_run (F := specOf [(56, pureSpec [(.pair (.int .i64) (.pair (.int .i64) .unit))] [.bool] r56)]) (hs := hintOf []) stays_G (specOf_cons (PureOk.spec r56_ok) specOf_nil) mixed Go.Proofs.Tryz.func89 rfl (by kernel_rfl) (fun _ => by kernel_rfl)

/-- slices.IndexFunc[[]terrier/api.Point,terrier/api.Point] -/
noncomputable def r78_89 (x : (kdP [(.slice (.pair (.int .i64) (.pair (.int .i64) .unit))), (.fn 89)]).T) : Option (kdP [(.int .i64)]).T :=
  (Option.bind (loop (D := (Prod (Kd.T (.pair (.int .i64) .unit)) (Kd.T .unit))) (O := (Sum (Kd.T (.pair (.pair (.int .i64) .unit) .unit)) (OutT (List.cons ((Ex3.exit 0), (Sh.mk (List.nil) (List.nil) (List.nil))) (List.nil))))) (fun x0 => (cond (Decidable.decide (LT.lt x0.1.1 (Nat.cast (List.length x.1) : Int))) (cond (inB x0.1.1 (List.length x.1)) (Option.bind (GetElem?.getElem? x.1 (Int.toNat x0.1.1)) (fun x1 => (Option.bind (r89 ((x1.1, (x1.2.1, Unit.unit)), Unit.unit)) (fun x2 => (cond x2.1 (Option.some (Sum.inr (Sum.inl ((x0.1.1, Unit.unit), Unit.unit)))) (Option.some (Sum.inl (((IntKind.wrap IntKind.i64 (HAdd.hAdd x0.1.1 (1 : Int))), Unit.unit), Unit.unit)))))))) (Option.none)) (Option.some (Sum.inr (Sum.inr (Sum.inl (Unit.unit, Unit.unit))))))) (((0 : Int), Unit.unit), Unit.unit)) (sumE (fun x0 => (Option.some (x0.1.1, Unit.unit))) (sumE (fun x0 => (Option.some ((Neg.neg (1 : Int)), Unit.unit))) (emptyE))))
theorem r78_89_ok : PureOk Go.Proofs.Tryz.prog nG gG 78 [(.slice (.pair (.int .i64) (.pair (.int .i64) .unit))), (.fn 89)] [(.int .i64)] r78_89 :=
  pureOk_of_run (F := specOf [(89, pureSpec [(.pair (.int .i64) (.pair (.int .i64) .unit))] [.bool] r89)]) (hs := hintOf [(0, ⟨⟨[(8, .lf (.int .i64))], [], []⟩, [(.ret, ⟨[(4, .lf (.int .i64))], [], []⟩), ((.exit 0), ⟨[], [], []⟩)]⟩)]) stays_G (specOf_cons (PureOk.spec r89_ok) specOf_nil) mixed Go.Proofs.Tryz.func78 rfl (by kernel_rfl) (fun _ => by kernel_rfl)

/-- slices.ContainsFunc[[]terrier/api.Point,terrier/api.Point] -/
noncomputable def r54_89 (x : (kdP [(.slice (.pair (.int .i64) (.pair (.int .i64) .unit))), (.fn 89)]).T) : Option (kdP [.bool]).T :=
  (Option.bind (r78_89 (x.1, (Unit.unit, Unit.unit))) (fun x0 => (Option.some ((Decidable.decide (LE.le (0 : Int) x0.1)), Unit.unit))))
theorem r54_89_ok : PureOk Go.Proofs.Tryz.prog nG gG 54 [(.slice (.pair (.int .i64) (.pair (.int .i64) .unit))), (.fn 89)] [.bool] r54_89 :=
  pureOk_of_run (F := specOf [(78, pickS [([89], pureSpec [(.slice (.pair (.int .i64) (.pair (.int .i64) .unit))), (.fn 89)] [(.int .i64)] r78_89)])]) (hs := hintOf []) stays_G (specOf_cons (pickS_one (PureOk.spec r78_89_ok)) specOf_nil) mixed Go.Proofs.Tryz.func54 rfl (by kernel_rfl) (fun _ => by kernel_rfl)

/-- terrier/feat.points -/
noncomputable def r70 (x : (kdP [(.int .i64), (.slice (.pair (.int .i64) (.pair (.int .i64) .unit)))]).T) : Option (kdP [(.int .i64)]).T :=
  (Option.bind (r54_89 (x.2.1, (Unit.unit, Unit.unit))) (fun x0 => (cond x0.1 (Option.some ((1 : Int), Unit.unit)) (cond (Decidable.decide (Eq x.1 (1 : Int))) (cond (Bool.not (Decidable.decide (Eq (Nat.cast (List.length x.2.1) : Int) (1 : Int)))) (Option.some ((3 : Int), Unit.unit)) (Option.some ((0 : Int), Unit.unit))) (cond (Decidable.decide (Eq x.1 (2 : Int))) (cond (Decidable.decide (LT.lt (Nat.cast (List.length x.2.1) : Int) (2 : Int))) (Option.some ((3 : Int), Unit.unit)) (Option.bind (loop (D := (Prod (Kd.T (.pair (.int .i64) .unit)) (Kd.T .unit))) (O := (Sum (Kd.T (.pair (.pair (.int .i64) .unit) .unit)) (OutT (List.cons ((Ex3.exit 1), (Sh.mk (List.nil) (List.nil) (List.nil))) (List.nil))))) (fun x1 => (cond (Decidable.decide (LT.lt x1.1.1 (Nat.cast (List.length x.2.1) : Int))) (cond (inB x1.1.1 (List.length x.2.1)) (Option.bind (GetElem?.getElem? x.2.1 (Int.toNat x1.1.1)) (fun x2 => (cond (inB (IntKind.wrap IntKind.i64 (HSub.hSub x1.1.1 (1 : Int))) (List.length x.2.1)) (Option.bind (GetElem?.getElem? x.2.1 (Int.toNat (IntKind.wrap IntKind.i64 (HSub.hSub x1.1.1 (1 : Int))))) (fun x3 => (cond (Bool.and (Decidable.decide (Eq x2.1 x3.1)) (Decidable.decide (Eq x2.2.1 x3.2.1))) (Option.some (Sum.inr (Sum.inl (((3 : Int), Unit.unit), Unit.unit)))) (Option.some (Sum.inl (((IntKind.wrap IntKind.i64 (HAdd.hAdd x1.1.1 (1 : Int))), Unit.unit), Unit.unit)))))) (Option.none)))) (Option.none)) (Option.some (Sum.inr (Sum.inr (Sum.inl (Unit.unit, Unit.unit))))))) (((1 : Int), Unit.unit), Unit.unit)) (sumE (fun x1 => (Option.some (x1.1.1, Unit.unit))) (sumE (fun x1 => (Option.some ((0 : Int), Unit.unit))) (emptyE))))) (Option.some ((0 : Int), Unit.unit)))))))
theorem r70_ok : PureOk Go.Proofs.Tryz.prog nG gG 70 [(.int .i64), (.slice (.pair (.int .i64) (.pair (.int .i64) .unit)))] [(.int .i64)] r70 :=
  pureOk_of_run (F := specOf [(54, pickS [([89], pureSpec [(.slice (.pair (.int .i64) (.pair (.int .i64) .unit))), (.fn 89)] [.bool] r54_89)])]) (hs := hintOf [(1, ⟨⟨[(5, .lf (.int .i64))], [], []⟩, [(.ret, ⟨[(4, .lf (.int .i64))], [], []⟩), ((.exit 1), ⟨[], [], []⟩)]⟩)]) stays_G (specOf_cons (pickS_one (PureOk.spec r54_89_ok)) specOf_nil) mixed Go.Proofs.Tryz.func70 rfl (by kernel_rfl) (fun _ => by kernel_rfl)

/-- terrier/feat.Parts -/
noncomputable def r48 (x : (kdP [(.int .i64), (.slice (.slice (.pair (.int .i64) (.pair (.int .i64) .unit))))]).T) : Option (kdP [(.int .i64)]).T :=
  (cond (Decidable.decide (LT.lt x.1 (1 : Int))) (Option.some ((8 : Int), Unit.unit)) (cond (Decidable.decide (LT.lt (3 : Int) x.1)) (Option.some ((8 : Int), Unit.unit)) (cond (Decidable.decide (LT.lt (20 : Int) (Nat.cast (List.length x.2.1) : Int))) (Option.some ((2 : Int), Unit.unit)) (Option.bind (r68_69 (x.2.1, (Unit.unit, Unit.unit))) (fun x0 => (cond x0.1 (Option.some ((2 : Int), Unit.unit)) (cond (Decidable.decide (Eq (Nat.cast (List.length x.2.1) : Int) (0 : Int))) (Option.some ((4 : Int), Unit.unit)) (Option.bind (loop (D := (Prod (Kd.T (.pair (.int .i64) .unit)) (Kd.T .unit))) (O := (Sum (Kd.T (.pair (.pair (.int .i64) .unit) .unit)) (OutT (List.cons ((Ex3.exit 0), (Sh.mk (List.nil) (List.nil) (List.nil))) (List.nil))))) (fun x1 => (cond (Decidable.decide (LT.lt x1.1.1 (Nat.cast (List.length x.2.1) : Int))) (cond (inB x1.1.1 (List.length x.2.1)) (Option.bind (GetElem?.getElem? x.2.1 (Int.toNat x1.1.1)) (fun x2 => (Option.bind (r70 (x.1, (x2, Unit.unit))) (fun x3 => (cond (Bool.not (Decidable.decide (Eq x3.1 (0 : Int)))) (Option.some (Sum.inr (Sum.inl ((x3.1, Unit.unit), Unit.unit)))) (Option.some (Sum.inl (((IntKind.wrap IntKind.i64 (HAdd.hAdd x1.1.1 (1 : Int))), Unit.unit), Unit.unit)))))))) (Option.none)) (Option.some (Sum.inr (Sum.inr (Sum.inl (Unit.unit, Unit.unit))))))) (((0 : Int), Unit.unit), Unit.unit)) (sumE (fun x1 => (Option.some (x1.1.1, Unit.unit))) (sumE (fun x1 => (cond (Decidable.decide (Eq x.1 (3 : Int))) (Option.bind (r36 (x.2.1, Unit.unit)) (fun x2 => (Option.some (x2.1, Unit.unit)))) (Option.some ((0 : Int), Unit.unit)))) (emptyE)))))))))))
theorem r48_ok : PureOk Go.Proofs.Tryz.prog nG gG 48 [(.int .i64), (.slice (.slice (.pair (.int .i64) (.pair (.int .i64) .unit))))] [(.int .i64)] r48 :=
  pureOk_of_run (F := specOf [(68, pickS [([69], pureSpec [(.slice (.slice (.pair (.int .i64) (.pair (.int .i64) .unit)))), (.fn 69)] [.bool] r68_69)]), (70, pureSpec [(.int .i64), (.slice (.pair (.int .i64) (.pair (.int .i64) .unit)))] [(.int .i64)] r70), (36, pureSpec [(.slice (.slice (.pair (.int .i64) (.pair (.int .i64) .unit))))] [(.int .i64)] r36)]) (hs := hintOf [(0, ⟨⟨[(26, .lf (.int .i64))], [], []⟩, [(.ret, ⟨[(4, .lf (.int .i64))], [], []⟩), ((.exit 0), ⟨[], [], []⟩)]⟩)]) stays_G (specOf_cons (pickS_one (PureOk.spec r68_69_ok)) (specOf_cons (PureOk.spec r70_ok) (specOf_cons (PureOk.spec r36_ok) specOf_nil))) mixed Go.Proofs.Tryz.func48 rfl (by kernel_rfl) (fun _ => by kernel_rfl)

/-- terrier/value.plain -/
noncomputable def r90 (x : (kdP [.str]).T) : Option (kdP [.bool]).T :=
  (Option.bind (loop (D := (Prod (Kd.T (.pair (.int .i64) .unit)) (Kd.T .unit))) (O := (Sum (Kd.T (.pair (.pair .bool .unit) .unit)) (OutT (List.cons ((Ex3.exit 0), (Sh.mk (List.nil) (List.nil) (List.nil))) (List.nil))))) (fun x0 => (cond (Decidable.decide (LT.lt x0.1.1 (Nat.cast (ByteArray.size x.1) : Int))) (Option.bind (strAt x.1 x0.1.1) (fun x1 => (cond (Decidable.decide (LT.lt (Nat.cast (UInt8.toNat x1) : Int) (32 : Int))) (Option.some (Sum.inr (Sum.inl ((Bool.false, Unit.unit), Unit.unit)))) (Option.bind (strAt x.1 x0.1.1) (fun x2 => (cond (Decidable.decide (LT.lt (126 : Int) (Nat.cast (UInt8.toNat x2) : Int))) (Option.some (Sum.inr (Sum.inl ((Bool.false, Unit.unit), Unit.unit)))) (Option.bind (strAt x.1 x0.1.1) (fun x3 => (cond (Decidable.decide (Eq (Nat.cast (UInt8.toNat x3) : Int) (34 : Int))) (Option.some (Sum.inr (Sum.inl ((Bool.false, Unit.unit), Unit.unit)))) (Option.some (Sum.inl (((IntKind.wrap IntKind.i64 (HAdd.hAdd x0.1.1 (1 : Int))), Unit.unit), Unit.unit)))))))))))) (Option.some (Sum.inr (Sum.inr (Sum.inl (Unit.unit, Unit.unit))))))) (((0 : Int), Unit.unit), Unit.unit)) (sumE (fun x0 => (Option.some (x0.1.1, Unit.unit))) (sumE (fun x0 => (Option.some (Bool.true, Unit.unit))) (emptyE))))
theorem r90_ok : PureOk Go.Proofs.Tryz.prog nG gG 90 [.str] [.bool] r90 :=
  pureOk_of_run (F := specOf []) (hs := hintOf [(0, ⟨⟨[(6, .lf (.int .i64))], [], []⟩, [(.ret, ⟨[(2, .lf .bool)], [], []⟩), ((.exit 0), ⟨[], [], []⟩)]⟩)]) stays_G specOf_nil mixed Go.Proofs.Tryz.func90 rfl (by kernel_rfl) (fun _ => by kernel_rfl)

/-- terrier/value.Check -/
noncomputable def r72 (x : (kdP [(.pair (.int .i64) (.pair (.int .i64) (.pair .str (.pair .bool .unit))))]).T) : Option (kdP [(.int .i64)]).T :=
  (cond (Decidable.decide (LT.lt x.1.1 (0 : Int))) (Option.some ((8 : Int), Unit.unit)) (cond (Decidable.decide (LT.lt (3 : Int) x.1.1)) (Option.some ((8 : Int), Unit.unit)) (cond (Bool.not (Decidable.decide (Eq x.1.1 (1 : Int)))) (cond (Bool.not (Decidable.decide (Eq x.1.2.1 (0 : Int)))) (Option.some ((3 : Int), Unit.unit)) (cond (Bool.not (Decidable.decide (Eq x.1.1 (2 : Int)))) (cond (Bool.not (Decidable.decide (Eq x.1.2.2.1 (ByteArray.mk (List.toArray (List.nil)))))) (Option.some ((3 : Int), Unit.unit)) (cond (Bool.not (Decidable.decide (Eq x.1.1 (3 : Int)))) (cond x.1.2.2.2.1 (Option.some ((3 : Int), Unit.unit)) (cond (Decidable.decide (LT.lt x.1.2.1 (Neg.neg (1000000000000 : Int)))) (Option.some ((2 : Int), Unit.unit)) (cond (Decidable.decide (LT.lt (1000000000000 : Int) x.1.2.1)) (Option.some ((2 : Int), Unit.unit)) (cond (Decidable.decide (LT.lt (40 : Int) (Nat.cast (ByteArray.size x.1.2.2.1) : Int))) (Option.some ((2 : Int), Unit.unit)) (Option.bind (r90 (x.1.2.2.1, Unit.unit)) (fun x0 => (cond (Bool.not x0.1) (Option.some ((3 : Int), Unit.unit)) (Option.some ((0 : Int), Unit.unit))))))))) (cond (Decidable.decide (LT.lt x.1.2.1 (Neg.neg (1000000000000 : Int)))) (Option.some ((2 : Int), Unit.unit)) (cond (Decidable.decide (LT.lt (1000000000000 : Int) x.1.2.1)) (Option.some ((2 : Int), Unit.unit)) (cond (Decidable.decide (LT.lt (40 : Int) (Nat.cast (ByteArray.size x.1.2.2.1) : Int))) (Option.some ((2 : Int), Unit.unit)) (Option.bind (r90 (x.1.2.2.1, Unit.unit)) (fun x0 => (cond (Bool.not x0.1) (Option.some ((3 : Int), Unit.unit)) (Option.some ((0 : Int), Unit.unit)))))))))) (cond (Bool.not (Decidable.decide (Eq x.1.1 (3 : Int)))) (cond x.1.2.2.2.1 (Option.some ((3 : Int), Unit.unit)) (cond (Decidable.decide (LT.lt x.1.2.1 (Neg.neg (1000000000000 : Int)))) (Option.some ((2 : Int), Unit.unit)) (cond (Decidable.decide (LT.lt (1000000000000 : Int) x.1.2.1)) (Option.some ((2 : Int), Unit.unit)) (cond (Decidable.decide (LT.lt (40 : Int) (Nat.cast (ByteArray.size x.1.2.2.1) : Int))) (Option.some ((2 : Int), Unit.unit)) (Option.bind (r90 (x.1.2.2.1, Unit.unit)) (fun x0 => (cond (Bool.not x0.1) (Option.some ((3 : Int), Unit.unit)) (Option.some ((0 : Int), Unit.unit))))))))) (cond (Decidable.decide (LT.lt x.1.2.1 (Neg.neg (1000000000000 : Int)))) (Option.some ((2 : Int), Unit.unit)) (cond (Decidable.decide (LT.lt (1000000000000 : Int) x.1.2.1)) (Option.some ((2 : Int), Unit.unit)) (cond (Decidable.decide (LT.lt (40 : Int) (Nat.cast (ByteArray.size x.1.2.2.1) : Int))) (Option.some ((2 : Int), Unit.unit)) (Option.bind (r90 (x.1.2.2.1, Unit.unit)) (fun x0 => (cond (Bool.not x0.1) (Option.some ((3 : Int), Unit.unit)) (Option.some ((0 : Int), Unit.unit))))))))))) (cond (Bool.not (Decidable.decide (Eq x.1.1 (2 : Int)))) (cond (Bool.not (Decidable.decide (Eq x.1.2.2.1 (ByteArray.mk (List.toArray (List.nil)))))) (Option.some ((3 : Int), Unit.unit)) (cond (Bool.not (Decidable.decide (Eq x.1.1 (3 : Int)))) (cond x.1.2.2.2.1 (Option.some ((3 : Int), Unit.unit)) (cond (Decidable.decide (LT.lt x.1.2.1 (Neg.neg (1000000000000 : Int)))) (Option.some ((2 : Int), Unit.unit)) (cond (Decidable.decide (LT.lt (1000000000000 : Int) x.1.2.1)) (Option.some ((2 : Int), Unit.unit)) (cond (Decidable.decide (LT.lt (40 : Int) (Nat.cast (ByteArray.size x.1.2.2.1) : Int))) (Option.some ((2 : Int), Unit.unit)) (Option.bind (r90 (x.1.2.2.1, Unit.unit)) (fun x0 => (cond (Bool.not x0.1) (Option.some ((3 : Int), Unit.unit)) (Option.some ((0 : Int), Unit.unit))))))))) (cond (Decidable.decide (LT.lt x.1.2.1 (Neg.neg (1000000000000 : Int)))) (Option.some ((2 : Int), Unit.unit)) (cond (Decidable.decide (LT.lt (1000000000000 : Int) x.1.2.1)) (Option.some ((2 : Int), Unit.unit)) (cond (Decidable.decide (LT.lt (40 : Int) (Nat.cast (ByteArray.size x.1.2.2.1) : Int))) (Option.some ((2 : Int), Unit.unit)) (Option.bind (r90 (x.1.2.2.1, Unit.unit)) (fun x0 => (cond (Bool.not x0.1) (Option.some ((3 : Int), Unit.unit)) (Option.some ((0 : Int), Unit.unit)))))))))) (cond (Bool.not (Decidable.decide (Eq x.1.1 (3 : Int)))) (cond x.1.2.2.2.1 (Option.some ((3 : Int), Unit.unit)) (cond (Decidable.decide (LT.lt x.1.2.1 (Neg.neg (1000000000000 : Int)))) (Option.some ((2 : Int), Unit.unit)) (cond (Decidable.decide (LT.lt (1000000000000 : Int) x.1.2.1)) (Option.some ((2 : Int), Unit.unit)) (cond (Decidable.decide (LT.lt (40 : Int) (Nat.cast (ByteArray.size x.1.2.2.1) : Int))) (Option.some ((2 : Int), Unit.unit)) (Option.bind (r90 (x.1.2.2.1, Unit.unit)) (fun x0 => (cond (Bool.not x0.1) (Option.some ((3 : Int), Unit.unit)) (Option.some ((0 : Int), Unit.unit))))))))) (cond (Decidable.decide (LT.lt x.1.2.1 (Neg.neg (1000000000000 : Int)))) (Option.some ((2 : Int), Unit.unit)) (cond (Decidable.decide (LT.lt (1000000000000 : Int) x.1.2.1)) (Option.some ((2 : Int), Unit.unit)) (cond (Decidable.decide (LT.lt (40 : Int) (Nat.cast (ByteArray.size x.1.2.2.1) : Int))) (Option.some ((2 : Int), Unit.unit)) (Option.bind (r90 (x.1.2.2.1, Unit.unit)) (fun x0 => (cond (Bool.not x0.1) (Option.some ((3 : Int), Unit.unit)) (Option.some ((0 : Int), Unit.unit)))))))))))))
theorem r72_ok : PureOk Go.Proofs.Tryz.prog nG gG 72 [(.pair (.int .i64) (.pair (.int .i64) (.pair .str (.pair .bool .unit))))] [(.int .i64)] r72 :=
  pureOk_of_run (F := specOf [(90, pureSpec [.str] [.bool] r90)]) (hs := hintOf []) stays_G (specOf_cons (PureOk.spec r90_ok) specOf_nil) mixed Go.Proofs.Tryz.func72 rfl (by kernel_rfl) (fun _ => by kernel_rfl)

/-- terrier/feat.Attrs -/
noncomputable def r49 (x : (kdP [(.slice (.pair .str (.pair (.pair (.int .i64) (.pair (.int .i64) (.pair .str (.pair .bool .unit)))) .unit))), .bool]).T) : Option (kdP [(.int .i64)]).T :=
  (cond (Decidable.decide (LT.lt (8 : Int) (Nat.cast (List.length x.1) : Int))) (Option.some ((2 : Int), Unit.unit)) (Option.bind (loop (D := (Prod (Kd.T (.pair (.int .i64) .unit)) (Kd.T .unit))) (O := (Sum (Kd.T (.pair (.pair (.int .i64) .unit) .unit)) (OutT (List.cons ((Ex3.exit 0), (Sh.mk (List.nil) (List.nil) (List.nil))) (List.nil))))) (fun x0 => (cond (Decidable.decide (LT.lt x0.1.1 (Nat.cast (List.length x.1) : Int))) (cond (inB x0.1.1 (List.length x.1)) (Option.bind (GetElem?.getElem? x.1 (Int.toNat x0.1.1)) (fun x1 => (Option.bind (r71 (x1.1, Unit.unit)) (fun x2 => (cond (Bool.not x2.1) (Option.some (Sum.inr (Sum.inl (((16 : Int), Unit.unit), Unit.unit)))) (cond (Decidable.decide (LT.lt (0 : Int) x0.1.1)) (cond (inB (IntKind.wrap IntKind.i64 (HSub.hSub x0.1.1 (1 : Int))) (List.length x.1)) (Option.bind (GetElem?.getElem? x.1 (Int.toNat (IntKind.wrap IntKind.i64 (HSub.hSub x0.1.1 (1 : Int))))) (fun x3 => (cond (Bool.not (strLt x3.1 x1.1)) (Option.some (Sum.inr (Sum.inl (((9 : Int), Unit.unit), Unit.unit)))) (Option.bind (r72 ((x1.2.1.1, (x1.2.1.2.1, (x1.2.1.2.2.1, (x1.2.1.2.2.2.1, Unit.unit)))), Unit.unit)) (fun x4 => (cond (Bool.not (Decidable.decide (Eq x4.1 (0 : Int)))) (Option.some (Sum.inr (Sum.inl ((x4.1, Unit.unit), Unit.unit)))) (cond (Decidable.decide (Eq x1.2.1.1 (0 : Int))) (cond (Bool.not x.2.1) (Option.some (Sum.inr (Sum.inl (((3 : Int), Unit.unit), Unit.unit)))) (Option.some (Sum.inl (((IntKind.wrap IntKind.i64 (HAdd.hAdd x0.1.1 (1 : Int))), Unit.unit), Unit.unit)))) (Option.some (Sum.inl (((IntKind.wrap IntKind.i64 (HAdd.hAdd x0.1.1 (1 : Int))), Unit.unit), Unit.unit)))))))))) (Option.none)) (Option.bind (r72 ((x1.2.1.1, (x1.2.1.2.1, (x1.2.1.2.2.1, (x1.2.1.2.2.2.1, Unit.unit)))), Unit.unit)) (fun x3 => (cond (Bool.not (Decidable.decide (Eq x3.1 (0 : Int)))) (Option.some (Sum.inr (Sum.inl ((x3.1, Unit.unit), Unit.unit)))) (cond (Decidable.decide (Eq x1.2.1.1 (0 : Int))) (cond (Bool.not x.2.1) (Option.some (Sum.inr (Sum.inl (((3 : Int), Unit.unit), Unit.unit)))) (Option.some (Sum.inl (((IntKind.wrap IntKind.i64 (HAdd.hAdd x0.1.1 (1 : Int))), Unit.unit), Unit.unit)))) (Option.some (Sum.inl (((IntKind.wrap IntKind.i64 (HAdd.hAdd x0.1.1 (1 : Int))), Unit.unit), Unit.unit))))))))))))) (Option.none)) (Option.some (Sum.inr (Sum.inr (Sum.inl (Unit.unit, Unit.unit))))))) (((0 : Int), Unit.unit), Unit.unit)) (sumE (fun x0 => (Option.some (x0.1.1, Unit.unit))) (sumE (fun x0 => (Option.some ((0 : Int), Unit.unit))) (emptyE)))))
theorem r49_ok : PureOk Go.Proofs.Tryz.prog nG gG 49 [(.slice (.pair .str (.pair (.pair (.int .i64) (.pair (.int .i64) (.pair .str (.pair .bool .unit)))) .unit))), .bool] [(.int .i64)] r49 :=
  pureOk_of_run (F := specOf [(71, pureSpec [.str] [.bool] r71), (72, pureSpec [(.pair (.int .i64) (.pair (.int .i64) (.pair .str (.pair .bool .unit))))] [(.int .i64)] r72)]) (hs := hintOf [(0, ⟨⟨[(13, .lf (.int .i64))], [], []⟩, [(.ret, ⟨[(4, .lf (.int .i64))], [], []⟩), ((.exit 0), ⟨[], [], []⟩)]⟩)]) stays_G (specOf_cons (PureOk.spec r71_ok) (specOf_cons (PureOk.spec r72_ok) specOf_nil)) mixed Go.Proofs.Tryz.func49 rfl (by kernel_rfl) (fun _ => by kernel_rfl)

/-- terrier/feat.Check -/
noncomputable def r40 (x : (kdP [(.pair (.int .i64) (.pair (.int .i64) (.pair (.slice (.slice (.pair (.int .i64) (.pair (.int .i64) .unit)))) (.pair (.slice (.pair .str (.pair (.pair (.int .i64) (.pair (.int .i64) (.pair .str (.pair .bool .unit)))) .unit))) (.pair (.int .i64) (.pair (.int .i64) .unit))))))]).T) : Option (kdP [(.int .i64)]).T :=
  (cond (Decidable.decide (LT.lt x.1.1 (1 : Int))) (Option.some ((1 : Int), Unit.unit)) (cond (Decidable.decide (LT.lt (1073741824 : Int) x.1.1)) (Option.some ((1 : Int), Unit.unit)) (Option.bind (r48 (x.1.2.1, (x.1.2.2.1, Unit.unit))) (fun x0 => (cond (Bool.not (Decidable.decide (Eq x0.1 (0 : Int)))) (Option.some (x0.1, Unit.unit)) (Option.bind (r49 (x.1.2.2.2.1, (Bool.false, Unit.unit))) (fun x1 => (cond (Bool.not (Decidable.decide (Eq x1.1 (0 : Int)))) (Option.some (x1.1, Unit.unit)) (cond (Decidable.decide (LT.lt x.1.2.2.2.2.1 (0 : Int))) (Option.some ((1 : Int), Unit.unit)) (cond (Decidable.decide (LT.lt (1073741824 : Int) x.1.2.2.2.2.2.1)) (Option.some ((1 : Int), Unit.unit)) (cond (Decidable.decide (LE.le x.1.2.2.2.2.2.1 x.1.2.2.2.2.1)) (Option.some ((1 : Int), Unit.unit)) (Option.some ((0 : Int), Unit.unit)))))))))))))
theorem r40_ok : PureOk Go.Proofs.Tryz.prog nG gG 40 [(.pair (.int .i64) (.pair (.int .i64) (.pair (.slice (.slice (.pair (.int .i64) (.pair (.int .i64) .unit)))) (.pair (.slice (.pair .str (.pair (.pair (.int .i64) (.pair (.int .i64) (.pair .str (.pair .bool .unit)))) .unit))) (.pair (.int .i64) (.pair (.int .i64) .unit))))))] [(.int .i64)] r40 :=
  pureOk_of_run (F := specOf [(48, pureSpec [(.int .i64), (.slice (.slice (.pair (.int .i64) (.pair (.int .i64) .unit))))] [(.int .i64)] r48), (49, pureSpec [(.slice (.pair .str (.pair (.pair (.int .i64) (.pair (.int .i64) (.pair .str (.pair .bool .unit)))) .unit))), .bool] [(.int .i64)] r49)]) (hs := hintOf []) stays_G (specOf_cons (PureOk.spec r48_ok) (specOf_cons (PureOk.spec r49_ok) specOf_nil)) mixed Go.Proofs.Tryz.func40 rfl (by kernel_rfl) (fun _ => by kernel_rfl)

/-- terrier/feat.All -/
noncomputable def r31 (x : (kdP [(.slice (.pair (.int .i64) (.pair (.int .i64) (.pair (.slice (.slice (.pair (.int .i64) (.pair (.int .i64) .unit)))) (.pair (.slice (.pair .str (.pair (.pair (.int .i64) (.pair (.int .i64) (.pair .str (.pair .bool .unit)))) .unit))) (.pair (.int .i64) (.pair (.int .i64) .unit)))))))]).T) : Option (kdP [(.int .i64)]).T :=
  (cond (Decidable.decide (LT.lt (200 : Int) (Nat.cast (List.length x.1) : Int))) (Option.some ((2 : Int), Unit.unit)) (Option.bind (loop (D := (Prod (Kd.T (.pair (.int .i64) .unit)) (Kd.T .unit))) (O := (Sum (Kd.T (.pair (.pair (.int .i64) .unit) .unit)) (OutT (List.cons ((Ex3.exit 0), (Sh.mk (List.nil) (List.nil) (List.nil))) (List.nil))))) (fun x0 => (cond (Decidable.decide (LT.lt x0.1.1 (Nat.cast (List.length x.1) : Int))) (cond (inB x0.1.1 (List.length x.1)) (Option.bind (GetElem?.getElem? x.1 (Int.toNat x0.1.1)) (fun x1 => (Option.bind (r40 ((x1.1, (x1.2.1, (x1.2.2.1, (x1.2.2.2.1, (x1.2.2.2.2.1, (x1.2.2.2.2.2.1, Unit.unit)))))), Unit.unit)) (fun x2 => (cond (Bool.not (Decidable.decide (Eq x2.1 (0 : Int)))) (Option.some (Sum.inr (Sum.inl ((x2.1, Unit.unit), Unit.unit)))) (cond (Decidable.decide (LT.lt (0 : Int) x0.1.1)) (cond (inB (IntKind.wrap IntKind.i64 (HSub.hSub x0.1.1 (1 : Int))) (List.length x.1)) (Option.bind (GetElem?.getElem? x.1 (Int.toNat (IntKind.wrap IntKind.i64 (HSub.hSub x0.1.1 (1 : Int))))) (fun x3 => (cond (Decidable.decide (LE.le x1.1 x3.1)) (Option.some (Sum.inr (Sum.inl (((9 : Int), Unit.unit), Unit.unit)))) (Option.some (Sum.inl (((IntKind.wrap IntKind.i64 (HAdd.hAdd x0.1.1 (1 : Int))), Unit.unit), Unit.unit)))))) (Option.none)) (Option.some (Sum.inl (((IntKind.wrap IntKind.i64 (HAdd.hAdd x0.1.1 (1 : Int))), Unit.unit), Unit.unit))))))))) (Option.none)) (Option.some (Sum.inr (Sum.inr (Sum.inl (Unit.unit, Unit.unit))))))) (((0 : Int), Unit.unit), Unit.unit)) (sumE (fun x0 => (Option.some (x0.1.1, Unit.unit))) (sumE (fun x0 => (Option.some ((0 : Int), Unit.unit))) (emptyE)))))
theorem r31_ok : PureOk Go.Proofs.Tryz.prog nG gG 31 [(.slice (.pair (.int .i64) (.pair (.int .i64) (.pair (.slice (.slice (.pair (.int .i64) (.pair (.int .i64) .unit)))) (.pair (.slice (.pair .str (.pair (.pair (.int .i64) (.pair (.int .i64) (.pair .str (.pair .bool .unit)))) .unit))) (.pair (.int .i64) (.pair (.int .i64) .unit)))))))] [(.int .i64)] r31 :=
  pureOk_of_run (F := specOf [(40, pureSpec [(.pair (.int .i64) (.pair (.int .i64) (.pair (.slice (.slice (.pair (.int .i64) (.pair (.int .i64) .unit)))) (.pair (.slice (.pair .str (.pair (.pair (.int .i64) (.pair (.int .i64) (.pair .str (.pair .bool .unit)))) .unit))) (.pair (.int .i64) (.pair (.int .i64) .unit))))))] [(.int .i64)] r40)]) (hs := hintOf [(0, ⟨⟨[(11, .lf (.int .i64))], [], []⟩, [(.ret, ⟨[(2, .lf (.int .i64))], [], []⟩), ((.exit 0), ⟨[], [], []⟩)]⟩)]) stays_G (specOf_cons (PureOk.spec r40_ok) specOf_nil) mixed Go.Proofs.Tryz.func31 rfl (by kernel_rfl) (fun _ => by kernel_rfl)

/-- (*terrier/bin.writer).num -/
noncomputable def r32 (x : (kdP [(.slice (.int .i64))]).T) (d : (kdL [.own (.int .u8)]).T) : Option ((kdP []).T × (kdL [.own (.int .u8)]).T) :=
  (Option.bind (loop (D := (Prod (Kd.T (.pair (.int .i64) (.pair (.slice (.int .u8)) .unit))) (Kd.T .unit))) (O := (Sum (Kd.T (.pair (.pair (.slice (.int .u8)) .unit) .unit)) (OutT (List.nil)))) (fun x0 => (cond (Decidable.decide (LT.lt x0.1.1 (Nat.cast (List.length x.1) : Int))) (cond (inB x0.1.1 (List.length x.1)) (Option.bind (GetElem?.getElem? x.1 (Int.toNat x0.1.1)) (fun x1 => (Option.bind (loop (D := (Prod (Kd.T (.pair (.int .u64) (.pair (.slice (.int .u8)) .unit))) (Kd.T .unit))) (O := (Sum (Kd.T (.pair (.pair (.int .u64) (.pair (.slice (.int .u8)) .unit)) .unit)) (OutT (List.nil)))) (fun x2 => (cond (Decidable.decide (LE.le (128 : Int) x2.1.1)) (cond (fits (HAdd.hAdd (List.length x2.1.2.1) (List.length (List.cons (IntKind.wrap IntKind.u8 (Nat.cast (BitVec.toNat (HOr.hOr (BitVec.ofInt 8 (IntKind.wrap IntKind.u8 x2.1.1)) (BitVec.ofInt 8 (128 : Int)))) : Int)) (List.nil)))) 1) (Option.some (Sum.inl (((Int.fdiv x2.1.1 (128 : Int)), ((HAppend.hAppend x2.1.2.1 (List.cons (IntKind.wrap IntKind.u8 (Nat.cast (BitVec.toNat (HOr.hOr (BitVec.ofInt 8 (IntKind.wrap IntKind.u8 x2.1.1)) (BitVec.ofInt 8 (128 : Int)))) : Int)) (List.nil))), Unit.unit)), Unit.unit))) (Option.none)) (Option.some (Sum.inr (Sum.inl ((x2.1.1, (x2.1.2.1, Unit.unit)), Unit.unit)))))) (((IntKind.wrap IntKind.u64 (Nat.cast (BitVec.toNat (HXor.hXor (BitVec.ofInt 64 (IntKind.wrap IntKind.u64 (HMul.hMul (IntKind.wrap IntKind.u64 x1) (2 : Int)))) (BitVec.ofInt 64 (IntKind.wrap IntKind.u64 (Int.fdiv x1 (9223372036854775808 : Int)))))) : Int)), (x0.1.2.1, Unit.unit)), Unit.unit)) (sumE (fun x2 => (cond (fits (HAdd.hAdd (List.length x2.1.2.1) (List.length (List.cons (IntKind.wrap IntKind.u8 x2.1.1) (List.nil)))) 1) (Option.some (Sum.inl (((IntKind.wrap IntKind.i64 (HAdd.hAdd x0.1.1 (1 : Int))), ((HAppend.hAppend x2.1.2.1 (List.cons (IntKind.wrap IntKind.u8 x2.1.1) (List.nil))), Unit.unit)), Unit.unit))) (Option.none))) (emptyE))))) (Option.none)) (Option.some (Sum.inr (Sum.inl ((x0.1.2.1, Unit.unit), Unit.unit)))))) (((0 : Int), (d.1, Unit.unit)), Unit.unit)) (sumE (fun x0 => (Option.some (Unit.unit, (x0.1.1, Unit.unit)))) (emptyE)))
theorem r32_ok : SpecOk Go.Proofs.Tryz.prog nG gG 32 (memSpec [.ptr 0 0, .dat (.slice (.int .i64))] [(0, [.own (.int .u8)])] [(0, [.own (.int .u8)])] [] r32) :=
  memSpec_ok (F := specOf []) (hs := hintOf [(2, ⟨⟨[(6, .lf (.int .u64))], [(0, [.own (.int .u8)])], []⟩, [((.exit 2), ⟨[(6, .lf (.int .u64))], [(0, [.own (.int .u8)])], []⟩)]⟩), (0, ⟨⟨[(9, .lf (.int .i64))], [(0, [.own (.int .u8)])], []⟩, [((.exit 0), ⟨[], [(0, [.own (.int .u8)])], []⟩)]⟩)]) stays_G specOf_nil mixed Go.Proofs.Tryz.func32 rfl (by kernel_rfl) (by kernel_rfl) (fun _ _ => by kernel_rfl)

/-- (*terrier/bin.writer).text -/
noncomputable def r41 (x : (kdP [.str]).T) (d : (kdL [.own (.int .u8)]).T) : Option ((kdP []).T × (kdL [.own (.int .u8)]).T) :=
  (Option.bind (r32 ((List.cons (Nat.cast (ByteArray.size x.1) : Int) (List.nil)), Unit.unit) (d.1, Unit.unit)) (fun x0 => (cond (fits (HAdd.hAdd (List.length x0.2.1) (List.length (bytesOf x.1))) 1) (Option.some (Unit.unit, ((HAppend.hAppend x0.2.1 (bytesOf x.1)), Unit.unit))) (Option.none))))
theorem r41_ok : SpecOk Go.Proofs.Tryz.prog nG gG 41 (memSpec [.ptr 0 0, .dat .str] [(0, [.own (.int .u8)])] [(0, [.own (.int .u8)])] [] r41) :=
  memSpec_ok (F := specOf [(32, memSpec [.ptr 0 0, .dat (.slice (.int .i64))] [(0, [.own (.int .u8)])] [(0, [.own (.int .u8)])] [] r32)]) (hs := hintOf []) stays_G (specOf_cons r32_ok specOf_nil) mixed Go.Proofs.Tryz.func41 rfl (by kernel_rfl) (by kernel_rfl) (fun _ _ => by kernel_rfl)

/-- (*terrier/bin.writer).feature -/
noncomputable def r33 (x : (kdP [(.pair (.int .i64) (.pair (.int .i64) (.pair (.slice (.slice (.pair (.int .i64) (.pair (.int .i64) .unit)))) (.pair (.slice (.pair .str (.pair (.pair (.int .i64) (.pair (.int .i64) (.pair .str (.pair .bool .unit)))) .unit))) (.pair (.int .i64) (.pair (.int .i64) .unit)))))), (.int .i64)]).T) (d : (kdL [.own (.int .u8)]).T) : Option ((kdP []).T × (kdL [.own (.int .u8)]).T) :=
  (Option.bind (r32 ((List.cons (IntKind.wrap IntKind.i64 (HSub.hSub x.1.1 x.2.1)) (List.cons x.1.2.1 (List.cons x.1.2.2.2.2.1 (List.cons (IntKind.wrap IntKind.i64 (HSub.hSub x.1.2.2.2.2.2.1 x.1.2.2.2.2.1)) (List.cons (Nat.cast (List.length x.1.2.2.1) : Int) (List.nil)))))), Unit.unit) (d.1, Unit.unit)) (fun x0 => (Option.bind (loop (D := (Prod (Kd.T (.pair (.int .i64) (.pair (.int .i64) (.pair (.int .i64) (.pair (.slice (.int .u8)) .unit))))) (Kd.T .unit))) (O := (Sum (Kd.T (.pair (.pair (.int .i64) (.pair (.int .i64) (.pair (.slice (.int .u8)) .unit))) .unit)) (OutT (List.nil)))) (fun x1 => (cond (Decidable.decide (LT.lt x1.1.1 (Nat.cast (List.length x.1.2.2.1) : Int))) (cond (inB x1.1.1 (List.length x.1.2.2.1)) (Option.bind (GetElem?.getElem? x.1.2.2.1 (Int.toNat x1.1.1)) (fun x2 => (Option.bind (r32 ((List.cons (Nat.cast (List.length x2) : Int) (List.nil)), Unit.unit) (x1.1.2.2.2.1, Unit.unit)) (fun x3 => (Option.bind (loop (D := (Prod (Kd.T (.pair (.int .i64) (.pair (.int .i64) (.pair (.int .i64) (.pair (.slice (.int .u8)) .unit))))) (Kd.T .unit))) (O := (Sum (Kd.T (.pair (.pair (.int .i64) (.pair (.int .i64) (.pair (.slice (.int .u8)) .unit))) .unit)) (OutT (List.nil)))) (fun x4 => (cond (Decidable.decide (LT.lt x4.1.1 (Nat.cast (List.length x2) : Int))) (cond (inB x4.1.1 (List.length x2)) (Option.bind (GetElem?.getElem? x2 (Int.toNat x4.1.1)) (fun x5 => (Option.bind (r32 ((List.cons (IntKind.wrap IntKind.i64 (HSub.hSub x5.1 x4.1.2.1)) (List.cons (IntKind.wrap IntKind.i64 (HSub.hSub x5.2.1 x4.1.2.2.1)) (List.nil))), Unit.unit) (x4.1.2.2.2.1, Unit.unit)) (fun x6 => (Option.some (Sum.inl (((IntKind.wrap IntKind.i64 (HAdd.hAdd x4.1.1 (1 : Int))), (x5.1, (x5.2.1, (x6.2.1, Unit.unit)))), Unit.unit))))))) (Option.none)) (Option.some (Sum.inr (Sum.inl ((x4.1.2.1, (x4.1.2.2.1, (x4.1.2.2.2.1, Unit.unit))), Unit.unit)))))) (((0 : Int), (x1.1.2.1, (x1.1.2.2.1, (x3.2.1, Unit.unit)))), Unit.unit)) (sumE (fun x4 => (Option.some (Sum.inl (((IntKind.wrap IntKind.i64 (HAdd.hAdd x1.1.1 (1 : Int))), (x4.1.1, (x4.1.2.1, (x4.1.2.2.1, Unit.unit)))), Unit.unit)))) (emptyE))))))) (Option.none)) (Option.some (Sum.inr (Sum.inl ((x1.1.2.1, (x1.1.2.2.1, (x1.1.2.2.2.1, Unit.unit))), Unit.unit)))))) (((0 : Int), ((0 : Int), ((0 : Int), (x0.2.1, Unit.unit)))), Unit.unit)) (sumE (fun x1 => (Option.bind (r32 ((List.cons (Nat.cast (List.length x.1.2.2.2.1) : Int) (List.nil)), Unit.unit) (x1.1.2.2.1, Unit.unit)) (fun x2 => (Option.bind (loop (D := (Prod (Kd.T (.pair (.int .i64) (.pair (.slice (.int .u8)) .unit))) (Kd.T .unit))) (O := (Sum (Kd.T (.pair (.pair (.slice (.int .u8)) .unit) .unit)) (OutT (List.nil)))) (fun x3 => (cond (Decidable.decide (LT.lt x3.1.1 (Nat.cast (List.length x.1.2.2.2.1) : Int))) (cond (inB x3.1.1 (List.length x.1.2.2.2.1)) (Option.bind (GetElem?.getElem? x.1.2.2.2.1 (Int.toNat x3.1.1)) (fun x4 => (Option.bind (r41 (x4.1, Unit.unit) (x3.1.2.1, Unit.unit)) (fun x5 => (Option.bind (r32 ((List.cons x4.2.1.1 (List.nil)), Unit.unit) (x5.2.1, Unit.unit)) (fun x6 => (cond (Decidable.decide (Eq x4.2.1.1 (1 : Int))) (Option.bind (r32 ((List.cons x4.2.1.2.1 (List.nil)), Unit.unit) (x6.2.1, Unit.unit)) (fun x7 => (Option.some (Sum.inl (((IntKind.wrap IntKind.i64 (HAdd.hAdd x3.1.1 (1 : Int))), (x7.2.1, Unit.unit)), Unit.unit))))) (cond (Decidable.decide (Eq x4.2.1.1 (2 : Int))) (Option.bind (r41 (x4.2.1.2.2.1, Unit.unit) (x6.2.1, Unit.unit)) (fun x7 => (Option.some (Sum.inl (((IntKind.wrap IntKind.i64 (HAdd.hAdd x3.1.1 (1 : Int))), (x7.2.1, Unit.unit)), Unit.unit))))) (cond (Decidable.decide (Eq x4.2.1.1 (3 : Int))) (cond x4.2.1.2.2.2.1 (Option.bind (r32 ((List.cons (1 : Int) (List.nil)), Unit.unit) (x6.2.1, Unit.unit)) (fun x7 => (Option.some (Sum.inl (((IntKind.wrap IntKind.i64 (HAdd.hAdd x3.1.1 (1 : Int))), (x7.2.1, Unit.unit)), Unit.unit))))) (Option.bind (r32 ((List.cons (0 : Int) (List.nil)), Unit.unit) (x6.2.1, Unit.unit)) (fun x7 => (Option.some (Sum.inl (((IntKind.wrap IntKind.i64 (HAdd.hAdd x3.1.1 (1 : Int))), (x7.2.1, Unit.unit)), Unit.unit)))))) (Option.some (Sum.inl (((IntKind.wrap IntKind.i64 (HAdd.hAdd x3.1.1 (1 : Int))), (x6.2.1, Unit.unit)), Unit.unit)))))))))))) (Option.none)) (Option.some (Sum.inr (Sum.inl ((x3.1.2.1, Unit.unit), Unit.unit)))))) (((0 : Int), (x2.2.1, Unit.unit)), Unit.unit)) (sumE (fun x3 => (Option.some (Unit.unit, (x3.1.1, Unit.unit)))) (emptyE)))))) (emptyE)))))
theorem r33_ok : SpecOk Go.Proofs.Tryz.prog nG gG 33 (memSpec [.ptr 0 0, .dat (.pair (.int .i64) (.pair (.int .i64) (.pair (.slice (.slice (.pair (.int .i64) (.pair (.int .i64) .unit)))) (.pair (.slice (.pair .str (.pair (.pair (.int .i64) (.pair (.int .i64) (.pair .str (.pair .bool .unit)))) .unit))) (.pair (.int .i64) (.pair (.int .i64) .unit)))))), .dat (.int .i64)] [(0, [.own (.int .u8)])] [(0, [.own (.int .u8)])] [] r33) :=
  memSpec_ok (F := specOf [(32, memSpec [.ptr 0 0, .dat (.slice (.int .i64))] [(0, [.own (.int .u8)])] [(0, [.own (.int .u8)])] [] r32), (41, memSpec [.ptr 0 0, .dat .str] [(0, [.own (.int .u8)])] [(0, [.own (.int .u8)])] [] r41)]) (hs := hintOf [(4, ⟨⟨[(77, .lf (.int .i64))], [(0, [.own (.int .u8)])], []⟩, [((.exit 4), ⟨[], [(0, [.own (.int .u8)])], []⟩)]⟩), (2, ⟨⟨[(48, .lf (.int .i64))], [(1472, [.lf (.int .i64), .lf (.int .i64)]), (0, [.own (.int .u8)])], []⟩, [((.exit 2), ⟨[], [(1472, [.lf (.int .i64), .lf (.int .i64)]), (0, [.own (.int .u8)])], []⟩)]⟩), (0, ⟨⟨[(37, .lf (.int .i64))], [(1472, [.lf (.int .i64), .lf (.int .i64)]), (0, [.own (.int .u8)])], []⟩, [((.exit 0), ⟨[], [(1472, [.lf (.int .i64), .lf (.int .i64)]), (0, [.own (.int .u8)])], []⟩)]⟩)]) stays_G (specOf_cons r32_ok (specOf_cons r41_ok specOf_nil)) mixed Go.Proofs.Tryz.func33 rfl (by kernel_rfl) (by kernel_rfl) (fun _ _ => by kernel_rfl)

/-- terrier/bin.Write -/
noncomputable def r21 (x : (kdP [(.slice (.pair (.int .i64) (.pair (.int .i64) (.pair (.slice (.slice (.pair (.int .i64) (.pair (.int .i64) .unit)))) (.pair (.slice (.pair .str (.pair (.pair (.int .i64) (.pair (.int .i64) (.pair .str (.pair .bool .unit)))) .unit))) (.pair (.int .i64) (.pair (.int .i64) .unit)))))))]).T) : Option (kdP [(.slice (.int .u8)), (.int .i64)]).T :=
  (Option.bind (r31 (x.1, Unit.unit)) (fun x0 => (cond (Bool.not (Decidable.decide (Eq x0.1 (0 : Int)))) (Option.some ((List.nil), (x0.1, Unit.unit))) (Option.bind (r32 ((List.cons (Nat.cast (List.length x.1) : Int) (List.nil)), Unit.unit) ((List.cons (84 : Int) (List.cons (49 : Int) (List.nil))), Unit.unit)) (fun x1 => (Option.bind (loop (D := (Prod (Kd.T (.pair (.int .i64) (.pair (.int .i64) (.pair (.slice (.int .u8)) .unit)))) (Kd.T .unit))) (O := (Sum (Kd.T (.pair (.pair (.slice (.int .u8)) .unit) .unit)) (OutT (List.nil)))) (fun x2 => (cond (Decidable.decide (LT.lt x2.1.2.1 (Nat.cast (List.length x.1) : Int))) (cond (inB x2.1.2.1 (List.length x.1)) (Option.bind (GetElem?.getElem? x.1 (Int.toNat x2.1.2.1)) (fun x3 => (Option.bind (r33 ((x3.1, (x3.2.1, (x3.2.2.1, (x3.2.2.2.1, (x3.2.2.2.2.1, (x3.2.2.2.2.2.1, Unit.unit)))))), (x2.1.1, Unit.unit)) (x2.1.2.2.1, Unit.unit)) (fun x4 => (Option.some (Sum.inl ((x3.1, ((IntKind.wrap IntKind.i64 (HAdd.hAdd x2.1.2.1 (1 : Int))), (x4.2.1, Unit.unit))), Unit.unit))))))) (Option.none)) (Option.some (Sum.inr (Sum.inl ((x2.1.2.2.1, Unit.unit), Unit.unit)))))) (((0 : Int), ((0 : Int), (x1.2.1, Unit.unit))), Unit.unit)) (sumE (fun x2 => (Option.bind (r18 (x2.1.1, Unit.unit)) (fun x3 => (cond (fits (HAdd.hAdd (List.length x2.1.1) (List.length (List.cons (IntKind.wrap IntKind.u8 x3.1) (List.cons (IntKind.wrap IntKind.u8 (Int.fdiv x3.1 (256 : Int))) (List.cons (IntKind.wrap IntKind.u8 (Int.fdiv x3.1 (65536 : Int))) (List.cons (IntKind.wrap IntKind.u8 (Int.fdiv x3.1 (16777216 : Int))) (List.nil))))))) 1) (cond (Decidable.decide (LT.lt (65536 : Int) (Nat.cast (List.length (HAppend.hAppend x2.1.1 (List.cons (IntKind.wrap IntKind.u8 x3.1) (List.cons (IntKind.wrap IntKind.u8 (Int.fdiv x3.1 (256 : Int))) (List.cons (IntKind.wrap IntKind.u8 (Int.fdiv x3.1 (65536 : Int))) (List.cons (IntKind.wrap IntKind.u8 (Int.fdiv x3.1 (16777216 : Int))) (List.nil))))))) : Int))) (Option.some ((List.nil), ((2 : Int), Unit.unit))) (Option.some ((HAppend.hAppend x2.1.1 (List.cons (IntKind.wrap IntKind.u8 x3.1) (List.cons (IntKind.wrap IntKind.u8 (Int.fdiv x3.1 (256 : Int))) (List.cons (IntKind.wrap IntKind.u8 (Int.fdiv x3.1 (65536 : Int))) (List.cons (IntKind.wrap IntKind.u8 (Int.fdiv x3.1 (16777216 : Int))) (List.nil)))))), ((0 : Int), Unit.unit)))) (Option.none))))) (emptyE))))))))
theorem r21_ok : PureOk Go.Proofs.Tryz.prog nG gG 21 [(.slice (.pair (.int .i64) (.pair (.int .i64) (.pair (.slice (.slice (.pair (.int .i64) (.pair (.int .i64) .unit)))) (.pair (.slice (.pair .str (.pair (.pair (.int .i64) (.pair (.int .i64) (.pair .str (.pair .bool .unit)))) .unit))) (.pair (.int .i64) (.pair (.int .i64) .unit)))))))] [(.slice (.int .u8)), (.int .i64)] r21 :=
  pureOk_of_run (F := specOf [(31, pureSpec [(.slice (.pair (.int .i64) (.pair (.int .i64) (.pair (.slice (.slice (.pair (.int .i64) (.pair (.int .i64) .unit)))) (.pair (.slice (.pair .str (.pair (.pair (.int .i64) (.pair (.int .i64) (.pair .str (.pair .bool .unit)))) .unit))) (.pair (.int .i64) (.pair (.int .i64) .unit)))))))] [(.int .i64)] r31), (32, memSpec [.ptr 0 0, .dat (.slice (.int .i64))] [(0, [.own (.int .u8)])] [(0, [.own (.int .u8)])] [] r32), (33, memSpec [.ptr 0 0, .dat (.pair (.int .i64) (.pair (.int .i64) (.pair (.slice (.slice (.pair (.int .i64) (.pair (.int .i64) .unit)))) (.pair (.slice (.pair .str (.pair (.pair (.int .i64) (.pair (.int .i64) (.pair .str (.pair .bool .unit)))) .unit))) (.pair (.int .i64) (.pair (.int .i64) .unit)))))), .dat (.int .i64)] [(0, [.own (.int .u8)])] [(0, [.own (.int .u8)])] [] r33), (18, pureSpec [(.slice (.int .u8))] [(.int .u32)] r18)]) (hs := hintOf [(0, ⟨⟨[(6, .lf (.int .i64)), (27, .lf (.int .i64))], [(640, [.own (.int .u8)])], []⟩, [((.exit 0), ⟨[], [(640, [.own (.int .u8)])], []⟩)]⟩)]) stays_G (specOf_cons (PureOk.spec r31_ok) (specOf_cons r32_ok (specOf_cons r33_ok (specOf_cons (PureOk.spec r18_ok) specOf_nil)))) mixed Go.Proofs.Tryz.func21 rfl (by kernel_rfl) (fun _ => by kernel_rfl)

/-- terrier/bin.Read -/
noncomputable def r7 (x : (kdP [(.slice (.int .u8))]).T) : Option (kdP [(.slice (.pair (.int .i64) (.pair (.int .i64) (.pair (.slice (.slice (.pair (.int .i64) (.pair (.int .i64) .unit)))) (.pair (.slice (.pair .str (.pair (.pair (.int .i64) (.pair (.int .i64) (.pair .str (.pair .bool .unit)))) .unit))) (.pair (.int .i64) (.pair (.int .i64) .unit))))))), (.int .i64)]).T :=
  (cond (Decidable.decide (LT.lt (65536 : Int) (Nat.cast (List.length x.1) : Int))) (Option.some ((List.nil), ((2 : Int), Unit.unit))) (cond (Decidable.decide (LT.lt (Nat.cast (List.length x.1) : Int) (6 : Int))) (Option.some ((List.nil), ((14 : Int), Unit.unit))) (cond (upTo (2 : Int) (Nat.cast (List.length x.1) : Int)) (cond (Bool.not (Decidable.decide (Eq (mkStr (List.take (Int.toNat (2 : Int)) x.1)) (ByteArray.mk (List.toArray (List.cons (84 : UInt8) (List.cons (49 : UInt8) (List.nil)))))))) (Option.some ((List.nil), ((3 : Int), Unit.unit))) (cond (upTo (IntKind.wrap IntKind.i64 (HSub.hSub (Nat.cast (List.length x.1) : Int) (4 : Int))) (Nat.cast (List.length x.1) : Int)) (cond (upTo (IntKind.wrap IntKind.i64 (HSub.hSub (Nat.cast (List.length x.1) : Int) (4 : Int))) (Nat.cast (List.length x.1) : Int)) (Option.bind (r18 ((List.take (Int.toNat (IntKind.wrap IntKind.i64 (HSub.hSub (Nat.cast (List.length x.1) : Int) (4 : Int)))) x.1), Unit.unit)) (fun x0 => (cond (upTo (IntKind.wrap IntKind.i64 (HSub.hSub (Nat.cast (List.length x.1) : Int) (4 : Int))) (Nat.cast (List.length x.1) : Int)) (cond (Bool.not (Decidable.decide (Eq (mkStr (List.drop (Int.toNat (IntKind.wrap IntKind.i64 (HSub.hSub (Nat.cast (List.length x.1) : Int) (4 : Int)))) x.1)) (mkStr (List.cons (IntKind.wrap IntKind.u8 x0.1) (List.cons (IntKind.wrap IntKind.u8 (Int.fdiv x0.1 (HPow.hPow (2 : Int) (Min.min (Int.toNat (8 : Int)) (IntKind.bits IntKind.u32))))) (List.cons (IntKind.wrap IntKind.u8 (Int.fdiv x0.1 (HPow.hPow (2 : Int) (Min.min (Int.toNat (16 : Int)) (IntKind.bits IntKind.u32))))) (List.cons (IntKind.wrap IntKind.u8 (Int.fdiv x0.1 (HPow.hPow (2 : Int) (Min.min (Int.toNat (24 : Int)) (IntKind.bits IntKind.u32))))) (List.nil))))))))) (Option.some ((List.nil), ((13 : Int), Unit.unit))) (cond (upTo (2 : Int) (Nat.cast (List.length (List.take (Int.toNat (IntKind.wrap IntKind.i64 (HSub.hSub (Nat.cast (List.length x.1) : Int) (4 : Int)))) x.1)) : Int)) (Option.bind (r19 ((200 : Int), Unit.unit) ((List.drop 2 (List.take (Int.toNat (IntKind.wrap IntKind.i64 (HSub.hSub (Nat.cast (List.length x.1) : Int) (4 : Int)))) x.1)), (Bool.false, Unit.unit))) (fun x1 => (Option.bind (loop (D := (Prod (Kd.T (.pair (.slice (.pair (.int .i64) (.pair (.int .i64) (.pair (.slice (.slice (.pair (.int .i64) (.pair (.int .i64) .unit)))) (.pair (.slice (.pair .str (.pair (.pair (.int .i64) (.pair (.int .i64) (.pair .str (.pair .bool .unit)))) .unit))) (.pair (.int .i64) (.pair (.int .i64) .unit))))))) (.pair (.int .i64) (.pair (.int .i64) (.pair (.slice (.int .u8)) (.pair .bool .unit)))))) (Kd.T .unit))) (O := (Sum (Kd.T (.pair (.pair (.slice (.pair (.int .i64) (.pair (.int .i64) (.pair (.slice (.slice (.pair (.int .i64) (.pair (.int .i64) .unit)))) (.pair (.slice (.pair .str (.pair (.pair (.int .i64) (.pair (.int .i64) (.pair .str (.pair .bool .unit)))) .unit))) (.pair (.int .i64) (.pair (.int .i64) .unit))))))) (.pair (.int .i64) (.pair (.slice (.int .u8)) (.pair .bool .unit)))) .unit)) (OutT (List.cons ((Ex3.exit 0), (Sh.mk (List.cons (7, (ASh.own (Kd.pair (Kd.int IntKind.i64) (Kd.pair (Kd.int IntKind.i64) (Kd.pair (Kd.slice (Kd.slice (Kd.pair (Kd.int IntKind.i64) (Kd.pair (Kd.int IntKind.i64) Kd.unit)))) (Kd.pair (Kd.slice (Kd.pair Kd.str (Kd.pair (Kd.pair (Kd.int IntKind.i64) (Kd.pair (Kd.int IntKind.i64) (Kd.pair Kd.str (Kd.pair Kd.bool Kd.unit)))) Kd.unit))) (Kd.pair (Kd.int IntKind.i64) (Kd.pair (Kd.int IntKind.i64) Kd.unit)))))))) (List.nil)) (List.cons (3072, (List.cons (ASh.lf (Kd.slice (Kd.int IntKind.u8))) (List.cons (ASh.lf Kd.bool) (List.nil)))) (List.nil)) (List.nil))) (List.nil))))) (fun x2 => (cond (Decidable.decide (LT.lt x2.1.2.2.1 x1.1.1)) (Option.bind (r20 (x2.1.2.1, Unit.unit) (x2.1.2.2.2.1, (x2.1.2.2.2.2.1, Unit.unit))) (fun x3 => (cond x3.2.2.1 (Option.some (Sum.inr (Sum.inl (((List.nil), ((3 : Int), (x3.2.1, (x3.2.2.1, Unit.unit)))), Unit.unit)))) (cond (fits (HAdd.hAdd (List.length x2.1.1) (List.length (List.cons (x3.1.1.1, (x3.1.1.2.1, (x3.1.1.2.2.1, (x3.1.1.2.2.2.1, (x3.1.1.2.2.2.2.1, (x3.1.1.2.2.2.2.2.1, Unit.unit)))))) (List.nil)))) 80) (Option.some (Sum.inl (((HAppend.hAppend x2.1.1 (List.cons (x3.1.1.1, (x3.1.1.2.1, (x3.1.1.2.2.1, (x3.1.1.2.2.2.1, (x3.1.1.2.2.2.2.1, (x3.1.1.2.2.2.2.2.1, Unit.unit)))))) (List.nil))), (x3.1.1.1, ((IntKind.wrap IntKind.i64 (HAdd.hAdd x2.1.2.2.1 (1 : Int))), (x3.2.1, (x3.2.2.1, Unit.unit))))), Unit.unit))) (Option.none))))) (Option.some (Sum.inr (Sum.inr (Sum.inl ((x2.1.1, (x2.1.2.2.2.1, (x2.1.2.2.2.2.1, Unit.unit))), Unit.unit))))))) (((List.nil), ((0 : Int), ((0 : Int), (x1.2.1, (x1.2.2.1, Unit.unit))))), Unit.unit)) (sumE (fun x2 => (Option.some (x2.1.1, (x2.1.2.1, Unit.unit)))) (sumE (fun x2 => (Option.bind (r21 (x2.1.1, Unit.unit)) (fun x3 => (cond (Bool.not (Decidable.decide (Eq x3.2.1 (0 : Int)))) (Option.some ((List.nil), ((3 : Int), Unit.unit))) (Option.bind (r10 (x3.1, (x.1, Unit.unit))) (fun x4 => (cond (Bool.not x4.1) (Option.some ((List.nil), ((3 : Int), Unit.unit))) (Option.some (x2.1.1, ((0 : Int), Unit.unit)))))))))) (emptyE)))))) (Option.none))) (Option.none)))) (Option.none)) (Option.none))) (Option.none))))
theorem r7_ok : PureOk Go.Proofs.Tryz.prog nG gG 7 [(.slice (.int .u8))] [(.slice (.pair (.int .i64) (.pair (.int .i64) (.pair (.slice (.slice (.pair (.int .i64) (.pair (.int .i64) .unit)))) (.pair (.slice (.pair .str (.pair (.pair (.int .i64) (.pair (.int .i64) (.pair .str (.pair .bool .unit)))) .unit))) (.pair (.int .i64) (.pair (.int .i64) .unit))))))), (.int .i64)] r7 :=
  pureOk_of_run (F := specOf [(18, pureSpec [(.slice (.int .u8))] [(.int .u32)] r18), (19, memSpec [.ptr 0 0, .dat (.int .i64)] [(0, [.lf (.slice (.int .u8)), .lf .bool])] [(0, [.lf (.slice (.int .u8)), .lf .bool])] [(.int .i64)] r19), (20, memSpec [.ptr 0 0, .dat (.int .i64)] [(0, [.lf (.slice (.int .u8)), .lf .bool])] [(0, [.lf (.slice (.int .u8)), .lf .bool])] [(.pair (.int .i64) (.pair (.int .i64) (.pair (.slice (.slice (.pair (.int .i64) (.pair (.int .i64) .unit)))) (.pair (.slice (.pair .str (.pair (.pair (.int .i64) (.pair (.int .i64) (.pair .str (.pair .bool .unit)))) .unit))) (.pair (.int .i64) (.pair (.int .i64) .unit))))))] r20), (21, pureSpec [(.slice (.pair (.int .i64) (.pair (.int .i64) (.pair (.slice (.slice (.pair (.int .i64) (.pair (.int .i64) .unit)))) (.pair (.slice (.pair .str (.pair (.pair (.int .i64) (.pair (.int .i64) (.pair .str (.pair .bool .unit)))) .unit))) (.pair (.int .i64) (.pair (.int .i64) .unit)))))))] [(.slice (.int .u8)), (.int .i64)] r21), (10, pureSpec [(.slice (.int .u8)), (.slice (.int .u8))] [.bool] r10)]) (hs := hintOf [(0, ⟨⟨[(7, .own (.pair (.int .i64) (.pair (.int .i64) (.pair (.slice (.slice (.pair (.int .i64) (.pair (.int .i64) .unit)))) (.pair (.slice (.pair .str (.pair (.pair (.int .i64) (.pair (.int .i64) (.pair .str (.pair .bool .unit)))) .unit))) (.pair (.int .i64) (.pair (.int .i64) .unit))))))), (8, .lf (.int .i64)), (59, .lf (.int .i64))], [(3072, [.lf (.slice (.int .u8)), .lf .bool])], []⟩, [(.ret, ⟨[(2, .lf (.slice (.pair (.int .i64) (.pair (.int .i64) (.pair (.slice (.slice (.pair (.int .i64) (.pair (.int .i64) .unit)))) (.pair (.slice (.pair .str (.pair (.pair (.int .i64) (.pair (.int .i64) (.pair .str (.pair .bool .unit)))) .unit))) (.pair (.int .i64) (.pair (.int .i64) .unit)))))))), (3, .lf (.int .i64))], [(3072, [.lf (.slice (.int .u8)), .lf .bool])], []⟩), ((.exit 0), ⟨[(7, .own (.pair (.int .i64) (.pair (.int .i64) (.pair (.slice (.slice (.pair (.int .i64) (.pair (.int .i64) .unit)))) (.pair (.slice (.pair .str (.pair (.pair (.int .i64) (.pair (.int .i64) (.pair .str (.pair .bool .unit)))) .unit))) (.pair (.int .i64) (.pair (.int .i64) .unit)))))))], [(3072, [.lf (.slice (.int .u8)), .lf .bool])], []⟩)]⟩)]) stays_G (specOf_cons (PureOk.spec r18_ok) (specOf_cons r19_ok (specOf_cons r20_ok (specOf_cons (PureOk.spec r21_ok) (specOf_cons (PureOk.spec r10_ok) specOf_nil))))) mixed Go.Proofs.Tryz.func7 rfl (by kernel_rfl) (fun _ => by kernel_rfl)

/-- terrier/terrref2.Whose$1 -/
noncomputable def r22 (x : (kdP [(.slice (.int .i64))]).T) (d : (kdL [.self 43, .own (.fb 5)]).T) : Option ((kdP []).T × (kdL [.self 43, .own (.fb 5)]).T) :=
  (Option.bind (loop (D := (Prod (Kd.T (.pair (.int .i64) (.pair .unit (.pair (.slice (.fb 5)) .unit)))) (Kd.T .unit))) (O := (Sum (Kd.T (.pair (.pair .unit (.pair (.slice (.fb 5)) .unit)) .unit)) (OutT (List.nil)))) (fun x0 => (cond (Decidable.decide (LT.lt x0.1.1 (Nat.cast (List.length x.1) : Int))) (cond (inB x0.1.1 (List.length x.1)) (Option.bind (GetElem?.getElem? x.1 (Int.toNat x0.1.1)) (fun x1 => (Option.bind (r23 (x1, Unit.unit)) (fun x2 => (cond (Decidable.decide (LT.lt 9223372036854775807 (HAdd.hAdd (ByteArray.size x2.1) (ByteArray.size (ByteArray.mk (List.toArray (List.cons (32 : UInt8) (List.nil)))))))) (Option.none) (Option.bind (r13 ((HAppend.hAppend x2.1 (ByteArray.mk (List.toArray (List.cons (32 : UInt8) (List.nil))))), Unit.unit) (Unit.unit, (x0.1.2.2.1, Unit.unit))) (fun x3 => (Option.some (Sum.inl (((IntKind.wrap IntKind.i64 (HAdd.hAdd x0.1.1 (1 : Int))), (Unit.unit, (x3.2.2.1, Unit.unit))), Unit.unit)))))))))) (Option.none)) (Option.some (Sum.inr (Sum.inl ((Unit.unit, (x0.1.2.2.1, Unit.unit)), Unit.unit)))))) (((0 : Int), (Unit.unit, (d.2.1, Unit.unit))), Unit.unit)) (sumE (fun x0 => (Option.some (Unit.unit, (Unit.unit, (x0.1.2.1, Unit.unit))))) (emptyE)))
theorem r22_ok : SpecOk Go.Proofs.Tryz.prog nG gG 22 (memSpec [.dat (.slice (.int .i64)), .ptr 0 0] [(0, [.self 43, .own (.fb 5)])] [(0, [.self 43, .own (.fb 5)])] [] r22) :=
  memSpec_ok (F := specOf [(23, pureSpec [(.int .i64)] [.str] r23), (13, memSpec [.ptr 0 0, .dat .str] [(0, [.self 43, .own (.fb 5)])] [(0, [.self 43, .own (.fb 5)])] [(.int .i64), .err] r13)]) (hs := hintOf [(0, ⟨⟨[(7, .lf (.int .i64))], [(0, [.self 43, .own (.fb 5)])], []⟩, [((.exit 0), ⟨[], [(0, [.self 43, .own (.fb 5)])], []⟩)]⟩)]) stays_G (specOf_cons (PureOk.spec r23_ok) (specOf_cons r13_ok specOf_nil)) mixed Go.Proofs.Tryz.func22 rfl (by kernel_rfl) (by kernel_rfl) (fun _ _ => by kernel_rfl)

/-- terrier/terrref2.Whose -/
noncomputable def r8 (x : (kdP [(.slice (.pair (.int .i64) (.pair (.int .i64) (.pair (.slice (.slice (.pair (.int .i64) (.pair (.int .i64) .unit)))) (.pair (.slice (.pair .str (.pair (.pair (.int .i64) (.pair (.int .i64) (.pair .str (.pair .bool .unit)))) .unit))) (.pair (.int .i64) (.pair (.int .i64) .unit)))))))]).T) : Option (kdP [.str]).T :=
  (Option.bind (r22 ((List.cons (Nat.cast (List.length x.1) : Int) (List.nil)), Unit.unit) (Unit.unit, ((List.nil), Unit.unit))) (fun x0 => (Option.bind (loop (D := (Prod (Kd.T (.pair (.int .i64) (.pair .unit (.pair (.slice (.fb 5)) .unit)))) (Kd.T .unit))) (O := (Sum (Kd.T (.pair (.pair .unit (.pair (.slice (.fb 5)) .unit)) .unit)) (OutT (List.nil)))) (fun x1 => (cond (Decidable.decide (LT.lt x1.1.1 (Nat.cast (List.length x.1) : Int))) (cond (inB x1.1.1 (List.length x.1)) (Option.bind (GetElem?.getElem? x.1 (Int.toNat x1.1.1)) (fun x2 => (Option.bind (r22 ((List.cons x2.1 (List.cons x2.2.1 (List.cons x2.2.2.2.2.1 (List.cons x2.2.2.2.2.2.1 (List.cons (Nat.cast (List.length x2.2.2.1) : Int) (List.cons (Nat.cast (List.length x2.2.2.2.1) : Int) (List.nil))))))), Unit.unit) (Unit.unit, (x1.1.2.2.1, Unit.unit))) (fun x3 => (Option.bind (loop (D := (Prod (Kd.T (.pair (.int .i64) (.pair .unit (.pair (.slice (.fb 5)) .unit)))) (Kd.T .unit))) (O := (Sum (Kd.T (.pair (.pair .unit (.pair (.slice (.fb 5)) .unit)) .unit)) (OutT (List.nil)))) (fun x4 => (cond (Decidable.decide (LT.lt x4.1.1 (Nat.cast (List.length x2.2.2.1) : Int))) (cond (inB x4.1.1 (List.length x2.2.2.1)) (Option.bind (GetElem?.getElem? x2.2.2.1 (Int.toNat x4.1.1)) (fun x5 => (Option.bind (r22 ((List.cons (Nat.cast (List.length x5) : Int) (List.nil)), Unit.unit) (Unit.unit, (x4.1.2.2.1, Unit.unit))) (fun x6 => (Option.bind (loop (D := (Prod (Kd.T (.pair (.int .i64) (.pair .unit (.pair (.slice (.fb 5)) .unit)))) (Kd.T .unit))) (O := (Sum (Kd.T (.pair (.pair .unit (.pair (.slice (.fb 5)) .unit)) .unit)) (OutT (List.nil)))) (fun x7 => (cond (Decidable.decide (LT.lt x7.1.1 (Nat.cast (List.length x5) : Int))) (cond (inB x7.1.1 (List.length x5)) (Option.bind (GetElem?.getElem? x5 (Int.toNat x7.1.1)) (fun x8 => (Option.bind (r22 ((List.cons x8.1 (List.cons x8.2.1 (List.nil))), Unit.unit) (Unit.unit, (x7.1.2.2.1, Unit.unit))) (fun x9 => (Option.some (Sum.inl (((IntKind.wrap IntKind.i64 (HAdd.hAdd x7.1.1 (1 : Int))), (Unit.unit, (x9.2.2.1, Unit.unit))), Unit.unit))))))) (Option.none)) (Option.some (Sum.inr (Sum.inl ((Unit.unit, (x7.1.2.2.1, Unit.unit)), Unit.unit)))))) (((0 : Int), (Unit.unit, (x6.2.2.1, Unit.unit))), Unit.unit)) (sumE (fun x7 => (Option.some (Sum.inl (((IntKind.wrap IntKind.i64 (HAdd.hAdd x4.1.1 (1 : Int))), (Unit.unit, (x7.1.2.1, Unit.unit))), Unit.unit)))) (emptyE))))))) (Option.none)) (Option.some (Sum.inr (Sum.inl ((Unit.unit, (x4.1.2.2.1, Unit.unit)), Unit.unit)))))) (((0 : Int), (Unit.unit, (x3.2.2.1, Unit.unit))), Unit.unit)) (sumE (fun x4 => (Option.bind (loop (D := (Prod (Kd.T (.pair (.int .i64) (.pair .unit (.pair (.slice (.fb 5)) .unit)))) (Kd.T .unit))) (O := (Sum (Kd.T (.pair (.pair .unit (.pair (.slice (.fb 5)) .unit)) .unit)) (OutT (List.nil)))) (fun x5 => (cond (Decidable.decide (LT.lt x5.1.1 (Nat.cast (List.length x2.2.2.2.1) : Int))) (cond (inB x5.1.1 (List.length x2.2.2.2.1)) (Option.bind (GetElem?.getElem? x2.2.2.2.1 (Int.toNat x5.1.1)) (fun x6 => (Option.bind (r22 ((List.cons (Nat.cast (ByteArray.size x6.1) : Int) (List.cons x6.2.1.1 (List.cons x6.2.1.2.1 (List.cons (Nat.cast (ByteArray.size x6.2.1.2.2.1) : Int) (List.nil))))), Unit.unit) (Unit.unit, (x5.1.2.2.1, Unit.unit))) (fun x7 => (cond (Decidable.decide (LT.lt 9223372036854775807 (HAdd.hAdd (ByteArray.size x6.1) (ByteArray.size x6.2.1.2.2.1)))) (Option.none) (Option.bind (r24 (x6.2.1.2.2.2.1, Unit.unit)) (fun x8 => (cond (Decidable.decide (LT.lt 9223372036854775807 (HAdd.hAdd (ByteArray.size (HAppend.hAppend x6.1 x6.2.1.2.2.1)) (ByteArray.size x8.1)))) (Option.none) (Option.bind (r13 ((HAppend.hAppend (HAppend.hAppend x6.1 x6.2.1.2.2.1) x8.1), Unit.unit) (Unit.unit, (x7.2.2.1, Unit.unit))) (fun x9 => (Option.some (Sum.inl (((IntKind.wrap IntKind.i64 (HAdd.hAdd x5.1.1 (1 : Int))), (Unit.unit, (x9.2.2.1, Unit.unit))), Unit.unit))))))))))))) (Option.none)) (Option.some (Sum.inr (Sum.inl ((Unit.unit, (x5.1.2.2.1, Unit.unit)), Unit.unit)))))) (((0 : Int), (Unit.unit, (x4.1.2.1, Unit.unit))), Unit.unit)) (sumE (fun x5 => (Option.some (Sum.inl (((IntKind.wrap IntKind.i64 (HAdd.hAdd x1.1.1 (1 : Int))), (Unit.unit, (x5.1.2.1, Unit.unit))), Unit.unit)))) (emptyE)))) (emptyE))))))) (Option.none)) (Option.some (Sum.inr (Sum.inl ((Unit.unit, (x1.1.2.2.1, Unit.unit)), Unit.unit)))))) (((0 : Int), (Unit.unit, (x0.2.2.1, Unit.unit))), Unit.unit)) (sumE (fun x1 => (Option.bind (r16 Unit.unit (Unit.unit, (x1.1.2.1, Unit.unit))) (fun x2 => (Option.some (x2.1.1, Unit.unit))))) (emptyE)))))
theorem r8_ok : PureOk Go.Proofs.Tryz.prog nG gG 8 [(.slice (.pair (.int .i64) (.pair (.int .i64) (.pair (.slice (.slice (.pair (.int .i64) (.pair (.int .i64) .unit)))) (.pair (.slice (.pair .str (.pair (.pair (.int .i64) (.pair (.int .i64) (.pair .str (.pair .bool .unit)))) .unit))) (.pair (.int .i64) (.pair (.int .i64) .unit)))))))] [.str] r8 :=
  pureOk_of_run (F := specOf [(22, memSpec [.dat (.slice (.int .i64)), .ptr 0 0] [(0, [.self 43, .own (.fb 5)])] [(0, [.self 43, .own (.fb 5)])] [] r22), (24, pureSpec [.bool] [.str] r24), (13, memSpec [.ptr 0 0, .dat .str] [(0, [.self 43, .own (.fb 5)])] [(0, [.self 43, .own (.fb 5)])] [(.int .i64), .err] r13), (16, memSpec [.ptr 0 0] [(0, [.self 43, .own (.fb 5)])] [(0, [.self 43, .own (.fb 5)])] [.str] r16)]) (hs := hintOf [(6, ⟨⟨[(72, .lf (.int .i64))], [(64, [.self 43, .own (.fb 5)])], []⟩, [((.exit 6), ⟨[], [(64, [.self 43, .own (.fb 5)])], []⟩)]⟩), (4, ⟨⟨[(56, .lf (.int .i64))], [(64, [.self 43, .own (.fb 5)])], []⟩, [((.exit 4), ⟨[], [(64, [.self 43, .own (.fb 5)])], []⟩)]⟩), (2, ⟨⟨[(45, .lf (.int .i64))], [(64, [.self 43, .own (.fb 5)])], []⟩, [((.exit 2), ⟨[], [(64, [.self 43, .own (.fb 5)])], []⟩)]⟩), (0, ⟨⟨[(21, .lf (.int .i64))], [(64, [.self 43, .own (.fb 5)])], []⟩, [((.exit 0), ⟨[], [(64, [.self 43, .own (.fb 5)])], []⟩)]⟩)]) stays_G (specOf_cons r22_ok (specOf_cons (PureOk.spec r24_ok) (specOf_cons r13_ok (specOf_cons r16_ok specOf_nil)))) mixed Go.Proofs.Tryz.func8 rfl (by kernel_rfl) (fun _ => by kernel_rfl)

/-- terrier/terrlaw2.BinReads -/
noncomputable def r3 (x : (kdP [(.slice (.int .u8)), (.slice (.pair (.int .i64) (.pair (.int .i64) (.pair (.slice (.slice (.pair (.int .i64) (.pair (.int .i64) .unit)))) (.pair (.slice (.pair .str (.pair (.pair (.int .i64) (.pair (.int .i64) (.pair .str (.pair .bool .unit)))) .unit))) (.pair (.int .i64) (.pair (.int .i64) .unit)))))))]).T) : Option (kdP [.bool]).T :=
  (Option.bind (r4 Unit.unit) (fun x0 => (cond (Bool.not x0.1) (Option.some (Bool.false, Unit.unit)) (Option.bind (r5 (x.2.1, Unit.unit)) (fun x1 => (cond (Decidable.decide (Eq x1.1 (0 : Int))) (Option.bind (r6 (x.2.1, Unit.unit)) (fun x2 => (cond (Decidable.decide (LE.le (Nat.cast (ByteArray.size x2.1) : Int) (65536 : Int))) (Option.bind (r6 (x.2.1, Unit.unit)) (fun x3 => (Option.bind (r7 ((bytesOf x3.1), Unit.unit)) (fun x4 => (cond (Bool.not (Decidable.decide (Eq x4.2.1 (0 : Int)))) (Option.some (Bool.false, Unit.unit)) (Option.bind (r8 (x4.1, Unit.unit)) (fun x5 => (Option.bind (r8 (x.2.1, Unit.unit)) (fun x6 => (cond (Bool.not (Decidable.decide (Eq x5.1 x6.1))) (Option.some (Bool.false, Unit.unit)) (Option.bind (r7 (x.1, Unit.unit)) (fun x7 => (cond (Decidable.decide (LT.lt (65536 : Int) (Nat.cast (List.length x.1) : Int))) (cond (Decidable.decide (Eq (Nat.cast (List.length x7.1) : Int) (0 : Int))) (cond (Decidable.decide (Eq x7.2.1 (2 : Int))) (Option.some (Bool.true, Unit.unit)) (Option.some (Bool.false, Unit.unit))) (Option.some (Bool.false, Unit.unit))) (cond (Decidable.decide (LT.lt (Nat.cast (List.length x.1) : Int) (6 : Int))) (cond (Decidable.decide (Eq (Nat.cast (List.length x7.1) : Int) (0 : Int))) (cond (Decidable.decide (Eq x7.2.1 (14 : Int))) (Option.some (Bool.true, Unit.unit)) (Option.some (Bool.false, Unit.unit))) (Option.some (Bool.false, Unit.unit))) (cond (upTo (2 : Int) (Nat.cast (List.length x.1) : Int)) (cond (Bool.not (Decidable.decide (Eq (mkStr (List.take (Int.toNat (2 : Int)) x.1)) (ByteArray.mk (List.toArray (List.cons (84 : UInt8) (List.cons (49 : UInt8) (List.nil)))))))) (cond (Decidable.decide (Eq (Nat.cast (List.length x7.1) : Int) (0 : Int))) (cond (Decidable.decide (Eq x7.2.1 (3 : Int))) (Option.some (Bool.true, Unit.unit)) (Option.some (Bool.false, Unit.unit))) (Option.some (Bool.false, Unit.unit))) (cond (upTo (IntKind.wrap IntKind.i64 (HSub.hSub (Nat.cast (List.length x.1) : Int) (4 : Int))) (Nat.cast (List.length x.1) : Int)) (Option.bind (r9 ((mkStr (List.take (Int.toNat (IntKind.wrap IntKind.i64 (HSub.hSub (Nat.cast (List.length x.1) : Int) (4 : Int)))) x.1)), Unit.unit)) (fun x8 => (cond (upTo (IntKind.wrap IntKind.i64 (HSub.hSub (Nat.cast (List.length x.1) : Int) (4 : Int))) (Nat.cast (List.length x.1) : Int)) (Option.bind (loop (D := (Prod (Kd.T (.pair (.int .i64) (.pair (.int .u32) (.pair (.int .i64) .unit)))) (Kd.T .unit))) (O := (Sum (Kd.T (.pair (.pair (.int .i64) .unit) .unit)) (OutT (List.nil)))) (fun x9 => (cond (Decidable.decide (LT.lt x9.1.2.2.1 (Nat.cast (List.length (List.drop (Int.toNat (IntKind.wrap IntKind.i64 (HSub.hSub (Nat.cast (List.length x.1) : Int) (4 : Int)))) x.1)) : Int))) (cond (inB x9.1.2.2.1 (List.length (List.drop (Int.toNat (IntKind.wrap IntKind.i64 (HSub.hSub (Nat.cast (List.length x.1) : Int) (4 : Int)))) x.1))) (Option.bind (GetElem?.getElem? (List.drop (Int.toNat (IntKind.wrap IntKind.i64 (HSub.hSub (Nat.cast (List.length x.1) : Int) (4 : Int)))) x.1) (Int.toNat x9.1.2.2.1)) (fun x10 => (cond (Bool.not (Decidable.decide (Eq x10 (IntKind.wrap IntKind.u8 x9.1.2.1)))) (Option.some (Sum.inl (((13 : Int), ((Int.fdiv x9.1.2.1 (256 : Int)), ((IntKind.wrap IntKind.i64 (HAdd.hAdd x9.1.2.2.1 (1 : Int))), Unit.unit))), Unit.unit))) (Option.some (Sum.inl ((x9.1.1, ((Int.fdiv x9.1.2.1 (256 : Int)), ((IntKind.wrap IntKind.i64 (HAdd.hAdd x9.1.2.2.1 (1 : Int))), Unit.unit))), Unit.unit)))))) (Option.none)) (Option.some (Sum.inr (Sum.inl ((x9.1.1, Unit.unit), Unit.unit)))))) (((0 : Int), (x8.1, ((0 : Int), Unit.unit))), Unit.unit)) (sumE (fun x9 => (cond (Bool.not (Decidable.decide (Eq x9.1.1 (0 : Int)))) (cond (Decidable.decide (Eq (Nat.cast (List.length x7.1) : Int) (0 : Int))) (cond (Decidable.decide (Eq x7.2.1 x9.1.1)) (Option.some (Bool.true, Unit.unit)) (cond (Decidable.decide (Eq x9.1.1 (0 : Int))) (Option.some ((Decidable.decide (Eq x7.2.1 (3 : Int))), Unit.unit)) (Option.some (Bool.false, Unit.unit)))) (Option.some (Bool.false, Unit.unit))) (cond (Bool.not (Decidable.decide (Eq x7.2.1 (0 : Int)))) (cond (Decidable.decide (Eq (Nat.cast (List.length x7.1) : Int) (0 : Int))) (cond (Decidable.decide (Eq x7.2.1 x9.1.1)) (Option.some (Bool.true, Unit.unit)) (cond (Decidable.decide (Eq x9.1.1 (0 : Int))) (Option.some ((Decidable.decide (Eq x7.2.1 (3 : Int))), Unit.unit)) (Option.some (Bool.false, Unit.unit)))) (Option.some (Bool.false, Unit.unit))) (Option.bind (r5 (x7.1, Unit.unit)) (fun x10 => (cond (Decidable.decide (Eq x10.1 (0 : Int))) (Option.bind (r6 (x7.1, Unit.unit)) (fun x11 => (Option.some ((Decidable.decide (Eq x11.1 (mkStr x.1))), Unit.unit)))) (Option.some (Bool.false, Unit.unit)))))))) (emptyE))) (Option.none)))) (Option.none))) (Option.none)))))))))))))))) (Option.bind (r7 (x.1, Unit.unit)) (fun x3 => (cond (Decidable.decide (LT.lt (65536 : Int) (Nat.cast (List.length x.1) : Int))) (cond (Decidable.decide (Eq (Nat.cast (List.length x3.1) : Int) (0 : Int))) (cond (Decidable.decide (Eq x3.2.1 (2 : Int))) (Option.some (Bool.true, Unit.unit)) (Option.some (Bool.false, Unit.unit))) (Option.some (Bool.false, Unit.unit))) (cond (Decidable.decide (LT.lt (Nat.cast (List.length x.1) : Int) (6 : Int))) (cond (Decidable.decide (Eq (Nat.cast (List.length x3.1) : Int) (0 : Int))) (cond (Decidable.decide (Eq x3.2.1 (14 : Int))) (Option.some (Bool.true, Unit.unit)) (Option.some (Bool.false, Unit.unit))) (Option.some (Bool.false, Unit.unit))) (cond (upTo (2 : Int) (Nat.cast (List.length x.1) : Int)) (cond (Bool.not (Decidable.decide (Eq (mkStr (List.take (Int.toNat (2 : Int)) x.1)) (ByteArray.mk (List.toArray (List.cons (84 : UInt8) (List.cons (49 : UInt8) (List.nil)))))))) (cond (Decidable.decide (Eq (Nat.cast (List.length x3.1) : Int) (0 : Int))) (cond (Decidable.decide (Eq x3.2.1 (3 : Int))) (Option.some (Bool.true, Unit.unit)) (Option.some (Bool.false, Unit.unit))) (Option.some (Bool.false, Unit.unit))) (cond (upTo (IntKind.wrap IntKind.i64 (HSub.hSub (Nat.cast (List.length x.1) : Int) (4 : Int))) (Nat.cast (List.length x.1) : Int)) (Option.bind (r9 ((mkStr (List.take (Int.toNat (IntKind.wrap IntKind.i64 (HSub.hSub (Nat.cast (List.length x.1) : Int) (4 : Int)))) x.1)), Unit.unit)) (fun x4 => (cond (upTo (IntKind.wrap IntKind.i64 (HSub.hSub (Nat.cast (List.length x.1) : Int) (4 : Int))) (Nat.cast (List.length x.1) : Int)) (Option.bind (loop (D := (Prod (Kd.T (.pair (.int .i64) (.pair (.int .u32) (.pair (.int .i64) .unit)))) (Kd.T .unit))) (O := (Sum (Kd.T (.pair (.pair (.int .i64) .unit) .unit)) (OutT (List.nil)))) (fun x5 => (cond (Decidable.decide (LT.lt x5.1.2.2.1 (Nat.cast (List.length (List.drop (Int.toNat (IntKind.wrap IntKind.i64 (HSub.hSub (Nat.cast (List.length x.1) : Int) (4 : Int)))) x.1)) : Int))) (cond (inB x5.1.2.2.1 (List.length (List.drop (Int.toNat (IntKind.wrap IntKind.i64 (HSub.hSub (Nat.cast (List.length x.1) : Int) (4 : Int)))) x.1))) (Option.bind (GetElem?.getElem? (List.drop (Int.toNat (IntKind.wrap IntKind.i64 (HSub.hSub (Nat.cast (List.length x.1) : Int) (4 : Int)))) x.1) (Int.toNat x5.1.2.2.1)) (fun x6 => (cond (Bool.not (Decidable.decide (Eq x6 (IntKind.wrap IntKind.u8 x5.1.2.1)))) (Option.some (Sum.inl (((13 : Int), ((Int.fdiv x5.1.2.1 (256 : Int)), ((IntKind.wrap IntKind.i64 (HAdd.hAdd x5.1.2.2.1 (1 : Int))), Unit.unit))), Unit.unit))) (Option.some (Sum.inl ((x5.1.1, ((Int.fdiv x5.1.2.1 (256 : Int)), ((IntKind.wrap IntKind.i64 (HAdd.hAdd x5.1.2.2.1 (1 : Int))), Unit.unit))), Unit.unit)))))) (Option.none)) (Option.some (Sum.inr (Sum.inl ((x5.1.1, Unit.unit), Unit.unit)))))) (((0 : Int), (x4.1, ((0 : Int), Unit.unit))), Unit.unit)) (sumE (fun x5 => (cond (Bool.not (Decidable.decide (Eq x5.1.1 (0 : Int)))) (cond (Decidable.decide (Eq (Nat.cast (List.length x3.1) : Int) (0 : Int))) (cond (Decidable.decide (Eq x3.2.1 x5.1.1)) (Option.some (Bool.true, Unit.unit)) (cond (Decidable.decide (Eq x5.1.1 (0 : Int))) (Option.some ((Decidable.decide (Eq x3.2.1 (3 : Int))), Unit.unit)) (Option.some (Bool.false, Unit.unit)))) (Option.some (Bool.false, Unit.unit))) (cond (Bool.not (Decidable.decide (Eq x3.2.1 (0 : Int)))) (cond (Decidable.decide (Eq (Nat.cast (List.length x3.1) : Int) (0 : Int))) (cond (Decidable.decide (Eq x3.2.1 x5.1.1)) (Option.some (Bool.true, Unit.unit)) (cond (Decidable.decide (Eq x5.1.1 (0 : Int))) (Option.some ((Decidable.decide (Eq x3.2.1 (3 : Int))), Unit.unit)) (Option.some (Bool.false, Unit.unit)))) (Option.some (Bool.false, Unit.unit))) (Option.bind (r5 (x3.1, Unit.unit)) (fun x6 => (cond (Decidable.decide (Eq x6.1 (0 : Int))) (Option.bind (r6 (x3.1, Unit.unit)) (fun x7 => (Option.some ((Decidable.decide (Eq x7.1 (mkStr x.1))), Unit.unit)))) (Option.some (Bool.false, Unit.unit)))))))) (emptyE))) (Option.none)))) (Option.none))) (Option.none))))))))) (Option.bind (r7 (x.1, Unit.unit)) (fun x2 => (cond (Decidable.decide (LT.lt (65536 : Int) (Nat.cast (List.length x.1) : Int))) (cond (Decidable.decide (Eq (Nat.cast (List.length x2.1) : Int) (0 : Int))) (cond (Decidable.decide (Eq x2.2.1 (2 : Int))) (Option.some (Bool.true, Unit.unit)) (Option.some (Bool.false, Unit.unit))) (Option.some (Bool.false, Unit.unit))) (cond (Decidable.decide (LT.lt (Nat.cast (List.length x.1) : Int) (6 : Int))) (cond (Decidable.decide (Eq (Nat.cast (List.length x2.1) : Int) (0 : Int))) (cond (Decidable.decide (Eq x2.2.1 (14 : Int))) (Option.some (Bool.true, Unit.unit)) (Option.some (Bool.false, Unit.unit))) (Option.some (Bool.false, Unit.unit))) (cond (upTo (2 : Int) (Nat.cast (List.length x.1) : Int)) (cond (Bool.not (Decidable.decide (Eq (mkStr (List.take (Int.toNat (2 : Int)) x.1)) (ByteArray.mk (List.toArray (List.cons (84 : UInt8) (List.cons (49 : UInt8) (List.nil)))))))) (cond (Decidable.decide (Eq (Nat.cast (List.length x2.1) : Int) (0 : Int))) (cond (Decidable.decide (Eq x2.2.1 (3 : Int))) (Option.some (Bool.true, Unit.unit)) (Option.some (Bool.false, Unit.unit))) (Option.some (Bool.false, Unit.unit))) (cond (upTo (IntKind.wrap IntKind.i64 (HSub.hSub (Nat.cast (List.length x.1) : Int) (4 : Int))) (Nat.cast (List.length x.1) : Int)) (Option.bind (r9 ((mkStr (List.take (Int.toNat (IntKind.wrap IntKind.i64 (HSub.hSub (Nat.cast (List.length x.1) : Int) (4 : Int)))) x.1)), Unit.unit)) (fun x3 => (cond (upTo (IntKind.wrap IntKind.i64 (HSub.hSub (Nat.cast (List.length x.1) : Int) (4 : Int))) (Nat.cast (List.length x.1) : Int)) (Option.bind (loop (D := (Prod (Kd.T (.pair (.int .i64) (.pair (.int .u32) (.pair (.int .i64) .unit)))) (Kd.T .unit))) (O := (Sum (Kd.T (.pair (.pair (.int .i64) .unit) .unit)) (OutT (List.nil)))) (fun x4 => (cond (Decidable.decide (LT.lt x4.1.2.2.1 (Nat.cast (List.length (List.drop (Int.toNat (IntKind.wrap IntKind.i64 (HSub.hSub (Nat.cast (List.length x.1) : Int) (4 : Int)))) x.1)) : Int))) (cond (inB x4.1.2.2.1 (List.length (List.drop (Int.toNat (IntKind.wrap IntKind.i64 (HSub.hSub (Nat.cast (List.length x.1) : Int) (4 : Int)))) x.1))) (Option.bind (GetElem?.getElem? (List.drop (Int.toNat (IntKind.wrap IntKind.i64 (HSub.hSub (Nat.cast (List.length x.1) : Int) (4 : Int)))) x.1) (Int.toNat x4.1.2.2.1)) (fun x5 => (cond (Bool.not (Decidable.decide (Eq x5 (IntKind.wrap IntKind.u8 x4.1.2.1)))) (Option.some (Sum.inl (((13 : Int), ((Int.fdiv x4.1.2.1 (256 : Int)), ((IntKind.wrap IntKind.i64 (HAdd.hAdd x4.1.2.2.1 (1 : Int))), Unit.unit))), Unit.unit))) (Option.some (Sum.inl ((x4.1.1, ((Int.fdiv x4.1.2.1 (256 : Int)), ((IntKind.wrap IntKind.i64 (HAdd.hAdd x4.1.2.2.1 (1 : Int))), Unit.unit))), Unit.unit)))))) (Option.none)) (Option.some (Sum.inr (Sum.inl ((x4.1.1, Unit.unit), Unit.unit)))))) (((0 : Int), (x3.1, ((0 : Int), Unit.unit))), Unit.unit)) (sumE (fun x4 => (cond (Bool.not (Decidable.decide (Eq x4.1.1 (0 : Int)))) (cond (Decidable.decide (Eq (Nat.cast (List.length x2.1) : Int) (0 : Int))) (cond (Decidable.decide (Eq x2.2.1 x4.1.1)) (Option.some (Bool.true, Unit.unit)) (cond (Decidable.decide (Eq x4.1.1 (0 : Int))) (Option.some ((Decidable.decide (Eq x2.2.1 (3 : Int))), Unit.unit)) (Option.some (Bool.false, Unit.unit)))) (Option.some (Bool.false, Unit.unit))) (cond (Bool.not (Decidable.decide (Eq x2.2.1 (0 : Int)))) (cond (Decidable.decide (Eq (Nat.cast (List.length x2.1) : Int) (0 : Int))) (cond (Decidable.decide (Eq x2.2.1 x4.1.1)) (Option.some (Bool.true, Unit.unit)) (cond (Decidable.decide (Eq x4.1.1 (0 : Int))) (Option.some ((Decidable.decide (Eq x2.2.1 (3 : Int))), Unit.unit)) (Option.some (Bool.false, Unit.unit)))) (Option.some (Bool.false, Unit.unit))) (Option.bind (r5 (x2.1, Unit.unit)) (fun x5 => (cond (Decidable.decide (Eq x5.1 (0 : Int))) (Option.bind (r6 (x2.1, Unit.unit)) (fun x6 => (Option.some ((Decidable.decide (Eq x6.1 (mkStr x.1))), Unit.unit)))) (Option.some (Bool.false, Unit.unit)))))))) (emptyE))) (Option.none)))) (Option.none))) (Option.none))))))))))))
theorem r3_ok : PureOk Go.Proofs.Tryz.prog nG gG 3 [(.slice (.int .u8)), (.slice (.pair (.int .i64) (.pair (.int .i64) (.pair (.slice (.slice (.pair (.int .i64) (.pair (.int .i64) .unit)))) (.pair (.slice (.pair .str (.pair (.pair (.int .i64) (.pair (.int .i64) (.pair .str (.pair .bool .unit)))) .unit))) (.pair (.int .i64) (.pair (.int .i64) .unit)))))))] [.bool] r3 :=
  pureOk_of_run (F := specOf [(4, pureSpec [] [.bool] r4), (5, pureSpec [(.slice (.pair (.int .i64) (.pair (.int .i64) (.pair (.slice (.slice (.pair (.int .i64) (.pair (.int .i64) .unit)))) (.pair (.slice (.pair .str (.pair (.pair (.int .i64) (.pair (.int .i64) (.pair .str (.pair .bool .unit)))) .unit))) (.pair (.int .i64) (.pair (.int .i64) .unit)))))))] [(.int .i64)] r5), (6, pureSpec [(.slice (.pair (.int .i64) (.pair (.int .i64) (.pair (.slice (.slice (.pair (.int .i64) (.pair (.int .i64) .unit)))) (.pair (.slice (.pair .str (.pair (.pair (.int .i64) (.pair (.int .i64) (.pair .str (.pair .bool .unit)))) .unit))) (.pair (.int .i64) (.pair (.int .i64) .unit)))))))] [.str] r6), (7, pureSpec [(.slice (.int .u8))] [(.slice (.pair (.int .i64) (.pair (.int .i64) (.pair (.slice (.slice (.pair (.int .i64) (.pair (.int .i64) .unit)))) (.pair (.slice (.pair .str (.pair (.pair (.int .i64) (.pair (.int .i64) (.pair .str (.pair .bool .unit)))) .unit))) (.pair (.int .i64) (.pair (.int .i64) .unit))))))), (.int .i64)] r7), (8, pureSpec [(.slice (.pair (.int .i64) (.pair (.int .i64) (.pair (.slice (.slice (.pair (.int .i64) (.pair (.int .i64) .unit)))) (.pair (.slice (.pair .str (.pair (.pair (.int .i64) (.pair (.int .i64) (.pair .str (.pair .bool .unit)))) .unit))) (.pair (.int .i64) (.pair (.int .i64) .unit)))))))] [.str] r8), (9, pureSpec [.str] [(.int .u32)] r9)]) (hs := hintOf [(1, ⟨⟨[(9, .lf (.int .i64)), (10, .lf (.int .u32)), (58, .lf (.int .i64))], [], []⟩, [((.exit 1), ⟨[(9, .lf (.int .i64))], [], []⟩)]⟩)]) stays_G (specOf_cons (PureOk.spec r4_ok) (specOf_cons (PureOk.spec r5_ok) (specOf_cons (PureOk.spec r6_ok) (specOf_cons (PureOk.spec r7_ok) (specOf_cons (PureOk.spec r8_ok) (specOf_cons (PureOk.spec r9_ok) specOf_nil)))))) mixed Go.Proofs.Tryz.func3 rfl (by kernel_rfl) (fun _ => by kernel_rfl)

end Go.Proofs.YtjgiibfejfkocaaGreatDoor.I

namespace Go.Proofs.YtjgiibfejfkocaaGreatDoor.I
open Go.RowKit
set_option linter.unusedVariables false
/-- A loop over a list, told by recursion. -/
def foldL {α S O : Type} (body : Nat → α → S → Option (S ⊕ O)) (out : S → O) : Nat → List α → S → Option O
  | _, [], s => some (out s)
  | i, a :: l, s => match body i a s with
    | none => none
    | some (.inl s') => foldL body out (i + 1) l s'
    | some (.inr o) => some o
def stepTo {D S O : Type} (emb : Int → S → D) (i : Nat) : Option (S ⊕ O) → Option (D ⊕ O)
  | none => none
  | some (.inl s') => some (.inl (emb ((i : Int) + 1) s'))
  | some (.inr o) => some (.inr o)
theorem loop_from {α S D O : Type} {step : D → Option (D ⊕ O)} (emb : Int → S → D) (xs : List α) (body : Nat → α → S → Option (S ⊕ O)) (out : S → O)
    (hin : ∀ (i : Nat) a s, xs[i]? = some a → step (emb i s) = stepTo emb i (body i a s))
    (hend : ∀ s, step (emb (xs.length : Int) s) = some (.inr (out s))) : ∀ (l : List α) (i : Nat) (s : S), i ≤ xs.length → xs.drop i = l → loop step (emb i s) = foldL body out i l s
  | [], i, s, hi, hl => by
    have : i = xs.length := by
      have := congrArg List.length hl
      simp at this; omega
    subst this
    rw [loop_eq, hend]
    rfl
  | a :: l, i, s, hi, hl => by
    have ha : xs[i]? = some a := by
      have := congrArg (fun l => l[0]?) hl
      simpa using this
    have hlt : i < xs.length := (List.getElem?_eq_some_iff.1 ha).1
    have hd : xs.drop (i + 1) = l := by rw [← List.drop_drop, hl]; rfl
    rw [loop_eq, hin i a s ha]
    simp only [foldL]
    cases hb : body i a s with
    | none => rfl
    | some r =>
      cases r with
      | inr o => rfl
      | inl s' =>
        simp only [stepTo]
        exact loop_from emb xs body out hin hend l (i + 1) s' hlt hd
theorem loop_list {α S D O : Type} {step : D → Option (D ⊕ O)} (emb : Int → S → D) (xs : List α) (body : Nat → α → S → Option (S ⊕ O)) (out : S → O)
    (hin : ∀ (i : Nat) a s, xs[i]? = some a → step (emb i s) = stepTo emb i (body i a s))
    (hend : ∀ s, step (emb (xs.length : Int) s) = some (.inr (out s))) (s : S) : loop step (emb 0 s) = foldL body out 0 xs s :=
  loop_from emb xs body out hin hend xs 0 s (Nat.zero_le _) rfl
theorem wrap64 {n : Int} (h1 : -9223372036854775808 ≤ n) (h2 : n ≤ 9223372036854775807) : IntKind.wrap .i64 n = n := by
  unfold IntKind.wrap
  simp only [IntKind.signed, IntKind.bits]
  simp
  omega
theorem lt_of_get {α : Type} {xs : List α} {i : Nat} {a : α} (h : xs[i]? = some a) : i < xs.length := (List.getElem?_eq_some_iff.1 h).1
theorem dec_lt {i n : Nat} (h : i < n) : decide ((i : Int) < (n : Int)) = true := by simp; omega
theorem dec_nlt {i : Nat} : decide ((i : Int) < (i : Int)) = false := by simp
theorem inB_lt {i n : Nat} (h : i < n) : inB (i : Int) n = true := by unfold inB; simp; omega
theorem wrapS {i n : Nat} (h : i < n) (hn : n ≤ 9223372036854775807) : IntKind.wrap .i64 ((i : Int) + 1) = (i : Int) + 1 := wrap64 (by omega) (by omega)
theorem bytes_get {s : ByteArray} {i : Nat} : strAt s (i : Int) = s.data.toList[i]? := by
  unfold strAt
  rw [if_pos (by omega)]
  simp only [Int.toNat_natCast]
  show s[i]? = _
  cases h : s.data.toList[i]? with
  | none =>
    have := List.getElem?_eq_none_iff.1 h
    rw [Array.length_toList] at this
    exact getElem?_neg s i (by show ¬ i < s.data.size; omega)
  | some b =>
    have h2 := (List.getElem?_eq_some_iff.1 h)
    obtain ⟨h3, h4⟩ := h2
    rw [Array.length_toList] at h3
    rw [getElem?_pos s i h3]
    congr 1
theorem bytes_len {s : ByteArray} : s.size = s.data.toList.length := by rw [Array.length_toList]; rfl
end Go.Proofs.YtjgiibfejfkocaaGreatDoor.I

namespace Go.Proofs.YtjgiibfejfkocaaGreatDoor.I
open Go.RowKit
set_option linter.unusedVariables false

abbrev DPt := Int × Int × Unit
abbrev DVal := Int × Int × ByteArray × Bool × Unit
abbrev DAtt := ByteArray × DVal × Unit
abbrev DFea := Int × Int × List (List DPt) × List DAtt × Int × Int × Unit

def found {O : Type} : Option O → Option (Unit ⊕ O)
  | some o => some (.inr o)
  | none => some (.inl ())
theorem foldL_find {α O : Type} {body : Nat → α → Unit → Option (Unit ⊕ O)} {out : Unit → O} (g : α → Option O) : ∀ (xs : List α) (i : Nat), (∀ (j : Nat) a, xs[j]? = some a → body (i + j) a () = found (g a)) →
    foldL body out i xs () = some ((xs.findSome? g).getD (out ()))
  | [], i, _ => rfl
  | a :: l, i, h => by
    have h0 := h 0 a rfl
    simp only [Nat.add_zero] at h0
    simp only [foldL, h0, List.findSome?_cons]
    cases hg : g a with
    | some o => rfl
    | none =>
      simp only [found]
      exact foldL_find g l (i + 1) (fun j b hb => by
        have := h (j + 1) b (by simpa using hb)
        rwa [show i + 1 + j = i + (j + 1) by omega])

def okB (b : UInt8) : Bool := !(decide ((b.toNat : Int) < 32)) && (!(decide (126 < (b.toNat : Int))) && !(decide ((b.toNat : Int) = 34)))
theorem find_all {α : Type} (p : α → Bool) {O : Type} (o : O) : ∀ (xs : List α), xs.findSome? (fun a => if p a then none else some o) = if xs.all p then none else some o
  | [] => rfl
  | a :: l => by
    rw [List.findSome?_cons, List.all_cons]
    cases h : p a with
    | true => simp [find_all p o l]
    | false => simp
theorem r38_eq (s : ByteArray) (hs : s.size ≤ 9223372036854775807) : r90 (s, ()) = some (s.data.toList.all okB, ()) := by
  unfold r90
  rw [loop_list (fun i _ => ((i, ()), ())) s.data.toList (fun i b _ => found (if okB b then none else some (Sum.inl ((false, ()), ())))) (fun _ => Sum.inr (Sum.inl ((), ()))) (fun i b _ h => ?_) (fun _ => ?_) ()]
  · rw [foldL_find (fun b => if okB b then none else some (Sum.inl ((false, ()), ()))) s.data.toList 0 (fun j a _ => rfl), find_all]
    cases s.data.toList.all okB <;> rfl
  · have hl := lt_of_get h
    have hlen : s.size = s.data.toList.length := bytes_len
    simp only [hlen, dec_lt hl, bytes_get, h, cond_true, Option.bind_some]
    rw [wrapS hl (by omega)]
    unfold okB
    cases decide ((b.toNat : Int) < 32) <;> cases decide (126 < (b.toNat : Int)) <;> cases decide ((b.toNat : Int) = 34) <;> rfl
  · simp only [← bytes_len, dec_nlt, cond_false]

def checkV (v : DVal) : Int :=
  if v.1 < 0 then 8 else if 3 < v.1 then 8 else if ¬ v.1 = 1 ∧ ¬ v.2.1 = 0 then 3 else if ¬ v.1 = 2 ∧ ¬ v.2.2.1 = ByteArray.mk (List.toArray []) then 3 else if ¬ v.1 = 3 ∧ v.2.2.2.1 = true then 3
  else if v.2.1 < -1000000000000 then 2 else if 1000000000000 < v.2.1 then 2 else if 40 < (v.2.2.1.size : Int) then 2 else if v.2.2.1.data.toList.all okB = true then 0 else 3
theorem r10_eq (v : DVal) (hs : v.2.2.1.size ≤ 9223372036854775807) : r72 (v, ()) = some (checkV v, ()) := by
  obtain ⟨k, n, s, b, ⟨⟩⟩ := v
  have h38 := r38_eq s hs
  unfold r72 checkV
  simp only [h38, Option.bind_some]
  generalize s.data.toList.all okB = a
  clear h38 hs
  generalize s.size = z
  by_cases h1 : k < 0
  · simp [h1]
  by_cases h2 : 3 < k
  · simp [h1, h2]
  have hk : k = 0 ∨ k = 1 ∨ k = 2 ∨ k = 3 := by omega
  by_cases h3 : n = 0 <;> by_cases h4 : s = ByteArray.mk (List.toArray []) <;> by_cases h5 : n < -1000000000000 <;> by_cases h6 : 1000000000000 < n <;> by_cases h7 : 40 < (z : Int) <;> rcases hk with rfl | rfl | rfl | rfl <;> cases b <;> cases a <;> simp [h3, h4, h5, h6, h7]
def okI (b : Int) : Bool := !(decide (b < 32)) && (!(decide (126 < b)) && !(decide (b = 34)))
theorem okI_all (s : ByteArray) : (bytesOf s).all okI = s.data.toList.all okB := by
  unfold bytesOf
  rw [List.all_map]
  rfl
theorem r29_eq (v : DVal) (hs : v.2.2.1.size ≤ 9223372036854775807) : r38 (v, ()) = some (checkV v, ()) := by
  obtain ⟨k, n, s, b, ⟨⟩⟩ := v
  unfold r38 checkV
  have hb : (bytesOf s).length = s.size := by unfold bytesOf; rw [List.length_map, ← bytes_len]
  rw [loop_list (fun i _ => ((i, ()), ())) (bytesOf s) (fun i b _ => found (if okI b then none else some (Sum.inl ((3, ()), ())))) (fun _ => Sum.inr (Sum.inl ((), ()))) (fun i b _ h => ?_) (fun _ => ?_) ()]
  · rw [foldL_find (fun b => if okI b then none else some (Sum.inl ((3, ()), ()))) (bytesOf s) 0 (fun j a _ => rfl), find_all, okI_all]
    generalize s.data.toList.all okB = a
    clear hb hs
    generalize s.size = z
    by_cases h1 : k < 0
    · simp [h1]
    by_cases h2 : 3 < k
    · simp [h1, h2]
    have hk : k = 0 ∨ k = 1 ∨ k = 2 ∨ k = 3 := by omega
    have hn : ((0 : Int) = n) = (n = 0) := propext eq_comm
    have hc : ((ByteArray.mk #[]) = s) = (s = ByteArray.mk #[]) := propext eq_comm
    by_cases h3 : n = 0 <;> by_cases h4 : s = ByteArray.mk (List.toArray []) <;> by_cases h5 : n < -1000000000000 <;> by_cases h6 : 1000000000000 < n <;> by_cases h7 : 40 < (z : Int) <;> rcases hk with rfl | rfl | rfl | rfl <;> cases b <;> cases a <;> simp [h3, h4, h5, h6, h7, inB, sumE, hc, hn]
  · have hl := lt_of_get h
    simp only [dec_lt hl, inB_lt hl, Int.toNat_natCast, h, cond_true, Option.bind_some]
    rw [wrapS hl (by rw [hb]; exact hs)]
    unfold okI
    cases decide (b < 32) <;> cases decide (126 < b) <;> cases decide (b = 34) <;> rfl
  · simp only [dec_nlt, cond_false]
end Go.Proofs.YtjgiibfejfkocaaGreatDoor.I

namespace Go.Proofs.YtjgiibfejfkocaaGreatDoor.I
open Go.RowKit
set_option linter.unusedVariables false
theorem loop_up {S D O : Type} {step : D → Option (D ⊕ O)} (emb : Int → S → D) (n : Nat) (Inv : Nat → S → Prop) (Post : O → Prop)
    (hin : ∀ (i : Nat) (s : S), i < n → Inv i s → (∃ s', step (emb (i : Int) s) = some (.inl (emb ((i : Int) + 1) s')) ∧ Inv (i + 1) s') ∨ ∃ o, step (emb (i : Int) s) = some (.inr o) ∧ Post o)
    (hend : ∀ s, Inv n s → ∃ o, step (emb (n : Int) s) = some (.inr o) ∧ Post o) : ∀ (k : Nat) (s : S), k ≤ n → Inv k s → ∃ o, loop step (emb (k : Int) s) = some o ∧ Post o := by
  have key : ∀ (m k : Nat) (s : S), n - k = m → k ≤ n → Inv k s → ∃ o, loop step (emb (k : Int) s) = some o ∧ Post o := by
    intro m
    induction m with
    | zero =>
      intro k s hm hk hI
      have : k = n := by omega
      subst this
      obtain ⟨o, h1, h2⟩ := hend s hI
      rw [loop_eq, h1]
      exact ⟨o, rfl, h2⟩
    | succ m ih =>
      intro k s hm hk hI
      rcases hin k s (by omega) hI with ⟨s', h1, h2⟩ | ⟨o, h1, h2⟩
      · rw [loop_eq, h1]
        exact ih (k + 1) s' (by omega) (by omega) h2
      · rw [loop_eq, h1]
        exact ⟨o, rfl, h2⟩
  exact fun k s => key _ k s rfl
theorem bind_loop {D O R : Type} {step : D → Option (D ⊕ O)} {d : D} {f : O → Option R} {Post : O → Prop} {y : R} (h : ∃ o, loop step d = some o ∧ Post o) (k : ∀ o, Post o → f o = some y) : Option.bind (loop step d) f = some y := by
  obtain ⟨o, h1, h2⟩ := h
  rw [h1]
  exact k o h2
/-- From the first element on; only one way out. -/
theorem loop_all {S D O R : Type} {step : D → Option (D ⊕ O)} {f : O → Option R} {y : R} (emb : Int → S → D) (n : Nat) (Inv : Nat → S → Prop) (out : S → O)
    (hin : ∀ (i : Nat) (s : S), i < n → Inv i s → ∃ s', step (emb (i : Int) s) = some (.inl (emb ((i : Int) + 1) s')) ∧ Inv (i + 1) s')
    (hend : ∀ s, Inv n s → step (emb (n : Int) s) = some (.inr (out s))) (s0 : S) (h0 : Inv 0 s0) (k : ∀ s, Inv n s → f (out s) = some y) : Option.bind (loop step (emb 0 s0)) f = some y := by
  have h := loop_up (step := step) emb n Inv (fun o => ∃ s, Inv n s ∧ o = out s) (fun i s hi hs => .inl (hin i s hi hs)) (fun s hs => ⟨_, hend s hs, s, hs, rfl⟩) 0 s0 (Nat.zero_le _) h0
  refine bind_loop h ?_
  rintro o ⟨s, hs, rfl⟩
  exact k s hs
/-- The state after each round is told. -/
theorem loop_is {S D O R : Type} {step : D → Option (D ⊕ O)} {f : O → Option R} {y : R} (emb : Int → S → D) (n : Nat) (st : Nat → S) (out : S → O)
    (hin : ∀ (i : Nat), i < n → step (emb (i : Int) (st i)) = some (.inl (emb ((i : Int) + 1) (st (i + 1)))))
    (hend : step (emb (n : Int) (st n)) = some (.inr (out (st n)))) (k : f (out (st n)) = some y) (s0 : S) (h0 : s0 = st 0) : Option.bind (loop step (emb 0 s0)) f = some y :=
  loop_all emb n (fun i s => s = st i) out (fun i s hi hs => ⟨_, by subst hs; exact hin i hi, rfl⟩) (fun s hs => by subst hs; exact hend) s0 h0 (fun s hs => by subst hs; exact k)
/-- What a loop that has ended has come to. -/
theorem loop_post {S D O : Type} {step : D → Option (D ⊕ O)} {o : O} (emb : Int → S → D) (n : Nat) (Inv : Nat → S → Prop) (Post : O → Prop) (s0 : S) (h1 : loop step (emb 0 s0) = some o)
    (hin : ∀ (i : Nat) (s : S), i < n → Inv i s → (∃ s', step (emb (i : Int) s) = some (.inl (emb ((i : Int) + 1) s')) ∧ Inv (i + 1) s') ∨ ∃ o, step (emb (i : Int) s) = some (.inr o) ∧ Post o)
    (hend : ∀ s, Inv n s → ∃ o, step (emb (n : Int) s) = some (.inr o) ∧ Post o) (h0 : Inv 0 s0) : Post o := by
  obtain ⟨o', h2, h3⟩ := loop_up emb n Inv Post hin hend 0 s0 (Nat.zero_le _) h0
  have h2 : loop step (emb 0 s0) = some o' := h2
  rw [h1] at h2
  injection h2 with h2
  subst h2
  exact h3
/-- It comes to an answer of which this holds. -/
def Yl {α : Type} (o : Option α) (Q : α → Prop) : Prop := ∃ y, o = some y ∧ Q y
theorem yl_some {α : Type} {Q : α → Prop} {y : α} (h : Q y) : Yl (some y) Q := ⟨y, rfl, h⟩
theorem yl_bind {α β : Type} {o : Option α} {f : α → Option β} {P : α → Prop} {Q : β → Prop} (h : Yl o P) (k : ∀ x, P x → Yl (f x) Q) : Yl (Option.bind o f) Q := by
  obtain ⟨x, h1, h2⟩ := h
  rw [h1]
  exact k x h2
theorem yl_cond {α : Type} {b : Bool} {x y : Option α} {Q : α → Prop} (h : b = true → Yl x Q) (k : b = false → Yl y Q) : Yl (cond b x y) Q := by
  cases b
  · exact k rfl
  · exact h rfl
theorem yl_true {α : Type} {b : Bool} {x y : Option α} {Q : α → Prop} (hb : b = true) (h : Yl x Q) : Yl (cond b x y) Q := by
  subst hb; exact h
theorem yl_false {α : Type} {b : Bool} {x y : Option α} {Q : α → Prop} (hb : b = false) (h : Yl y Q) : Yl (cond b x y) Q := by
  subst hb; exact h
theorem yl_eq {α : Type} {o : Option α} {x : α} (h : o = some x) : Yl o (fun y => y = x) := ⟨x, h, rfl⟩
theorem take_succ {α : Type} {l : List α} {i : Nat} {a : α} (h : l[i]? = some a) : l.take (i + 1) = l.take i ++ [a] := by
  rw [List.take_add_one, h]; rfl
theorem get_lt {α : Type} {l : List α} {i : Nat} (h : i < l.length) : ∃ a, l[i]? = some a := ⟨_, List.getElem?_eq_getElem h⟩
theorem bind_of {α β : Type} {o : Option α} {x : α} {f : α → Option β} {y : β} (h : o = some x) (k : f x = some y) : Option.bind o f = some y := by
  rw [h]; exact k
/-- As loop_up; each round told by what it comes to. -/
theorem loop_upY {S D O : Type} {step : D → Option (D ⊕ O)} (emb : Int → S → D) (n : Nat) (Inv : Nat → S → Prop) (Post : O → Prop)
    (hin : ∀ (i : Nat) (s : S), i < n → Inv i s → Yl (step (emb (i : Int) s)) (fun y => (∃ s', y = .inl (emb ((i : Int) + 1) s') ∧ Inv (i + 1) s') ∨ ∃ o, y = .inr o ∧ Post o))
    (hend : ∀ s, Inv n s → Yl (step (emb (n : Int) s)) (fun y => ∃ o, y = .inr o ∧ Post o)) (k : Nat) (s : S) (hk : k ≤ n) (h0 : Inv k s) : Yl (loop step (emb (k : Int) s)) Post :=
  loop_up emb n Inv Post (fun i s hi hI => by
    obtain ⟨y, h1, ⟨s', rfl, h2⟩ | ⟨o, rfl, h2⟩⟩ := hin i s hi hI
    · exact .inl ⟨s', h1, h2⟩
    · exact .inr ⟨o, h1, h2⟩) (fun s hI => by
    obtain ⟨y, h1, o, rfl, h2⟩ := hend s hI
    exact ⟨o, h1, h2⟩) k s hk h0
end Go.Proofs.YtjgiibfejfkocaaGreatDoor.I

namespace Go.Proofs.YtjgiibfejfkocaaGreatDoor.I
open Go.RowKit
set_option linter.unusedVariables false
set_option linter.constructorNameAsVariable false
theorem name_eq (s : ByteArray) (h : s.size ≤ 9223372036854775807) : r71 (s, ()) = some (nameOk s, ()) := by
  unfold r71
  have : decide (s.size ≤ 9223372036854775807) = true := decide_eq_true h
  simp only [this, cond_true]
end Go.Proofs.YtjgiibfejfkocaaGreatDoor.I

namespace Go.Proofs.YtjgiibfejfkocaaGreatDoor.I
open Go.RowKit
set_option linter.unusedVariables false

/-- Element by element, each with the key of the one before. -/
def scan {α K O : Type} (F : K → α → Option O) (key : α → K) (o : O) : K → List α → O
  | _, [] => o
  | p, a :: l => match F p a with
    | some e => e
    | none => scan F key o (key a) l
def stepK {K O : Type} (k : K) : Option O → Option (K ⊕ O)
  | some o => some (.inr o)
  | none => some (.inl k)
theorem foldL_state {α K O : Type} {body : Nat → α → K → Option (K ⊕ O)} (F : K → α → Option O) (key : α → K) (o : O) : ∀ (l : List α) (i : Nat) (p : K), (∀ i a p, a ∈ l → body i a p = stepK (key a) (F p a)) → foldL body (fun _ => o) i l p = some (scan F key o p l)
  | [], _, _, _ => rfl
  | a :: l, i, p, h => by
    simp only [foldL, h i a p (by simp), scan]
    cases F p a with
    | some e => rfl
    | none => simp only [stepK]; exact foldL_state F key o l (i + 1) (key a) (fun i b p hb => h i b p (by simp [hb]))
def prevOf {α K : Type} (key : α → K) (p0 : K) (xs : List α) : Nat → K
  | 0 => p0
  | i + 1 => match xs[i]? with
    | some a => key a
    | none => p0
theorem foldL_prev {α K O : Type} {body : Nat → α → Unit → Option (Unit ⊕ O)} (F : K → α → Option O) (key : α → K) (o : O) (p0 : K) (xs : List α) (h : ∀ i a, xs[i]? = some a → body i a () = found (F (prevOf key p0 xs i) a)) :
    ∀ (l : List α) (i : Nat), xs.drop i = l → foldL body (fun _ => o) i l () = some (scan F key o (prevOf key p0 xs i) l)
  | [], _, _ => rfl
  | a :: l, i, hl => by
    have ha : xs[i]? = some a := by
      have := congrArg (fun l => l[0]?) hl
      simpa using this
    simp only [foldL, h i a ha, scan]
    cases F (prevOf key p0 xs i) a with
    | some e => rfl
    | none =>
      simp only [found]
      rw [foldL_prev F key o p0 xs h l (i + 1) (by rw [← List.drop_drop, hl]; rfl)]
      simp only [prevOf, ha]
theorem scan_map {α K O R : Type} (G : O → R) (F : K → α → Option O) (key : α → K) (o : O) : ∀ (l : List α) (p : K), G (scan F key o p l) = scan (fun p a => (F p a).map G) key (G o) p l
  | [], _ => rfl
  | a :: l, p => by
    simp only [scan]
    cases F p a with
    | some e => rfl
    | none => exact scan_map G F key o l (key a)
theorem scan_congr {α K O : Type} {F F' : K → α → Option O} {key : α → K} {o : O} : ∀ {l : List α} {p : K}, (∀ p a, a ∈ l → F p a = F' p a) → scan F key o p l = scan F' key o p l
  | [], _, _ => rfl
  | a :: l, p, h => by
    simp only [scan]
    rw [h p a (by simp)]
    cases F' p a with
    | some e => rfl
    | none => exact scan_congr (fun p b hb => h p b (by simp [hb]))

theorem less_nilS {k : ByteArray} (h : nameOk k = true) : strLt (ByteArray.mk (List.toArray [])) k = true := by
  have hs : 1 ≤ k.size := by
    unfold nameOk at h
    simp at h
    omega
  unfold strLt
  rw [ByteArray.toList_eq, ByteArray.toList_eq]
  have hl : k.data.toList ≠ [] := by
    intro e
    have : k.data.toList.length = 0 := by rw [e]; rfl
    rw [Array.length_toList] at this
    have h2 : k.size = k.data.size := rfl
    omega
  cases hk : k.data.toList with
  | nil => exact absurd hk hl
  | cons x m => rfl
theorem leq_lawL : ∀ a b : List UInt8, (Op.bytesLess a b || a == b) = !Op.bytesLess b a
  | [], [] => rfl
  | [], _ :: _ => rfl
  | _ :: _, [] => rfl
  | x :: l, y :: m => by
    have ih := leq_lawL l m
    unfold Op.bytesLess
    rcases Nat.lt_trichotomy x.toNat y.toNat with h | h | h
    · have h1 : x < y := UInt8.lt_iff_toNat_lt.2 h
      have h2 : ¬ y < x := fun e => by have := UInt8.lt_iff_toNat_lt.1 e; omega
      have h3 : (y == x) = false := by
        rw [beq_eq_false_iff_ne]
        intro e
        rw [e] at h
        omega
      simp [h1, h2, h3]
    · have h1 : x = y := UInt8.toNat_inj.1 h
      subst h1
      have h2 : ¬ x < x := fun e => by have := UInt8.lt_iff_toNat_lt.1 e; omega
      simp only [h2, decide_false, Bool.false_or, beq_self_eq_true, Bool.true_and, List.cons_beq_cons]
      exact ih
    · have h1 : ¬ x < y := fun e => by have := UInt8.lt_iff_toNat_lt.1 e; omega
      have h2 : y < x := UInt8.lt_iff_toNat_lt.2 h
      have h3 : (x == y) = false := by
        rw [beq_eq_false_iff_ne]
        intro e
        rw [e] at h
        omega
      simp [h1, h2, h3]
theorem leq_lawS (a b : ByteArray) : (strLt a b || decide (a = b)) = !strLt b a := by
  unfold strLt
  rw [← ba_beq, leq_lawL]
def attF (nils : Bool) (last : ByteArray) (a : DAtt) : Option Int :=
  if nameOk a.1 = false then some 16 else if strLt last a.1 = false then some 9 else if checkV a.2.1 ≠ 0 then some (checkV a.2.1) else if nils = false ∧ a.2.1.1 = 0 then some 3 else none
def attrsE (nils : Bool) (l : List DAtt) : Int := if 8 < l.length then 2 else scan (attF nils) (fun a => a.1) 0 (ByteArray.mk (List.toArray [])) l
def attW (e : Int) : ((Int × Unit) × Unit) ⊕ (Unit × Unit) ⊕ Empty := Sum.inl ((e, ()), ())
theorem attr_bounds {l : List DAtt} (h : small (.slice (.pair .str (.pair (.pair (.int .i64) (.pair (.int .i64) (.pair .str (.pair .bool .unit)))) .unit))) l) : l.length ≤ 9223372036854775807 ∧ ∀ a ∈ l, a.1.size ≤ 9223372036854775807 ∧ a.2.1.2.2.1.size ≤ 9223372036854775807 := by
  have hm : maxLen = 9223372036854775807 := rfl
  simp only [small, hm] at h
  exact ⟨h.1, fun a ha => ⟨(h.2 a ha).1, (h.2 a ha).2.1.2.2.1⟩⟩
theorem zeroV {v : DVal} (h : checkV v = 0) (hk : v.1 = 0) : v.2.1 = 0 ∧ v.2.2.1 = ByteArray.mk (List.toArray []) ∧ v.2.2.2.1 = false := by
  unfold checkV at h
  rw [hk] at h
  obtain ⟨k, n, s, b, ⟨⟩⟩ := v
  simp only at hk h ⊢
  subst hk
  by_cases h1 : n = 0
  · by_cases h2 : s = ByteArray.mk (List.toArray [])
    · cases b with
      | false => exact ⟨h1, h2, rfl⟩
      | true => simp [h1, h2] at h
    · simp only [List.toArray] at h2
      simp [h1, h2] at h
  · simp [h1] at h
set_option maxHeartbeats 1000000 in
theorem r22_eq (l : List DAtt) (nils : Bool) (hs : small (.slice (.pair .str (.pair (.pair (.int .i64) (.pair (.int .i64) (.pair .str (.pair .bool .unit)))) .unit))) l) : r49 (l, (nils, ())) = some (attrsE nils l, ()) := by
  obtain ⟨hl, hb⟩ := attr_bounds hs
  unfold r49 attrsE
  by_cases h8 : 8 < l.length
  · rw [if_pos h8]
    have : decide ((8 : Int) < (l.length : Int)) = true := by simp; omega
    simp only [this, cond_true]
  · rw [if_neg h8]
    have : decide ((8 : Int) < (l.length : Int)) = false := by simp; omega
    simp only [this, cond_false]
    rw [loop_list (fun i _ => ((i, ()), ())) l (fun i a _ => found ((attF nils (prevOf (fun a => a.1) (ByteArray.mk (List.toArray [])) l i) a).map attW)) (fun _ => Sum.inr (Sum.inl ((), ()))) (fun i a _ h => ?_) (fun _ => ?_) ()]
    · rw [foldL_prev (fun p a => (attF nils p a).map attW) (fun a => a.1) (Sum.inr (Sum.inl ((), ()))) (ByteArray.mk (List.toArray [])) l (fun i a _ => rfl) l 0 rfl]
      simp only [Option.bind_some]
      have := scan_map (sumE (fun x0 => some (x0.1.1, ())) (sumE (fun x0 => some ((0 : Int), ())) emptyE) : ((Int × Unit) × Unit) ⊕ (Unit × Unit) ⊕ Empty → Option (Int × Unit)) (fun p a => (attF nils p a).map attW) (fun a : DAtt => a.1) (Sum.inr (Sum.inl ((), ()))) l (ByteArray.mk (List.toArray []))
      refine this.trans ?_
      have h2 := scan_map (fun e : Int => some (e, ())) (attF nils) (fun a : DAtt => a.1) 0 l (ByteArray.mk (List.toArray []))
      refine Eq.trans ?_ h2.symm
      refine scan_congr (fun p a _ => ?_)
      cases attF nils p a <;> rfl
    · have hlt := lt_of_get h
      obtain ⟨hb1, hb2⟩ := hb a (List.mem_of_getElem? h)
      simp only [dec_lt hlt, inB_lt hlt, Int.toNat_natCast, h, cond_true, Option.bind_some]
      rw [wrapS hlt hl]
      have hn : r71 (a.1, ()) = some (nameOk a.1, ()) := by
        exact name_eq a.1 (by omega)
      have hv := r10_eq a.2.1 hb2
      have hv' : r72 ((a.2.1.1, (a.2.1.2.1, (a.2.1.2.2.1, (a.2.1.2.2.2.1, ())))), ()) = some (checkV a.2.1, ()) := hv
      simp only [hn, hv', Option.bind_some]
      cases hno : nameOk a.1 with
      | false => simp [attF, hno, found, stepTo, attW]
      | true =>
        simp only [Bool.not_true, cond_false]
        cases i with
        | zero =>
          have hd0 : decide ((0 : Int) < ((0 : Nat) : Int)) = false := by simp
          simp only [hd0, cond_false, prevOf]
          have hless := less_nilS hno
          by_cases hc : checkV a.2.1 = 0 <;> by_cases hk : a.2.1.1 = 0 <;> cases nils <;> simp [attF, hno, hless, hc, hk, found, stepTo, attW]
        | succ j =>
          have hd0 : decide ((0 : Int) < ((j + 1 : Nat) : Int)) = true := by simp
          obtain ⟨b, hbj⟩ : ∃ b, l[j]? = some b := ⟨_, List.getElem?_eq_getElem (by omega)⟩
          have hw : IntKind.wrap .i64 (((j + 1 : Nat) : Int) - 1) = (j : Int) := by rw [wrap64 (by omega) (by omega)]; omega
          simp only [hd0, cond_true, prevOf, hbj, hw, inB_lt (show j < l.length by omega), Int.toNat_natCast, Option.bind_some]
          cases hless : strLt b.1 a.1 with
          | false => simp [attF, hno, hless, found, stepTo, attW]
          | true =>
            by_cases hc : checkV a.2.1 = 0 <;> by_cases hk : a.2.1.1 = 0 <;> cases nils <;> simp [attF, hno, hless, hc, hk, found, stepTo, attW]
    · simp only [dec_nlt, cond_false]
set_option maxHeartbeats 1000000 in
theorem r23_eq (l : List DAtt) (nils : Bool) (hs : small (.slice (.pair .str (.pair (.pair (.int .i64) (.pair (.int .i64) (.pair .str (.pair .bool .unit)))) .unit))) l) : r27 (l, (nils, ())) = some (attrsE nils l, ()) := by
  obtain ⟨hl, hb⟩ := attr_bounds hs
  unfold r27 attrsE
  by_cases h8 : 8 < l.length
  · rw [if_pos h8]
    have : decide ((8 : Int) < (l.length : Int)) = true := by simp; omega
    simp only [this, cond_true]
  · rw [if_neg h8]
    have : decide ((8 : Int) < (l.length : Int)) = false := by simp; omega
    simp only [this, cond_false]
    rw [loop_list (fun i (p : ByteArray) => ((p, (i, ())), ())) l (fun i a p => stepK a.1 ((attF nils p a).map attW)) (fun _ => Sum.inr (Sum.inl ((), ()))) (fun i a p h => ?_) (fun _ => ?_) (ByteArray.mk (List.toArray []))]
    · rw [foldL_state (fun p a => (attF nils p a).map attW) (fun a => a.1) (Sum.inr (Sum.inl ((), ()))) l 0 _ (fun i a p _ => rfl)]
      simp only [Option.bind_some]
      have := scan_map (sumE (fun x0 => some (x0.1.1, ())) (sumE (fun x0 => some ((0 : Int), ())) emptyE) : ((Int × Unit) × Unit) ⊕ (Unit × Unit) ⊕ Empty → Option (Int × Unit)) (fun p a => (attF nils p a).map attW) (fun a : DAtt => a.1) (Sum.inr (Sum.inl ((), ()))) l (ByteArray.mk (List.toArray []))
      refine this.trans ?_
      have h2 := scan_map (fun e : Int => some (e, ())) (attF nils) (fun a : DAtt => a.1) 0 l (ByteArray.mk (List.toArray []))
      refine Eq.trans ?_ h2.symm
      refine scan_congr (fun p a _ => ?_)
      cases attF nils p a <;> rfl
    · have hlt := lt_of_get h
      obtain ⟨hb1, hb2⟩ := hb a (List.mem_of_getElem? h)
      simp only [dec_lt hlt, inB_lt hlt, Int.toNat_natCast, h, cond_true, Option.bind_some]
      rw [wrapS hlt hl]
      have hn : r37 (a.1, ()) = some (nameOk a.1, ()) := by
        unfold r37
        have : decide (a.1.size ≤ 9223372036854775807) = true := by simp; omega
        simp only [this, cond_true]
      have hv' : r38 ((a.2.1.1, (a.2.1.2.1, (a.2.1.2.2.1, (a.2.1.2.2.2.1, ())))), ()) = some (checkV a.2.1, ()) := r29_eq a.2.1 hb2
      simp only [hn, hv', Option.bind_some, leq_lawS]
      cases hno : nameOk a.1 with
      | false => simp [attF, hno, stepK, stepTo, attW]
      | true =>
        cases hless : strLt p a.1 with
        | false => simp [attF, hno, hless, stepK, stepTo, attW]
        | true =>
          by_cases hc : checkV a.2.1 = 0
          · by_cases hk : a.2.1.1 = 0
            · obtain ⟨z1, z2, z3⟩ := zeroV hc hk
              cases nils <;> simp [attF, hno, hless, hc, hk, stepK, stepTo, attW, z1, z2, z3]
            · cases nils <;> simp [attF, hno, hless, hc, hk, stepK, stepTo, attW]
          · cases nils <;> simp [attF, hno, hless, hc, stepK, stepTo, attW]
    · simp only [dec_nlt, cond_false]
end Go.Proofs.YtjgiibfejfkocaaGreatDoor.I

namespace Go.Proofs.YtjgiibfejfkocaaGreatDoor.I
open Go.RowKit
set_option linter.unusedVariables false
set_option linter.constructorNameAsVariable false

/-- A search by index. -/
theorem foldL_index {α O : Type} {body : Nat → α → Unit → Option (Unit ⊕ O)} {out : Unit → O} (p : α → Bool) (W : Int → O) : ∀ (xs : List α) (i : Nat), (∀ (j : Nat) a, xs[j]? = some a → body (i + j) a () = found (if p a then some (W ((i + j : Nat) : Int)) else none)) →
    ∃ r, foldL body out i xs () = some r ∧ ((xs.any p = true ∧ ∃ j : Nat, r = W (j : Int)) ∨ (xs.any p = false ∧ r = out ()))
  | [], i, _ => ⟨out (), rfl, .inr ⟨rfl, rfl⟩⟩
  | a :: l, i, h => by
    have h0 := h 0 a rfl
    simp only [Nat.add_zero] at h0
    simp only [foldL, h0, List.any_cons]
    cases hp : p a with
    | true => exact ⟨_, rfl, .inl ⟨rfl, i, rfl⟩⟩
    | false =>
      obtain ⟨r, h1, h2⟩ := foldL_index p W l (i + 1) (fun j b hb => by
        have := h (j + 1) b (by simpa using hb)
        rwa [show i + 1 + j = i + (j + 1) by omega])
      exact ⟨r, h1, by simpa using h2⟩
theorem loop_list1 {α S D O : Type} {step : D → Option (D ⊕ O)} (emb : Int → S → D) (xs : List α) (body : Nat → α → S → Option (S ⊕ O)) (out : S → O)
    (hin : ∀ (i : Nat) a s, xs[i + 1]? = some a → step (emb ((i : Int) + 1) s) = stepTo emb (i + 1) (body (i + 1) a s))
    (hend : ∀ s, step (emb (xs.length : Int) s) = some (.inr (out s))) (h1 : 1 ≤ xs.length) (s : S) : loop step (emb 1 s) = foldL body out 1 (xs.drop 1) s := by
  have key : ∀ (l : List α) (i : Nat) (s : S), i + 1 ≤ xs.length → xs.drop (i + 1) = l → loop step (emb ((i + 1 : Nat) : Int) s) = foldL body out (i + 1) l s := by
    intro l
    induction l with
    | nil =>
      intro i s hi hl
      have : i + 1 = xs.length := by
        have := congrArg List.length hl
        simp at this; omega
      rw [this, loop_eq, hend]
      rfl
    | cons a l ih =>
      intro i s hi hl
      have ha : xs[i + 1]? = some a := by
        have := congrArg (fun l => l[0]?) hl
        simpa using this
      have hlt : i + 1 < xs.length := (List.getElem?_eq_some_iff.1 ha).1
      have hd : xs.drop (i + 1 + 1) = l := by rw [← List.drop_drop, hl]; rfl
      have hs := hin i a s ha
      rw [loop_eq, show ((i + 1 : Nat) : Int) = (i : Int) + 1 by omega, hs]
      simp only [foldL]
      cases hb : body (i + 1) a s with
      | none => rfl
      | some r =>
        cases r with
        | inr o => rfl
        | inl s' =>
          simp only [stepTo]
          have := ih (i + 1) s' (by omega) hd
          rwa [show ((i + 1 + 1 : Nat) : Int) = ((i + 1 : Nat) : Int) + 1 by omega] at this
  exact key (xs.drop 1) 0 s h1 rfl

def far (q : DPt) : Bool := decide (q.1 < -1048576) || (decide (1048576 < q.1) || (decide (q.2.1 < -1048576) || decide (1048576 < q.2.1)))
def ptEq (a b : DPt) : Bool := decide (a.1 = b.1) && decide (a.2.1 = b.2.1)
def adj : List DPt → Bool
  | a :: b :: l => ptEq a b || adj (b :: l)
  | _ => false
def partE (kind : Int) (p : List DPt) : Int :=
  if p.any far = true then 1 else if kind = 1 then (if p.length = 1 then 0 else 3) else if kind = 2 then (if p.length < 2 then 3 else if adj p = true then 3 else 0) else 0
theorem clamp_iff (x : Int) : decide (x = maxI (-1048576) (minI x 1048576)) = !(decide (x < -1048576) || decide (1048576 < x)) := by
  rw [Bool.eq_iff_iff]
  simp only [decide_eq_true_eq, Bool.not_eq_true', Bool.or_eq_false_iff, decide_eq_false_iff_not]
  unfold maxI minI
  split <;> split <;> omega
theorem r86_eq (q : DPt) : r89 (q, ()) = some (far q, ()) := by
  obtain ⟨x, y, ⟨⟩⟩ := q
  unfold r89 r56 r79 r93
  simp only [Option.bind_some]
  have hw : IntKind.wrap .i64 (0 - 1048576) = -1048576 := by rw [wrap64 (by omega) (by omega)]; rfl
  rw [hw, clamp_iff, clamp_iff]
  unfold far
  congr 2
  simp only
  cases decide (x < -1048576) <;> cases decide (1048576 < x) <;> cases decide (y < -1048576) <;> cases decide (1048576 < y) <;> rfl
theorem r48_eq (p : List DPt) : r69 (p, ()) = some (decide ((200 : Int) < (p.length : Int)), ()) := rfl
theorem r85_eq (p : List DPt) (hl : p.length ≤ 9223372036854775807) : r54_89 (p, ((), ())) = some (p.any far, ()) := by
  unfold r54_89 r78_89
  rw [loop_list (fun i _ => ((i, ()), ())) p (fun i a _ => found (if far a then some (Sum.inl (((i : Int), ()), ())) else none)) (fun _ => Sum.inr (Sum.inl ((), ()))) (fun i a _ h => ?_) (fun _ => ?_) ()]
  · obtain ⟨r, h1, h2⟩ := foldL_index (body := fun (i : Nat) a (_ : Unit) => found (if far a then some (Sum.inl (((i : Int), ()), ())) else none)) (out := fun _ => (Sum.inr (Sum.inl ((), ())) : ((Int × Unit) × Unit) ⊕ (Unit × Unit) ⊕ Empty)) far (fun i => Sum.inl ((i, ()), ())) p 0 (fun j a _ => rfl)
    rw [h1]
    rcases h2 with ⟨h2, j, rfl⟩ | ⟨h2, rfl⟩
    · rw [h2]; simp [sumE]
    · rw [h2]; rfl
  · have hlt := lt_of_get h
    have h86 : r89 ((a.1, (a.2.1, ())), ()) = some (far a, ()) := r86_eq a
    simp only [dec_lt hlt, inB_lt hlt, Int.toNat_natCast, h, cond_true, Option.bind_some, h86]
    rw [wrapS hlt hl]
    cases far a <;> rfl
  · simp only [dec_nlt, cond_false]
end Go.Proofs.YtjgiibfejfkocaaGreatDoor.I

namespace Go.Proofs.YtjgiibfejfkocaaGreatDoor.I
open Go.RowKit
set_option linter.unusedVariables false
set_option linter.constructorNameAsVariable false

theorem ptEq_comm (a b : DPt) : ptEq a b = ptEq b a := by
  unfold ptEq
  have h1 : decide (a.1 = b.1) = decide (b.1 = a.1) := decide_eq_decide.2 eq_comm
  have h2 : decide (a.2.1 = b.2.1) = decide (b.2.1 = a.2.1) := decide_eq_decide.2 eq_comm
  rw [h1, h2]
abbrev O3 := ((Int × Unit) × Unit) ⊕ (Unit × Unit) ⊕ Empty
def w3 (e : Int) : O3 := Sum.inl ((e, ()), ())
def w0 : O3 := Sum.inr (Sum.inl ((), ()))
theorem scan_adj (p : List DPt) (a : DPt) : scan (fun p b => if ptEq p b then some (w3 3) else none) id w0 a p = if adj (a :: p) then w3 3 else w0 := by
  induction p generalizing a with
  | nil => simp [adj, scan]
  | cons b l ih =>
    simp only [adj, scan]
    by_cases h : ptEq a b = true
    · simp [h]
    · simpa [h] using ih b
theorem foldL_ahead {body : Nat → DPt → Unit → Option (Unit ⊕ O3)} (xs : List DPt) (h : ∀ i a, xs[i]? = some a → body i a () = found (match xs[i + 1]? with | some b => if ptEq a b then some (w3 3) else none | none => none)) :
    ∀ (l : List DPt) (i : Nat), xs.drop i = l → foldL body (fun _ => w0) i l () = some (if adj l then w3 3 else w0)
  | [], _, _ => rfl
  | a :: l, i, hl => by
    have ha : xs[i]? = some a := by
      have := congrArg (fun l => l[0]?) hl
      simpa using this
    have hd : xs.drop (i + 1) = l := by rw [← List.drop_drop, hl]; rfl
    have hn : xs[i + 1]? = l[0]? := by rw [← hd]; simp
    simp only [foldL, h i a ha, hn]
    cases l with
    | nil =>
      simp only [List.getElem?_nil, found]
      rfl
    | cons b l =>
      simp only [List.getElem?_cons_zero, adj]
      by_cases hp : ptEq a b = true
      · simp [hp, found]
      · have ih := foldL_ahead xs h (b :: l) (i + 1) hd
        simpa [hp, found] using ih
theorem foldL_nothing {α O : Type} {body : Nat → α → Unit → Option (Unit ⊕ O)} {out : Unit → O} : ∀ (l : List α) (i : Nat), (∀ i a, a ∈ l → body i a () = some (.inl ())) → foldL body out i l () = some (out ())
  | [], _, _ => rfl
  | a :: l, i, h => by
    simp only [foldL, h i a (by simp)]
    exact foldL_nothing l (i + 1) (fun i b hb => h i b (by simp [hb]))
set_option maxHeartbeats 1000000 in
theorem r49_eq (kind : Int) (p : List DPt) (hl : p.length ≤ 9223372036854775807) : r70 (kind, (p, ())) = some (partE kind p, ()) := by
  unfold r70 partE
  simp only [r85_eq p hl, Option.bind_some]
  cases hf : p.any far with
  | true => simp
  | false =>
    simp only [cond_false, Bool.false_eq_true, if_false]
    by_cases h1 : kind = 1
    · subst h1
      by_cases h2 : p.length = 1
      · simp [h2]
      · have : ¬ ((p.length : Int) = 1) := by omega
        simp [h2, this]
    · by_cases h2 : kind = 2
      · subst h2
        by_cases h3 : p.length < 2
        · have : ((p.length : Int) < 2) := by omega
          simp [h3, this]
        · have h3' : ¬ ((p.length : Int) < 2) := by omega
          simp only [h1, h3, h3', decide_false, decide_true, cond_true, cond_false, if_false, if_true]
          rw [loop_list1 (fun i _ => ((i, ()), ())) p (fun i a _ => found (if ptEq (prevOf id a p i) a then some (w3 3) else none)) (fun _ => w0) (fun i a _ h => ?_) (fun _ => ?_) (by omega) ()]
          · obtain ⟨a, l, rfl⟩ : ∃ a l, p = a :: l := by
              cases p with
              | nil => simp at h3
              | cons a l => exact ⟨a, l, rfl⟩
            have := foldL_prev (body := fun i (b : DPt) _ => found (if ptEq (prevOf id b (a :: l) i) b then some (w3 3) else none)) (fun p b => if ptEq p b then some (w3 3) else none) id w0 a (a :: l) (fun i b hb => by
              cases i with
              | zero => simp at hb; subst hb; rfl
              | succ i =>
                have hlt := lt_of_get hb
                have : ∃ c, (a :: l)[i]? = some c := ⟨_, List.getElem?_eq_getElem (by omega)⟩
                obtain ⟨c, hc⟩ := this
                simp only [prevOf, hc]) l 1 rfl
            rw [show (a :: l).drop 1 = l from rfl, this]
            simp only [prevOf, List.getElem?_cons_zero, id, scan_adj, Option.bind_some]
            cases adj (a :: l) <;> rfl
          · have hlt := lt_of_get h
            obtain ⟨b, hb⟩ : ∃ b, p[i]? = some b := ⟨_, List.getElem?_eq_getElem (by omega)⟩
            have e1 : ((i : Int) + 1) = ((i + 1 : Nat) : Int) := by omega
            have hw : IntKind.wrap .i64 (((i + 1 : Nat) : Int) - 1) = (i : Int) := by rw [wrap64 (by omega) (by omega)]; omega
            simp only [e1, dec_lt hlt, inB_lt hlt, Int.toNat_natCast, h, cond_true, Option.bind_some, hw, inB_lt (show i < p.length by omega), hb, prevOf, id]
            rw [wrapS hlt hl, ← show ptEq a b = (decide (a.1 = b.1) && decide (a.2.1 = b.2.1)) from rfl, ptEq_comm a b]
            cases ptEq b a <;> rfl
          · simp only [dec_nlt, cond_false]
            rfl
      · simp [h1, h2]

/-- Both checks of parts, as far as the areas. -/
def partsE (area : Option (Int × Unit)) (kind : Int) (l : List (List DPt)) : Option (Int × Unit) :=
  if kind < 1 then some (8, ()) else if 3 < kind then some (8, ()) else if 20 < l.length then some (2, ()) else if l.any (fun p => decide ((200 : Int) < (p.length : Int))) = true then some (2, ()) else if l.length = 0 then some (4, ())
  else match l.findSome? (fun p => if partE kind p = 0 then none else some (partE kind p)) with
    | some e => some (e, ())
    | none => if kind = 3 then area else some (0, ())
theorem parts_bounds {l : List (List DPt)} (h : small (.slice (.slice (.pair (.int .i64) (.pair (.int .i64) .unit)))) l) : l.length ≤ 9223372036854775807 ∧ ∀ p ∈ l, p.length ≤ 9223372036854775807 := by
  have hm : maxLen = 9223372036854775807 := rfl
  simp only [small, hm] at h
  exact ⟨h.1, fun p hp => (h.2 p hp).1⟩
theorem find_w3 (F : List DPt → Int) (l : List (List DPt)) : (l.findSome? (fun p => if F p = 0 then none else some (w3 (F p)))).getD w0 = match l.findSome? (fun p => if F p = 0 then none else some (F p)) with
    | some e => w3 e
    | none => w0 := by
  induction l with
  | nil => rfl
  | cons p l ih =>
    simp only [List.findSome?_cons]
    by_cases h : F p = 0
    · simpa [h] using ih
    · simp [h]
theorem r47_eq (l : List (List DPt)) (hl : l.length ≤ 9223372036854775807) : r68_69 (l, ((), ())) = some (l.any (fun p => decide ((200 : Int) < (p.length : Int))), ()) := by
  unfold r68_69 r88_69
  rw [loop_list (fun i _ => ((i, ()), ())) l (fun i p _ => found (if (fun p : List DPt => decide ((200 : Int) < (p.length : Int))) p then some (w3 (i : Int)) else none)) (fun _ => w0) (fun i a _ h => ?_) (fun _ => ?_) ()]
  · obtain ⟨r, h1, h2⟩ := foldL_index (body := fun (i : Nat) p (_ : Unit) => found (if (fun p : List DPt => decide ((200 : Int) < (p.length : Int))) p then some (w3 (i : Int)) else none)) (out := fun _ => w0) (fun p : List DPt => decide ((200 : Int) < (p.length : Int))) w3 l 0 (fun j a _ => by rw [Nat.zero_add])
    rw [h1]
    rcases h2 with ⟨h2, j, rfl⟩ | ⟨h2, rfl⟩
    · rw [h2]; simp [sumE, w3]
    · rw [h2]; rfl
  · have hlt := lt_of_get h
    simp only [dec_lt hlt, inB_lt hlt, Int.toNat_natCast, h, cond_true, Option.bind_some]
    rw [wrapS hlt hl, r48_eq a]
    by_cases hd : (200 : Int) < (a.length : Int)
    · simp [hd, found, stepTo, w3]
    · simp [hd, found, stepTo]
  · simp only [dec_nlt, cond_false]
    rfl
set_option maxHeartbeats 1000000 in
theorem r20_eq (kind : Int) (l : List (List DPt)) (hs : small (.slice (.slice (.pair (.int .i64) (.pair (.int .i64) .unit)))) l) : r48 (kind, (l, ())) = partsE (Option.bind (r36 (l, ())) fun x => some (x.1, ())) kind l := by
  obtain ⟨hl, hb⟩ := parts_bounds hs
  unfold r48 partsE
  simp only [r47_eq l hl, Option.bind_some]
  by_cases h1 : kind < 1
  · simp [h1]
  by_cases h2 : 3 < kind
  · simp [h1, h2]
  by_cases h3 : 20 < l.length
  · have : (20 : Int) < (l.length : Int) := by omega
    simp [h1, h2, h3, this]
  have h3' : ¬ (20 : Int) < (l.length : Int) := by omega
  generalize l.any (fun p => decide ((200 : Int) < (p.length : Int))) = long
  by_cases h4 : l.length = 0
  · cases long <;> simp [h1, h2, h4]
  have h4' : ¬ (l.length : Int) = 0 := by omega
  simp only [h1, h2, h3, h3', h4, h4', decide_false, cond_false, if_false]
  cases long with
  | true => rfl
  | false =>
    simp only [cond_false, Bool.false_eq_true, if_false]
    rw [loop_list (fun i _ => ((i, ()), ())) l (fun i p _ => found (if partE kind p = 0 then none else some (w3 (partE kind p)))) (fun _ => w0) (fun i a _ h => ?_) (fun _ => ?_) ()]
    · rw [foldL_find (fun p => if partE kind p = 0 then none else some (w3 (partE kind p))) l 0 (fun j a _ => rfl), find_w3 (partE kind) l]
      simp only [Option.bind_some]
      cases l.findSome? (fun p => if partE kind p = 0 then none else some (partE kind p)) with
      | some e => rfl
      | none =>
        by_cases h5 : kind = 3
        · simp [h5, w0, sumE]
        · simp [h5, w0, sumE]
    · have hlt := lt_of_get h
      simp only [dec_lt hlt, inB_lt hlt, Int.toNat_natCast, h, cond_true, Option.bind_some, r49_eq kind a (hb a (List.mem_of_getElem? h))]
      rw [wrapS hlt hl]
      by_cases hp : partE kind a = 0
      · simp [hp, found, stepTo]
      · simp [hp, found, stepTo, w3]
    · simp only [dec_nlt, cond_false]
      rfl
set_option maxHeartbeats 4000000 in
theorem r21_eq (kind : Int) (l : List (List DPt)) (hs : small (.slice (.slice (.pair (.int .i64) (.pair (.int .i64) .unit)))) l) : r26 (kind, (l, ())) = partsE (Option.bind (r36 (l, ())) fun x => some (x.1, ())) kind l := by
  obtain ⟨hl, hb⟩ := parts_bounds hs
  unfold r26 partsE
  by_cases h1 : kind < 1
  · simp [h1]
  by_cases h2 : 3 < kind
  · simp [h1, h2]
  simp only [h1, h2, decide_false, cond_false, if_false]
  rw [loop_list (fun i (b : Bool) => ((b, (i, ())), ())) l (fun i p b => some (Sum.inl (b || decide ((200 : Int) < (p.length : Int))))) (fun b => Sum.inl ((b, ()), ())) (fun i a b h => ?_) (fun _ => ?_) (decide ((20 : Int) < (l.length : Int)))]
  · have key : ∀ (m : List (List DPt)) (i : Nat) (b : Bool), foldL (fun (i : Nat) (p : List DPt) (b : Bool) => (some (Sum.inl (b || decide ((200 : Int) < (p.length : Int)))) : Option (Bool ⊕ (((Bool × Unit) × Unit) ⊕ Empty)))) (fun b => Sum.inl ((b, ()), ())) i m b = some (Sum.inl ((b || m.any (fun p => decide ((200 : Int) < (p.length : Int))), ()), ())) := by
      intro m
      induction m with
      | nil => intro i b; simp [foldL]
      | cons p m ih => intro i b; simp only [foldL, ih, List.any_cons, Bool.or_assoc]
    rw [key]
    simp only [Option.bind_some, sumE]
    by_cases h3 : 20 < l.length
    · have : (20 : Int) < (l.length : Int) := by omega
      simp [h3, this]
    have h3' : ¬ (20 : Int) < (l.length : Int) := by omega
    simp only [h3, h3', decide_false, Bool.false_or, if_false]
    generalize l.any (fun p => decide ((200 : Int) < (p.length : Int))) = long
    cases long with
    | true => rfl
    | false =>
      simp only [cond_false, Bool.false_eq_true, if_false]
      by_cases h4 : l.length = 0
      · simp [h4]
      have h4' : ¬ (l.length : Int) = 0 := by omega
      simp only [h4, h4', decide_false, cond_false, if_false]
      rw [loop_list (fun i _ => ((i, ()), ())) l (fun i p _ => found (if partE kind p = 0 then none else some (w3 (partE kind p)))) (fun _ => w0) (fun i a _ h => ?_) (fun _ => ?_) ()]
      · rw [foldL_find (fun p => if partE kind p = 0 then none else some (w3 (partE kind p))) l 0 (fun j a _ => rfl), find_w3 (partE kind) l]
        simp only [Option.bind_some]
        cases l.findSome? (fun p => if partE kind p = 0 then none else some (partE kind p)) with
        | some e => rfl
        | none =>
          by_cases h5 : kind = 3
          · simp [h5, w0, sumE]
          · simp [h5, w0, sumE]
      · have hlt := lt_of_get h
        have hal := hb a (List.mem_of_getElem? h)
        simp only [dec_lt hlt, inB_lt hlt, Int.toNat_natCast, h, cond_true, Option.bind_some]
        rw [wrapS hlt hl]
        rw [loop_list (fun i _ => ((i, ()), ())) a (fun i q _ => found (if far q then some (w3 1) else none)) (fun _ => w0) (fun i q _ hq => ?_) (fun _ => ?_) ()]
        · rw [foldL_find (fun q => if far q then some (w3 1) else none) a 0 (fun j q _ => rfl)]
          have hfar : ∀ (m : List DPt), (m.findSome? (fun q => if far q then some (w3 1) else none)).getD w0 = cond (m.any far) (w3 1) w0 := by
            intro m
            induction m with
            | nil => rfl
            | cons q m ih =>
              simp only [List.findSome?_cons, List.any_cons]
              by_cases hq : far q = true
              · simp [hq]
              · have hq' : far q = false := by simpa using hq
                simp [hq', ih]
          rw [hfar]
          rw [loop_list (fun i _ => ((i, ()), ())) a (fun i q _ => found (if kind = 2 then (match a[i + 1]? with | some b => if ptEq q b then some (w3 3) else none | none => none) else none)) (fun _ => w0) (fun i q _ hq => ?_) (fun _ => ?_) ()]
          · have hadj : foldL (fun (i : Nat) (q : DPt) (_ : Unit) => found (if kind = 2 then (match a[i + 1]? with | some b => if ptEq q b then some (w3 3) else none | none => none) else none)) (fun _ => w0) 0 a () = some (if kind = 2 ∧ adj a = true then w3 3 else w0) := by
              by_cases hk : kind = 2
              · simp only [hk, if_true, true_and]
                exact foldL_ahead a (fun i q _ => rfl) a 0 rfl
              · simp only [hk, if_false, false_and]
                exact foldL_nothing a 0 (fun i q _ => rfl)
            rw [hadj]
            unfold partE
            simp only [Option.bind_some]
            by_cases hf : a.any far = true
            · simp [hf, found, stepTo, w3, sumE]
            · have hf' : a.any far = false := by simpa using hf
              by_cases k1 : kind = 1
              · subst k1
                by_cases hl1 : a.length = 1
                · simp [hf', hl1, w0, sumE, found, stepTo]
                · have hl1' : ¬ (a.length : Int) = 1 := by omega
                  simp [hf', hl1, hl1', w0, w3, sumE, found, stepTo]
              · by_cases k2 : kind = 2
                · subst k2
                  by_cases hl1 : a.length < 2
                  · have hl1' : (a.length : Int) < 2 := by omega
                    simp [hf', hl1, hl1', w0, w3, sumE, found, stepTo]
                  · have hl1' : ¬ (a.length : Int) < 2 := by omega
                    by_cases ha : adj a = true
                    · simp [hf', hl1, hl1', ha, w0, w3, sumE, found, stepTo]
                    · simp [hf', hl1, hl1', ha, w0, w3, sumE, found, stepTo]
                · simp [hf', k1, k2, w0, sumE, found, stepTo]
          · have hqt := lt_of_get hq
            simp only [dec_lt hqt, inB_lt hqt, Int.toNat_natCast, hq, cond_true, Option.bind_some]
            rw [wrapS hqt hal]
            by_cases hk : kind = 2
            · subst hk
              by_cases hn : i + 1 < a.length
              · obtain ⟨b, hb1⟩ : ∃ b, a[i + 1]? = some b := ⟨_, List.getElem?_eq_getElem hn⟩
                have e1 : ((i : Int) + 1) = ((i + 1 : Nat) : Int) := by omega
                simp only [e1, dec_lt hn, inB_lt hn, Int.toNat_natCast, hb1, cond_true, Option.bind_some, decide_true]
                rw [← show ptEq q b = (decide (q.1 = b.1) && decide (q.2.1 = b.2.1)) from rfl]
                by_cases hp : ptEq q b = true
                · simp [hp, found, stepTo, w3]
                · have hp' : ptEq q b = false := by simpa using hp
                  simp [hp', found, stepTo]
              · have hb1 : a[i + 1]? = none := List.getElem?_eq_none_iff.2 (by omega)
                have e2 : decide (((i : Int) + 1) < (a.length : Int)) = false := by simp; omega
                simp [e2, hb1, found, stepTo]
            · simp [hk, found, stepTo]
          · simp only [dec_nlt, cond_false]
            rfl
        · have hqt := lt_of_get hq
          simp only [dec_lt hqt, inB_lt hqt, Int.toNat_natCast, hq, cond_true, Option.bind_some]
          rw [wrapS hqt hal]
          unfold far
          cases decide (q.1 < -1048576) <;> cases decide (1048576 < q.1) <;> cases decide (q.2.1 < -1048576) <;> cases decide (1048576 < q.2.1) <;> rfl
        · simp only [dec_nlt, cond_false]
          rfl
      · simp only [dec_nlt, cond_false]
        rfl
  · have hlt := lt_of_get h
    simp only [dec_lt hlt, inB_lt hlt, Int.toNat_natCast, h, cond_true, Option.bind_some]
    rw [wrapS hlt hl]
    cases b <;> rfl
  · simp only [dec_nlt, cond_false]
end Go.Proofs.YtjgiibfejfkocaaGreatDoor.I

namespace Go.Proofs.YtjgiibfejfkocaaGreatDoor.I
open Go.RowKit
set_option linter.unusedVariables false
set_option linter.constructorNameAsVariable false
def Tot {α : Type} (o : Option α) : Prop := ∃ y, o = some y
theorem tot_some {α : Type} (y : α) : Tot (some y) := ⟨y, rfl⟩
theorem tot_bind {α β : Type} {o : Option α} {f : α → Option β} (h : Tot o) (k : ∀ y, Tot (f y)) : Tot (o.bind f) := by
  obtain ⟨y, rfl⟩ := h
  exact k y
theorem tot_cond {α : Type} {b : Bool} {x y : Option α} (h : Tot x) (k : Tot y) : Tot (cond b x y) := by
  cases b
  · exact k
  · exact h
/-- A loop that counts. -/
theorem tot_count {S D O : Type} {step : D → Option (D ⊕ O)} (emb : Int → S → D) (Inv : Nat → S → Prop) (n : Nat)
    (hin : ∀ (i : Nat) s, i < n → Inv i s → ∃ r, step (emb i s) = some r ∧ ((∃ s', r = .inl (emb ((i : Int) + 1) s') ∧ Inv (i + 1) s') ∨ ∃ o, r = .inr o))
    (hend : ∀ s, ∃ o, step (emb (n : Int) s) = some (.inr o)) (s : S) (h0 : Inv 0 s) : Tot (loop step (emb 0 s)) := by
  have key : ∀ (m i : Nat) (s : S), n - i = m → i ≤ n → Inv i s → Tot (loop step (emb (i : Int) s)) := by
    intro m
    induction m with
    | zero =>
      intro i s hm hi hI
      have : i = n := by omega
      subst this
      obtain ⟨o, ho⟩ := hend s
      exact ⟨o, by rw [loop_eq, ho]⟩
    | succ m ih =>
      intro i s hm hi hI
      obtain ⟨r, hr, h⟩ := hin i s (by omega) hI
      rw [loop_eq, hr]
      rcases h with ⟨s', rfl, hI'⟩ | ⟨o, rfl⟩
      · exact ih (i + 1) s' (by omega) (by omega) hI'
      · exact ⟨o, rfl⟩
  exact key n 0 s (by omega) (Nat.zero_le _) h0
theorem tot_sumE {α β γ : Type} {f : α → Option γ} {g : β → Option γ} (h : ∀ a, Tot (f a)) (k : ∀ b, Tot (g b)) (o : α ⊕ β) : Tot (sumE f g o) := by
  cases o
  · exact h _
  · exact k _
theorem tot_emptyE {γ : Type} (o : Empty) : Tot (emptyE (γ := Option γ) o) := nomatch o
/-- What a round may come to. -/
def Good {S D O : Type} (emb : Int → S → D) (Inv : Nat → S → Prop) (i : Nat) (x : Option (D ⊕ O)) : Prop := (∃ s', x = some (.inl (emb ((i : Int) + 1) s')) ∧ Inv (i + 1) s') ∨ ∃ o, x = some (.inr o)
section
variable {S D O : Type} {emb : Int → S → D} {Inv : Nat → S → Prop} {i : Nat}
theorem good_cond {b : Bool} {x y : Option (D ⊕ O)} (h : Good emb Inv i x) (k : Good emb Inv i y) : Good emb Inv i (cond b x y) := by
  cases b
  · exact k
  · exact h
theorem good_bind {α : Type} {o : Option α} {f : α → Option (D ⊕ O)} (h : Tot o) (k : ∀ y, Good emb Inv i (f y)) : Good emb Inv i (o.bind f) := by
  obtain ⟨y, rfl⟩ := h
  exact k y
theorem good_out (o : O) : Good emb Inv i (some (.inr o) : Option (D ⊕ O)) := .inr ⟨o, rfl⟩
theorem good_next (s' : S) (h : Inv (i + 1) s') : Good emb Inv i (some (.inl (emb ((i : Int) + 1) s')) : Option (D ⊕ O)) := .inl ⟨s', rfl, h⟩
theorem good_sumE {α β : Type} {f : α → Option (D ⊕ O)} {g : β → Option (D ⊕ O)} (h : ∀ a, Good emb Inv i (f a)) (k : ∀ b, Good emb Inv i (g b)) (o : α ⊕ β) : Good emb Inv i (sumE f g o) := by
  cases o
  · exact h _
  · exact k _
theorem good_emptyE (o : Empty) : Good emb Inv i (emptyE (γ := Option (D ⊕ O)) o) := nomatch o
theorem tot_loop {step : D → Option (D ⊕ O)} (emb : Int → S → D) (Inv : Nat → S → Prop) (n : Nat) (hin : ∀ (i : Nat) s, i < n → Inv i s → Good emb Inv i (step (emb i s))) (hend : ∀ s, ∃ o, step (emb (n : Int) s) = some (.inr o)) (s : S) (h0 : Inv 0 s) : Tot (loop step (emb 0 s)) :=
  tot_count emb Inv n (fun i s hi hI => by
    rcases hin i s hi hI with ⟨s', h1, h2⟩ | ⟨o, h1⟩
    · exact ⟨_, h1, .inl ⟨s', rfl, h2⟩⟩
    · exact ⟨_, h1, .inr ⟨o, rfl⟩⟩) hend s h0
end
theorem at_next {α : Type} {xs : List α} {i : Nat} (hi : i < xs.length) (hl : xs.length ≤ 9223372036854775807) :
    inB (Int.tmod (IntKind.wrap .i64 ((i : Int) + 1)) (xs.length : Int)) xs.length = true ∧ ∃ a, xs[Int.toNat (Int.tmod (IntKind.wrap .i64 ((i : Int) + 1)) (xs.length : Int))]? = some a := by
  rw [wrapS hi hl, show (i : Int) + 1 = ((i + 1 : Nat) : Int) by omega, ← Int.ofNat_tmod]
  have hlt : (i + 1) % xs.length < xs.length := Nat.mod_lt _ (by omega)
  exact ⟨inB_lt hlt, by rw [Int.toNat_natCast]; exact ⟨_, List.getElem?_eq_getElem hlt⟩⟩
theorem t110 (x) : Tot (r79 x) := tot_bind (tot_some _) fun _ => tot_bind (tot_some _) fun _ => tot_some _
theorem t153 (x) : Tot (r109 x) := tot_bind (t110 _) fun _ => tot_bind (t110 _) fun _ => tot_some _
theorem t149 (x) : Tot (r101 x) := tot_bind (t153 _) fun _ => tot_bind (t153 _) fun _ => tot_some _
theorem t154 (x) : Tot (r110 x) := tot_bind (t153 _) fun _ => tot_bind (t153 _) fun _ => tot_some _
theorem t36 (x) : Tot (r100 x) := tot_bind (tot_some _) fun _ => tot_bind (tot_some _) fun _ => tot_cond (tot_cond (tot_some _) (tot_some _)) (tot_cond (tot_some _) (tot_cond (tot_some _) (tot_cond (tot_some _) (tot_some _))))
theorem t143 (x) : Tot (r94 x) := tot_bind (t149 _) fun _ => tot_bind (t36 _) fun _ => tot_some _
theorem t87 (x) : Tot (r56 x) := tot_bind (t110 _) fun _ => tot_some _
theorem t111 (x) : Tot (r55 x) := tot_bind (t87 _) fun _ => tot_some _
theorem t151 (x) : Tot (r103 x) := tot_bind (t143 _) fun _ => tot_cond (tot_bind (t154 _) fun _ => tot_some _) (tot_some _)
abbrev IU : Type := (Int × Unit) × Unit
@[reducible] def embI (i : Int) (_ : Unit) : IU := ((i, ()), ())
theorem t145 (l : List Int) (n : Int) (hl : l.length ≤ 9223372036854775807) : Tot (r96 (l, (n, ()))) := by
  unfold r96
  refine tot_bind (tot_loop embI (fun _ _ => True) l.length (fun i _ hi _ => ?_) (fun _ => ?_) () trivial) (tot_sumE (fun _ => tot_some _) (tot_sumE (fun _ => tot_some _) tot_emptyE))
  · obtain ⟨a, ha⟩ : ∃ a, l[i]? = some a := ⟨_, List.getElem?_eq_getElem hi⟩
    dsimp only [embI]
    simp only [dec_lt hi, inB_lt hi, Int.toNat_natCast, ha, cond_true, Option.bind_some]
    rw [wrapS hi hl]
    exact good_cond (good_out _) (good_next () trivial)
  · dsimp only [embI]
    simp only [dec_nlt, cond_false]
    exact ⟨_, rfl⟩
theorem t130 (l : List Int) (n : Int) (hl : l.length ≤ 9223372036854775807) : Tot (r82 (l, (n, ()))) := tot_bind (t145 l n hl) fun _ => tot_some _
theorem t109 (l : List DPt) (hl : l.length ≤ 9223372036854775807) : Tot (r78_55 (l, ((), ()))) := by
  unfold r78_55
  refine tot_bind (tot_loop embI (fun _ _ => True) l.length (fun i _ hi _ => ?_) (fun _ => ?_) () trivial) (tot_sumE (fun _ => tot_some _) (tot_sumE (fun _ => tot_some _) tot_emptyE))
  · obtain ⟨a, ha⟩ : ∃ a, l[i]? = some a := ⟨_, List.getElem?_eq_getElem hi⟩
    dsimp only [embI]
    simp only [dec_lt hi, inB_lt hi, Int.toNat_natCast, ha, cond_true, Option.bind_some]
    rw [wrapS hi hl]
    exact good_bind (t111 _) fun _ => good_cond (good_out _) (good_next () trivial)
  · dsimp only [embI]
    simp only [dec_nlt, cond_false]
    exact ⟨_, rfl⟩
theorem t85 (l : List DPt) (hl : l.length ≤ 9223372036854775807) : Tot (r54_55 (l, ((), ()))) := tot_bind (t109 l hl) fun _ => tot_some _
/-- A shared point is listed once. -/
theorem t150 (x) (d : List DPt) (hd : d.length ≤ 3) : ∃ d', r102 x (d, ()) = some ((), (d', ())) ∧ d'.length ≤ d.length + 1 := by
  unfold r102
  obtain ⟨y, hy⟩ := t151 ((x.2.1.1, (x.2.1.2.1, ())), ((x.2.2.1.1, (x.2.2.1.2.1, ())), ((x.1.1, (x.1.2.1, ())), ())))
  simp only [hy, Option.bind_some]
  cases y.1 with
  | false => exact ⟨d, rfl, by omega⟩
  | true =>
    simp only [Bool.not_true, cond_false]
    have hl : Tot (loop (fun (x1 : IU) => (cond (Decidable.decide (LT.lt x1.1.1 (Nat.cast (List.length d) : Int))) (cond (inB x1.1.1 (List.length d)) (Option.bind (GetElem?.getElem? d (Int.toNat x1.1.1)) (fun x2 => (cond (Bool.and (Decidable.decide (Eq x2.1 x.1.1)) (Decidable.decide (Eq x2.2.1 x.1.2.1))) (Option.some (Sum.inr (Sum.inl (Unit.unit, Unit.unit)))) (Option.some (Sum.inl (((IntKind.wrap IntKind.i64 (HAdd.hAdd x1.1.1 (1 : Int))), Unit.unit), Unit.unit)))))) (Option.none)) (Option.some (Sum.inr (Sum.inr (Sum.inl (Unit.unit, Unit.unit) : (Unit × Unit) ⊕ Empty) : (Unit × Unit) ⊕ (Unit × Unit) ⊕ Empty))))) (embI 0 ())) := by
      refine tot_loop embI (fun _ _ => True) d.length (fun i _ hi _ => ?_) (fun _ => ?_) () trivial
      · obtain ⟨a, ha⟩ : ∃ a, d[i]? = some a := ⟨_, List.getElem?_eq_getElem hi⟩
        dsimp only [embI]
        simp only [dec_lt hi, inB_lt hi, Int.toNat_natCast, ha, cond_true, Option.bind_some]
        rw [wrapS hi (by omega)]
        exact good_cond (good_out _) (good_next () trivial)
      · dsimp only [embI]
        simp only [dec_nlt, cond_false]
        exact ⟨_, rfl⟩
    obtain ⟨o, ho⟩ := hl
    refine Exists.imp (fun d' h => ⟨?_, h.2⟩) (p := fun d' => sumE (fun _ => some ((), (d, ()))) (sumE (fun _ => (cond (fits (d.length + (List.cons (x.1.1, (x.1.2.1, ())) []).length) 16) (some ((), ((d ++ [(x.1.1, (x.1.2.1, ()))]), ()))) none)) emptyE) o = some ((), (d', ())) ∧ d'.length ≤ d.length + 1) ?_
    · refine Eq.trans ?_ h.1
      exact congrArg (fun z => Option.bind z _) ho
    · rcases o with o | o | o
      · exact ⟨d, rfl, by omega⟩
      · refine ⟨d ++ [(x.1.1, (x.1.2.1, ()))], ?_, by simp⟩
        have : fits (d.length + 1) 16 = true := by unfold fits; simp; omega
        simp only [sumE, List.length_cons, List.length_nil, this, cond_true]
      · exact nomatch o
theorem t144 (x) : Tot (r95 x) := by
  unfold r95
  obtain ⟨d1, h1, l1⟩ := t150 ((x.1.1, (x.1.2.1, ())), ((x.2.2.1.1, (x.2.2.1.2.1, ())), ((x.2.2.2.1.1, (x.2.2.2.1.2.1, ())), ()))) [] (by simp)
  obtain ⟨d2, h2, l2⟩ := t150 ((x.2.1.1, (x.2.1.2.1, ())), ((x.2.2.1.1, (x.2.2.1.2.1, ())), ((x.2.2.2.1.1, (x.2.2.2.1.2.1, ())), ()))) d1 (by simp at l1; omega)
  obtain ⟨d3, h3, l3⟩ := t150 ((x.2.2.1.1, (x.2.2.1.2.1, ())), ((x.1.1, (x.1.2.1, ())), ((x.2.1.1, (x.2.1.2.1, ())), ()))) d2 (by simp at l1; omega)
  obtain ⟨d4, h4, l4⟩ := t150 ((x.2.2.2.1.1, (x.2.2.2.1.2.1, ())), ((x.1.1, (x.1.2.1, ())), ((x.2.1.1, (x.2.1.2.1, ())), ()))) d3 (by simp at l1; omega)
  simp only [h1, h2, h3, h4, Option.bind_some]
  exact tot_some _
theorem t128 (x) : Tot (r80 x) := tot_bind (t110 _) fun _ => tot_bind (t110 _) fun _ => tot_bind (t110 _) fun _ => tot_bind (t110 _) fun _ => tot_bind (t143 _) fun _ => tot_bind (t143 _) fun _ =>
  tot_cond (tot_bind (t143 _) fun _ => tot_bind (t143 _) fun _ => tot_cond (tot_some _) (tot_bind (t144 _) fun _ => tot_some _)) (tot_bind (t144 _) fun _ => tot_some _)
theorem t113 (x) : Tot (r58 x) := tot_bind (t128 _) fun _ => tot_cond (tot_some _) (tot_cond (tot_cond (tot_some _) (tot_cond (tot_some _) (tot_cond (tot_some _) (tot_some _)))) (tot_some _))
end Go.Proofs.YtjgiibfejfkocaaGreatDoor.I

namespace Go.Proofs.YtjgiibfejfkocaaGreatDoor.I
open Go.RowKit
set_option linter.unusedVariables false
set_option linter.constructorNameAsVariable false
theorem len0 {α : Type} {l : List α} {i : Nat} (h : i < l.length) : decide ((l.length : Int) = 0) = false := decide_eq_false (by omega)
theorem t112 (l : List DPt) (i k : Nat) (hi : i < l.length) (hk : k < l.length) (hl : l.length ≤ 9223372036854775807) : Tot (r57 (l, ((i : Int), ((k : Int), ())))) := by
  unfold r57
  obtain ⟨b1, a1, ha1⟩ := at_next hi hl
  obtain ⟨b2, a2, ha2⟩ := at_next hk hl
  obtain ⟨a3, ha3⟩ : ∃ a, l[i]? = some a := ⟨_, List.getElem?_eq_getElem hi⟩
  obtain ⟨a4, ha4⟩ : ∃ a, l[k]? = some a := ⟨_, List.getElem?_eq_getElem hk⟩
  simp only [inB_lt hi, inB_lt hk, Int.toNat_natCast, ha3, ha4, b1, b2, ha1, ha2, len0 hi, cond_true, cond_false, Option.bind_some]
  exact tot_cond (tot_some _) (tot_cond (tot_some _) (tot_cond (tot_bind (t128 _) fun _ => tot_some _) (tot_cond (tot_bind (t128 _) fun _ => tot_some _) (tot_bind (t128 _) fun _ => tot_some _))))
theorem t129 (l m : List DPt) (i : Nat) (hi : i < l.length) (hl : l.length ≤ 9223372036854775807) (hm : m.length ≤ 9223372036854775807) : Tot (r81 (l, ((i : Int), (m, ())))) := by
  unfold r81
  obtain ⟨b1, a1, ha1⟩ := at_next hi hl
  obtain ⟨a3, ha3⟩ : ∃ a, l[i]? = some a := ⟨_, List.getElem?_eq_getElem hi⟩
  simp only [inB_lt hi, Int.toNat_natCast, ha3, b1, ha1, len0 hi, cond_true, cond_false, Option.bind_some]
  refine tot_bind (tot_loop (fun i (n : Int) => ((n, (i, ())), ())) (fun _ _ => True) m.length (fun j n hj _ => ?_) (fun _ => ?_) (-1) trivial) (tot_sumE (fun _ => tot_some _) tot_emptyE)
  · obtain ⟨c1, d1, hd1⟩ := at_next hj hm
    obtain ⟨d3, hd3⟩ : ∃ a, m[j]? = some a := ⟨_, List.getElem?_eq_getElem hj⟩
    dsimp only
    simp only [dec_lt hj, inB_lt hj, Int.toNat_natCast, hd3, c1, hd1, len0 hj, cond_true, cond_false, Option.bind_some]
    rw [wrapS hj hm]
    refine good_cond (good_cond (good_cond (good_cond ?_ ?_) ?_) ?_) (good_cond (good_cond (good_cond ?_ ?_) ?_) ?_) <;> exact good_next _ trivial
  · dsimp only
    simp only [dec_nlt, cond_false]
    exact ⟨_, rfl⟩
theorem t114 (l m : List DPt) (hl : l.length ≤ 200) (hm : m.length ≤ 9223372036854775807) : Tot (r59 (l, (m, ()))) := by
  unfold r59
  refine tot_bind (tot_loop (fun i (s : List Int) => ((s, (i, ())), ())) (fun i s => s.length ≤ i) l.length (fun j s hj hs => ?_) (fun _ => ?_) [] (Nat.le_refl _)) (tot_sumE (fun _ => tot_some _) tot_emptyE)
  · dsimp only
    simp only [dec_lt hj, cond_true]
    rw [wrapS hj (by omega)]
    refine good_bind (t129 l m j hj (by omega) hm) fun n => good_bind (t130 s n.1 (by omega)) fun b => good_cond ?_ (good_next s (by omega))
    have : fits (s.length + 1) 8 = true := by unfold fits; simp; omega
    simp only [List.length_cons, List.length_nil, Nat.zero_add, this, cond_true]
    exact good_next (s ++ [n.1]) (by simp; omega)
  · dsimp only
    simp only [dec_nlt, cond_false]
    exact ⟨_, rfl⟩
theorem t89 (l m : List DPt) (hl : l.length ≤ 200) (hm : m.length ≤ 200) : Tot (r44 (l, (m, ()))) := by
  unfold r44
  refine tot_bind (tot_loop embI (fun _ _ => True) l.length (fun i _ hi _ => ?_) (fun _ => ?_) () trivial) (tot_sumE (fun _ => tot_some _) (tot_sumE (fun _ => ?_) tot_emptyE))
  · dsimp only [embI]
    simp only [dec_lt hi, cond_true]
    rw [wrapS hi (by omega)]
    refine good_bind (tot_loop embI (fun _ _ => True) m.length (fun j _ hj _ => ?_) (fun _ => ?_) () trivial) (good_sumE (fun _ => good_out _) (good_sumE (fun _ => good_next () trivial) good_emptyE))
    · obtain ⟨b1, a1, ha1⟩ := at_next hi (by omega)
      obtain ⟨b2, a2, ha2⟩ := at_next hj (by omega)
      rw [wrapS hi (by omega)] at b1 ha1
      obtain ⟨a3, ha3⟩ : ∃ a, l[i]? = some a := ⟨_, List.getElem?_eq_getElem hi⟩
      obtain ⟨a4, ha4⟩ : ∃ a, m[j]? = some a := ⟨_, List.getElem?_eq_getElem hj⟩
      dsimp only [embI]
      simp only [dec_lt hj, inB_lt hi, inB_lt hj, Int.toNat_natCast, ha3, ha4, b1, b2, ha1, ha2, len0 hi, len0 hj, cond_true, cond_false, Option.bind_some]
      refine good_bind (t113 _) fun _ => good_cond (good_out _) ?_
      rw [wrapS hj (by omega)]
      exact good_next () trivial
    · dsimp only [embI]
      simp only [dec_nlt, cond_false]
      exact ⟨_, rfl⟩
  · dsimp only [embI]
    simp only [dec_nlt, cond_false]
    exact ⟨_, rfl⟩
  · exact tot_bind (t114 l m hl (by omega)) fun _ => tot_cond (tot_bind (t114 m l hm (by omega)) fun _ => tot_some _) (tot_some _)
theorem t88 (l : List DPt) (hl : l.length ≤ 9223372036854775807) : Tot (r43 (l, ())) := by
  unfold r43
  refine tot_cond (tot_some _) (tot_cond (tot_some _) (tot_bind (t85 l hl) fun _ => tot_cond (tot_some _) (tot_bind (tot_loop embI (fun _ _ => True) l.length (fun i _ hi _ => ?_) (fun _ => ?_) () trivial) (tot_sumE (fun _ => tot_some _) (tot_sumE (fun _ => tot_some _) tot_emptyE)))))
  · dsimp only [embI]
    simp only [dec_lt hi, cond_true]
    rw [wrapS hi hl]
    refine good_bind (tot_loop embI (fun _ _ => True) i (fun j _ hj _ => ?_) (fun _ => ?_) () trivial) (good_sumE (fun _ => good_out _) (good_sumE (fun _ => good_next () trivial) good_emptyE))
    · dsimp only [embI]
      simp only [dec_lt hj, cond_true]
      rw [wrapS hj (by omega)]
      exact good_bind (t112 l j i (by omega) hi hl) fun _ => good_cond (good_out _) (good_next () trivial)
    · dsimp only [embI]
      simp only [dec_nlt, cond_false]
      exact ⟨_, rfl⟩
  · dsimp only [embI]
    simp only [dec_nlt, cond_false]
    exact ⟨_, rfl⟩
theorem t50 (l : List (List DPt)) (hl : l.length ≤ 9223372036854775807) (hp : ∀ p ∈ l, p.length ≤ 200) : Tot (r36 (l, ())) := by
  unfold r36
  refine tot_cond (tot_some _) (tot_bind (tot_loop embI (fun _ _ => True) l.length (fun i _ hi _ => ?_) (fun _ => ?_) () trivial) (tot_sumE (fun _ => tot_some _) (tot_sumE (fun _ => tot_bind (tot_loop embI (fun _ _ => True) l.length (fun i _ hi _ => ?_) (fun _ => ?_) () trivial) (tot_sumE (fun _ => tot_some _) (tot_sumE (fun _ => tot_some _) tot_emptyE))) tot_emptyE)))
  · obtain ⟨a, ha⟩ : ∃ a, l[i]? = some a := ⟨_, List.getElem?_eq_getElem hi⟩
    dsimp only [embI]
    simp only [dec_lt hi, inB_lt hi, Int.toNat_natCast, ha, cond_true, Option.bind_some]
    rw [wrapS hi hl]
    exact good_bind (t88 a (by have := hp a (List.mem_of_getElem? ha); omega)) fun _ => good_cond (good_out _) (good_next () trivial)
  · dsimp only [embI]
    simp only [dec_nlt, cond_false]
    exact ⟨_, rfl⟩
  · obtain ⟨a, ha⟩ : ∃ a, l[i]? = some a := ⟨_, List.getElem?_eq_getElem hi⟩
    have hup : upTo (i : Int) (l.length : Int) = true := by unfold upTo; simp; omega
    dsimp only [embI]
    simp only [dec_lt hi, inB_lt hi, Int.toNat_natCast, ha, hup, cond_true, Option.bind_some]
    rw [wrapS hi hl]
    refine good_bind (tot_loop embI (fun _ _ => True) (l.take i).length (fun j _ hj _ => ?_) (fun _ => ?_) () trivial) (good_sumE (fun _ => good_out _) (good_sumE (fun _ => good_next () trivial) good_emptyE))
    · obtain ⟨b, hb⟩ : ∃ a, (l.take i)[j]? = some a := ⟨_, List.getElem?_eq_getElem hj⟩
      have hjl : (l.take i).length ≤ 9223372036854775807 := by rw [List.length_take]; omega
      dsimp only [embI]
      simp only [dec_lt hj, inB_lt hj, Int.toNat_natCast, hb, cond_true, Option.bind_some]
      rw [wrapS hj hjl]
      exact good_bind (t89 a b (hp a (List.mem_of_getElem? ha)) (hp b (List.mem_of_mem_take (List.mem_of_getElem? hb)))) fun _ => good_cond (good_out _) (good_next () trivial)
    · dsimp only [embI]
      simp only [dec_nlt, cond_false]
      exact ⟨_, rfl⟩
  · dsimp only [embI]
    simp only [dec_nlt, cond_false]
    exact ⟨_, rfl⟩
end Go.Proofs.YtjgiibfejfkocaaGreatDoor.I

namespace Go.Proofs.YtjgiibfejfkocaaGreatDoor.I
open Go.RowKit
set_option linter.unusedVariables false
set_option linter.constructorNameAsVariable false
abbrev kPt : Kd := .pair (.int .i64) (.pair (.int .i64) .unit)
abbrev kVal : Kd := .pair (.int .i64) (.pair (.int .i64) (.pair .str (.pair .bool .unit)))
abbrev kAtt : Kd := .pair .str (.pair kVal .unit)
abbrev kFea : Kd := .pair (.int .i64) (.pair (.int .i64) (.pair (.slice (.slice kPt)) (.pair (.slice kAtt) (.pair (.int .i64) (.pair (.int .i64) .unit)))))
noncomputable def areaO (l : List (List DPt)) : Option (Int × Unit) := Option.bind (r36 (l, ())) fun x => some (x.1, ())
noncomputable def partsV (kind : Int) (l : List (List DPt)) : Int := ((partsE (areaO l) kind l).getD (0, ())).1
theorem parts_some {kind : Int} {l : List (List DPt)} (hs : small (.slice (.slice kPt)) l) : partsE (areaO l) kind l = some (partsV kind l, ()) := by
  obtain ⟨hl, hb⟩ := parts_bounds hs
  have key : Tot (partsE (areaO l) kind l) := by
    unfold partsE
    split
    · exact tot_some _
    split
    · exact tot_some _
    split
    · exact tot_some _
    split
    · exact tot_some _
    rename_i hlong
    split
    · exact tot_some _
    split
    · exact tot_some _
    split
    · unfold areaO
      refine tot_bind (t50 l hl (fun p hp => ?_)) fun _ => tot_some _
      rcases Nat.lt_or_ge 200 p.length with h | h
      · exact absurd (List.any_eq_true.2 ⟨p, hp, by simp; omega⟩) hlong
      · exact h
    · exact tot_some _
  obtain ⟨y, hy⟩ := key
  unfold partsV
  rw [hy]
  rfl
noncomputable def featV (f : DFea) : Int :=
  if f.1 < 1 then 1 else if 1073741824 < f.1 then 1 else if partsV f.2.1 f.2.2.1 ≠ 0 then partsV f.2.1 f.2.2.1 else if attrsE false f.2.2.2.1 ≠ 0 then attrsE false f.2.2.2.1
  else if f.2.2.2.2.1 < 0 then 1 else if 1073741824 < f.2.2.2.2.2.1 then 1 else if f.2.2.2.2.2.1 ≤ f.2.2.2.2.1 then 1 else 0
theorem fea_small {f : DFea} (h : small kFea f) : small (.slice (.slice kPt)) f.2.2.1 ∧ small (.slice kAtt) f.2.2.2.1 := ⟨h.2.2.1, h.2.2.2.1⟩
theorem r18_eq (f : DFea) (h : small kFea f) : r40 (f, ()) = some (featV f, ()) := by
  obtain ⟨h1, h2⟩ := fea_small h
  unfold r40 featV
  have e1 : r48 (f.2.1, (f.2.2.1, ())) = some (partsV f.2.1 f.2.2.1, ()) := (r20_eq f.2.1 f.2.2.1 h1).trans (parts_some h1)
  have e2 : r49 (f.2.2.2.1, (false, ())) = some (attrsE false f.2.2.2.1, ()) := r22_eq f.2.2.2.1 false h2
  simp only [e1, e2, Option.bind_some]
  generalize partsV f.2.1 f.2.2.1 = p
  generalize attrsE false f.2.2.2.1 = a
  obtain ⟨id, kind, ps, ats, fr, tt, ⟨⟩⟩ := f
  simp only
  by_cases k1 : id < 1
  · simp [k1]
  by_cases k2 : 1073741824 < id
  · simp [k1, k2]
  by_cases k3 : p = 0 <;> by_cases k4 : a = 0 <;> by_cases k5 : fr < 0 <;> by_cases k6 : 1073741824 < tt <;> by_cases k7 : tt ≤ fr <;> simp [k1, k2, k3, k4, k5, k6, k7]
theorem r19_eq (f : DFea) (h : small kFea f) : r12 (f, ()) = some (featV f, ()) := by
  obtain ⟨h1, h2⟩ := fea_small h
  unfold r12 featV
  have e1 : r26 (f.2.1, (f.2.2.1, ())) = some (partsV f.2.1 f.2.2.1, ()) := (r21_eq f.2.1 f.2.2.1 h1).trans (parts_some h1)
  have e2 : r27 (f.2.2.2.1, (false, ())) = some (attrsE false f.2.2.2.1, ()) := r23_eq f.2.2.2.1 false h2
  simp only [e1, e2, Option.bind_some]
  generalize partsV f.2.1 f.2.2.1 = p
  generalize attrsE false f.2.2.2.1 = a
  obtain ⟨id, kind, ps, ats, fr, tt, ⟨⟩⟩ := f
  simp only
  by_cases k1 : id < 1
  · have : id ≤ 0 := by omega
    simp [k1, this]
  have k1' : ¬ id ≤ 0 := by omega
  by_cases k2 : 1073741824 < id
  · simp [k1, k1', k2]
  by_cases k3 : p = 0 <;> by_cases k4 : a = 0 <;> by_cases k5 : fr < 0 <;> by_cases k6 : 1073741824 < tt <;> by_cases k7 : tt ≤ fr <;> simp [k1, k1', k2, k3, k4, k5, k6, k7]
theorem featV_pos {f : DFea} (h : featV f = 0) : 1 ≤ f.1 := by
  unfold featV at h
  by_cases k1 : f.1 < 1
  · simp [k1] at h
  · omega
noncomputable def survF (last : Int) (f : DFea) : Option Int := if featV f ≠ 0 then some (featV f) else if f.1 ≤ last then some 9 else none
noncomputable def survV (l : List DFea) : Int := if 200 < l.length then 2 else scan survF (fun f => f.1) 0 0 l
theorem surv_end (l : List DFea) (p : Int) : (sumE (fun x0 => some (x0.1.1, ())) (sumE (fun x0 => some ((0 : Int), ())) emptyE) : O3 → Option (Int × Unit)) (scan (fun p a => (survF p a).map w3) (fun f => f.1) w0 p l) = some (scan survF (fun f => f.1) 0 p l, ()) := by
  have := scan_map (sumE (fun x0 => some (x0.1.1, ())) (sumE (fun x0 => some ((0 : Int), ())) emptyE) : O3 → Option (Int × Unit)) (fun p a => (survF p a).map w3) (fun f : DFea => f.1) w0 l p
  refine this.trans ?_
  have h2 := scan_map (fun e : Int => some (e, ())) survF (fun f : DFea => f.1) 0 l p
  refine Eq.trans ?_ h2.symm
  refine scan_congr (fun p a _ => ?_)
  cases survF p a <;> rfl
theorem surv_small {l : List DFea} (h : small (.slice kFea) l) : l.length ≤ 9223372036854775807 ∧ ∀ f ∈ l, small kFea f := by
  have hm : maxLen = 9223372036854775807 := rfl
  have h' := h
  unfold small at h'
  rw [hm] at h'
  exact h'
theorem r16_eq (l : List DFea) (h : small (.slice kFea) l) : r31 (l, ()) = some (survV l, ()) := by
  obtain ⟨hl, hb⟩ := surv_small h
  unfold r31 survV
  by_cases h8 : 200 < l.length
  · have : decide ((200 : Int) < (l.length : Int)) = true := by simp; omega
    rw [if_pos h8]
    simp only [this, cond_true]
  · rw [if_neg h8]
    have : decide ((200 : Int) < (l.length : Int)) = false := by simp; omega
    simp only [this, cond_false]
    rw [loop_list (fun i _ => ((i, ()), ())) l (fun i a _ => found ((survF (prevOf (fun f => f.1) 0 l i) a).map w3)) (fun _ => w0) (fun i a _ h => ?_) (fun _ => ?_) ()]
    · rw [foldL_prev (fun p a => (survF p a).map w3) (fun f => f.1) w0 0 l (fun i a _ => rfl) l 0 rfl]
      simp only [Option.bind_some]
      exact surv_end l 0
    · have hlt := lt_of_get h
      have hv : r40 ((a.1, (a.2.1, (a.2.2.1, (a.2.2.2.1, (a.2.2.2.2.1, (a.2.2.2.2.2.1, ())))))), ()) = some (featV a, ()) := r18_eq a (hb a (List.mem_of_getElem? h))
      simp only [dec_lt hlt, inB_lt hlt, Int.toNat_natCast, h, cond_true, Option.bind_some, hv]
      rw [wrapS hlt hl]
      by_cases hz : featV a = 0
      · cases i with
        | zero =>
          have hp := featV_pos hz
          have hd0 : decide ((0 : Int) < ((0 : Nat) : Int)) = false := by simp
          have hn : ¬ a.1 ≤ 0 := by omega
          simp [hd0, survF, prevOf, hz, hn, found, stepTo]
        | succ j =>
          have hd0 : decide ((0 : Int) < ((j + 1 : Nat) : Int)) = true := by simp
          obtain ⟨b, hbj⟩ : ∃ b, l[j]? = some b := ⟨_, List.getElem?_eq_getElem (by omega)⟩
          have hw : IntKind.wrap .i64 (((j + 1 : Nat) : Int) - 1) = (j : Int) := by rw [wrap64 (by omega) (by omega)]; omega
          simp only [hd0, cond_true, prevOf, hbj, hw, inB_lt (show j < l.length by omega), Int.toNat_natCast, Option.bind_some, hz]
          by_cases hc : a.1 ≤ b.1 <;> simp [survF, hz, hc, found, stepTo, w3]
      · simp [survF, hz, found, stepTo, w3]
    · simp only [dec_nlt, cond_false]
      rfl
theorem r17_eq (l : List DFea) (h : small (.slice kFea) l) : r5 (l, ()) = some (survV l, ()) := by
  obtain ⟨hl, hb⟩ := surv_small h
  unfold r5 survV
  by_cases h8 : 200 < l.length
  · have : decide ((200 : Int) < (l.length : Int)) = true := by simp; omega
    rw [if_pos h8]
    simp only [this, cond_true]
  · rw [if_neg h8]
    have : decide ((200 : Int) < (l.length : Int)) = false := by simp; omega
    simp only [this, cond_false]
    rw [loop_list (fun i (p : Int) => ((p, (i, ())), ())) l (fun i a p => stepK a.1 ((survF p a).map w3)) (fun _ => w0) (fun i a p h => ?_) (fun _ => ?_) 0]
    · rw [foldL_state (fun p a => (survF p a).map w3) (fun f => f.1) w0 l 0 _ (fun i a p _ => rfl)]
      simp only [Option.bind_some]
      exact surv_end l 0
    · have hlt := lt_of_get h
      have hv : r12 ((a.1, (a.2.1, (a.2.2.1, (a.2.2.2.1, (a.2.2.2.2.1, (a.2.2.2.2.2.1, ())))))), ()) = some (featV a, ()) := r19_eq a (hb a (List.mem_of_getElem? h))
      simp only [dec_lt hlt, inB_lt hlt, Int.toNat_natCast, h, cond_true, Option.bind_some, hv]
      rw [wrapS hlt hl]
      by_cases hz : featV a = 0
      · by_cases hc : a.1 ≤ p <;> simp [survF, hz, hc, stepK, stepTo, w3]
      · simp [survF, hz, stepK, stepTo, w3]
    · simp only [dec_nlt, cond_false]
      rfl
end Go.Proofs.YtjgiibfejfkocaaGreatDoor.I

namespace Go.Proofs.YtjgiibfejfkocaaGreatDoor.I
open Go.RowKit
set_option linter.unusedVariables false
set_option linter.constructorNameAsVariable false
def toI (l : List UInt8) : List Int := l.map fun b => (b.toNat : Int)
theorem toI_len (l : List UInt8) : (toI l).length = l.length := by simp [toI]
theorem toI_app (a b : List UInt8) : toI (a ++ b) = toI a ++ toI b := by simp [toI]
theorem mkStr_toI (l : List UInt8) : mkStr (toI l) = ⟨l.toArray⟩ := by
  unfold mkStr toI
  congr 2
  rw [List.map_map]
  conv => rhs; rw [← List.map_id l]
  refine List.map_congr_left (fun b _ => ?_)
  simp
theorem bytesOf_mk (l : List UInt8) : bytesOf ⟨l.toArray⟩ = toI l := rfl
theorem bytesOf_len (s : ByteArray) : (bytesOf s).length = s.size := by unfold bytesOf; rw [List.length_map, ← bytes_len]
theorem size_mk (l : List UInt8) : (ByteArray.mk l.toArray).size = l.length := by rw [bytes_len]
theorem fitsB {k : Nat} (h : k ≤ 140737488355328) : fits k 1 = true := by unfold fits; simp; omega
theorem big {n : Nat} (h : n ≤ 1000000000) : decide (9223372036854775807 < n) = false := by simp; omega
def ofS (s : ByteArray) : List UInt8 := s.data.toList
theorem ofS_len (s : ByteArray) : (ofS s).length = s.size := bytes_len.symm
theorem ofS_mk (l : List UInt8) : ofS ⟨l.toArray⟩ = l := rfl
theorem mk_ofS (s : ByteArray) : (⟨(ofS s).toArray⟩ : ByteArray) = s := rfl
theorem ba_app (a b : List UInt8) : (⟨a.toArray⟩ : ByteArray) ++ (⟨b.toArray⟩ : ByteArray) = ⟨(a ++ b).toArray⟩ := by
  apply ByteArray.ext
  rw [ByteArray.data_append]
  exact List.append_toArray a b
theorem wf_in {x : Int} (h : (Lit.int .i64 x).wf = true) : -9223372036854775808 ≤ x ∧ x ≤ 9223372036854775807 := bounds_i64 h
/-- A loop over a list whose rounds all go on. -/
theorem loop_fold {α S D O : Type} {step : D → Option (D ⊕ O)} (emb : Int → S → D) (f : S → α → S) (Inv : Nat → S → Prop) (out : S → O) (xs : List α)
    (hin : ∀ (i : Nat) a s, xs[i]? = some a → Inv i s → step (emb i s) = some (.inl (emb ((i : Int) + 1) (f s a))) ∧ Inv (i + 1) (f s a))
    (hend : ∀ s, Inv xs.length s → step (emb (xs.length : Int) s) = some (.inr (out s))) (s : S) (h0 : Inv 0 s) : loop step (emb 0 s) = some (out (xs.foldl f s)) ∧ Inv xs.length (xs.foldl f s) := by
  have key : ∀ (l : List α) (i : Nat) (s : S), i ≤ xs.length → xs.drop i = l → Inv i s → loop step (emb (i : Int) s) = some (out (l.foldl f s)) ∧ Inv xs.length (l.foldl f s) := by
    intro l
    induction l with
    | nil =>
      intro i s hi hl hI
      have : i = xs.length := by
        have := congrArg List.length hl
        simp at this; omega
      subst this
      exact ⟨by rw [loop_eq, hend s hI]; rfl, hI⟩
    | cons a l ih =>
      intro i s hi hl hI
      have ha : xs[i]? = some a := by
        have := congrArg (fun l => l[0]?) hl
        simpa using this
      have hlt := lt_of_get ha
      have hd : xs.drop (i + 1) = l := by rw [← List.drop_drop, hl]; rfl
      obtain ⟨h1, h2⟩ := hin i a s ha hI
      rw [loop_eq, h1]
      exact ih (i + 1) _ hlt hd h2
  exact key xs 0 s (Nat.zero_le _) rfl h0
theorem fold_flat {α β : Type} (g : α → List β) : ∀ (l : List α) (d : List β), l.foldl (fun d a => d ++ g a) d = d ++ l.flatMap g
  | [], d => by simp
  | a :: l, d => by rw [List.foldl_cons, fold_flat g l, List.flatMap_cons, List.append_assoc]
theorem flat_len {α β : Type} (g : α → List β) (k : Nat) : ∀ (l : List α), (∀ a ∈ l, (g a).length ≤ k) → (l.flatMap g).length ≤ k * l.length
  | [], _ => by simp
  | a :: l, h => by
    have h1 := h a (by simp)
    have h2 := flat_len g k l (fun b hb => h b (by simp [hb]))
    rw [List.flatMap_cons, List.length_append, List.length_cons, Nat.mul_succ]
    omega
def In64 (x : Int) : Prop := -9223372036854775808 ≤ x ∧ x ≤ 9223372036854775807
theorem fbool_len (b : Bool) : (Lib.formatBool b).length ≤ 5 := by cases b <;> decide +kernel
end Go.Proofs.YtjgiibfejfkocaaGreatDoor.I
