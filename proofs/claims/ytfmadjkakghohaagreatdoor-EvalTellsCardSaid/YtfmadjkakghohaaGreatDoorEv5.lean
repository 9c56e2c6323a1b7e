import Derived.Test.YtfmadjkakghohaaGreatDoorEv4
import Derived.Test.YtfmadjkakghohaaGreatDoorProg
import Derived.Lib.ItoaLen
import Derived.OpenShut
import Derived.Lib.Small
import Derived.Lib.Join
namespace Go.Proofs.YtfmadjkakghohaaGreatDoor.I
open Go.RowKit
set_option linter.unusedVariables false
set_option maxRecDepth 100000
/-- terrier/terrref2.ExprErr -/
noncomputable def r12 (n : Nat) (x : (kdP [(.tree (.pair (.int .i64) (.pair (.pair (.int .i64) (.pair (.int .i64) (.pair .str (.pair .bool .unit)))) (.pair .str .unit))))]).T) : Option (kdP [(.int .i64)]).T :=
  (Option.bind (r32 n ((Tree.node ((Tree.val x.1).1, (((Tree.val x.1).2.1.1, ((Tree.val x.1).2.1.2.1, ((Tree.val x.1).2.1.2.2.1, ((Tree.val x.1).2.1.2.2.2.1, Unit.unit)))), ((Tree.val x.1).2.2.1, Unit.unit))) (Tree.kids x.1)), ((1 : Int), ((101 : Int), Unit.unit))) ((List.nil), ((List.nil), Unit.unit))) (fun x0 => (Option.bind (loop (D := (Prod (Kd.T (.pair (.int .i64) .unit)) (Kd.T .unit))) (O := (Sum (Kd.T (.pair (.pair (.int .i64) .unit) .unit)) (OutT (List.cons ((Ex3.exit 0), (Sh.mk (List.nil) (List.nil) (List.nil))) (List.nil))))) (fun x1 => (cond (Decidable.decide (LT.lt x1.1.1 (Nat.cast (List.length x0.1) : Int))) (cond (inB x1.1.1 (List.length x0.1)) (Option.bind (GetElem?.getElem? x0.1 (Int.toNat x1.1.1)) (fun x2 => (cond (Decidable.decide (Eq x1.1.1 (100 : Int))) (Option.some (Sum.inr (Sum.inl (((2 : Int), Unit.unit), Unit.unit)))) (cond (inB x1.1.1 (List.length x0.2.1)) (Option.bind (GetElem?.getElem? x0.2.1 (Int.toNat x1.1.1)) (fun x3 => (cond (Decidable.decide (LT.lt (20 : Int) x3)) (Option.some (Sum.inr (Sum.inl (((2 : Int), Unit.unit), Unit.unit)))) (cond (Decidable.decide (LT.lt (Tree.val x2).1 (0 : Int))) (Option.some (Sum.inr (Sum.inl (((8 : Int), Unit.unit), Unit.unit)))) (cond (Decidable.decide (LT.lt (21 : Int) (Tree.val x2).1)) (Option.some (Sum.inr (Sum.inl (((8 : Int), Unit.unit), Unit.unit)))) (Option.bind (r33 Unit.unit) (fun x4 => (cond (inB (Tree.val x2).1 (List.length x4.1)) (Option.bind (GetElem?.getElem? x4.1 (Int.toNat (Tree.val x2).1)) (fun x5 => (cond (Bool.not (Decidable.decide (Eq (Nat.cast (List.length (Tree.kids x2)) : Int) x5))) (Option.some (Sum.inr (Sum.inl (((3 : Int), Unit.unit), Unit.unit)))) (cond (Bool.not (Decidable.decide (Eq (Tree.val x2).1 (0 : Int)))) (cond (Bool.not (Bool.and (Decidable.decide (Eq (Tree.val x2).2.1.1 (0 : Int))) (Bool.and (Decidable.decide (Eq (Tree.val x2).2.1.2.1 (0 : Int))) (Bool.and (Decidable.decide (Eq (Tree.val x2).2.1.2.2.1 (ByteArray.mk (List.toArray (List.nil))))) (Decidable.decide (Eq (Tree.val x2).2.1.2.2.2.1 Bool.false)))))) (Option.some (Sum.inr (Sum.inl (((3 : Int), Unit.unit), Unit.unit)))) (cond (Bool.not (Decidable.decide (Eq (Tree.val x2).1 (1 : Int)))) (cond (Bool.not (Decidable.decide (Eq (Tree.val x2).1 (2 : Int)))) (cond (Bool.not (Decidable.decide (Eq (Tree.val x2).2.2.1 (ByteArray.mk (List.toArray (List.nil)))))) (Option.some (Sum.inr (Sum.inl (((3 : Int), Unit.unit), Unit.unit)))) (cond (Decidable.decide (Eq (Tree.val x2).1 (0 : Int))) (Option.bind (r34 (((Tree.val x2).2.1.1, ((Tree.val x2).2.1.2.1, ((Tree.val x2).2.1.2.2.1, ((Tree.val x2).2.1.2.2.2.1, Unit.unit)))), Unit.unit)) (fun x6 => (cond (Bool.not (Decidable.decide (Eq x6.1 (0 : Int)))) (Option.some (Sum.inr (Sum.inl ((x6.1, Unit.unit), Unit.unit)))) (cond (Decidable.decide (Eq (Tree.val x2).1 (1 : Int))) (Option.bind (r35 ((Tree.val x2).2.2.1, Unit.unit)) (fun x7 => (cond (Bool.not x7.1) (Option.some (Sum.inr (Sum.inl (((16 : Int), Unit.unit), Unit.unit)))) (Option.bind (r37 Unit.unit) (fun x8 => (Option.bind (r36 (x8.1, ((Tree.val x2).2.2.1, Unit.unit))) (fun x9 => (cond x9.1 (Option.some (Sum.inr (Sum.inl (((16 : Int), Unit.unit), Unit.unit)))) (cond (Decidable.decide (Eq (Tree.val x2).1 (2 : Int))) (Option.bind (r38 Unit.unit) (fun x10 => (Option.bind (r36 (x10.1, ((Tree.val x2).2.2.1, Unit.unit))) (fun x11 => (cond (Bool.not x11.1) (Option.some (Sum.inr (Sum.inl (((16 : Int), Unit.unit), Unit.unit)))) (Option.some (Sum.inl (((IntKind.wrap IntKind.i64 (HAdd.hAdd x1.1.1 (1 : Int))), Unit.unit), Unit.unit)))))))) (Option.some (Sum.inl (((IntKind.wrap IntKind.i64 (HAdd.hAdd x1.1.1 (1 : Int))), Unit.unit), Unit.unit)))))))))))) (cond (Decidable.decide (Eq (Tree.val x2).1 (2 : Int))) (Option.bind (r38 Unit.unit) (fun x7 => (Option.bind (r36 (x7.1, ((Tree.val x2).2.2.1, Unit.unit))) (fun x8 => (cond (Bool.not x8.1) (Option.some (Sum.inr (Sum.inl (((16 : Int), Unit.unit), Unit.unit)))) (Option.some (Sum.inl (((IntKind.wrap IntKind.i64 (HAdd.hAdd x1.1.1 (1 : Int))), Unit.unit), Unit.unit)))))))) (Option.some (Sum.inl (((IntKind.wrap IntKind.i64 (HAdd.hAdd x1.1.1 (1 : Int))), Unit.unit), Unit.unit)))))))) (cond (Decidable.decide (Eq (Tree.val x2).1 (1 : Int))) (Option.bind (r35 ((Tree.val x2).2.2.1, Unit.unit)) (fun x6 => (cond (Bool.not x6.1) (Option.some (Sum.inr (Sum.inl (((16 : Int), Unit.unit), Unit.unit)))) (Option.bind (r37 Unit.unit) (fun x7 => (Option.bind (r36 (x7.1, ((Tree.val x2).2.2.1, Unit.unit))) (fun x8 => (cond x8.1 (Option.some (Sum.inr (Sum.inl (((16 : Int), Unit.unit), Unit.unit)))) (cond (Decidable.decide (Eq (Tree.val x2).1 (2 : Int))) (Option.bind (r38 Unit.unit) (fun x9 => (Option.bind (r36 (x9.1, ((Tree.val x2).2.2.1, Unit.unit))) (fun x10 => (cond (Bool.not x10.1) (Option.some (Sum.inr (Sum.inl (((16 : Int), Unit.unit), Unit.unit)))) (Option.some (Sum.inl (((IntKind.wrap IntKind.i64 (HAdd.hAdd x1.1.1 (1 : Int))), Unit.unit), Unit.unit)))))))) (Option.some (Sum.inl (((IntKind.wrap IntKind.i64 (HAdd.hAdd x1.1.1 (1 : Int))), Unit.unit), Unit.unit)))))))))))) (cond (Decidable.decide (Eq (Tree.val x2).1 (2 : Int))) (Option.bind (r38 Unit.unit) (fun x6 => (Option.bind (r36 (x6.1, ((Tree.val x2).2.2.1, Unit.unit))) (fun x7 => (cond (Bool.not x7.1) (Option.some (Sum.inr (Sum.inl (((16 : Int), Unit.unit), Unit.unit)))) (Option.some (Sum.inl (((IntKind.wrap IntKind.i64 (HAdd.hAdd x1.1.1 (1 : Int))), Unit.unit), Unit.unit)))))))) (Option.some (Sum.inl (((IntKind.wrap IntKind.i64 (HAdd.hAdd x1.1.1 (1 : Int))), Unit.unit), Unit.unit))))))) (cond (Decidable.decide (Eq (Tree.val x2).1 (0 : Int))) (Option.bind (r34 (((Tree.val x2).2.1.1, ((Tree.val x2).2.1.2.1, ((Tree.val x2).2.1.2.2.1, ((Tree.val x2).2.1.2.2.2.1, Unit.unit)))), Unit.unit)) (fun x6 => (cond (Bool.not (Decidable.decide (Eq x6.1 (0 : Int)))) (Option.some (Sum.inr (Sum.inl ((x6.1, Unit.unit), Unit.unit)))) (cond (Decidable.decide (Eq (Tree.val x2).1 (1 : Int))) (Option.bind (r35 ((Tree.val x2).2.2.1, Unit.unit)) (fun x7 => (cond (Bool.not x7.1) (Option.some (Sum.inr (Sum.inl (((16 : Int), Unit.unit), Unit.unit)))) (Option.bind (r37 Unit.unit) (fun x8 => (Option.bind (r36 (x8.1, ((Tree.val x2).2.2.1, Unit.unit))) (fun x9 => (cond x9.1 (Option.some (Sum.inr (Sum.inl (((16 : Int), Unit.unit), Unit.unit)))) (cond (Decidable.decide (Eq (Tree.val x2).1 (2 : Int))) (Option.bind (r38 Unit.unit) (fun x10 => (Option.bind (r36 (x10.1, ((Tree.val x2).2.2.1, Unit.unit))) (fun x11 => (cond (Bool.not x11.1) (Option.some (Sum.inr (Sum.inl (((16 : Int), Unit.unit), Unit.unit)))) (Option.some (Sum.inl (((IntKind.wrap IntKind.i64 (HAdd.hAdd x1.1.1 (1 : Int))), Unit.unit), Unit.unit)))))))) (Option.some (Sum.inl (((IntKind.wrap IntKind.i64 (HAdd.hAdd x1.1.1 (1 : Int))), Unit.unit), Unit.unit)))))))))))) (cond (Decidable.decide (Eq (Tree.val x2).1 (2 : Int))) (Option.bind (r38 Unit.unit) (fun x7 => (Option.bind (r36 (x7.1, ((Tree.val x2).2.2.1, Unit.unit))) (fun x8 => (cond (Bool.not x8.1) (Option.some (Sum.inr (Sum.inl (((16 : Int), Unit.unit), Unit.unit)))) (Option.some (Sum.inl (((IntKind.wrap IntKind.i64 (HAdd.hAdd x1.1.1 (1 : Int))), Unit.unit), Unit.unit)))))))) (Option.some (Sum.inl (((IntKind.wrap IntKind.i64 (HAdd.hAdd x1.1.1 (1 : Int))), Unit.unit), Unit.unit)))))))) (cond (Decidable.decide (Eq (Tree.val x2).1 (1 : Int))) (Option.bind (r35 ((Tree.val x2).2.2.1, Unit.unit)) (fun x6 => (cond (Bool.not x6.1) (Option.some (Sum.inr (Sum.inl (((16 : Int), Unit.unit), Unit.unit)))) (Option.bind (r37 Unit.unit) (fun x7 => (Option.bind (r36 (x7.1, ((Tree.val x2).2.2.1, Unit.unit))) (fun x8 => (cond x8.1 (Option.some (Sum.inr (Sum.inl (((16 : Int), Unit.unit), Unit.unit)))) (cond (Decidable.decide (Eq (Tree.val x2).1 (2 : Int))) (Option.bind (r38 Unit.unit) (fun x9 => (Option.bind (r36 (x9.1, ((Tree.val x2).2.2.1, Unit.unit))) (fun x10 => (cond (Bool.not x10.1) (Option.some (Sum.inr (Sum.inl (((16 : Int), Unit.unit), Unit.unit)))) (Option.some (Sum.inl (((IntKind.wrap IntKind.i64 (HAdd.hAdd x1.1.1 (1 : Int))), Unit.unit), Unit.unit)))))))) (Option.some (Sum.inl (((IntKind.wrap IntKind.i64 (HAdd.hAdd x1.1.1 (1 : Int))), Unit.unit), Unit.unit)))))))))))) (cond (Decidable.decide (Eq (Tree.val x2).1 (2 : Int))) (Option.bind (r38 Unit.unit) (fun x6 => (Option.bind (r36 (x6.1, ((Tree.val x2).2.2.1, Unit.unit))) (fun x7 => (cond (Bool.not x7.1) (Option.some (Sum.inr (Sum.inl (((16 : Int), Unit.unit), Unit.unit)))) (Option.some (Sum.inl (((IntKind.wrap IntKind.i64 (HAdd.hAdd x1.1.1 (1 : Int))), Unit.unit), Unit.unit)))))))) (Option.some (Sum.inl (((IntKind.wrap IntKind.i64 (HAdd.hAdd x1.1.1 (1 : Int))), Unit.unit), Unit.unit))))))) (cond (Decidable.decide (Eq (Tree.val x2).1 (0 : Int))) (Option.bind (r34 (((Tree.val x2).2.1.1, ((Tree.val x2).2.1.2.1, ((Tree.val x2).2.1.2.2.1, ((Tree.val x2).2.1.2.2.2.1, Unit.unit)))), Unit.unit)) (fun x6 => (cond (Bool.not (Decidable.decide (Eq x6.1 (0 : Int)))) (Option.some (Sum.inr (Sum.inl ((x6.1, Unit.unit), Unit.unit)))) (cond (Decidable.decide (Eq (Tree.val x2).1 (1 : Int))) (Option.bind (r35 ((Tree.val x2).2.2.1, Unit.unit)) (fun x7 => (cond (Bool.not x7.1) (Option.some (Sum.inr (Sum.inl (((16 : Int), Unit.unit), Unit.unit)))) (Option.bind (r37 Unit.unit) (fun x8 => (Option.bind (r36 (x8.1, ((Tree.val x2).2.2.1, Unit.unit))) (fun x9 => (cond x9.1 (Option.some (Sum.inr (Sum.inl (((16 : Int), Unit.unit), Unit.unit)))) (cond (Decidable.decide (Eq (Tree.val x2).1 (2 : Int))) (Option.bind (r38 Unit.unit) (fun x10 => (Option.bind (r36 (x10.1, ((Tree.val x2).2.2.1, Unit.unit))) (fun x11 => (cond (Bool.not x11.1) (Option.some (Sum.inr (Sum.inl (((16 : Int), Unit.unit), Unit.unit)))) (Option.some (Sum.inl (((IntKind.wrap IntKind.i64 (HAdd.hAdd x1.1.1 (1 : Int))), Unit.unit), Unit.unit)))))))) (Option.some (Sum.inl (((IntKind.wrap IntKind.i64 (HAdd.hAdd x1.1.1 (1 : Int))), Unit.unit), Unit.unit)))))))))))) (cond (Decidable.decide (Eq (Tree.val x2).1 (2 : Int))) (Option.bind (r38 Unit.unit) (fun x7 => (Option.bind (r36 (x7.1, ((Tree.val x2).2.2.1, Unit.unit))) (fun x8 => (cond (Bool.not x8.1) (Option.some (Sum.inr (Sum.inl (((16 : Int), Unit.unit), Unit.unit)))) (Option.some (Sum.inl (((IntKind.wrap IntKind.i64 (HAdd.hAdd x1.1.1 (1 : Int))), Unit.unit), Unit.unit)))))))) (Option.some (Sum.inl (((IntKind.wrap IntKind.i64 (HAdd.hAdd x1.1.1 (1 : Int))), Unit.unit), Unit.unit)))))))) (cond (Decidable.decide (Eq (Tree.val x2).1 (1 : Int))) (Option.bind (r35 ((Tree.val x2).2.2.1, Unit.unit)) (fun x6 => (cond (Bool.not x6.1) (Option.some (Sum.inr (Sum.inl (((16 : Int), Unit.unit), Unit.unit)))) (Option.bind (r37 Unit.unit) (fun x7 => (Option.bind (r36 (x7.1, ((Tree.val x2).2.2.1, Unit.unit))) (fun x8 => (cond x8.1 (Option.some (Sum.inr (Sum.inl (((16 : Int), Unit.unit), Unit.unit)))) (cond (Decidable.decide (Eq (Tree.val x2).1 (2 : Int))) (Option.bind (r38 Unit.unit) (fun x9 => (Option.bind (r36 (x9.1, ((Tree.val x2).2.2.1, Unit.unit))) (fun x10 => (cond (Bool.not x10.1) (Option.some (Sum.inr (Sum.inl (((16 : Int), Unit.unit), Unit.unit)))) (Option.some (Sum.inl (((IntKind.wrap IntKind.i64 (HAdd.hAdd x1.1.1 (1 : Int))), Unit.unit), Unit.unit)))))))) (Option.some (Sum.inl (((IntKind.wrap IntKind.i64 (HAdd.hAdd x1.1.1 (1 : Int))), Unit.unit), Unit.unit)))))))))))) (cond (Decidable.decide (Eq (Tree.val x2).1 (2 : Int))) (Option.bind (r38 Unit.unit) (fun x6 => (Option.bind (r36 (x6.1, ((Tree.val x2).2.2.1, Unit.unit))) (fun x7 => (cond (Bool.not x7.1) (Option.some (Sum.inr (Sum.inl (((16 : Int), Unit.unit), Unit.unit)))) (Option.some (Sum.inl (((IntKind.wrap IntKind.i64 (HAdd.hAdd x1.1.1 (1 : Int))), Unit.unit), Unit.unit)))))))) (Option.some (Sum.inl (((IntKind.wrap IntKind.i64 (HAdd.hAdd x1.1.1 (1 : Int))), Unit.unit), Unit.unit)))))))) (cond (Bool.not (Decidable.decide (Eq (Tree.val x2).1 (1 : Int)))) (cond (Bool.not (Decidable.decide (Eq (Tree.val x2).1 (2 : Int)))) (cond (Bool.not (Decidable.decide (Eq (Tree.val x2).2.2.1 (ByteArray.mk (List.toArray (List.nil)))))) (Option.some (Sum.inr (Sum.inl (((3 : Int), Unit.unit), Unit.unit)))) (cond (Decidable.decide (Eq (Tree.val x2).1 (0 : Int))) (Option.bind (r34 (((Tree.val x2).2.1.1, ((Tree.val x2).2.1.2.1, ((Tree.val x2).2.1.2.2.1, ((Tree.val x2).2.1.2.2.2.1, Unit.unit)))), Unit.unit)) (fun x6 => (cond (Bool.not (Decidable.decide (Eq x6.1 (0 : Int)))) (Option.some (Sum.inr (Sum.inl ((x6.1, Unit.unit), Unit.unit)))) (cond (Decidable.decide (Eq (Tree.val x2).1 (1 : Int))) (Option.bind (r35 ((Tree.val x2).2.2.1, Unit.unit)) (fun x7 => (cond (Bool.not x7.1) (Option.some (Sum.inr (Sum.inl (((16 : Int), Unit.unit), Unit.unit)))) (Option.bind (r37 Unit.unit) (fun x8 => (Option.bind (r36 (x8.1, ((Tree.val x2).2.2.1, Unit.unit))) (fun x9 => (cond x9.1 (Option.some (Sum.inr (Sum.inl (((16 : Int), Unit.unit), Unit.unit)))) (cond (Decidable.decide (Eq (Tree.val x2).1 (2 : Int))) (Option.bind (r38 Unit.unit) (fun x10 => (Option.bind (r36 (x10.1, ((Tree.val x2).2.2.1, Unit.unit))) (fun x11 => (cond (Bool.not x11.1) (Option.some (Sum.inr (Sum.inl (((16 : Int), Unit.unit), Unit.unit)))) (Option.some (Sum.inl (((IntKind.wrap IntKind.i64 (HAdd.hAdd x1.1.1 (1 : Int))), Unit.unit), Unit.unit)))))))) (Option.some (Sum.inl (((IntKind.wrap IntKind.i64 (HAdd.hAdd x1.1.1 (1 : Int))), Unit.unit), Unit.unit)))))))))))) (cond (Decidable.decide (Eq (Tree.val x2).1 (2 : Int))) (Option.bind (r38 Unit.unit) (fun x7 => (Option.bind (r36 (x7.1, ((Tree.val x2).2.2.1, Unit.unit))) (fun x8 => (cond (Bool.not x8.1) (Option.some (Sum.inr (Sum.inl (((16 : Int), Unit.unit), Unit.unit)))) (Option.some (Sum.inl (((IntKind.wrap IntKind.i64 (HAdd.hAdd x1.1.1 (1 : Int))), Unit.unit), Unit.unit)))))))) (Option.some (Sum.inl (((IntKind.wrap IntKind.i64 (HAdd.hAdd x1.1.1 (1 : Int))), Unit.unit), Unit.unit)))))))) (cond (Decidable.decide (Eq (Tree.val x2).1 (1 : Int))) (Option.bind (r35 ((Tree.val x2).2.2.1, Unit.unit)) (fun x6 => (cond (Bool.not x6.1) (Option.some (Sum.inr (Sum.inl (((16 : Int), Unit.unit), Unit.unit)))) (Option.bind (r37 Unit.unit) (fun x7 => (Option.bind (r36 (x7.1, ((Tree.val x2).2.2.1, Unit.unit))) (fun x8 => (cond x8.1 (Option.some (Sum.inr (Sum.inl (((16 : Int), Unit.unit), Unit.unit)))) (cond (Decidable.decide (Eq (Tree.val x2).1 (2 : Int))) (Option.bind (r38 Unit.unit) (fun x9 => (Option.bind (r36 (x9.1, ((Tree.val x2).2.2.1, Unit.unit))) (fun x10 => (cond (Bool.not x10.1) (Option.some (Sum.inr (Sum.inl (((16 : Int), Unit.unit), Unit.unit)))) (Option.some (Sum.inl (((IntKind.wrap IntKind.i64 (HAdd.hAdd x1.1.1 (1 : Int))), Unit.unit), Unit.unit)))))))) (Option.some (Sum.inl (((IntKind.wrap IntKind.i64 (HAdd.hAdd x1.1.1 (1 : Int))), Unit.unit), Unit.unit)))))))))))) (cond (Decidable.decide (Eq (Tree.val x2).1 (2 : Int))) (Option.bind (r38 Unit.unit) (fun x6 => (Option.bind (r36 (x6.1, ((Tree.val x2).2.2.1, Unit.unit))) (fun x7 => (cond (Bool.not x7.1) (Option.some (Sum.inr (Sum.inl (((16 : Int), Unit.unit), Unit.unit)))) (Option.some (Sum.inl (((IntKind.wrap IntKind.i64 (HAdd.hAdd x1.1.1 (1 : Int))), Unit.unit), Unit.unit)))))))) (Option.some (Sum.inl (((IntKind.wrap IntKind.i64 (HAdd.hAdd x1.1.1 (1 : Int))), Unit.unit), Unit.unit))))))) (cond (Decidable.decide (Eq (Tree.val x2).1 (0 : Int))) (Option.bind (r34 (((Tree.val x2).2.1.1, ((Tree.val x2).2.1.2.1, ((Tree.val x2).2.1.2.2.1, ((Tree.val x2).2.1.2.2.2.1, Unit.unit)))), Unit.unit)) (fun x6 => (cond (Bool.not (Decidable.decide (Eq x6.1 (0 : Int)))) (Option.some (Sum.inr (Sum.inl ((x6.1, Unit.unit), Unit.unit)))) (cond (Decidable.decide (Eq (Tree.val x2).1 (1 : Int))) (Option.bind (r35 ((Tree.val x2).2.2.1, Unit.unit)) (fun x7 => (cond (Bool.not x7.1) (Option.some (Sum.inr (Sum.inl (((16 : Int), Unit.unit), Unit.unit)))) (Option.bind (r37 Unit.unit) (fun x8 => (Option.bind (r36 (x8.1, ((Tree.val x2).2.2.1, Unit.unit))) (fun x9 => (cond x9.1 (Option.some (Sum.inr (Sum.inl (((16 : Int), Unit.unit), Unit.unit)))) (cond (Decidable.decide (Eq (Tree.val x2).1 (2 : Int))) (Option.bind (r38 Unit.unit) (fun x10 => (Option.bind (r36 (x10.1, ((Tree.val x2).2.2.1, Unit.unit))) (fun x11 => (cond (Bool.not x11.1) (Option.some (Sum.inr (Sum.inl (((16 : Int), Unit.unit), Unit.unit)))) (Option.some (Sum.inl (((IntKind.wrap IntKind.i64 (HAdd.hAdd x1.1.1 (1 : Int))), Unit.unit), Unit.unit)))))))) (Option.some (Sum.inl (((IntKind.wrap IntKind.i64 (HAdd.hAdd x1.1.1 (1 : Int))), Unit.unit), Unit.unit)))))))))))) (cond (Decidable.decide (Eq (Tree.val x2).1 (2 : Int))) (Option.bind (r38 Unit.unit) (fun x7 => (Option.bind (r36 (x7.1, ((Tree.val x2).2.2.1, Unit.unit))) (fun x8 => (cond (Bool.not x8.1) (Option.some (Sum.inr (Sum.inl (((16 : Int), Unit.unit), Unit.unit)))) (Option.some (Sum.inl (((IntKind.wrap IntKind.i64 (HAdd.hAdd x1.1.1 (1 : Int))), Unit.unit), Unit.unit)))))))) (Option.some (Sum.inl (((IntKind.wrap IntKind.i64 (HAdd.hAdd x1.1.1 (1 : Int))), Unit.unit), Unit.unit)))))))) (cond (Decidable.decide (Eq (Tree.val x2).1 (1 : Int))) (Option.bind (r35 ((Tree.val x2).2.2.1, Unit.unit)) (fun x6 => (cond (Bool.not x6.1) (Option.some (Sum.inr (Sum.inl (((16 : Int), Unit.unit), Unit.unit)))) (Option.bind (r37 Unit.unit) (fun x7 => (Option.bind (r36 (x7.1, ((Tree.val x2).2.2.1, Unit.unit))) (fun x8 => (cond x8.1 (Option.some (Sum.inr (Sum.inl (((16 : Int), Unit.unit), Unit.unit)))) (cond (Decidable.decide (Eq (Tree.val x2).1 (2 : Int))) (Option.bind (r38 Unit.unit) (fun x9 => (Option.bind (r36 (x9.1, ((Tree.val x2).2.2.1, Unit.unit))) (fun x10 => (cond (Bool.not x10.1) (Option.some (Sum.inr (Sum.inl (((16 : Int), Unit.unit), Unit.unit)))) (Option.some (Sum.inl (((IntKind.wrap IntKind.i64 (HAdd.hAdd x1.1.1 (1 : Int))), Unit.unit), Unit.unit)))))))) (Option.some (Sum.inl (((IntKind.wrap IntKind.i64 (HAdd.hAdd x1.1.1 (1 : Int))), Unit.unit), Unit.unit)))))))))))) (cond (Decidable.decide (Eq (Tree.val x2).1 (2 : Int))) (Option.bind (r38 Unit.unit) (fun x6 => (Option.bind (r36 (x6.1, ((Tree.val x2).2.2.1, Unit.unit))) (fun x7 => (cond (Bool.not x7.1) (Option.some (Sum.inr (Sum.inl (((16 : Int), Unit.unit), Unit.unit)))) (Option.some (Sum.inl (((IntKind.wrap IntKind.i64 (HAdd.hAdd x1.1.1 (1 : Int))), Unit.unit), Unit.unit)))))))) (Option.some (Sum.inl (((IntKind.wrap IntKind.i64 (HAdd.hAdd x1.1.1 (1 : Int))), Unit.unit), Unit.unit))))))) (cond (Decidable.decide (Eq (Tree.val x2).1 (0 : Int))) (Option.bind (r34 (((Tree.val x2).2.1.1, ((Tree.val x2).2.1.2.1, ((Tree.val x2).2.1.2.2.1, ((Tree.val x2).2.1.2.2.2.1, Unit.unit)))), Unit.unit)) (fun x6 => (cond (Bool.not (Decidable.decide (Eq x6.1 (0 : Int)))) (Option.some (Sum.inr (Sum.inl ((x6.1, Unit.unit), Unit.unit)))) (cond (Decidable.decide (Eq (Tree.val x2).1 (1 : Int))) (Option.bind (r35 ((Tree.val x2).2.2.1, Unit.unit)) (fun x7 => (cond (Bool.not x7.1) (Option.some (Sum.inr (Sum.inl (((16 : Int), Unit.unit), Unit.unit)))) (Option.bind (r37 Unit.unit) (fun x8 => (Option.bind (r36 (x8.1, ((Tree.val x2).2.2.1, Unit.unit))) (fun x9 => (cond x9.1 (Option.some (Sum.inr (Sum.inl (((16 : Int), Unit.unit), Unit.unit)))) (cond (Decidable.decide (Eq (Tree.val x2).1 (2 : Int))) (Option.bind (r38 Unit.unit) (fun x10 => (Option.bind (r36 (x10.1, ((Tree.val x2).2.2.1, Unit.unit))) (fun x11 => (cond (Bool.not x11.1) (Option.some (Sum.inr (Sum.inl (((16 : Int), Unit.unit), Unit.unit)))) (Option.some (Sum.inl (((IntKind.wrap IntKind.i64 (HAdd.hAdd x1.1.1 (1 : Int))), Unit.unit), Unit.unit)))))))) (Option.some (Sum.inl (((IntKind.wrap IntKind.i64 (HAdd.hAdd x1.1.1 (1 : Int))), Unit.unit), Unit.unit)))))))))))) (cond (Decidable.decide (Eq (Tree.val x2).1 (2 : Int))) (Option.bind (r38 Unit.unit) (fun x7 => (Option.bind (r36 (x7.1, ((Tree.val x2).2.2.1, Unit.unit))) (fun x8 => (cond (Bool.not x8.1) (Option.some (Sum.inr (Sum.inl (((16 : Int), Unit.unit), Unit.unit)))) (Option.some (Sum.inl (((IntKind.wrap IntKind.i64 (HAdd.hAdd x1.1.1 (1 : Int))), Unit.unit), Unit.unit)))))))) (Option.some (Sum.inl (((IntKind.wrap IntKind.i64 (HAdd.hAdd x1.1.1 (1 : Int))), Unit.unit), Unit.unit)))))))) (cond (Decidable.decide (Eq (Tree.val x2).1 (1 : Int))) (Option.bind (r35 ((Tree.val x2).2.2.1, Unit.unit)) (fun x6 => (cond (Bool.not x6.1) (Option.some (Sum.inr (Sum.inl (((16 : Int), Unit.unit), Unit.unit)))) (Option.bind (r37 Unit.unit) (fun x7 => (Option.bind (r36 (x7.1, ((Tree.val x2).2.2.1, Unit.unit))) (fun x8 => (cond x8.1 (Option.some (Sum.inr (Sum.inl (((16 : Int), Unit.unit), Unit.unit)))) (cond (Decidable.decide (Eq (Tree.val x2).1 (2 : Int))) (Option.bind (r38 Unit.unit) (fun x9 => (Option.bind (r36 (x9.1, ((Tree.val x2).2.2.1, Unit.unit))) (fun x10 => (cond (Bool.not x10.1) (Option.some (Sum.inr (Sum.inl (((16 : Int), Unit.unit), Unit.unit)))) (Option.some (Sum.inl (((IntKind.wrap IntKind.i64 (HAdd.hAdd x1.1.1 (1 : Int))), Unit.unit), Unit.unit)))))))) (Option.some (Sum.inl (((IntKind.wrap IntKind.i64 (HAdd.hAdd x1.1.1 (1 : Int))), Unit.unit), Unit.unit)))))))))))) (cond (Decidable.decide (Eq (Tree.val x2).1 (2 : Int))) (Option.bind (r38 Unit.unit) (fun x6 => (Option.bind (r36 (x6.1, ((Tree.val x2).2.2.1, Unit.unit))) (fun x7 => (cond (Bool.not x7.1) (Option.some (Sum.inr (Sum.inl (((16 : Int), Unit.unit), Unit.unit)))) (Option.some (Sum.inl (((IntKind.wrap IntKind.i64 (HAdd.hAdd x1.1.1 (1 : Int))), Unit.unit), Unit.unit)))))))) (Option.some (Sum.inl (((IntKind.wrap IntKind.i64 (HAdd.hAdd x1.1.1 (1 : Int))), Unit.unit), Unit.unit))))))))))) (Option.none))))))))) (Option.none))))) (Option.none)) (Option.some (Sum.inr (Sum.inr (Sum.inl (Unit.unit, Unit.unit))))))) (((0 : Int), Unit.unit), Unit.unit)) (sumE (fun x1 => (Option.some (x1.1.1, Unit.unit))) (sumE (fun x1 => (Option.some ((0 : Int), Unit.unit))) (emptyE))))))
theorem r12_ok (n : Nat) : PureOk Go.Proofs.Tryz.prog nF gF 12 [(.tree (.pair (.int .i64) (.pair (.pair (.int .i64) (.pair (.int .i64) (.pair .str (.pair .bool .unit)))) (.pair .str .unit))))] [(.int .i64)] (r12 n) :=
  pureOk_of_run (F := specOf [(32, rowSpec [(.tree (.pair (.int .i64) (.pair (.pair (.int .i64) (.pair (.int .i64) (.pair .str (.pair .bool .unit)))) (.pair .str .unit)))), (.int .i64), (.int .i64)] [(.tree (.pair (.int .i64) (.pair (.pair (.int .i64) (.pair (.int .i64) (.pair .str (.pair .bool .unit)))) (.pair .str .unit)))), (.int .i64)] [(.tree (.pair (.int .i64) (.pair (.pair (.int .i64) (.pair (.int .i64) (.pair .str (.pair .bool .unit)))) (.pair .str .unit)))), (.int .i64)] (r32 n)), (33, pureSpec [] [(.slice (.int .i64))] r33), (34, pureSpec [(.pair (.int .i64) (.pair (.int .i64) (.pair .str (.pair .bool .unit))))] [(.int .i64)] r34), (35, pureSpec [.str] [.bool] r35), (37, pureSpec [] [(.slice .str)] r37), (36, pureSpec [(.slice .str), .str] [.bool] r36), (38, pureSpec [] [(.slice .str)] r38)]) (hs := hintOf [(0, ⟨⟨[(15, .lf (.int .i64))], [], []⟩, [(.ret, ⟨[(2, .lf (.int .i64))], [], []⟩), ((.exit 0), ⟨[], [], []⟩)]⟩)]) stays_F (specOf_cons (r32_ok n) (specOf_cons (PureOk.spec r33_ok) (specOf_cons (PureOk.spec r34_ok) (specOf_cons (PureOk.spec r35_ok) (specOf_cons (PureOk.spec r37_ok) (specOf_cons (PureOk.spec r36_ok) (specOf_cons (PureOk.spec r38_ok) specOf_nil))))))) mixed Go.Proofs.Tryz.func12 rfl (by kernel_rfl) (fun _ => by kernel_rfl)

/-- terrier/terrref2.AttrsErr -/
noncomputable def r40 (x : (kdP [(.slice (.pair .str (.pair (.pair (.int .i64) (.pair (.int .i64) (.pair .str (.pair .bool .unit)))) .unit))), .bool]).T) : Option (kdP [(.int .i64)]).T :=
  (cond (Decidable.decide (LT.lt (8 : Int) (Nat.cast (List.length x.1) : Int))) (Option.some ((2 : Int), Unit.unit)) (Option.bind (loop (D := (Prod (Kd.T (.pair .str (.pair (.int .i64) .unit))) (Kd.T .unit))) (O := (Sum (Kd.T (.pair (.pair (.int .i64) .unit) .unit)) (OutT (List.cons ((Ex3.exit 0), (Sh.mk (List.nil) (List.nil) (List.nil))) (List.nil))))) (fun x0 => (cond (Decidable.decide (LT.lt x0.1.2.1 (Nat.cast (List.length x.1) : Int))) (cond (inB x0.1.2.1 (List.length x.1)) (Option.bind (GetElem?.getElem? x.1 (Int.toNat x0.1.2.1)) (fun x1 => (Option.bind (r35 (x1.1, Unit.unit)) (fun x2 => (cond (Bool.not x2.1) (Option.some (Sum.inr (Sum.inl (((16 : Int), Unit.unit), Unit.unit)))) (cond (Bool.or (strLt x1.1 x0.1.1) (Decidable.decide (Eq x1.1 x0.1.1))) (Option.some (Sum.inr (Sum.inl (((9 : Int), Unit.unit), Unit.unit)))) (Option.bind (r34 ((x1.2.1.1, (x1.2.1.2.1, (x1.2.1.2.2.1, (x1.2.1.2.2.2.1, Unit.unit)))), Unit.unit)) (fun x3 => (cond (Bool.not (Decidable.decide (Eq x3.1 (0 : Int)))) (Option.some (Sum.inr (Sum.inl ((x3.1, Unit.unit), Unit.unit)))) (cond (Bool.not x.2.1) (cond (Bool.and (Decidable.decide (Eq x1.2.1.1 (0 : Int))) (Bool.and (Decidable.decide (Eq x1.2.1.2.1 (0 : Int))) (Bool.and (Decidable.decide (Eq x1.2.1.2.2.1 (ByteArray.mk (List.toArray (List.nil))))) (Decidable.decide (Eq x1.2.1.2.2.2.1 Bool.false))))) (Option.some (Sum.inr (Sum.inl (((3 : Int), Unit.unit), Unit.unit)))) (Option.some (Sum.inl ((x1.1, ((IntKind.wrap IntKind.i64 (HAdd.hAdd x0.1.2.1 (1 : Int))), Unit.unit)), Unit.unit)))) (Option.some (Sum.inl ((x1.1, ((IntKind.wrap IntKind.i64 (HAdd.hAdd x0.1.2.1 (1 : Int))), Unit.unit)), Unit.unit))))))))))))) (Option.none)) (Option.some (Sum.inr (Sum.inr (Sum.inl (Unit.unit, Unit.unit))))))) (((ByteArray.mk (List.toArray (List.nil))), ((0 : Int), Unit.unit)), Unit.unit)) (sumE (fun x0 => (Option.some (x0.1.1, Unit.unit))) (sumE (fun x0 => (Option.some ((0 : Int), Unit.unit))) (emptyE)))))
theorem r40_ok : PureOk Go.Proofs.Tryz.prog nF gF 40 [(.slice (.pair .str (.pair (.pair (.int .i64) (.pair (.int .i64) (.pair .str (.pair .bool .unit)))) .unit))), .bool] [(.int .i64)] r40 :=
  pureOk_of_run (F := specOf [(35, pureSpec [.str] [.bool] r35), (34, pureSpec [(.pair (.int .i64) (.pair (.int .i64) (.pair .str (.pair .bool .unit))))] [(.int .i64)] r34)]) (hs := hintOf [(0, ⟨⟨[(5, .lf .str), (14, .lf (.int .i64))], [], []⟩, [(.ret, ⟨[(4, .lf (.int .i64))], [], []⟩), ((.exit 0), ⟨[], [], []⟩)]⟩)]) stays_F (specOf_cons (PureOk.spec r35_ok) (specOf_cons (PureOk.spec r34_ok) specOf_nil)) mixed Go.Proofs.Tryz.func40 rfl (by kernel_rfl) (fun _ => by kernel_rfl)

/-- terrier/terrref2.FeatErr -/
noncomputable def r13 (x : (kdP [(.pair (.int .i64) (.pair (.int .i64) (.pair (.slice (.slice (.pair (.int .i64) (.pair (.int .i64) .unit)))) (.pair (.slice (.pair .str (.pair (.pair (.int .i64) (.pair (.int .i64) (.pair .str (.pair .bool .unit)))) .unit))) (.pair (.int .i64) (.pair (.int .i64) .unit))))))]).T) : Option (kdP [(.int .i64)]).T :=
  (cond (Decidable.decide (LE.le x.1.1 (0 : Int))) (Option.some ((1 : Int), Unit.unit)) (cond (Decidable.decide (LT.lt (1073741824 : Int) x.1.1)) (Option.some ((1 : Int), Unit.unit)) (Option.bind (r39 (x.1.2.1, (x.1.2.2.1, Unit.unit))) (fun x0 => (cond (Decidable.decide (Eq x0.1 (0 : Int))) (Option.bind (r40 (x.1.2.2.2.1, (Bool.false, Unit.unit))) (fun x1 => (cond (Decidable.decide (Eq x1.1 (0 : Int))) (cond (Decidable.decide (LT.lt x.1.2.2.2.2.1 (0 : Int))) (Option.some ((1 : Int), Unit.unit)) (cond (Decidable.decide (LE.le x.1.2.2.2.2.2.1 x.1.2.2.2.2.1)) (Option.some ((1 : Int), Unit.unit)) (cond (Decidable.decide (LT.lt (1073741824 : Int) x.1.2.2.2.2.2.1)) (Option.some ((1 : Int), Unit.unit)) (Option.some (x1.1, Unit.unit))))) (Option.some (x1.1, Unit.unit))))) (cond (Decidable.decide (Eq x0.1 (0 : Int))) (cond (Decidable.decide (LT.lt x.1.2.2.2.2.1 (0 : Int))) (Option.some ((1 : Int), Unit.unit)) (cond (Decidable.decide (LE.le x.1.2.2.2.2.2.1 x.1.2.2.2.2.1)) (Option.some ((1 : Int), Unit.unit)) (cond (Decidable.decide (LT.lt (1073741824 : Int) x.1.2.2.2.2.2.1)) (Option.some ((1 : Int), Unit.unit)) (Option.some (x0.1, Unit.unit))))) (Option.some (x0.1, Unit.unit))))))))
theorem r13_ok : PureOk Go.Proofs.Tryz.prog nF gF 13 [(.pair (.int .i64) (.pair (.int .i64) (.pair (.slice (.slice (.pair (.int .i64) (.pair (.int .i64) .unit)))) (.pair (.slice (.pair .str (.pair (.pair (.int .i64) (.pair (.int .i64) (.pair .str (.pair .bool .unit)))) .unit))) (.pair (.int .i64) (.pair (.int .i64) .unit))))))] [(.int .i64)] r13 :=
  pureOk_of_run (F := specOf [(39, pureSpec [(.int .i64), (.slice (.slice (.pair (.int .i64) (.pair (.int .i64) .unit))))] [(.int .i64)] r39), (40, pureSpec [(.slice (.pair .str (.pair (.pair (.int .i64) (.pair (.int .i64) (.pair .str (.pair .bool .unit)))) .unit))), .bool] [(.int .i64)] r40)]) (hs := hintOf []) stays_F (specOf_cons (PureOk.spec r39_ok) (specOf_cons (PureOk.spec r40_ok) specOf_nil)) mixed Go.Proofs.Tryz.func13 rfl (by kernel_rfl) (fun _ => by kernel_rfl)

/-- terrier/terrref2.Got -/
noncomputable def r41 (x : (kdP [(.pair (.int .i64) (.pair (.int .i64) (.pair (.slice (.slice (.pair (.int .i64) (.pair (.int .i64) .unit)))) (.pair (.slice (.pair .str (.pair (.pair (.int .i64) (.pair (.int .i64) (.pair .str (.pair .bool .unit)))) .unit))) (.pair (.int .i64) (.pair (.int .i64) .unit)))))), .str]).T) : Option (kdP [(.pair (.int .i64) (.pair (.int .i64) (.pair .str (.pair .bool .unit))))]).T :=
  (Option.bind (loop (D := (Prod (Kd.T (.pair (.int .i64) (.pair (.int .i64) (.pair (.int .i64) (.pair .str (.pair .bool .unit)))))) (Kd.T .unit))) (O := (Sum (Kd.T (.pair (.pair (.int .i64) (.pair (.int .i64) (.pair .str (.pair .bool .unit)))) .unit)) (OutT (List.nil)))) (fun x0 => (cond (Decidable.decide (LE.le (0 : Int) x0.1.1)) (cond (inB x0.1.1 (List.length x.1.2.2.2.1)) (Option.bind (GetElem?.getElem? x.1.2.2.2.1 (Int.toNat x0.1.1)) (fun x1 => (cond (Decidable.decide (Eq x1.1 x.2.1)) (cond (inB x0.1.1 (List.length x.1.2.2.2.1)) (Option.bind (GetElem?.getElem? x.1.2.2.2.1 (Int.toNat x0.1.1)) (fun x2 => (Option.some (Sum.inl (((IntKind.wrap IntKind.i64 (HSub.hSub x0.1.1 (1 : Int))), (x2.2.1.1, (x2.2.1.2.1, (x2.2.1.2.2.1, (x2.2.1.2.2.2.1, Unit.unit))))), Unit.unit))))) (Option.none)) (Option.some (Sum.inl (((IntKind.wrap IntKind.i64 (HSub.hSub x0.1.1 (1 : Int))), (x0.1.2.1, (x0.1.2.2.1, (x0.1.2.2.2.1, (x0.1.2.2.2.2.1, Unit.unit))))), Unit.unit)))))) (Option.none)) (Option.some (Sum.inr (Sum.inl ((x0.1.2.1, (x0.1.2.2.1, (x0.1.2.2.2.1, (x0.1.2.2.2.2.1, Unit.unit)))), Unit.unit)))))) (((IntKind.wrap IntKind.i64 (HSub.hSub (Nat.cast (List.length x.1.2.2.2.1) : Int) (1 : Int))), ((0 : Int), ((0 : Int), ((ByteArray.mk (List.toArray (List.nil))), (Bool.false, Unit.unit))))), Unit.unit)) (sumE (fun x0 => (Option.some ((x0.1.1, (x0.1.2.1, (x0.1.2.2.1, (x0.1.2.2.2.1, Unit.unit)))), Unit.unit))) (emptyE)))
theorem r41_ok : PureOk Go.Proofs.Tryz.prog nF gF 41 [(.pair (.int .i64) (.pair (.int .i64) (.pair (.slice (.slice (.pair (.int .i64) (.pair (.int .i64) .unit)))) (.pair (.slice (.pair .str (.pair (.pair (.int .i64) (.pair (.int .i64) (.pair .str (.pair .bool .unit)))) .unit))) (.pair (.int .i64) (.pair (.int .i64) .unit)))))), .str] [(.pair (.int .i64) (.pair (.int .i64) (.pair .str (.pair .bool .unit))))] r41 :=
  pureOk_of_run (F := specOf []) (hs := hintOf [(0, ⟨⟨[(6, .lf (.int .i64))], [(192, [.lf (.int .i64), .lf (.int .i64), .lf .str, .lf .bool])], []⟩, [((.exit 0), ⟨[], [(192, [.lf (.int .i64), .lf (.int .i64), .lf .str, .lf .bool])], []⟩)]⟩)]) stays_F specOf_nil mixed Go.Proofs.Tryz.func41 rfl (by kernel_rfl) (fun _ => by kernel_rfl)

/-- slices.Min[[]int,int] -/
noncomputable def r79 (x : (kdP [(.slice (.int .i64))]).T) : Option (kdP [(.int .i64)]).T :=
  (cond (Decidable.decide (LT.lt (Nat.cast (List.length x.1) : Int) (1 : Int))) (Option.none) (cond (inB (0 : Int) (List.length x.1)) (Option.bind (GetElem?.getElem? x.1 0) (fun x0 => (Option.bind (loop (D := (Prod (Kd.T (.pair (.int .i64) (.pair (.int .i64) .unit))) (Kd.T .unit))) (O := (Sum (Kd.T (.pair (.pair (.int .i64) .unit) .unit)) (OutT (List.nil)))) (fun x1 => (cond (Decidable.decide (LT.lt x1.1.2.1 (Nat.cast (List.length x.1) : Int))) (cond (inB x1.1.2.1 (List.length x.1)) (Option.bind (GetElem?.getElem? x.1 (Int.toNat x1.1.2.1)) (fun x2 => (Option.some (Sum.inl (((minI x1.1.1 x2), ((IntKind.wrap IntKind.i64 (HAdd.hAdd x1.1.2.1 (1 : Int))), Unit.unit)), Unit.unit))))) (Option.none)) (Option.some (Sum.inr (Sum.inl ((x1.1.1, Unit.unit), Unit.unit)))))) ((x0, ((1 : Int), Unit.unit)), Unit.unit)) (sumE (fun x1 => (Option.some (x1.1.1, Unit.unit))) (emptyE))))) (Option.none)))
theorem r79_ok : PureOk Go.Proofs.Tryz.prog nF gF 79 [(.slice (.int .i64))] [(.int .i64)] r79 :=
  pureOk_of_run (F := specOf []) (hs := hintOf [(0, ⟨⟨[(3, .lf (.int .i64)), (4, .lf (.int .i64))], [], []⟩, [((.exit 0), ⟨[(3, .lf (.int .i64))], [], []⟩)]⟩)]) stays_F specOf_nil mixed Go.Proofs.Tryz.func79 rfl (by kernel_rfl) (fun _ => by kernel_rfl)

/-- slices.Max[[]int,int] -/
noncomputable def r80 (x : (kdP [(.slice (.int .i64))]).T) : Option (kdP [(.int .i64)]).T :=
  (cond (Decidable.decide (LT.lt (Nat.cast (List.length x.1) : Int) (1 : Int))) (Option.none) (cond (inB (0 : Int) (List.length x.1)) (Option.bind (GetElem?.getElem? x.1 0) (fun x0 => (Option.bind (loop (D := (Prod (Kd.T (.pair (.int .i64) (.pair (.int .i64) .unit))) (Kd.T .unit))) (O := (Sum (Kd.T (.pair (.pair (.int .i64) .unit) .unit)) (OutT (List.nil)))) (fun x1 => (cond (Decidable.decide (LT.lt x1.1.2.1 (Nat.cast (List.length x.1) : Int))) (cond (inB x1.1.2.1 (List.length x.1)) (Option.bind (GetElem?.getElem? x.1 (Int.toNat x1.1.2.1)) (fun x2 => (Option.some (Sum.inl (((maxI x1.1.1 x2), ((IntKind.wrap IntKind.i64 (HAdd.hAdd x1.1.2.1 (1 : Int))), Unit.unit)), Unit.unit))))) (Option.none)) (Option.some (Sum.inr (Sum.inl ((x1.1.1, Unit.unit), Unit.unit)))))) ((x0, ((1 : Int), Unit.unit)), Unit.unit)) (sumE (fun x1 => (Option.some (x1.1.1, Unit.unit))) (emptyE))))) (Option.none)))
theorem r80_ok : PureOk Go.Proofs.Tryz.prog nF gF 80 [(.slice (.int .i64))] [(.int .i64)] r80 :=
  pureOk_of_run (F := specOf []) (hs := hintOf [(0, ⟨⟨[(3, .lf (.int .i64)), (4, .lf (.int .i64))], [], []⟩, [((.exit 0), ⟨[(3, .lf (.int .i64))], [], []⟩)]⟩)]) stays_F specOf_nil mixed Go.Proofs.Tryz.func80 rfl (by kernel_rfl) (fun _ => by kernel_rfl)

/-- terrier/terrref2.Bound -/
noncomputable def r76 (x : (kdP [(.pair (.int .i64) (.pair (.int .i64) (.pair (.slice (.slice (.pair (.int .i64) (.pair (.int .i64) .unit)))) (.pair (.slice (.pair .str (.pair (.pair (.int .i64) (.pair (.int .i64) (.pair .str (.pair .bool .unit)))) .unit))) (.pair (.int .i64) (.pair (.int .i64) .unit))))))]).T) : Option (kdP [(.pair (.pair (.int .i64) (.pair (.int .i64) .unit)) (.pair (.pair (.int .i64) (.pair (.int .i64) .unit)) .unit))]).T :=
  (Option.bind (loop (D := (Prod (Kd.T (.pair (.slice (.int .i64)) (.pair (.slice (.int .i64)) (.pair (.int .i64) .unit)))) (Kd.T .unit))) (O := (Sum (Kd.T (.pair (.pair (.slice (.int .i64)) (.pair (.slice (.int .i64)) .unit)) .unit)) (OutT (List.nil)))) (fun x0 => (cond (Decidable.decide (LT.lt x0.1.2.2.1 (Nat.cast (List.length x.1.2.2.1) : Int))) (cond (inB x0.1.2.2.1 (List.length x.1.2.2.1)) (Option.bind (GetElem?.getElem? x.1.2.2.1 (Int.toNat x0.1.2.2.1)) (fun x1 => (Option.bind (loop (D := (Prod (Kd.T (.pair (.slice (.int .i64)) (.pair (.slice (.int .i64)) (.pair (.int .i64) .unit)))) (Kd.T .unit))) (O := (Sum (Kd.T (.pair (.pair (.slice (.int .i64)) (.pair (.slice (.int .i64)) .unit)) .unit)) (OutT (List.nil)))) (fun x2 => (cond (Decidable.decide (LT.lt x2.1.2.2.1 (Nat.cast (List.length x1) : Int))) (cond (inB x2.1.2.2.1 (List.length x1)) (Option.bind (GetElem?.getElem? x1 (Int.toNat x2.1.2.2.1)) (fun x3 => (cond (fits (HAdd.hAdd (List.length x2.1.1) (List.length (List.cons x3.1 (List.nil)))) 8) (cond (fits (HAdd.hAdd (List.length x2.1.2.1) (List.length (List.cons x3.2.1 (List.nil)))) 8) (Option.some (Sum.inl (((HAppend.hAppend x2.1.1 (List.cons x3.1 (List.nil))), ((HAppend.hAppend x2.1.2.1 (List.cons x3.2.1 (List.nil))), ((IntKind.wrap IntKind.i64 (HAdd.hAdd x2.1.2.2.1 (1 : Int))), Unit.unit))), Unit.unit))) (Option.none)) (Option.none)))) (Option.none)) (Option.some (Sum.inr (Sum.inl ((x2.1.1, (x2.1.2.1, Unit.unit)), Unit.unit)))))) ((x0.1.1, (x0.1.2.1, ((0 : Int), Unit.unit))), Unit.unit)) (sumE (fun x2 => (Option.some (Sum.inl ((x2.1.1, (x2.1.2.1, ((IntKind.wrap IntKind.i64 (HAdd.hAdd x0.1.2.2.1 (1 : Int))), Unit.unit))), Unit.unit)))) (emptyE))))) (Option.none)) (Option.some (Sum.inr (Sum.inl ((x0.1.1, (x0.1.2.1, Unit.unit)), Unit.unit)))))) (((List.nil), ((List.nil), ((0 : Int), Unit.unit))), Unit.unit)) (sumE (fun x0 => (Option.bind (r79 (x0.1.1, Unit.unit)) (fun x1 => (Option.bind (r79 (x0.1.2.1, Unit.unit)) (fun x2 => (Option.bind (r80 (x0.1.1, Unit.unit)) (fun x3 => (Option.bind (r80 (x0.1.2.1, Unit.unit)) (fun x4 => (Option.some (((x1.1, (x2.1, Unit.unit)), ((x3.1, (x4.1, Unit.unit)), Unit.unit)), Unit.unit))))))))))) (emptyE)))
theorem r76_ok : PureOk Go.Proofs.Tryz.prog nF gF 76 [(.pair (.int .i64) (.pair (.int .i64) (.pair (.slice (.slice (.pair (.int .i64) (.pair (.int .i64) .unit)))) (.pair (.slice (.pair .str (.pair (.pair (.int .i64) (.pair (.int .i64) (.pair .str (.pair .bool .unit)))) .unit))) (.pair (.int .i64) (.pair (.int .i64) .unit))))))] [(.pair (.pair (.int .i64) (.pair (.int .i64) .unit)) (.pair (.pair (.int .i64) (.pair (.int .i64) .unit)) .unit))] r76 :=
  pureOk_of_run (F := specOf [(79, pureSpec [(.slice (.int .i64))] [(.int .i64)] r79), (80, pureSpec [(.slice (.int .i64))] [(.int .i64)] r80)]) (hs := hintOf [(2, ⟨⟨[(3, .own (.int .i64)), (4, .own (.int .i64)), (18, .lf (.int .i64))], [], []⟩, [((.exit 2), ⟨[(3, .own (.int .i64)), (4, .own (.int .i64))], [], []⟩)]⟩), (0, ⟨⟨[(3, .own (.int .i64)), (4, .own (.int .i64)), (12, .lf (.int .i64))], [], []⟩, [((.exit 0), ⟨[(3, .own (.int .i64)), (4, .own (.int .i64))], [], []⟩)]⟩)]) stays_F (specOf_cons (PureOk.spec r79_ok) (specOf_cons (PureOk.spec r80_ok) specOf_nil)) mixed Go.Proofs.Tryz.func76 rfl (by kernel_rfl) (fun _ => by kernel_rfl)

/-- terrier/terrref2.kinds -/
noncomputable def r77 (x : (kdP []).T) : Option (kdP [(.slice .str)]).T :=
  (Option.some ((List.cons (ByteArray.mk (List.toArray (List.nil))) (List.cons (ByteArray.mk (List.toArray (List.cons (100 : UInt8) (List.cons (111 : UInt8) (List.cons (116 : UInt8) (List.cons (115 : UInt8) (List.nil))))))) (List.cons (ByteArray.mk (List.toArray (List.cons (108 : UInt8) (List.cons (105 : UInt8) (List.cons (110 : UInt8) (List.cons (101 : UInt8) (List.cons (115 : UInt8) (List.nil)))))))) (List.cons (ByteArray.mk (List.toArray (List.cons (97 : UInt8) (List.cons (114 : UInt8) (List.cons (101 : UInt8) (List.cons (97 : UInt8) (List.cons (115 : UInt8) (List.nil)))))))) (List.nil))))), Unit.unit))
theorem r77_ok : PureOk Go.Proofs.Tryz.prog nF gF 77 [] [(.slice .str)] r77 :=
  pureOk_of_run (F := specOf []) (hs := hintOf []) stays_F specOf_nil mixed Go.Proofs.Tryz.func77 rfl (by kernel_rfl) (fun _ => by kernel_rfl)

/-- terrier/terrref2.property -/
noncomputable def r42 (x : (kdP [.str, (.pair (.int .i64) (.pair (.int .i64) (.pair (.slice (.slice (.pair (.int .i64) (.pair (.int .i64) .unit)))) (.pair (.slice (.pair .str (.pair (.pair (.int .i64) (.pair (.int .i64) (.pair .str (.pair .bool .unit)))) .unit))) (.pair (.int .i64) (.pair (.int .i64) .unit))))))]).T) : Option (kdP [(.pair (.int .i64) (.pair (.int .i64) (.pair .str (.pair .bool .unit))))]).T :=
  (Option.bind (r76 ((x.2.1.1, (x.2.1.2.1, (x.2.1.2.2.1, (x.2.1.2.2.2.1, (x.2.1.2.2.2.2.1, (x.2.1.2.2.2.2.2.1, Unit.unit)))))), Unit.unit)) (fun x0 => (Option.bind (loop (D := (Prod (Kd.T (.pair (.int .i64) (.pair (.int .i64) .unit))) (Kd.T .unit))) (O := (Sum (Kd.T (.pair (.pair (.int .i64) .unit) .unit)) (OutT (List.nil)))) (fun x1 => (cond (Decidable.decide (LT.lt x1.1.2.1 (Nat.cast (List.length x.2.1.2.2.1) : Int))) (cond (inB x1.1.2.1 (List.length x.2.1.2.2.1)) (Option.bind (GetElem?.getElem? x.2.1.2.2.1 (Int.toNat x1.1.2.1)) (fun x2 => (Option.some (Sum.inl (((IntKind.wrap IntKind.i64 (HAdd.hAdd x1.1.1 (Nat.cast (List.length x2) : Int))), ((IntKind.wrap IntKind.i64 (HAdd.hAdd x1.1.2.1 (1 : Int))), Unit.unit)), Unit.unit))))) (Option.none)) (Option.some (Sum.inr (Sum.inl ((x1.1.1, Unit.unit), Unit.unit)))))) (((0 : Int), ((0 : Int), Unit.unit)), Unit.unit)) (sumE (fun x1 => (cond (BEq.beq x.1 (ByteArray.mk (List.toArray (List.cons (105 : UInt8) (List.cons (100 : UInt8) (List.nil)))))) (Option.some (((1 : Int), (x.2.1.1, ((ByteArray.mk (List.toArray (List.nil))), (Bool.false, Unit.unit)))), Unit.unit)) (cond (BEq.beq x.1 (ByteArray.mk (List.toArray (List.cons (102 : UInt8) (List.cons (114 : UInt8) (List.cons (111 : UInt8) (List.cons (109 : UInt8) (List.nil)))))))) (Option.some (((1 : Int), (x.2.1.2.2.2.2.1, ((ByteArray.mk (List.toArray (List.nil))), (Bool.false, Unit.unit)))), Unit.unit)) (cond (BEq.beq x.1 (ByteArray.mk (List.toArray (List.cons (116 : UInt8) (List.cons (111 : UInt8) (List.nil)))))) (Option.some (((1 : Int), (x.2.1.2.2.2.2.2.1, ((ByteArray.mk (List.toArray (List.nil))), (Bool.false, Unit.unit)))), Unit.unit)) (cond (BEq.beq x.1 (ByteArray.mk (List.toArray (List.cons (112 : UInt8) (List.cons (97 : UInt8) (List.cons (114 : UInt8) (List.cons (116 : UInt8) (List.cons (115 : UInt8) (List.nil))))))))) (Option.some (((1 : Int), ((Nat.cast (List.length x.2.1.2.2.1) : Int), ((ByteArray.mk (List.toArray (List.nil))), (Bool.false, Unit.unit)))), Unit.unit)) (cond (BEq.beq x.1 (ByteArray.mk (List.toArray (List.cons (112 : UInt8) (List.cons (111 : UInt8) (List.cons (105 : UInt8) (List.cons (110 : UInt8) (List.cons (116 : UInt8) (List.cons (115 : UInt8) (List.nil)))))))))) (Option.some (((1 : Int), (x1.1.1, ((ByteArray.mk (List.toArray (List.nil))), (Bool.false, Unit.unit)))), Unit.unit)) (cond (BEq.beq x.1 (ByteArray.mk (List.toArray (List.cons (119 : UInt8) (List.cons (101 : UInt8) (List.cons (115 : UInt8) (List.cons (116 : UInt8) (List.nil)))))))) (Option.some (((1 : Int), (x0.1.1.1, ((ByteArray.mk (List.toArray (List.nil))), (Bool.false, Unit.unit)))), Unit.unit)) (cond (BEq.beq x.1 (ByteArray.mk (List.toArray (List.cons (115 : UInt8) (List.cons (111 : UInt8) (List.cons (117 : UInt8) (List.cons (116 : UInt8) (List.cons (104 : UInt8) (List.nil))))))))) (Option.some (((1 : Int), (x0.1.1.2.1, ((ByteArray.mk (List.toArray (List.nil))), (Bool.false, Unit.unit)))), Unit.unit)) (cond (BEq.beq x.1 (ByteArray.mk (List.toArray (List.cons (101 : UInt8) (List.cons (97 : UInt8) (List.cons (115 : UInt8) (List.cons (116 : UInt8) (List.nil)))))))) (Option.some (((1 : Int), (x0.1.2.1.1, ((ByteArray.mk (List.toArray (List.nil))), (Bool.false, Unit.unit)))), Unit.unit)) (cond (BEq.beq x.1 (ByteArray.mk (List.toArray (List.cons (110 : UInt8) (List.cons (111 : UInt8) (List.cons (114 : UInt8) (List.cons (116 : UInt8) (List.cons (104 : UInt8) (List.nil))))))))) (Option.some (((1 : Int), (x0.1.2.1.2.1, ((ByteArray.mk (List.toArray (List.nil))), (Bool.false, Unit.unit)))), Unit.unit)) (Option.bind (r77 Unit.unit) (fun x2 => (cond (inB x.2.1.2.1 (List.length x2.1)) (Option.bind (GetElem?.getElem? x2.1 (Int.toNat x.2.1.2.1)) (fun x3 => (Option.some (((2 : Int), ((0 : Int), (x3, (Bool.false, Unit.unit)))), Unit.unit)))) (Option.none)))))))))))))) (emptyE)))))
theorem r42_ok : PureOk Go.Proofs.Tryz.prog nF gF 42 [.str, (.pair (.int .i64) (.pair (.int .i64) (.pair (.slice (.slice (.pair (.int .i64) (.pair (.int .i64) .unit)))) (.pair (.slice (.pair .str (.pair (.pair (.int .i64) (.pair (.int .i64) (.pair .str (.pair .bool .unit)))) .unit))) (.pair (.int .i64) (.pair (.int .i64) .unit))))))] [(.pair (.int .i64) (.pair (.int .i64) (.pair .str (.pair .bool .unit))))] r42 :=
  pureOk_of_run (F := specOf [(76, pureSpec [(.pair (.int .i64) (.pair (.int .i64) (.pair (.slice (.slice (.pair (.int .i64) (.pair (.int .i64) .unit)))) (.pair (.slice (.pair .str (.pair (.pair (.int .i64) (.pair (.int .i64) (.pair .str (.pair .bool .unit)))) .unit))) (.pair (.int .i64) (.pair (.int .i64) .unit))))))] [(.pair (.pair (.int .i64) (.pair (.int .i64) .unit)) (.pair (.pair (.int .i64) (.pair (.int .i64) .unit)) .unit))] r76), (77, pureSpec [] [(.slice .str)] r77)]) (hs := hintOf [(0, ⟨⟨[(6, .lf (.int .i64)), (16, .lf (.int .i64))], [], []⟩, [((.exit 0), ⟨[(6, .lf (.int .i64))], [], []⟩)]⟩)]) stays_F (specOf_cons (PureOk.spec r76_ok) (specOf_cons (PureOk.spec r77_ok) specOf_nil)) mixed Go.Proofs.Tryz.func42 rfl (by kernel_rfl) (fun _ => by kernel_rfl)

/-- terrier/terrref2.order -/
noncomputable def r78 (x : (kdP [(.int .i64), (.int .i64)]).T) : Option (kdP [(.int .i64)]).T :=
  (cond (Decidable.decide (LT.lt x.1 x.2.1)) (Option.some ((Neg.neg (1 : Int)), Unit.unit)) (cond (Decidable.decide (LT.lt x.2.1 x.1)) (Option.some ((1 : Int), Unit.unit)) (Option.some ((0 : Int), Unit.unit))))
theorem r78_ok : PureOk Go.Proofs.Tryz.prog nF gF 78 [(.int .i64), (.int .i64)] [(.int .i64)] r78 :=
  pureOk_of_run (F := specOf []) (hs := hintOf []) stays_F specOf_nil mixed Go.Proofs.Tryz.func78 rfl (by kernel_rfl) (fun _ => by kernel_rfl)

/-- terrier/terrref2.ValueCmp -/
noncomputable def r45 (x : (kdP [(.pair (.int .i64) (.pair (.int .i64) (.pair .str (.pair .bool .unit)))), (.pair (.int .i64) (.pair (.int .i64) (.pair .str (.pair .bool .unit))))]).T) : Option (kdP [(.int .i64)]).T :=
  (Option.bind (r78 (x.1.1, (x.2.1.1, Unit.unit))) (fun x0 => (Option.bind (r78 (x.1.2.1, (x.2.1.2.1, Unit.unit))) (fun x1 => (Option.bind (loop (D := (Prod (Kd.T (.pair (.int .i64) .unit)) (Kd.T .unit))) (O := (Sum (Kd.T (.pair (.pair (.int .i64) .unit) .unit)) (OutT (List.cons ((Ex3.exit 0), (Sh.mk (List.nil) (List.nil) (List.nil))) (List.nil))))) (fun x2 => (cond (Decidable.decide (LT.lt x2.1.1 (Nat.cast (List.length (List.cons x0.1 (List.cons x1.1 (List.nil)))) : Int))) (cond (inB x2.1.1 (List.length (List.cons x0.1 (List.cons x1.1 (List.nil))))) (Option.bind (GetElem?.getElem? (List.cons x0.1 (List.cons x1.1 (List.nil))) (Int.toNat x2.1.1)) (fun x3 => (cond (Bool.not (Decidable.decide (Eq x3 (0 : Int)))) (Option.some (Sum.inr (Sum.inl ((x3, Unit.unit), Unit.unit)))) (Option.some (Sum.inl (((IntKind.wrap IntKind.i64 (HAdd.hAdd x2.1.1 (1 : Int))), Unit.unit), Unit.unit)))))) (Option.none)) (Option.some (Sum.inr (Sum.inr (Sum.inl (Unit.unit, Unit.unit))))))) (((0 : Int), Unit.unit), Unit.unit)) (sumE (fun x2 => (Option.some (x2.1.1, Unit.unit))) (sumE (fun x2 => (cond (strLt x.1.2.2.1 x.2.1.2.2.1) (Option.some ((Neg.neg (1 : Int)), Unit.unit)) (cond (Decidable.decide (Eq x.1.2.2.1 x.2.1.2.2.1)) (cond (Bool.not x.1.2.2.2.1) (cond x.2.1.2.2.2.1 (Option.some ((Neg.neg (1 : Int)), Unit.unit)) (cond (Bool.not (Bool.or (strLt x.1.2.2.1 x.2.1.2.2.1) (Decidable.decide (Eq x.1.2.2.1 x.2.1.2.2.1)))) (Option.some ((1 : Int), Unit.unit)) (cond x.1.2.2.2.1 (cond (Bool.not x.2.1.2.2.2.1) (Option.some ((1 : Int), Unit.unit)) (Option.some ((0 : Int), Unit.unit))) (Option.some ((0 : Int), Unit.unit))))) (cond (Bool.not (Bool.or (strLt x.1.2.2.1 x.2.1.2.2.1) (Decidable.decide (Eq x.1.2.2.1 x.2.1.2.2.1)))) (Option.some ((1 : Int), Unit.unit)) (cond x.1.2.2.2.1 (cond (Bool.not x.2.1.2.2.2.1) (Option.some ((1 : Int), Unit.unit)) (Option.some ((0 : Int), Unit.unit))) (Option.some ((0 : Int), Unit.unit))))) (cond (Bool.not (Bool.or (strLt x.1.2.2.1 x.2.1.2.2.1) (Decidable.decide (Eq x.1.2.2.1 x.2.1.2.2.1)))) (Option.some ((1 : Int), Unit.unit)) (cond x.1.2.2.2.1 (cond (Bool.not x.2.1.2.2.2.1) (Option.some ((1 : Int), Unit.unit)) (Option.some ((0 : Int), Unit.unit))) (Option.some ((0 : Int), Unit.unit))))))) (emptyE))))))))
theorem r45_ok : PureOk Go.Proofs.Tryz.prog nF gF 45 [(.pair (.int .i64) (.pair (.int .i64) (.pair .str (.pair .bool .unit)))), (.pair (.int .i64) (.pair (.int .i64) (.pair .str (.pair .bool .unit))))] [(.int .i64)] r45 :=
  pureOk_of_run (F := specOf [(78, pureSpec [(.int .i64), (.int .i64)] [(.int .i64)] r78)]) (hs := hintOf [(0, ⟨⟨[(19, .lf (.int .i64))], [], []⟩, [(.ret, ⟨[(4, .lf (.int .i64))], [], []⟩), ((.exit 0), ⟨[], [], []⟩)]⟩)]) stays_F (specOf_cons (PureOk.spec r78_ok) specOf_nil) mixed Go.Proofs.Tryz.func45 rfl (by kernel_rfl) (fun _ => by kernel_rfl)

/-- terrier/terrref2.Eval$1 -/
noncomputable def r44 (x : (kdP [.bool]).T) : Option (kdP [(.pair (.int .i64) (.pair (.int .i64) (.pair .str (.pair .bool .unit)))), (.int .i64)]).T :=
  (Option.some (((3 : Int), ((0 : Int), ((ByteArray.mk (List.toArray (List.nil))), (x.1, Unit.unit)))), ((0 : Int), Unit.unit)))
theorem r44_ok : PureOk Go.Proofs.Tryz.prog nF gF 44 [.bool] [(.pair (.int .i64) (.pair (.int .i64) (.pair .str (.pair .bool .unit)))), (.int .i64)] r44 :=
  pureOk_of_run (F := specOf []) (hs := hintOf []) stays_F specOf_nil mixed Go.Proofs.Tryz.func44 rfl (by kernel_rfl) (fun _ => by kernel_rfl)

/-- terrier/terrref2.arithmetic -/
noncomputable def r46 (x : (kdP [(.int .i64), (.int .i64), (.int .i64)]).T) : Option (kdP [(.pair (.int .i64) (.pair (.int .i64) (.pair .str (.pair .bool .unit)))), (.int .i64)]).T :=
  (cond (Decidable.decide (Eq x.1 (12 : Int))) (cond (Decidable.decide (LT.lt (1000000000000 : Int) (IntKind.wrap IntKind.i64 (HAdd.hAdd x.2.1 x.2.2.1)))) (Option.some (((0 : Int), ((0 : Int), ((ByteArray.mk (List.toArray (List.nil))), (Bool.false, Unit.unit)))), ((2 : Int), Unit.unit))) (cond (Decidable.decide (LT.lt (IntKind.wrap IntKind.i64 (HAdd.hAdd x.2.1 x.2.2.1)) (Neg.neg (1000000000000 : Int)))) (Option.some (((0 : Int), ((0 : Int), ((ByteArray.mk (List.toArray (List.nil))), (Bool.false, Unit.unit)))), ((2 : Int), Unit.unit))) (Option.some (((1 : Int), ((IntKind.wrap IntKind.i64 (HAdd.hAdd x.2.1 x.2.2.1)), ((ByteArray.mk (List.toArray (List.nil))), (Bool.false, Unit.unit)))), ((0 : Int), Unit.unit))))) (cond (Decidable.decide (Eq x.1 (13 : Int))) (cond (Decidable.decide (LT.lt (1000000000000 : Int) (IntKind.wrap IntKind.i64 (HSub.hSub x.2.1 x.2.2.1)))) (Option.some (((0 : Int), ((0 : Int), ((ByteArray.mk (List.toArray (List.nil))), (Bool.false, Unit.unit)))), ((2 : Int), Unit.unit))) (cond (Decidable.decide (LT.lt (IntKind.wrap IntKind.i64 (HSub.hSub x.2.1 x.2.2.1)) (Neg.neg (1000000000000 : Int)))) (Option.some (((0 : Int), ((0 : Int), ((ByteArray.mk (List.toArray (List.nil))), (Bool.false, Unit.unit)))), ((2 : Int), Unit.unit))) (Option.some (((1 : Int), ((IntKind.wrap IntKind.i64 (HSub.hSub x.2.1 x.2.2.1)), ((ByteArray.mk (List.toArray (List.nil))), (Bool.false, Unit.unit)))), ((0 : Int), Unit.unit))))) (cond (Decidable.decide (Eq x.1 (14 : Int))) (cond (Decidable.decide (LT.lt (0 : Int) (maxI x.2.2.1 (IntKind.wrap IntKind.i64 (HSub.hSub (0 : Int) x.2.2.1))))) (cond (Decidable.decide (Eq (maxI x.2.2.1 (IntKind.wrap IntKind.i64 (HSub.hSub (0 : Int) x.2.2.1))) (0 : Int))) (Option.none) (cond (Decidable.decide (LT.lt (IntKind.wrap IntKind.i64 (Int.tdiv (1000000000000 : Int) (maxI x.2.2.1 (IntKind.wrap IntKind.i64 (HSub.hSub (0 : Int) x.2.2.1))))) (maxI x.2.1 (IntKind.wrap IntKind.i64 (HSub.hSub (0 : Int) x.2.1))))) (Option.some (((0 : Int), ((0 : Int), ((ByteArray.mk (List.toArray (List.nil))), (Bool.false, Unit.unit)))), ((2 : Int), Unit.unit))) (cond (Decidable.decide (LT.lt (1000000000000 : Int) (IntKind.wrap IntKind.i64 (HMul.hMul x.2.1 x.2.2.1)))) (Option.some (((0 : Int), ((0 : Int), ((ByteArray.mk (List.toArray (List.nil))), (Bool.false, Unit.unit)))), ((2 : Int), Unit.unit))) (cond (Decidable.decide (LT.lt (IntKind.wrap IntKind.i64 (HMul.hMul x.2.1 x.2.2.1)) (Neg.neg (1000000000000 : Int)))) (Option.some (((0 : Int), ((0 : Int), ((ByteArray.mk (List.toArray (List.nil))), (Bool.false, Unit.unit)))), ((2 : Int), Unit.unit))) (Option.some (((1 : Int), ((IntKind.wrap IntKind.i64 (HMul.hMul x.2.1 x.2.2.1)), ((ByteArray.mk (List.toArray (List.nil))), (Bool.false, Unit.unit)))), ((0 : Int), Unit.unit))))))) (cond (Decidable.decide (LT.lt (1000000000000 : Int) (IntKind.wrap IntKind.i64 (HMul.hMul x.2.1 x.2.2.1)))) (Option.some (((0 : Int), ((0 : Int), ((ByteArray.mk (List.toArray (List.nil))), (Bool.false, Unit.unit)))), ((2 : Int), Unit.unit))) (cond (Decidable.decide (LT.lt (IntKind.wrap IntKind.i64 (HMul.hMul x.2.1 x.2.2.1)) (Neg.neg (1000000000000 : Int)))) (Option.some (((0 : Int), ((0 : Int), ((ByteArray.mk (List.toArray (List.nil))), (Bool.false, Unit.unit)))), ((2 : Int), Unit.unit))) (Option.some (((1 : Int), ((IntKind.wrap IntKind.i64 (HMul.hMul x.2.1 x.2.2.1)), ((ByteArray.mk (List.toArray (List.nil))), (Bool.false, Unit.unit)))), ((0 : Int), Unit.unit)))))) (cond (Decidable.decide (Eq x.1 (15 : Int))) (cond (Decidable.decide (Eq x.1 (15 : Int))) (cond (Decidable.decide (Eq x.2.2.1 (0 : Int))) (Option.some (((0 : Int), ((0 : Int), ((ByteArray.mk (List.toArray (List.nil))), (Bool.false, Unit.unit)))), ((12 : Int), Unit.unit))) (cond (Decidable.decide (Eq x.2.2.1 (0 : Int))) (Option.none) (cond (Bool.not (Decidable.decide (Eq (Int.tmod x.2.1 x.2.2.1) (0 : Int)))) (cond (Bool.not (Decidable.decide (Eq (Decidable.decide (LT.lt (Int.tmod x.2.1 x.2.2.1) (0 : Int))) (Decidable.decide (LT.lt x.2.2.1 (0 : Int)))))) (cond (Decidable.decide (Eq x.1 (15 : Int))) (cond (Decidable.decide (Eq x.2.2.1 (0 : Int))) (Option.none) (cond (Decidable.decide (LT.lt (1000000000000 : Int) (IntKind.wrap IntKind.i64 (Int.tdiv (IntKind.wrap IntKind.i64 (HSub.hSub x.2.1 (IntKind.wrap IntKind.i64 (HAdd.hAdd (Int.tmod x.2.1 x.2.2.1) x.2.2.1)))) x.2.2.1)))) (Option.some (((0 : Int), ((0 : Int), ((ByteArray.mk (List.toArray (List.nil))), (Bool.false, Unit.unit)))), ((2 : Int), Unit.unit))) (cond (Decidable.decide (LT.lt (IntKind.wrap IntKind.i64 (Int.tdiv (IntKind.wrap IntKind.i64 (HSub.hSub x.2.1 (IntKind.wrap IntKind.i64 (HAdd.hAdd (Int.tmod x.2.1 x.2.2.1) x.2.2.1)))) x.2.2.1)) (Neg.neg (1000000000000 : Int)))) (Option.some (((0 : Int), ((0 : Int), ((ByteArray.mk (List.toArray (List.nil))), (Bool.false, Unit.unit)))), ((2 : Int), Unit.unit))) (Option.some (((1 : Int), ((IntKind.wrap IntKind.i64 (Int.tdiv (IntKind.wrap IntKind.i64 (HSub.hSub x.2.1 (IntKind.wrap IntKind.i64 (HAdd.hAdd (Int.tmod x.2.1 x.2.2.1) x.2.2.1)))) x.2.2.1)), ((ByteArray.mk (List.toArray (List.nil))), (Bool.false, Unit.unit)))), ((0 : Int), Unit.unit)))))) (cond (Decidable.decide (LT.lt (1000000000000 : Int) (IntKind.wrap IntKind.i64 (HAdd.hAdd (Int.tmod x.2.1 x.2.2.1) x.2.2.1)))) (Option.some (((0 : Int), ((0 : Int), ((ByteArray.mk (List.toArray (List.nil))), (Bool.false, Unit.unit)))), ((2 : Int), Unit.unit))) (cond (Decidable.decide (LT.lt (IntKind.wrap IntKind.i64 (HAdd.hAdd (Int.tmod x.2.1 x.2.2.1) x.2.2.1)) (Neg.neg (1000000000000 : Int)))) (Option.some (((0 : Int), ((0 : Int), ((ByteArray.mk (List.toArray (List.nil))), (Bool.false, Unit.unit)))), ((2 : Int), Unit.unit))) (Option.some (((1 : Int), ((IntKind.wrap IntKind.i64 (HAdd.hAdd (Int.tmod x.2.1 x.2.2.1) x.2.2.1)), ((ByteArray.mk (List.toArray (List.nil))), (Bool.false, Unit.unit)))), ((0 : Int), Unit.unit)))))) (cond (Decidable.decide (Eq x.1 (15 : Int))) (cond (Decidable.decide (Eq x.2.2.1 (0 : Int))) (Option.none) (cond (Decidable.decide (LT.lt (1000000000000 : Int) (IntKind.wrap IntKind.i64 (Int.tdiv (IntKind.wrap IntKind.i64 (HSub.hSub x.2.1 (Int.tmod x.2.1 x.2.2.1))) x.2.2.1)))) (Option.some (((0 : Int), ((0 : Int), ((ByteArray.mk (List.toArray (List.nil))), (Bool.false, Unit.unit)))), ((2 : Int), Unit.unit))) (cond (Decidable.decide (LT.lt (IntKind.wrap IntKind.i64 (Int.tdiv (IntKind.wrap IntKind.i64 (HSub.hSub x.2.1 (Int.tmod x.2.1 x.2.2.1))) x.2.2.1)) (Neg.neg (1000000000000 : Int)))) (Option.some (((0 : Int), ((0 : Int), ((ByteArray.mk (List.toArray (List.nil))), (Bool.false, Unit.unit)))), ((2 : Int), Unit.unit))) (Option.some (((1 : Int), ((IntKind.wrap IntKind.i64 (Int.tdiv (IntKind.wrap IntKind.i64 (HSub.hSub x.2.1 (Int.tmod x.2.1 x.2.2.1))) x.2.2.1)), ((ByteArray.mk (List.toArray (List.nil))), (Bool.false, Unit.unit)))), ((0 : Int), Unit.unit)))))) (cond (Decidable.decide (LT.lt (1000000000000 : Int) (Int.tmod x.2.1 x.2.2.1))) (Option.some (((0 : Int), ((0 : Int), ((ByteArray.mk (List.toArray (List.nil))), (Bool.false, Unit.unit)))), ((2 : Int), Unit.unit))) (cond (Decidable.decide (LT.lt (Int.tmod x.2.1 x.2.2.1) (Neg.neg (1000000000000 : Int)))) (Option.some (((0 : Int), ((0 : Int), ((ByteArray.mk (List.toArray (List.nil))), (Bool.false, Unit.unit)))), ((2 : Int), Unit.unit))) (Option.some (((1 : Int), ((Int.tmod x.2.1 x.2.2.1), ((ByteArray.mk (List.toArray (List.nil))), (Bool.false, Unit.unit)))), ((0 : Int), Unit.unit))))))) (cond (Decidable.decide (Eq x.1 (15 : Int))) (cond (Decidable.decide (Eq x.2.2.1 (0 : Int))) (Option.none) (cond (Decidable.decide (LT.lt (1000000000000 : Int) (IntKind.wrap IntKind.i64 (Int.tdiv (IntKind.wrap IntKind.i64 (HSub.hSub x.2.1 (Int.tmod x.2.1 x.2.2.1))) x.2.2.1)))) (Option.some (((0 : Int), ((0 : Int), ((ByteArray.mk (List.toArray (List.nil))), (Bool.false, Unit.unit)))), ((2 : Int), Unit.unit))) (cond (Decidable.decide (LT.lt (IntKind.wrap IntKind.i64 (Int.tdiv (IntKind.wrap IntKind.i64 (HSub.hSub x.2.1 (Int.tmod x.2.1 x.2.2.1))) x.2.2.1)) (Neg.neg (1000000000000 : Int)))) (Option.some (((0 : Int), ((0 : Int), ((ByteArray.mk (List.toArray (List.nil))), (Bool.false, Unit.unit)))), ((2 : Int), Unit.unit))) (Option.some (((1 : Int), ((IntKind.wrap IntKind.i64 (Int.tdiv (IntKind.wrap IntKind.i64 (HSub.hSub x.2.1 (Int.tmod x.2.1 x.2.2.1))) x.2.2.1)), ((ByteArray.mk (List.toArray (List.nil))), (Bool.false, Unit.unit)))), ((0 : Int), Unit.unit)))))) (cond (Decidable.decide (LT.lt (1000000000000 : Int) (Int.tmod x.2.1 x.2.2.1))) (Option.some (((0 : Int), ((0 : Int), ((ByteArray.mk (List.toArray (List.nil))), (Bool.false, Unit.unit)))), ((2 : Int), Unit.unit))) (cond (Decidable.decide (LT.lt (Int.tmod x.2.1 x.2.2.1) (Neg.neg (1000000000000 : Int)))) (Option.some (((0 : Int), ((0 : Int), ((ByteArray.mk (List.toArray (List.nil))), (Bool.false, Unit.unit)))), ((2 : Int), Unit.unit))) (Option.some (((1 : Int), ((Int.tmod x.2.1 x.2.2.1), ((ByteArray.mk (List.toArray (List.nil))), (Bool.false, Unit.unit)))), ((0 : Int), Unit.unit))))))))) (cond (Decidable.decide (Eq x.1 (20 : Int))) (Option.bind (r79 ((List.cons x.2.1 (List.cons x.2.2.1 (List.nil))), Unit.unit)) (fun x0 => (cond (Decidable.decide (LT.lt (1000000000000 : Int) x0.1)) (Option.some (((0 : Int), ((0 : Int), ((ByteArray.mk (List.toArray (List.nil))), (Bool.false, Unit.unit)))), ((2 : Int), Unit.unit))) (cond (Decidable.decide (LT.lt x0.1 (Neg.neg (1000000000000 : Int)))) (Option.some (((0 : Int), ((0 : Int), ((ByteArray.mk (List.toArray (List.nil))), (Bool.false, Unit.unit)))), ((2 : Int), Unit.unit))) (Option.some (((1 : Int), (x0.1, ((ByteArray.mk (List.toArray (List.nil))), (Bool.false, Unit.unit)))), ((0 : Int), Unit.unit))))))) (cond (Decidable.decide (Eq x.1 (21 : Int))) (Option.bind (r80 ((List.cons x.2.1 (List.cons x.2.2.1 (List.nil))), Unit.unit)) (fun x0 => (cond (Decidable.decide (LT.lt (1000000000000 : Int) x0.1)) (Option.some (((0 : Int), ((0 : Int), ((ByteArray.mk (List.toArray (List.nil))), (Bool.false, Unit.unit)))), ((2 : Int), Unit.unit))) (cond (Decidable.decide (LT.lt x0.1 (Neg.neg (1000000000000 : Int)))) (Option.some (((0 : Int), ((0 : Int), ((ByteArray.mk (List.toArray (List.nil))), (Bool.false, Unit.unit)))), ((2 : Int), Unit.unit))) (Option.some (((1 : Int), (x0.1, ((ByteArray.mk (List.toArray (List.nil))), (Bool.false, Unit.unit)))), ((0 : Int), Unit.unit))))))) (Option.some (((1 : Int), ((0 : Int), ((ByteArray.mk (List.toArray (List.nil))), (Bool.false, Unit.unit)))), ((0 : Int), Unit.unit)))))) (cond (Decidable.decide (Eq x.1 (16 : Int))) (cond (Decidable.decide (Eq x.2.2.1 (0 : Int))) (Option.some (((0 : Int), ((0 : Int), ((ByteArray.mk (List.toArray (List.nil))), (Bool.false, Unit.unit)))), ((12 : Int), Unit.unit))) (cond (Decidable.decide (Eq x.2.2.1 (0 : Int))) (Option.none) (cond (Bool.not (Decidable.decide (Eq (Int.tmod x.2.1 x.2.2.1) (0 : Int)))) (cond (Bool.not (Decidable.decide (Eq (Decidable.decide (LT.lt (Int.tmod x.2.1 x.2.2.1) (0 : Int))) (Decidable.decide (LT.lt x.2.2.1 (0 : Int)))))) (cond (Decidable.decide (Eq x.1 (15 : Int))) (cond (Decidable.decide (Eq x.2.2.1 (0 : Int))) (Option.none) (cond (Decidable.decide (LT.lt (1000000000000 : Int) (IntKind.wrap IntKind.i64 (Int.tdiv (IntKind.wrap IntKind.i64 (HSub.hSub x.2.1 (IntKind.wrap IntKind.i64 (HAdd.hAdd (Int.tmod x.2.1 x.2.2.1) x.2.2.1)))) x.2.2.1)))) (Option.some (((0 : Int), ((0 : Int), ((ByteArray.mk (List.toArray (List.nil))), (Bool.false, Unit.unit)))), ((2 : Int), Unit.unit))) (cond (Decidable.decide (LT.lt (IntKind.wrap IntKind.i64 (Int.tdiv (IntKind.wrap IntKind.i64 (HSub.hSub x.2.1 (IntKind.wrap IntKind.i64 (HAdd.hAdd (Int.tmod x.2.1 x.2.2.1) x.2.2.1)))) x.2.2.1)) (Neg.neg (1000000000000 : Int)))) (Option.some (((0 : Int), ((0 : Int), ((ByteArray.mk (List.toArray (List.nil))), (Bool.false, Unit.unit)))), ((2 : Int), Unit.unit))) (Option.some (((1 : Int), ((IntKind.wrap IntKind.i64 (Int.tdiv (IntKind.wrap IntKind.i64 (HSub.hSub x.2.1 (IntKind.wrap IntKind.i64 (HAdd.hAdd (Int.tmod x.2.1 x.2.2.1) x.2.2.1)))) x.2.2.1)), ((ByteArray.mk (List.toArray (List.nil))), (Bool.false, Unit.unit)))), ((0 : Int), Unit.unit)))))) (cond (Decidable.decide (LT.lt (1000000000000 : Int) (IntKind.wrap IntKind.i64 (HAdd.hAdd (Int.tmod x.2.1 x.2.2.1) x.2.2.1)))) (Option.some (((0 : Int), ((0 : Int), ((ByteArray.mk (List.toArray (List.nil))), (Bool.false, Unit.unit)))), ((2 : Int), Unit.unit))) (cond (Decidable.decide (LT.lt (IntKind.wrap IntKind.i64 (HAdd.hAdd (Int.tmod x.2.1 x.2.2.1) x.2.2.1)) (Neg.neg (1000000000000 : Int)))) (Option.some (((0 : Int), ((0 : Int), ((ByteArray.mk (List.toArray (List.nil))), (Bool.false, Unit.unit)))), ((2 : Int), Unit.unit))) (Option.some (((1 : Int), ((IntKind.wrap IntKind.i64 (HAdd.hAdd (Int.tmod x.2.1 x.2.2.1) x.2.2.1)), ((ByteArray.mk (List.toArray (List.nil))), (Bool.false, Unit.unit)))), ((0 : Int), Unit.unit)))))) (cond (Decidable.decide (Eq x.1 (15 : Int))) (cond (Decidable.decide (Eq x.2.2.1 (0 : Int))) (Option.none) (cond (Decidable.decide (LT.lt (1000000000000 : Int) (IntKind.wrap IntKind.i64 (Int.tdiv (IntKind.wrap IntKind.i64 (HSub.hSub x.2.1 (Int.tmod x.2.1 x.2.2.1))) x.2.2.1)))) (Option.some (((0 : Int), ((0 : Int), ((ByteArray.mk (List.toArray (List.nil))), (Bool.false, Unit.unit)))), ((2 : Int), Unit.unit))) (cond (Decidable.decide (LT.lt (IntKind.wrap IntKind.i64 (Int.tdiv (IntKind.wrap IntKind.i64 (HSub.hSub x.2.1 (Int.tmod x.2.1 x.2.2.1))) x.2.2.1)) (Neg.neg (1000000000000 : Int)))) (Option.some (((0 : Int), ((0 : Int), ((ByteArray.mk (List.toArray (List.nil))), (Bool.false, Unit.unit)))), ((2 : Int), Unit.unit))) (Option.some (((1 : Int), ((IntKind.wrap IntKind.i64 (Int.tdiv (IntKind.wrap IntKind.i64 (HSub.hSub x.2.1 (Int.tmod x.2.1 x.2.2.1))) x.2.2.1)), ((ByteArray.mk (List.toArray (List.nil))), (Bool.false, Unit.unit)))), ((0 : Int), Unit.unit)))))) (cond (Decidable.decide (LT.lt (1000000000000 : Int) (Int.tmod x.2.1 x.2.2.1))) (Option.some (((0 : Int), ((0 : Int), ((ByteArray.mk (List.toArray (List.nil))), (Bool.false, Unit.unit)))), ((2 : Int), Unit.unit))) (cond (Decidable.decide (LT.lt (Int.tmod x.2.1 x.2.2.1) (Neg.neg (1000000000000 : Int)))) (Option.some (((0 : Int), ((0 : Int), ((ByteArray.mk (List.toArray (List.nil))), (Bool.false, Unit.unit)))), ((2 : Int), Unit.unit))) (Option.some (((1 : Int), ((Int.tmod x.2.1 x.2.2.1), ((ByteArray.mk (List.toArray (List.nil))), (Bool.false, Unit.unit)))), ((0 : Int), Unit.unit))))))) (cond (Decidable.decide (Eq x.1 (15 : Int))) (cond (Decidable.decide (Eq x.2.2.1 (0 : Int))) (Option.none) (cond (Decidable.decide (LT.lt (1000000000000 : Int) (IntKind.wrap IntKind.i64 (Int.tdiv (IntKind.wrap IntKind.i64 (HSub.hSub x.2.1 (Int.tmod x.2.1 x.2.2.1))) x.2.2.1)))) (Option.some (((0 : Int), ((0 : Int), ((ByteArray.mk (List.toArray (List.nil))), (Bool.false, Unit.unit)))), ((2 : Int), Unit.unit))) (cond (Decidable.decide (LT.lt (IntKind.wrap IntKind.i64 (Int.tdiv (IntKind.wrap IntKind.i64 (HSub.hSub x.2.1 (Int.tmod x.2.1 x.2.2.1))) x.2.2.1)) (Neg.neg (1000000000000 : Int)))) (Option.some (((0 : Int), ((0 : Int), ((ByteArray.mk (List.toArray (List.nil))), (Bool.false, Unit.unit)))), ((2 : Int), Unit.unit))) (Option.some (((1 : Int), ((IntKind.wrap IntKind.i64 (Int.tdiv (IntKind.wrap IntKind.i64 (HSub.hSub x.2.1 (Int.tmod x.2.1 x.2.2.1))) x.2.2.1)), ((ByteArray.mk (List.toArray (List.nil))), (Bool.false, Unit.unit)))), ((0 : Int), Unit.unit)))))) (cond (Decidable.decide (LT.lt (1000000000000 : Int) (Int.tmod x.2.1 x.2.2.1))) (Option.some (((0 : Int), ((0 : Int), ((ByteArray.mk (List.toArray (List.nil))), (Bool.false, Unit.unit)))), ((2 : Int), Unit.unit))) (cond (Decidable.decide (LT.lt (Int.tmod x.2.1 x.2.2.1) (Neg.neg (1000000000000 : Int)))) (Option.some (((0 : Int), ((0 : Int), ((ByteArray.mk (List.toArray (List.nil))), (Bool.false, Unit.unit)))), ((2 : Int), Unit.unit))) (Option.some (((1 : Int), ((Int.tmod x.2.1 x.2.2.1), ((ByteArray.mk (List.toArray (List.nil))), (Bool.false, Unit.unit)))), ((0 : Int), Unit.unit))))))))) (cond (Decidable.decide (Eq x.1 (20 : Int))) (Option.bind (r79 ((List.cons x.2.1 (List.cons x.2.2.1 (List.nil))), Unit.unit)) (fun x0 => (cond (Decidable.decide (LT.lt (1000000000000 : Int) x0.1)) (Option.some (((0 : Int), ((0 : Int), ((ByteArray.mk (List.toArray (List.nil))), (Bool.false, Unit.unit)))), ((2 : Int), Unit.unit))) (cond (Decidable.decide (LT.lt x0.1 (Neg.neg (1000000000000 : Int)))) (Option.some (((0 : Int), ((0 : Int), ((ByteArray.mk (List.toArray (List.nil))), (Bool.false, Unit.unit)))), ((2 : Int), Unit.unit))) (Option.some (((1 : Int), (x0.1, ((ByteArray.mk (List.toArray (List.nil))), (Bool.false, Unit.unit)))), ((0 : Int), Unit.unit))))))) (cond (Decidable.decide (Eq x.1 (21 : Int))) (Option.bind (r80 ((List.cons x.2.1 (List.cons x.2.2.1 (List.nil))), Unit.unit)) (fun x0 => (cond (Decidable.decide (LT.lt (1000000000000 : Int) x0.1)) (Option.some (((0 : Int), ((0 : Int), ((ByteArray.mk (List.toArray (List.nil))), (Bool.false, Unit.unit)))), ((2 : Int), Unit.unit))) (cond (Decidable.decide (LT.lt x0.1 (Neg.neg (1000000000000 : Int)))) (Option.some (((0 : Int), ((0 : Int), ((ByteArray.mk (List.toArray (List.nil))), (Bool.false, Unit.unit)))), ((2 : Int), Unit.unit))) (Option.some (((1 : Int), (x0.1, ((ByteArray.mk (List.toArray (List.nil))), (Bool.false, Unit.unit)))), ((0 : Int), Unit.unit))))))) (Option.some (((1 : Int), ((0 : Int), ((ByteArray.mk (List.toArray (List.nil))), (Bool.false, Unit.unit)))), ((0 : Int), Unit.unit))))))))))
theorem r46_ok : PureOk Go.Proofs.Tryz.prog nF gF 46 [(.int .i64), (.int .i64), (.int .i64)] [(.pair (.int .i64) (.pair (.int .i64) (.pair .str (.pair .bool .unit)))), (.int .i64)] r46 :=
  pureOk_of_run (F := specOf [(79, pureSpec [(.slice (.int .i64))] [(.int .i64)] r79), (80, pureSpec [(.slice (.int .i64))] [(.int .i64)] r80)]) (hs := hintOf []) stays_F (specOf_cons (PureOk.spec r79_ok) (specOf_cons (PureOk.spec r80_ok) specOf_nil)) mixed Go.Proofs.Tryz.func46 rfl (by kernel_rfl) (fun _ => by kernel_rfl)

/-- terrier/terrref2.lazy -/
noncomputable def r43B (n : Nat) (r43 : Nat → ((x : (kdP [(.tree (.pair (.int .i64) (.pair (.pair (.int .i64) (.pair (.int .i64) (.pair .str (.pair .bool .unit)))) (.pair .str .unit)))), (.pair (.int .i64) (.pair (.int .i64) (.pair (.slice (.slice (.pair (.int .i64) (.pair (.int .i64) .unit)))) (.pair (.slice (.pair .str (.pair (.pair (.int .i64) (.pair (.int .i64) (.pair .str (.pair .bool .unit)))) .unit))) (.pair (.int .i64) (.pair (.int .i64) .unit))))))]).T) → Option (kdP [(.pair (.int .i64) (.pair (.int .i64) (.pair .str (.pair .bool .unit)))), (.int .i64)]).T)) (r14 : Nat → ((x : (kdP [(.tree (.pair (.int .i64) (.pair (.pair (.int .i64) (.pair (.int .i64) (.pair .str (.pair .bool .unit)))) (.pair .str .unit)))), (.pair (.int .i64) (.pair (.int .i64) (.pair (.slice (.slice (.pair (.int .i64) (.pair (.int .i64) .unit)))) (.pair (.slice (.pair .str (.pair (.pair (.int .i64) (.pair (.int .i64) (.pair .str (.pair .bool .unit)))) .unit))) (.pair (.int .i64) (.pair (.int .i64) .unit))))))]).T) → Option (kdP [(.pair (.int .i64) (.pair (.int .i64) (.pair .str (.pair .bool .unit)))), (.int .i64)]).T)) (x : (kdP [(.tree (.pair (.int .i64) (.pair (.pair (.int .i64) (.pair (.int .i64) (.pair .str (.pair .bool .unit)))) (.pair .str .unit)))), (.pair (.int .i64) (.pair (.int .i64) (.pair (.slice (.slice (.pair (.int .i64) (.pair (.int .i64) .unit)))) (.pair (.slice (.pair .str (.pair (.pair (.int .i64) (.pair (.int .i64) (.pair .str (.pair .bool .unit)))) .unit))) (.pair (.int .i64) (.pair (.int .i64) .unit))))))]).T) : Option (kdP [(.pair (.int .i64) (.pair (.int .i64) (.pair .str (.pair .bool .unit)))), (.int .i64)]).T :=
  (cond (inB (0 : Int) (List.length (Tree.kids x.1))) (Option.bind (GetElem?.getElem? (Tree.kids x.1) 0) (fun x0 => (Option.bind (r14 n ((Tree.node ((Tree.val x0).1, (((Tree.val x0).2.1.1, ((Tree.val x0).2.1.2.1, ((Tree.val x0).2.1.2.2.1, ((Tree.val x0).2.1.2.2.2.1, Unit.unit)))), ((Tree.val x0).2.2.1, Unit.unit))) (Tree.kids x0)), ((x.2.1.1, (x.2.1.2.1, (x.2.1.2.2.1, (x.2.1.2.2.2.1, (x.2.1.2.2.2.2.1, (x.2.1.2.2.2.2.2.1, Unit.unit)))))), Unit.unit))) (fun x1 => (cond (Decidable.decide (Eq x1.2.1 (0 : Int))) (cond (Bool.not (Decidable.decide (Eq x1.1.1 (3 : Int)))) (Option.some (((0 : Int), ((0 : Int), ((ByteArray.mk (List.toArray (List.nil))), (Bool.false, Unit.unit)))), ((8 : Int), Unit.unit))) (cond (Bool.not (Decidable.decide (Eq x1.2.1 (0 : Int)))) (Option.some (((0 : Int), ((0 : Int), ((ByteArray.mk (List.toArray (List.nil))), (Bool.false, Unit.unit)))), (x1.2.1, Unit.unit))) (cond (Decidable.decide (Eq (Tree.val x.1).1 (5 : Int))) (Option.some (((3 : Int), ((0 : Int), ((ByteArray.mk (List.toArray (List.nil))), ((Bool.not x1.1.2.2.2.1), Unit.unit)))), ((0 : Int), Unit.unit))) (cond (Decidable.decide (Eq (Tree.val x.1).1 (18 : Int))) (cond x1.1.2.2.2.1 (cond (inB (1 : Int) (List.length (Tree.kids x.1))) (Option.bind (GetElem?.getElem? (Tree.kids x.1) 1) (fun x2 => (Option.bind (r14 n ((Tree.node ((Tree.val x2).1, (((Tree.val x2).2.1.1, ((Tree.val x2).2.1.2.1, ((Tree.val x2).2.1.2.2.1, ((Tree.val x2).2.1.2.2.2.1, Unit.unit)))), ((Tree.val x2).2.2.1, Unit.unit))) (Tree.kids x2)), ((x.2.1.1, (x.2.1.2.1, (x.2.1.2.2.1, (x.2.1.2.2.2.1, (x.2.1.2.2.2.2.1, (x.2.1.2.2.2.2.2.1, Unit.unit)))))), Unit.unit))) (fun x3 => (Option.some ((x3.1.1, (x3.1.2.1, (x3.1.2.2.1, (x3.1.2.2.2.1, Unit.unit)))), (x3.2.1, Unit.unit))))))) (Option.none)) (cond (Decidable.decide (Eq (Tree.val x.1).1 (18 : Int))) (cond (inB (2 : Int) (List.length (Tree.kids x.1))) (Option.bind (GetElem?.getElem? (Tree.kids x.1) 2) (fun x2 => (Option.bind (r14 n ((Tree.node ((Tree.val x2).1, (((Tree.val x2).2.1.1, ((Tree.val x2).2.1.2.1, ((Tree.val x2).2.1.2.2.1, ((Tree.val x2).2.1.2.2.2.1, Unit.unit)))), ((Tree.val x2).2.2.1, Unit.unit))) (Tree.kids x2)), ((x.2.1.1, (x.2.1.2.1, (x.2.1.2.2.1, (x.2.1.2.2.2.1, (x.2.1.2.2.2.2.1, (x.2.1.2.2.2.2.2.1, Unit.unit)))))), Unit.unit))) (fun x3 => (Option.some ((x3.1.1, (x3.1.2.1, (x3.1.2.2.1, (x3.1.2.2.2.1, Unit.unit)))), (x3.2.1, Unit.unit))))))) (Option.none)) (cond (Decidable.decide (Eq x1.1.2.2.2.1 (Decidable.decide (Eq (Tree.val x.1).1 (3 : Int))))) (Option.some ((x1.1.1, (x1.1.2.1, (x1.1.2.2.1, (x1.1.2.2.2.1, Unit.unit)))), ((0 : Int), Unit.unit))) (cond (inB (1 : Int) (List.length (Tree.kids x.1))) (Option.bind (GetElem?.getElem? (Tree.kids x.1) 1) (fun x2 => (Option.bind (r14 n ((Tree.node ((Tree.val x2).1, (((Tree.val x2).2.1.1, ((Tree.val x2).2.1.2.1, ((Tree.val x2).2.1.2.2.1, ((Tree.val x2).2.1.2.2.2.1, Unit.unit)))), ((Tree.val x2).2.2.1, Unit.unit))) (Tree.kids x2)), ((x.2.1.1, (x.2.1.2.1, (x.2.1.2.2.1, (x.2.1.2.2.2.1, (x.2.1.2.2.2.2.1, (x.2.1.2.2.2.2.2.1, Unit.unit)))))), Unit.unit))) (fun x3 => (cond (Decidable.decide (Eq x3.2.1 (0 : Int))) (cond (Bool.not (Decidable.decide (Eq x3.1.1 (3 : Int)))) (Option.some (((0 : Int), ((0 : Int), ((ByteArray.mk (List.toArray (List.nil))), (Bool.false, Unit.unit)))), ((8 : Int), Unit.unit))) (cond (Bool.not (Decidable.decide (Eq x3.2.1 (0 : Int)))) (Option.some (((0 : Int), ((0 : Int), ((ByteArray.mk (List.toArray (List.nil))), (Bool.false, Unit.unit)))), (x3.2.1, Unit.unit))) (Option.some ((x3.1.1, (x3.1.2.1, (x3.1.2.2.1, (x3.1.2.2.2.1, Unit.unit)))), ((0 : Int), Unit.unit))))) (cond (Bool.not (Decidable.decide (Eq x3.2.1 (0 : Int)))) (Option.some (((0 : Int), ((0 : Int), ((ByteArray.mk (List.toArray (List.nil))), (Bool.false, Unit.unit)))), (x3.2.1, Unit.unit))) (Option.some ((x3.1.1, (x3.1.2.1, (x3.1.2.2.1, (x3.1.2.2.2.1, Unit.unit)))), ((0 : Int), Unit.unit))))))))) (Option.none))))) (cond (Decidable.decide (Eq (Tree.val x.1).1 (18 : Int))) (cond (inB (2 : Int) (List.length (Tree.kids x.1))) (Option.bind (GetElem?.getElem? (Tree.kids x.1) 2) (fun x2 => (Option.bind (r14 n ((Tree.node ((Tree.val x2).1, (((Tree.val x2).2.1.1, ((Tree.val x2).2.1.2.1, ((Tree.val x2).2.1.2.2.1, ((Tree.val x2).2.1.2.2.2.1, Unit.unit)))), ((Tree.val x2).2.2.1, Unit.unit))) (Tree.kids x2)), ((x.2.1.1, (x.2.1.2.1, (x.2.1.2.2.1, (x.2.1.2.2.2.1, (x.2.1.2.2.2.2.1, (x.2.1.2.2.2.2.2.1, Unit.unit)))))), Unit.unit))) (fun x3 => (Option.some ((x3.1.1, (x3.1.2.1, (x3.1.2.2.1, (x3.1.2.2.2.1, Unit.unit)))), (x3.2.1, Unit.unit))))))) (Option.none)) (cond (Decidable.decide (Eq x1.1.2.2.2.1 (Decidable.decide (Eq (Tree.val x.1).1 (3 : Int))))) (Option.some ((x1.1.1, (x1.1.2.1, (x1.1.2.2.1, (x1.1.2.2.2.1, Unit.unit)))), ((0 : Int), Unit.unit))) (cond (inB (1 : Int) (List.length (Tree.kids x.1))) (Option.bind (GetElem?.getElem? (Tree.kids x.1) 1) (fun x2 => (Option.bind (r14 n ((Tree.node ((Tree.val x2).1, (((Tree.val x2).2.1.1, ((Tree.val x2).2.1.2.1, ((Tree.val x2).2.1.2.2.1, ((Tree.val x2).2.1.2.2.2.1, Unit.unit)))), ((Tree.val x2).2.2.1, Unit.unit))) (Tree.kids x2)), ((x.2.1.1, (x.2.1.2.1, (x.2.1.2.2.1, (x.2.1.2.2.2.1, (x.2.1.2.2.2.2.1, (x.2.1.2.2.2.2.2.1, Unit.unit)))))), Unit.unit))) (fun x3 => (cond (Decidable.decide (Eq x3.2.1 (0 : Int))) (cond (Bool.not (Decidable.decide (Eq x3.1.1 (3 : Int)))) (Option.some (((0 : Int), ((0 : Int), ((ByteArray.mk (List.toArray (List.nil))), (Bool.false, Unit.unit)))), ((8 : Int), Unit.unit))) (cond (Bool.not (Decidable.decide (Eq x3.2.1 (0 : Int)))) (Option.some (((0 : Int), ((0 : Int), ((ByteArray.mk (List.toArray (List.nil))), (Bool.false, Unit.unit)))), (x3.2.1, Unit.unit))) (Option.some ((x3.1.1, (x3.1.2.1, (x3.1.2.2.1, (x3.1.2.2.2.1, Unit.unit)))), ((0 : Int), Unit.unit))))) (cond (Bool.not (Decidable.decide (Eq x3.2.1 (0 : Int)))) (Option.some (((0 : Int), ((0 : Int), ((ByteArray.mk (List.toArray (List.nil))), (Bool.false, Unit.unit)))), (x3.2.1, Unit.unit))) (Option.some ((x3.1.1, (x3.1.2.1, (x3.1.2.2.1, (x3.1.2.2.2.1, Unit.unit)))), ((0 : Int), Unit.unit))))))))) (Option.none)))))))) (cond (Bool.not (Decidable.decide (Eq x1.2.1 (0 : Int)))) (Option.some (((0 : Int), ((0 : Int), ((ByteArray.mk (List.toArray (List.nil))), (Bool.false, Unit.unit)))), (x1.2.1, Unit.unit))) (cond (Decidable.decide (Eq (Tree.val x.1).1 (5 : Int))) (Option.some (((3 : Int), ((0 : Int), ((ByteArray.mk (List.toArray (List.nil))), ((Bool.not x1.1.2.2.2.1), Unit.unit)))), ((0 : Int), Unit.unit))) (cond (Decidable.decide (Eq (Tree.val x.1).1 (18 : Int))) (cond x1.1.2.2.2.1 (cond (inB (1 : Int) (List.length (Tree.kids x.1))) (Option.bind (GetElem?.getElem? (Tree.kids x.1) 1) (fun x2 => (Option.bind (r14 n ((Tree.node ((Tree.val x2).1, (((Tree.val x2).2.1.1, ((Tree.val x2).2.1.2.1, ((Tree.val x2).2.1.2.2.1, ((Tree.val x2).2.1.2.2.2.1, Unit.unit)))), ((Tree.val x2).2.2.1, Unit.unit))) (Tree.kids x2)), ((x.2.1.1, (x.2.1.2.1, (x.2.1.2.2.1, (x.2.1.2.2.2.1, (x.2.1.2.2.2.2.1, (x.2.1.2.2.2.2.2.1, Unit.unit)))))), Unit.unit))) (fun x3 => (Option.some ((x3.1.1, (x3.1.2.1, (x3.1.2.2.1, (x3.1.2.2.2.1, Unit.unit)))), (x3.2.1, Unit.unit))))))) (Option.none)) (cond (Decidable.decide (Eq (Tree.val x.1).1 (18 : Int))) (cond (inB (2 : Int) (List.length (Tree.kids x.1))) (Option.bind (GetElem?.getElem? (Tree.kids x.1) 2) (fun x2 => (Option.bind (r14 n ((Tree.node ((Tree.val x2).1, (((Tree.val x2).2.1.1, ((Tree.val x2).2.1.2.1, ((Tree.val x2).2.1.2.2.1, ((Tree.val x2).2.1.2.2.2.1, Unit.unit)))), ((Tree.val x2).2.2.1, Unit.unit))) (Tree.kids x2)), ((x.2.1.1, (x.2.1.2.1, (x.2.1.2.2.1, (x.2.1.2.2.2.1, (x.2.1.2.2.2.2.1, (x.2.1.2.2.2.2.2.1, Unit.unit)))))), Unit.unit))) (fun x3 => (Option.some ((x3.1.1, (x3.1.2.1, (x3.1.2.2.1, (x3.1.2.2.2.1, Unit.unit)))), (x3.2.1, Unit.unit))))))) (Option.none)) (cond (Decidable.decide (Eq x1.1.2.2.2.1 (Decidable.decide (Eq (Tree.val x.1).1 (3 : Int))))) (Option.some ((x1.1.1, (x1.1.2.1, (x1.1.2.2.1, (x1.1.2.2.2.1, Unit.unit)))), ((0 : Int), Unit.unit))) (cond (inB (1 : Int) (List.length (Tree.kids x.1))) (Option.bind (GetElem?.getElem? (Tree.kids x.1) 1) (fun x2 => (Option.bind (r14 n ((Tree.node ((Tree.val x2).1, (((Tree.val x2).2.1.1, ((Tree.val x2).2.1.2.1, ((Tree.val x2).2.1.2.2.1, ((Tree.val x2).2.1.2.2.2.1, Unit.unit)))), ((Tree.val x2).2.2.1, Unit.unit))) (Tree.kids x2)), ((x.2.1.1, (x.2.1.2.1, (x.2.1.2.2.1, (x.2.1.2.2.2.1, (x.2.1.2.2.2.2.1, (x.2.1.2.2.2.2.2.1, Unit.unit)))))), Unit.unit))) (fun x3 => (cond (Decidable.decide (Eq x3.2.1 (0 : Int))) (cond (Bool.not (Decidable.decide (Eq x3.1.1 (3 : Int)))) (Option.some (((0 : Int), ((0 : Int), ((ByteArray.mk (List.toArray (List.nil))), (Bool.false, Unit.unit)))), ((8 : Int), Unit.unit))) (cond (Bool.not (Decidable.decide (Eq x3.2.1 (0 : Int)))) (Option.some (((0 : Int), ((0 : Int), ((ByteArray.mk (List.toArray (List.nil))), (Bool.false, Unit.unit)))), (x3.2.1, Unit.unit))) (Option.some ((x3.1.1, (x3.1.2.1, (x3.1.2.2.1, (x3.1.2.2.2.1, Unit.unit)))), ((0 : Int), Unit.unit))))) (cond (Bool.not (Decidable.decide (Eq x3.2.1 (0 : Int)))) (Option.some (((0 : Int), ((0 : Int), ((ByteArray.mk (List.toArray (List.nil))), (Bool.false, Unit.unit)))), (x3.2.1, Unit.unit))) (Option.some ((x3.1.1, (x3.1.2.1, (x3.1.2.2.1, (x3.1.2.2.2.1, Unit.unit)))), ((0 : Int), Unit.unit))))))))) (Option.none))))) (cond (Decidable.decide (Eq (Tree.val x.1).1 (18 : Int))) (cond (inB (2 : Int) (List.length (Tree.kids x.1))) (Option.bind (GetElem?.getElem? (Tree.kids x.1) 2) (fun x2 => (Option.bind (r14 n ((Tree.node ((Tree.val x2).1, (((Tree.val x2).2.1.1, ((Tree.val x2).2.1.2.1, ((Tree.val x2).2.1.2.2.1, ((Tree.val x2).2.1.2.2.2.1, Unit.unit)))), ((Tree.val x2).2.2.1, Unit.unit))) (Tree.kids x2)), ((x.2.1.1, (x.2.1.2.1, (x.2.1.2.2.1, (x.2.1.2.2.2.1, (x.2.1.2.2.2.2.1, (x.2.1.2.2.2.2.2.1, Unit.unit)))))), Unit.unit))) (fun x3 => (Option.some ((x3.1.1, (x3.1.2.1, (x3.1.2.2.1, (x3.1.2.2.2.1, Unit.unit)))), (x3.2.1, Unit.unit))))))) (Option.none)) (cond (Decidable.decide (Eq x1.1.2.2.2.1 (Decidable.decide (Eq (Tree.val x.1).1 (3 : Int))))) (Option.some ((x1.1.1, (x1.1.2.1, (x1.1.2.2.1, (x1.1.2.2.2.1, Unit.unit)))), ((0 : Int), Unit.unit))) (cond (inB (1 : Int) (List.length (Tree.kids x.1))) (Option.bind (GetElem?.getElem? (Tree.kids x.1) 1) (fun x2 => (Option.bind (r14 n ((Tree.node ((Tree.val x2).1, (((Tree.val x2).2.1.1, ((Tree.val x2).2.1.2.1, ((Tree.val x2).2.1.2.2.1, ((Tree.val x2).2.1.2.2.2.1, Unit.unit)))), ((Tree.val x2).2.2.1, Unit.unit))) (Tree.kids x2)), ((x.2.1.1, (x.2.1.2.1, (x.2.1.2.2.1, (x.2.1.2.2.2.1, (x.2.1.2.2.2.2.1, (x.2.1.2.2.2.2.2.1, Unit.unit)))))), Unit.unit))) (fun x3 => (cond (Decidable.decide (Eq x3.2.1 (0 : Int))) (cond (Bool.not (Decidable.decide (Eq x3.1.1 (3 : Int)))) (Option.some (((0 : Int), ((0 : Int), ((ByteArray.mk (List.toArray (List.nil))), (Bool.false, Unit.unit)))), ((8 : Int), Unit.unit))) (cond (Bool.not (Decidable.decide (Eq x3.2.1 (0 : Int)))) (Option.some (((0 : Int), ((0 : Int), ((ByteArray.mk (List.toArray (List.nil))), (Bool.false, Unit.unit)))), (x3.2.1, Unit.unit))) (Option.some ((x3.1.1, (x3.1.2.1, (x3.1.2.2.1, (x3.1.2.2.2.1, Unit.unit)))), ((0 : Int), Unit.unit))))) (cond (Bool.not (Decidable.decide (Eq x3.2.1 (0 : Int)))) (Option.some (((0 : Int), ((0 : Int), ((ByteArray.mk (List.toArray (List.nil))), (Bool.false, Unit.unit)))), (x3.2.1, Unit.unit))) (Option.some ((x3.1.1, (x3.1.2.1, (x3.1.2.2.1, (x3.1.2.2.2.1, Unit.unit)))), ((0 : Int), Unit.unit))))))))) (Option.none)))))))))))) (Option.none))
noncomputable def r14B (n : Nat) (r43 : Nat → ((x : (kdP [(.tree (.pair (.int .i64) (.pair (.pair (.int .i64) (.pair (.int .i64) (.pair .str (.pair .bool .unit)))) (.pair .str .unit)))), (.pair (.int .i64) (.pair (.int .i64) (.pair (.slice (.slice (.pair (.int .i64) (.pair (.int .i64) .unit)))) (.pair (.slice (.pair .str (.pair (.pair (.int .i64) (.pair (.int .i64) (.pair .str (.pair .bool .unit)))) .unit))) (.pair (.int .i64) (.pair (.int .i64) .unit))))))]).T) → Option (kdP [(.pair (.int .i64) (.pair (.int .i64) (.pair .str (.pair .bool .unit)))), (.int .i64)]).T)) (r14 : Nat → ((x : (kdP [(.tree (.pair (.int .i64) (.pair (.pair (.int .i64) (.pair (.int .i64) (.pair .str (.pair .bool .unit)))) (.pair .str .unit)))), (.pair (.int .i64) (.pair (.int .i64) (.pair (.slice (.slice (.pair (.int .i64) (.pair (.int .i64) .unit)))) (.pair (.slice (.pair .str (.pair (.pair (.int .i64) (.pair (.int .i64) (.pair .str (.pair .bool .unit)))) .unit))) (.pair (.int .i64) (.pair (.int .i64) .unit))))))]).T) → Option (kdP [(.pair (.int .i64) (.pair (.int .i64) (.pair .str (.pair .bool .unit)))), (.int .i64)]).T)) (x : (kdP [(.tree (.pair (.int .i64) (.pair (.pair (.int .i64) (.pair (.int .i64) (.pair .str (.pair .bool .unit)))) (.pair .str .unit)))), (.pair (.int .i64) (.pair (.int .i64) (.pair (.slice (.slice (.pair (.int .i64) (.pair (.int .i64) .unit)))) (.pair (.slice (.pair .str (.pair (.pair (.int .i64) (.pair (.int .i64) (.pair .str (.pair .bool .unit)))) .unit))) (.pair (.int .i64) (.pair (.int .i64) .unit))))))]).T) : Option (kdP [(.pair (.int .i64) (.pair (.int .i64) (.pair .str (.pair .bool .unit)))), (.int .i64)]).T :=
  (cond (Decidable.decide (Eq (Tree.val x.1).1 (0 : Int))) (Option.some (((Tree.val x.1).2.1.1, ((Tree.val x.1).2.1.2.1, ((Tree.val x.1).2.1.2.2.1, ((Tree.val x.1).2.1.2.2.2.1, Unit.unit)))), ((0 : Int), Unit.unit))) (cond (Decidable.decide (Eq (Tree.val x.1).1 (1 : Int))) (Option.bind (r41 ((x.2.1.1, (x.2.1.2.1, (x.2.1.2.2.1, (x.2.1.2.2.2.1, (x.2.1.2.2.2.2.1, (x.2.1.2.2.2.2.2.1, Unit.unit)))))), ((Tree.val x.1).2.2.1, Unit.unit))) (fun x0 => (Option.some ((x0.1.1, (x0.1.2.1, (x0.1.2.2.1, (x0.1.2.2.2.1, Unit.unit)))), ((0 : Int), Unit.unit))))) (cond (Decidable.decide (Eq (Tree.val x.1).1 (2 : Int))) (Option.bind (r42 ((Tree.val x.1).2.2.1, ((x.2.1.1, (x.2.1.2.1, (x.2.1.2.2.1, (x.2.1.2.2.2.1, (x.2.1.2.2.2.2.1, (x.2.1.2.2.2.2.2.1, Unit.unit)))))), Unit.unit))) (fun x0 => (Option.some ((x0.1.1, (x0.1.2.1, (x0.1.2.2.1, (x0.1.2.2.2.1, Unit.unit)))), ((0 : Int), Unit.unit))))) (cond (Decidable.decide (Eq (Tree.val x.1).1 (3 : Int))) (cond (Decidable.decide (Eq (Tree.val x.1).1 (3 : Int))) (Option.bind (r43 n ((Tree.node ((Tree.val x.1).1, (((Tree.val x.1).2.1.1, ((Tree.val x.1).2.1.2.1, ((Tree.val x.1).2.1.2.2.1, ((Tree.val x.1).2.1.2.2.2.1, Unit.unit)))), ((Tree.val x.1).2.2.1, Unit.unit))) (Tree.kids x.1)), ((x.2.1.1, (x.2.1.2.1, (x.2.1.2.2.1, (x.2.1.2.2.2.1, (x.2.1.2.2.2.2.1, (x.2.1.2.2.2.2.2.1, Unit.unit)))))), Unit.unit))) (fun x0 => (Option.some ((x0.1.1, (x0.1.2.1, (x0.1.2.2.1, (x0.1.2.2.2.1, Unit.unit)))), (x0.2.1, Unit.unit))))) (Option.bind (loop (D := (Prod (Kd.T (.pair (.slice (.pair (.int .i64) (.pair (.int .i64) (.pair .str (.pair .bool .unit))))) (.pair (.int .i64) .unit))) (Kd.T .unit))) (O := (Sum (Kd.T (.pair (.pair (.int .i64) (.pair (.int .i64) (.pair (.int .i64) (.pair .str (.pair .bool .unit))))) .unit)) (OutT (List.cons ((Ex3.exit 1), (Sh.mk (List.cons (6, (ASh.own (Kd.pair (Kd.int IntKind.i64) (Kd.pair (Kd.int IntKind.i64) (Kd.pair Kd.str (Kd.pair Kd.bool Kd.unit)))))) (List.nil)) (List.nil) (List.nil))) (List.nil))))) (fun x0 => (cond (Decidable.decide (LT.lt x0.1.2.1 (Nat.cast (List.length (Tree.kids x.1)) : Int))) (cond (inB x0.1.2.1 (List.length (Tree.kids x.1))) (Option.bind (GetElem?.getElem? (Tree.kids x.1) (Int.toNat x0.1.2.1)) (fun x1 => (Option.bind (r14 n ((Tree.node ((Tree.val x1).1, (((Tree.val x1).2.1.1, ((Tree.val x1).2.1.2.1, ((Tree.val x1).2.1.2.2.1, ((Tree.val x1).2.1.2.2.2.1, Unit.unit)))), ((Tree.val x1).2.2.1, Unit.unit))) (Tree.kids x1)), ((x.2.1.1, (x.2.1.2.1, (x.2.1.2.2.1, (x.2.1.2.2.2.1, (x.2.1.2.2.2.2.1, (x.2.1.2.2.2.2.2.1, Unit.unit)))))), Unit.unit))) (fun x2 => (cond (Bool.not (Decidable.decide (Eq x2.2.1 (0 : Int)))) (Option.some (Sum.inr (Sum.inl ((x2.2.1, ((0 : Int), ((0 : Int), ((ByteArray.mk (List.toArray (List.nil))), (Bool.false, Unit.unit))))), Unit.unit)))) (cond (fits (HAdd.hAdd (List.length x0.1.1) (List.length (List.cons (x2.1.1, (x2.1.2.1, (x2.1.2.2.1, (x2.1.2.2.2.1, Unit.unit)))) (List.nil)))) 40) (Option.some (Sum.inl (((HAppend.hAppend x0.1.1 (List.cons (x2.1.1, (x2.1.2.1, (x2.1.2.2.1, (x2.1.2.2.2.1, Unit.unit)))) (List.nil))), ((IntKind.wrap IntKind.i64 (HAdd.hAdd x0.1.2.1 (1 : Int))), Unit.unit)), Unit.unit))) (Option.none))))))) (Option.none)) (Option.some (Sum.inr (Sum.inr (Sum.inl ((x0.1.1, Unit.unit), Unit.unit))))))) (((List.nil), ((0 : Int), Unit.unit)), Unit.unit)) (sumE (fun x0 => (Option.some ((x0.1.2.1, (x0.1.2.2.1, (x0.1.2.2.2.1, (x0.1.2.2.2.2.1, Unit.unit)))), (x0.1.1, Unit.unit)))) (sumE (fun x0 => (cond (Decidable.decide (Eq (Tree.val x.1).1 (6 : Int))) (cond (inB (0 : Int) (List.length x0.1.1)) (Option.bind (GetElem?.getElem? x0.1.1 0) (fun x1 => (cond (inB (1 : Int) (List.length x0.1.1)) (Option.bind (GetElem?.getElem? x0.1.1 1) (fun x2 => (Option.bind (r45 ((x1.1, (x1.2.1, (x1.2.2.1, (x1.2.2.2.1, Unit.unit)))), ((x2.1, (x2.2.1, (x2.2.2.1, (x2.2.2.2.1, Unit.unit)))), Unit.unit))) (fun x3 => (Option.bind (r44 ((Decidable.decide (Eq (Decidable.decide (Eq x3.1 (0 : Int))) (Decidable.decide (Eq (Tree.val x.1).1 (6 : Int))))), Unit.unit)) (fun x4 => (Option.some ((x4.1.1, (x4.1.2.1, (x4.1.2.2.1, (x4.1.2.2.2.1, Unit.unit)))), (x4.2.1, Unit.unit))))))))) (Option.none)))) (Option.none)) (cond (Decidable.decide (Eq (Tree.val x.1).1 (7 : Int))) (cond (inB (0 : Int) (List.length x0.1.1)) (Option.bind (GetElem?.getElem? x0.1.1 0) (fun x1 => (cond (inB (1 : Int) (List.length x0.1.1)) (Option.bind (GetElem?.getElem? x0.1.1 1) (fun x2 => (Option.bind (r45 ((x1.1, (x1.2.1, (x1.2.2.1, (x1.2.2.2.1, Unit.unit)))), ((x2.1, (x2.2.1, (x2.2.2.1, (x2.2.2.2.1, Unit.unit)))), Unit.unit))) (fun x3 => (Option.bind (r44 ((Decidable.decide (Eq (Decidable.decide (Eq x3.1 (0 : Int))) (Decidable.decide (Eq (Tree.val x.1).1 (6 : Int))))), Unit.unit)) (fun x4 => (Option.some ((x4.1.1, (x4.1.2.1, (x4.1.2.2.1, (x4.1.2.2.2.1, Unit.unit)))), (x4.2.1, Unit.unit))))))))) (Option.none)))) (Option.none)) (cond (Decidable.decide (LE.le (Tree.val x.1).1 (11 : Int))) (cond (inB (0 : Int) (List.length x0.1.1)) (Option.bind (GetElem?.getElem? x0.1.1 0) (fun x1 => (cond (inB (1 : Int) (List.length x0.1.1)) (Option.bind (GetElem?.getElem? x0.1.1 1) (fun x2 => (cond (Bool.not (Decidable.decide (Eq x1.1 x2.1))) (Option.some (((0 : Int), ((0 : Int), ((ByteArray.mk (List.toArray (List.nil))), (Bool.false, Unit.unit)))), ((8 : Int), Unit.unit))) (cond (inB (0 : Int) (List.length x0.1.1)) (Option.bind (GetElem?.getElem? x0.1.1 0) (fun x3 => (cond (Decidable.decide (LT.lt x3.1 (1 : Int))) (Option.some (((0 : Int), ((0 : Int), ((ByteArray.mk (List.toArray (List.nil))), (Bool.false, Unit.unit)))), ((8 : Int), Unit.unit))) (cond (inB (0 : Int) (List.length x0.1.1)) (Option.bind (GetElem?.getElem? x0.1.1 0) (fun x4 => (cond (Decidable.decide (LT.lt (2 : Int) x4.1)) (Option.some (((0 : Int), ((0 : Int), ((ByteArray.mk (List.toArray (List.nil))), (Bool.false, Unit.unit)))), ((8 : Int), Unit.unit))) (cond (inB (0 : Int) (List.length x0.1.1)) (Option.bind (GetElem?.getElem? x0.1.1 0) (fun x5 => (cond (inB (1 : Int) (List.length x0.1.1)) (Option.bind (GetElem?.getElem? x0.1.1 1) (fun x6 => (Option.bind (r45 ((x5.1, (x5.2.1, (x5.2.2.1, (x5.2.2.2.1, Unit.unit)))), ((x6.1, (x6.2.1, (x6.2.2.1, (x6.2.2.2.1, Unit.unit)))), Unit.unit))) (fun x7 => (cond (Decidable.decide (Eq x7.1 (0 : Int))) (cond (Decidable.decide (Eq (Int.tmod (Tree.val x.1).1 (2 : Int)) (1 : Int))) (Option.bind (r44 (Bool.true, Unit.unit)) (fun x8 => (Option.some ((x8.1.1, (x8.1.2.1, (x8.1.2.2.1, (x8.1.2.2.2.1, Unit.unit)))), (x8.2.1, Unit.unit))))) (cond (Decidable.decide (LT.lt x7.1 (0 : Int))) (cond (Decidable.decide (LE.le (Tree.val x.1).1 (9 : Int))) (Option.bind (r44 (Bool.true, Unit.unit)) (fun x8 => (Option.some ((x8.1.1, (x8.1.2.1, (x8.1.2.2.1, (x8.1.2.2.2.1, Unit.unit)))), (x8.2.1, Unit.unit))))) (cond (Decidable.decide (LT.lt (0 : Int) x7.1)) (Option.bind (r44 ((Decidable.decide (LE.le (10 : Int) (Tree.val x.1).1)), Unit.unit)) (fun x8 => (Option.some ((x8.1.1, (x8.1.2.1, (x8.1.2.2.1, (x8.1.2.2.2.1, Unit.unit)))), (x8.2.1, Unit.unit))))) (Option.bind (r44 (Bool.false, Unit.unit)) (fun x8 => (Option.some ((x8.1.1, (x8.1.2.1, (x8.1.2.2.1, (x8.1.2.2.2.1, Unit.unit)))), (x8.2.1, Unit.unit))))))) (cond (Decidable.decide (LT.lt (0 : Int) x7.1)) (Option.bind (r44 ((Decidable.decide (LE.le (10 : Int) (Tree.val x.1).1)), Unit.unit)) (fun x8 => (Option.some ((x8.1.1, (x8.1.2.1, (x8.1.2.2.1, (x8.1.2.2.2.1, Unit.unit)))), (x8.2.1, Unit.unit))))) (Option.bind (r44 (Bool.false, Unit.unit)) (fun x8 => (Option.some ((x8.1.1, (x8.1.2.1, (x8.1.2.2.1, (x8.1.2.2.2.1, Unit.unit)))), (x8.2.1, Unit.unit)))))))) (cond (Decidable.decide (LT.lt x7.1 (0 : Int))) (cond (Decidable.decide (LE.le (Tree.val x.1).1 (9 : Int))) (Option.bind (r44 (Bool.true, Unit.unit)) (fun x8 => (Option.some ((x8.1.1, (x8.1.2.1, (x8.1.2.2.1, (x8.1.2.2.2.1, Unit.unit)))), (x8.2.1, Unit.unit))))) (cond (Decidable.decide (LT.lt (0 : Int) x7.1)) (Option.bind (r44 ((Decidable.decide (LE.le (10 : Int) (Tree.val x.1).1)), Unit.unit)) (fun x8 => (Option.some ((x8.1.1, (x8.1.2.1, (x8.1.2.2.1, (x8.1.2.2.2.1, Unit.unit)))), (x8.2.1, Unit.unit))))) (Option.bind (r44 (Bool.false, Unit.unit)) (fun x8 => (Option.some ((x8.1.1, (x8.1.2.1, (x8.1.2.2.1, (x8.1.2.2.2.1, Unit.unit)))), (x8.2.1, Unit.unit))))))) (cond (Decidable.decide (LT.lt (0 : Int) x7.1)) (Option.bind (r44 ((Decidable.decide (LE.le (10 : Int) (Tree.val x.1).1)), Unit.unit)) (fun x8 => (Option.some ((x8.1.1, (x8.1.2.1, (x8.1.2.2.1, (x8.1.2.2.2.1, Unit.unit)))), (x8.2.1, Unit.unit))))) (Option.bind (r44 (Bool.false, Unit.unit)) (fun x8 => (Option.some ((x8.1.1, (x8.1.2.1, (x8.1.2.2.1, (x8.1.2.2.2.1, Unit.unit)))), (x8.2.1, Unit.unit)))))))))))) (Option.none)))) (Option.none))))) (Option.none))))) (Option.none))))) (Option.none)))) (Option.none)) (cond (Decidable.decide (Eq (Tree.val x.1).1 (19 : Int))) (cond (inB (0 : Int) (List.length x0.1.1)) (Option.bind (GetElem?.getElem? x0.1.1 0) (fun x1 => (cond (Bool.not (Decidable.decide (Eq x1.1 (2 : Int)))) (Option.some (((0 : Int), ((0 : Int), ((ByteArray.mk (List.toArray (List.nil))), (Bool.false, Unit.unit)))), ((8 : Int), Unit.unit))) (cond (inB (0 : Int) (List.length x0.1.1)) (Option.bind (GetElem?.getElem? x0.1.1 0) (fun x2 => (Option.some (((1 : Int), ((Nat.cast (ByteArray.size x2.2.2.1) : Int), ((ByteArray.mk (List.toArray (List.nil))), (Bool.false, Unit.unit)))), ((0 : Int), Unit.unit))))) (Option.none))))) (Option.none)) (Option.bind (loop (D := (Prod (Kd.T (.pair (.int .i64) .unit)) (Kd.T .unit))) (O := (Sum (Kd.T (.pair (.pair (.int .i64) (.pair (.int .i64) (.pair (.int .i64) (.pair .str (.pair .bool .unit))))) .unit)) (OutT (List.cons ((Ex3.exit 4), (Sh.mk (List.nil) (List.nil) (List.nil))) (List.nil))))) (fun x1 => (cond (Decidable.decide (LT.lt x1.1.1 (Nat.cast (List.length x0.1.1) : Int))) (cond (inB x1.1.1 (List.length x0.1.1)) (Option.bind (GetElem?.getElem? x0.1.1 (Int.toNat x1.1.1)) (fun x2 => (cond (Bool.not (Decidable.decide (Eq x2.1 (1 : Int)))) (Option.some (Sum.inr (Sum.inl (((8 : Int), ((0 : Int), ((0 : Int), ((ByteArray.mk (List.toArray (List.nil))), (Bool.false, Unit.unit))))), Unit.unit)))) (Option.some (Sum.inl (((IntKind.wrap IntKind.i64 (HAdd.hAdd x1.1.1 (1 : Int))), Unit.unit), Unit.unit)))))) (Option.none)) (Option.some (Sum.inr (Sum.inr (Sum.inl (Unit.unit, Unit.unit))))))) (((0 : Int), Unit.unit), Unit.unit)) (sumE (fun x1 => (Option.some ((x1.1.2.1, (x1.1.2.2.1, (x1.1.2.2.2.1, (x1.1.2.2.2.2.1, Unit.unit)))), (x1.1.1, Unit.unit)))) (sumE (fun x1 => (cond (Decidable.decide (Eq (Tree.val x.1).1 (17 : Int))) (cond (inB (0 : Int) (List.length x0.1.1)) (Option.bind (GetElem?.getElem? x0.1.1 0) (fun x2 => (Option.some (((1 : Int), ((IntKind.wrap IntKind.i64 (HSub.hSub (0 : Int) x2.2.1)), ((ByteArray.mk (List.toArray (List.nil))), (Bool.false, Unit.unit)))), ((0 : Int), Unit.unit))))) (Option.none)) (cond (inB (0 : Int) (List.length x0.1.1)) (Option.bind (GetElem?.getElem? x0.1.1 0) (fun x2 => (cond (inB (1 : Int) (List.length x0.1.1)) (Option.bind (GetElem?.getElem? x0.1.1 1) (fun x3 => (Option.bind (r46 ((Tree.val x.1).1, (x2.2.1, (x3.2.1, Unit.unit)))) (fun x4 => (Option.some ((x4.1.1, (x4.1.2.1, (x4.1.2.2.1, (x4.1.2.2.2.1, Unit.unit)))), (x4.2.1, Unit.unit))))))) (Option.none)))) (Option.none)))) (emptyE))))))))) (emptyE))))) (cond (Decidable.decide (Eq (Tree.val x.1).1 (4 : Int))) (cond (Decidable.decide (Eq (Tree.val x.1).1 (4 : Int))) (Option.bind (r43 n ((Tree.node ((Tree.val x.1).1, (((Tree.val x.1).2.1.1, ((Tree.val x.1).2.1.2.1, ((Tree.val x.1).2.1.2.2.1, ((Tree.val x.1).2.1.2.2.2.1, Unit.unit)))), ((Tree.val x.1).2.2.1, Unit.unit))) (Tree.kids x.1)), ((x.2.1.1, (x.2.1.2.1, (x.2.1.2.2.1, (x.2.1.2.2.2.1, (x.2.1.2.2.2.2.1, (x.2.1.2.2.2.2.2.1, Unit.unit)))))), Unit.unit))) (fun x0 => (Option.some ((x0.1.1, (x0.1.2.1, (x0.1.2.2.1, (x0.1.2.2.2.1, Unit.unit)))), (x0.2.1, Unit.unit))))) (Option.bind (loop (D := (Prod (Kd.T (.pair (.slice (.pair (.int .i64) (.pair (.int .i64) (.pair .str (.pair .bool .unit))))) (.pair (.int .i64) .unit))) (Kd.T .unit))) (O := (Sum (Kd.T (.pair (.pair (.int .i64) (.pair (.int .i64) (.pair (.int .i64) (.pair .str (.pair .bool .unit))))) .unit)) (OutT (List.cons ((Ex3.exit 1), (Sh.mk (List.cons (6, (ASh.own (Kd.pair (Kd.int IntKind.i64) (Kd.pair (Kd.int IntKind.i64) (Kd.pair Kd.str (Kd.pair Kd.bool Kd.unit)))))) (List.nil)) (List.nil) (List.nil))) (List.nil))))) (fun x0 => (cond (Decidable.decide (LT.lt x0.1.2.1 (Nat.cast (List.length (Tree.kids x.1)) : Int))) (cond (inB x0.1.2.1 (List.length (Tree.kids x.1))) (Option.bind (GetElem?.getElem? (Tree.kids x.1) (Int.toNat x0.1.2.1)) (fun x1 => (Option.bind (r14 n ((Tree.node ((Tree.val x1).1, (((Tree.val x1).2.1.1, ((Tree.val x1).2.1.2.1, ((Tree.val x1).2.1.2.2.1, ((Tree.val x1).2.1.2.2.2.1, Unit.unit)))), ((Tree.val x1).2.2.1, Unit.unit))) (Tree.kids x1)), ((x.2.1.1, (x.2.1.2.1, (x.2.1.2.2.1, (x.2.1.2.2.2.1, (x.2.1.2.2.2.2.1, (x.2.1.2.2.2.2.2.1, Unit.unit)))))), Unit.unit))) (fun x2 => (cond (Bool.not (Decidable.decide (Eq x2.2.1 (0 : Int)))) (Option.some (Sum.inr (Sum.inl ((x2.2.1, ((0 : Int), ((0 : Int), ((ByteArray.mk (List.toArray (List.nil))), (Bool.false, Unit.unit))))), Unit.unit)))) (cond (fits (HAdd.hAdd (List.length x0.1.1) (List.length (List.cons (x2.1.1, (x2.1.2.1, (x2.1.2.2.1, (x2.1.2.2.2.1, Unit.unit)))) (List.nil)))) 40) (Option.some (Sum.inl (((HAppend.hAppend x0.1.1 (List.cons (x2.1.1, (x2.1.2.1, (x2.1.2.2.1, (x2.1.2.2.2.1, Unit.unit)))) (List.nil))), ((IntKind.wrap IntKind.i64 (HAdd.hAdd x0.1.2.1 (1 : Int))), Unit.unit)), Unit.unit))) (Option.none))))))) (Option.none)) (Option.some (Sum.inr (Sum.inr (Sum.inl ((x0.1.1, Unit.unit), Unit.unit))))))) (((List.nil), ((0 : Int), Unit.unit)), Unit.unit)) (sumE (fun x0 => (Option.some ((x0.1.2.1, (x0.1.2.2.1, (x0.1.2.2.2.1, (x0.1.2.2.2.2.1, Unit.unit)))), (x0.1.1, Unit.unit)))) (sumE (fun x0 => (cond (Decidable.decide (Eq (Tree.val x.1).1 (6 : Int))) (cond (inB (0 : Int) (List.length x0.1.1)) (Option.bind (GetElem?.getElem? x0.1.1 0) (fun x1 => (cond (inB (1 : Int) (List.length x0.1.1)) (Option.bind (GetElem?.getElem? x0.1.1 1) (fun x2 => (Option.bind (r45 ((x1.1, (x1.2.1, (x1.2.2.1, (x1.2.2.2.1, Unit.unit)))), ((x2.1, (x2.2.1, (x2.2.2.1, (x2.2.2.2.1, Unit.unit)))), Unit.unit))) (fun x3 => (Option.bind (r44 ((Decidable.decide (Eq (Decidable.decide (Eq x3.1 (0 : Int))) (Decidable.decide (Eq (Tree.val x.1).1 (6 : Int))))), Unit.unit)) (fun x4 => (Option.some ((x4.1.1, (x4.1.2.1, (x4.1.2.2.1, (x4.1.2.2.2.1, Unit.unit)))), (x4.2.1, Unit.unit))))))))) (Option.none)))) (Option.none)) (cond (Decidable.decide (Eq (Tree.val x.1).1 (7 : Int))) (cond (inB (0 : Int) (List.length x0.1.1)) (Option.bind (GetElem?.getElem? x0.1.1 0) (fun x1 => (cond (inB (1 : Int) (List.length x0.1.1)) (Option.bind (GetElem?.getElem? x0.1.1 1) (fun x2 => (Option.bind (r45 ((x1.1, (x1.2.1, (x1.2.2.1, (x1.2.2.2.1, Unit.unit)))), ((x2.1, (x2.2.1, (x2.2.2.1, (x2.2.2.2.1, Unit.unit)))), Unit.unit))) (fun x3 => (Option.bind (r44 ((Decidable.decide (Eq (Decidable.decide (Eq x3.1 (0 : Int))) (Decidable.decide (Eq (Tree.val x.1).1 (6 : Int))))), Unit.unit)) (fun x4 => (Option.some ((x4.1.1, (x4.1.2.1, (x4.1.2.2.1, (x4.1.2.2.2.1, Unit.unit)))), (x4.2.1, Unit.unit))))))))) (Option.none)))) (Option.none)) (cond (Decidable.decide (LE.le (Tree.val x.1).1 (11 : Int))) (cond (inB (0 : Int) (List.length x0.1.1)) (Option.bind (GetElem?.getElem? x0.1.1 0) (fun x1 => (cond (inB (1 : Int) (List.length x0.1.1)) (Option.bind (GetElem?.getElem? x0.1.1 1) (fun x2 => (cond (Bool.not (Decidable.decide (Eq x1.1 x2.1))) (Option.some (((0 : Int), ((0 : Int), ((ByteArray.mk (List.toArray (List.nil))), (Bool.false, Unit.unit)))), ((8 : Int), Unit.unit))) (cond (inB (0 : Int) (List.length x0.1.1)) (Option.bind (GetElem?.getElem? x0.1.1 0) (fun x3 => (cond (Decidable.decide (LT.lt x3.1 (1 : Int))) (Option.some (((0 : Int), ((0 : Int), ((ByteArray.mk (List.toArray (List.nil))), (Bool.false, Unit.unit)))), ((8 : Int), Unit.unit))) (cond (inB (0 : Int) (List.length x0.1.1)) (Option.bind (GetElem?.getElem? x0.1.1 0) (fun x4 => (cond (Decidable.decide (LT.lt (2 : Int) x4.1)) (Option.some (((0 : Int), ((0 : Int), ((ByteArray.mk (List.toArray (List.nil))), (Bool.false, Unit.unit)))), ((8 : Int), Unit.unit))) (cond (inB (0 : Int) (List.length x0.1.1)) (Option.bind (GetElem?.getElem? x0.1.1 0) (fun x5 => (cond (inB (1 : Int) (List.length x0.1.1)) (Option.bind (GetElem?.getElem? x0.1.1 1) (fun x6 => (Option.bind (r45 ((x5.1, (x5.2.1, (x5.2.2.1, (x5.2.2.2.1, Unit.unit)))), ((x6.1, (x6.2.1, (x6.2.2.1, (x6.2.2.2.1, Unit.unit)))), Unit.unit))) (fun x7 => (cond (Decidable.decide (Eq x7.1 (0 : Int))) (cond (Decidable.decide (Eq (Int.tmod (Tree.val x.1).1 (2 : Int)) (1 : Int))) (Option.bind (r44 (Bool.true, Unit.unit)) (fun x8 => (Option.some ((x8.1.1, (x8.1.2.1, (x8.1.2.2.1, (x8.1.2.2.2.1, Unit.unit)))), (x8.2.1, Unit.unit))))) (cond (Decidable.decide (LT.lt x7.1 (0 : Int))) (cond (Decidable.decide (LE.le (Tree.val x.1).1 (9 : Int))) (Option.bind (r44 (Bool.true, Unit.unit)) (fun x8 => (Option.some ((x8.1.1, (x8.1.2.1, (x8.1.2.2.1, (x8.1.2.2.2.1, Unit.unit)))), (x8.2.1, Unit.unit))))) (cond (Decidable.decide (LT.lt (0 : Int) x7.1)) (Option.bind (r44 ((Decidable.decide (LE.le (10 : Int) (Tree.val x.1).1)), Unit.unit)) (fun x8 => (Option.some ((x8.1.1, (x8.1.2.1, (x8.1.2.2.1, (x8.1.2.2.2.1, Unit.unit)))), (x8.2.1, Unit.unit))))) (Option.bind (r44 (Bool.false, Unit.unit)) (fun x8 => (Option.some ((x8.1.1, (x8.1.2.1, (x8.1.2.2.1, (x8.1.2.2.2.1, Unit.unit)))), (x8.2.1, Unit.unit))))))) (cond (Decidable.decide (LT.lt (0 : Int) x7.1)) (Option.bind (r44 ((Decidable.decide (LE.le (10 : Int) (Tree.val x.1).1)), Unit.unit)) (fun x8 => (Option.some ((x8.1.1, (x8.1.2.1, (x8.1.2.2.1, (x8.1.2.2.2.1, Unit.unit)))), (x8.2.1, Unit.unit))))) (Option.bind (r44 (Bool.false, Unit.unit)) (fun x8 => (Option.some ((x8.1.1, (x8.1.2.1, (x8.1.2.2.1, (x8.1.2.2.2.1, Unit.unit)))), (x8.2.1, Unit.unit)))))))) (cond (Decidable.decide (LT.lt x7.1 (0 : Int))) (cond (Decidable.decide (LE.le (Tree.val x.1).1 (9 : Int))) (Option.bind (r44 (Bool.true, Unit.unit)) (fun x8 => (Option.some ((x8.1.1, (x8.1.2.1, (x8.1.2.2.1, (x8.1.2.2.2.1, Unit.unit)))), (x8.2.1, Unit.unit))))) (cond (Decidable.decide (LT.lt (0 : Int) x7.1)) (Option.bind (r44 ((Decidable.decide (LE.le (10 : Int) (Tree.val x.1).1)), Unit.unit)) (fun x8 => (Option.some ((x8.1.1, (x8.1.2.1, (x8.1.2.2.1, (x8.1.2.2.2.1, Unit.unit)))), (x8.2.1, Unit.unit))))) (Option.bind (r44 (Bool.false, Unit.unit)) (fun x8 => (Option.some ((x8.1.1, (x8.1.2.1, (x8.1.2.2.1, (x8.1.2.2.2.1, Unit.unit)))), (x8.2.1, Unit.unit))))))) (cond (Decidable.decide (LT.lt (0 : Int) x7.1)) (Option.bind (r44 ((Decidable.decide (LE.le (10 : Int) (Tree.val x.1).1)), Unit.unit)) (fun x8 => (Option.some ((x8.1.1, (x8.1.2.1, (x8.1.2.2.1, (x8.1.2.2.2.1, Unit.unit)))), (x8.2.1, Unit.unit))))) (Option.bind (r44 (Bool.false, Unit.unit)) (fun x8 => (Option.some ((x8.1.1, (x8.1.2.1, (x8.1.2.2.1, (x8.1.2.2.2.1, Unit.unit)))), (x8.2.1, Unit.unit)))))))))))) (Option.none)))) (Option.none))))) (Option.none))))) (Option.none))))) (Option.none)))) (Option.none)) (cond (Decidable.decide (Eq (Tree.val x.1).1 (19 : Int))) (cond (inB (0 : Int) (List.length x0.1.1)) (Option.bind (GetElem?.getElem? x0.1.1 0) (fun x1 => (cond (Bool.not (Decidable.decide (Eq x1.1 (2 : Int)))) (Option.some (((0 : Int), ((0 : Int), ((ByteArray.mk (List.toArray (List.nil))), (Bool.false, Unit.unit)))), ((8 : Int), Unit.unit))) (cond (inB (0 : Int) (List.length x0.1.1)) (Option.bind (GetElem?.getElem? x0.1.1 0) (fun x2 => (Option.some (((1 : Int), ((Nat.cast (ByteArray.size x2.2.2.1) : Int), ((ByteArray.mk (List.toArray (List.nil))), (Bool.false, Unit.unit)))), ((0 : Int), Unit.unit))))) (Option.none))))) (Option.none)) (Option.bind (loop (D := (Prod (Kd.T (.pair (.int .i64) .unit)) (Kd.T .unit))) (O := (Sum (Kd.T (.pair (.pair (.int .i64) (.pair (.int .i64) (.pair (.int .i64) (.pair .str (.pair .bool .unit))))) .unit)) (OutT (List.cons ((Ex3.exit 4), (Sh.mk (List.nil) (List.nil) (List.nil))) (List.nil))))) (fun x1 => (cond (Decidable.decide (LT.lt x1.1.1 (Nat.cast (List.length x0.1.1) : Int))) (cond (inB x1.1.1 (List.length x0.1.1)) (Option.bind (GetElem?.getElem? x0.1.1 (Int.toNat x1.1.1)) (fun x2 => (cond (Bool.not (Decidable.decide (Eq x2.1 (1 : Int)))) (Option.some (Sum.inr (Sum.inl (((8 : Int), ((0 : Int), ((0 : Int), ((ByteArray.mk (List.toArray (List.nil))), (Bool.false, Unit.unit))))), Unit.unit)))) (Option.some (Sum.inl (((IntKind.wrap IntKind.i64 (HAdd.hAdd x1.1.1 (1 : Int))), Unit.unit), Unit.unit)))))) (Option.none)) (Option.some (Sum.inr (Sum.inr (Sum.inl (Unit.unit, Unit.unit))))))) (((0 : Int), Unit.unit), Unit.unit)) (sumE (fun x1 => (Option.some ((x1.1.2.1, (x1.1.2.2.1, (x1.1.2.2.2.1, (x1.1.2.2.2.2.1, Unit.unit)))), (x1.1.1, Unit.unit)))) (sumE (fun x1 => (cond (Decidable.decide (Eq (Tree.val x.1).1 (17 : Int))) (cond (inB (0 : Int) (List.length x0.1.1)) (Option.bind (GetElem?.getElem? x0.1.1 0) (fun x2 => (Option.some (((1 : Int), ((IntKind.wrap IntKind.i64 (HSub.hSub (0 : Int) x2.2.1)), ((ByteArray.mk (List.toArray (List.nil))), (Bool.false, Unit.unit)))), ((0 : Int), Unit.unit))))) (Option.none)) (cond (inB (0 : Int) (List.length x0.1.1)) (Option.bind (GetElem?.getElem? x0.1.1 0) (fun x2 => (cond (inB (1 : Int) (List.length x0.1.1)) (Option.bind (GetElem?.getElem? x0.1.1 1) (fun x3 => (Option.bind (r46 ((Tree.val x.1).1, (x2.2.1, (x3.2.1, Unit.unit)))) (fun x4 => (Option.some ((x4.1.1, (x4.1.2.1, (x4.1.2.2.1, (x4.1.2.2.2.1, Unit.unit)))), (x4.2.1, Unit.unit))))))) (Option.none)))) (Option.none)))) (emptyE))))))))) (emptyE))))) (cond (Decidable.decide (Eq (Tree.val x.1).1 (5 : Int))) (cond (Decidable.decide (Eq (Tree.val x.1).1 (5 : Int))) (Option.bind (r43 n ((Tree.node ((Tree.val x.1).1, (((Tree.val x.1).2.1.1, ((Tree.val x.1).2.1.2.1, ((Tree.val x.1).2.1.2.2.1, ((Tree.val x.1).2.1.2.2.2.1, Unit.unit)))), ((Tree.val x.1).2.2.1, Unit.unit))) (Tree.kids x.1)), ((x.2.1.1, (x.2.1.2.1, (x.2.1.2.2.1, (x.2.1.2.2.2.1, (x.2.1.2.2.2.2.1, (x.2.1.2.2.2.2.2.1, Unit.unit)))))), Unit.unit))) (fun x0 => (Option.some ((x0.1.1, (x0.1.2.1, (x0.1.2.2.1, (x0.1.2.2.2.1, Unit.unit)))), (x0.2.1, Unit.unit))))) (Option.bind (loop (D := (Prod (Kd.T (.pair (.slice (.pair (.int .i64) (.pair (.int .i64) (.pair .str (.pair .bool .unit))))) (.pair (.int .i64) .unit))) (Kd.T .unit))) (O := (Sum (Kd.T (.pair (.pair (.int .i64) (.pair (.int .i64) (.pair (.int .i64) (.pair .str (.pair .bool .unit))))) .unit)) (OutT (List.cons ((Ex3.exit 1), (Sh.mk (List.cons (6, (ASh.own (Kd.pair (Kd.int IntKind.i64) (Kd.pair (Kd.int IntKind.i64) (Kd.pair Kd.str (Kd.pair Kd.bool Kd.unit)))))) (List.nil)) (List.nil) (List.nil))) (List.nil))))) (fun x0 => (cond (Decidable.decide (LT.lt x0.1.2.1 (Nat.cast (List.length (Tree.kids x.1)) : Int))) (cond (inB x0.1.2.1 (List.length (Tree.kids x.1))) (Option.bind (GetElem?.getElem? (Tree.kids x.1) (Int.toNat x0.1.2.1)) (fun x1 => (Option.bind (r14 n ((Tree.node ((Tree.val x1).1, (((Tree.val x1).2.1.1, ((Tree.val x1).2.1.2.1, ((Tree.val x1).2.1.2.2.1, ((Tree.val x1).2.1.2.2.2.1, Unit.unit)))), ((Tree.val x1).2.2.1, Unit.unit))) (Tree.kids x1)), ((x.2.1.1, (x.2.1.2.1, (x.2.1.2.2.1, (x.2.1.2.2.2.1, (x.2.1.2.2.2.2.1, (x.2.1.2.2.2.2.2.1, Unit.unit)))))), Unit.unit))) (fun x2 => (cond (Bool.not (Decidable.decide (Eq x2.2.1 (0 : Int)))) (Option.some (Sum.inr (Sum.inl ((x2.2.1, ((0 : Int), ((0 : Int), ((ByteArray.mk (List.toArray (List.nil))), (Bool.false, Unit.unit))))), Unit.unit)))) (cond (fits (HAdd.hAdd (List.length x0.1.1) (List.length (List.cons (x2.1.1, (x2.1.2.1, (x2.1.2.2.1, (x2.1.2.2.2.1, Unit.unit)))) (List.nil)))) 40) (Option.some (Sum.inl (((HAppend.hAppend x0.1.1 (List.cons (x2.1.1, (x2.1.2.1, (x2.1.2.2.1, (x2.1.2.2.2.1, Unit.unit)))) (List.nil))), ((IntKind.wrap IntKind.i64 (HAdd.hAdd x0.1.2.1 (1 : Int))), Unit.unit)), Unit.unit))) (Option.none))))))) (Option.none)) (Option.some (Sum.inr (Sum.inr (Sum.inl ((x0.1.1, Unit.unit), Unit.unit))))))) (((List.nil), ((0 : Int), Unit.unit)), Unit.unit)) (sumE (fun x0 => (Option.some ((x0.1.2.1, (x0.1.2.2.1, (x0.1.2.2.2.1, (x0.1.2.2.2.2.1, Unit.unit)))), (x0.1.1, Unit.unit)))) (sumE (fun x0 => (cond (Decidable.decide (Eq (Tree.val x.1).1 (6 : Int))) (cond (inB (0 : Int) (List.length x0.1.1)) (Option.bind (GetElem?.getElem? x0.1.1 0) (fun x1 => (cond (inB (1 : Int) (List.length x0.1.1)) (Option.bind (GetElem?.getElem? x0.1.1 1) (fun x2 => (Option.bind (r45 ((x1.1, (x1.2.1, (x1.2.2.1, (x1.2.2.2.1, Unit.unit)))), ((x2.1, (x2.2.1, (x2.2.2.1, (x2.2.2.2.1, Unit.unit)))), Unit.unit))) (fun x3 => (Option.bind (r44 ((Decidable.decide (Eq (Decidable.decide (Eq x3.1 (0 : Int))) (Decidable.decide (Eq (Tree.val x.1).1 (6 : Int))))), Unit.unit)) (fun x4 => (Option.some ((x4.1.1, (x4.1.2.1, (x4.1.2.2.1, (x4.1.2.2.2.1, Unit.unit)))), (x4.2.1, Unit.unit))))))))) (Option.none)))) (Option.none)) (cond (Decidable.decide (Eq (Tree.val x.1).1 (7 : Int))) (cond (inB (0 : Int) (List.length x0.1.1)) (Option.bind (GetElem?.getElem? x0.1.1 0) (fun x1 => (cond (inB (1 : Int) (List.length x0.1.1)) (Option.bind (GetElem?.getElem? x0.1.1 1) (fun x2 => (Option.bind (r45 ((x1.1, (x1.2.1, (x1.2.2.1, (x1.2.2.2.1, Unit.unit)))), ((x2.1, (x2.2.1, (x2.2.2.1, (x2.2.2.2.1, Unit.unit)))), Unit.unit))) (fun x3 => (Option.bind (r44 ((Decidable.decide (Eq (Decidable.decide (Eq x3.1 (0 : Int))) (Decidable.decide (Eq (Tree.val x.1).1 (6 : Int))))), Unit.unit)) (fun x4 => (Option.some ((x4.1.1, (x4.1.2.1, (x4.1.2.2.1, (x4.1.2.2.2.1, Unit.unit)))), (x4.2.1, Unit.unit))))))))) (Option.none)))) (Option.none)) (cond (Decidable.decide (LE.le (Tree.val x.1).1 (11 : Int))) (cond (inB (0 : Int) (List.length x0.1.1)) (Option.bind (GetElem?.getElem? x0.1.1 0) (fun x1 => (cond (inB (1 : Int) (List.length x0.1.1)) (Option.bind (GetElem?.getElem? x0.1.1 1) (fun x2 => (cond (Bool.not (Decidable.decide (Eq x1.1 x2.1))) (Option.some (((0 : Int), ((0 : Int), ((ByteArray.mk (List.toArray (List.nil))), (Bool.false, Unit.unit)))), ((8 : Int), Unit.unit))) (cond (inB (0 : Int) (List.length x0.1.1)) (Option.bind (GetElem?.getElem? x0.1.1 0) (fun x3 => (cond (Decidable.decide (LT.lt x3.1 (1 : Int))) (Option.some (((0 : Int), ((0 : Int), ((ByteArray.mk (List.toArray (List.nil))), (Bool.false, Unit.unit)))), ((8 : Int), Unit.unit))) (cond (inB (0 : Int) (List.length x0.1.1)) (Option.bind (GetElem?.getElem? x0.1.1 0) (fun x4 => (cond (Decidable.decide (LT.lt (2 : Int) x4.1)) (Option.some (((0 : Int), ((0 : Int), ((ByteArray.mk (List.toArray (List.nil))), (Bool.false, Unit.unit)))), ((8 : Int), Unit.unit))) (cond (inB (0 : Int) (List.length x0.1.1)) (Option.bind (GetElem?.getElem? x0.1.1 0) (fun x5 => (cond (inB (1 : Int) (List.length x0.1.1)) (Option.bind (GetElem?.getElem? x0.1.1 1) (fun x6 => (Option.bind (r45 ((x5.1, (x5.2.1, (x5.2.2.1, (x5.2.2.2.1, Unit.unit)))), ((x6.1, (x6.2.1, (x6.2.2.1, (x6.2.2.2.1, Unit.unit)))), Unit.unit))) (fun x7 => (cond (Decidable.decide (Eq x7.1 (0 : Int))) (cond (Decidable.decide (Eq (Int.tmod (Tree.val x.1).1 (2 : Int)) (1 : Int))) (Option.bind (r44 (Bool.true, Unit.unit)) (fun x8 => (Option.some ((x8.1.1, (x8.1.2.1, (x8.1.2.2.1, (x8.1.2.2.2.1, Unit.unit)))), (x8.2.1, Unit.unit))))) (cond (Decidable.decide (LT.lt x7.1 (0 : Int))) (cond (Decidable.decide (LE.le (Tree.val x.1).1 (9 : Int))) (Option.bind (r44 (Bool.true, Unit.unit)) (fun x8 => (Option.some ((x8.1.1, (x8.1.2.1, (x8.1.2.2.1, (x8.1.2.2.2.1, Unit.unit)))), (x8.2.1, Unit.unit))))) (cond (Decidable.decide (LT.lt (0 : Int) x7.1)) (Option.bind (r44 ((Decidable.decide (LE.le (10 : Int) (Tree.val x.1).1)), Unit.unit)) (fun x8 => (Option.some ((x8.1.1, (x8.1.2.1, (x8.1.2.2.1, (x8.1.2.2.2.1, Unit.unit)))), (x8.2.1, Unit.unit))))) (Option.bind (r44 (Bool.false, Unit.unit)) (fun x8 => (Option.some ((x8.1.1, (x8.1.2.1, (x8.1.2.2.1, (x8.1.2.2.2.1, Unit.unit)))), (x8.2.1, Unit.unit))))))) (cond (Decidable.decide (LT.lt (0 : Int) x7.1)) (Option.bind (r44 ((Decidable.decide (LE.le (10 : Int) (Tree.val x.1).1)), Unit.unit)) (fun x8 => (Option.some ((x8.1.1, (x8.1.2.1, (x8.1.2.2.1, (x8.1.2.2.2.1, Unit.unit)))), (x8.2.1, Unit.unit))))) (Option.bind (r44 (Bool.false, Unit.unit)) (fun x8 => (Option.some ((x8.1.1, (x8.1.2.1, (x8.1.2.2.1, (x8.1.2.2.2.1, Unit.unit)))), (x8.2.1, Unit.unit)))))))) (cond (Decidable.decide (LT.lt x7.1 (0 : Int))) (cond (Decidable.decide (LE.le (Tree.val x.1).1 (9 : Int))) (Option.bind (r44 (Bool.true, Unit.unit)) (fun x8 => (Option.some ((x8.1.1, (x8.1.2.1, (x8.1.2.2.1, (x8.1.2.2.2.1, Unit.unit)))), (x8.2.1, Unit.unit))))) (cond (Decidable.decide (LT.lt (0 : Int) x7.1)) (Option.bind (r44 ((Decidable.decide (LE.le (10 : Int) (Tree.val x.1).1)), Unit.unit)) (fun x8 => (Option.some ((x8.1.1, (x8.1.2.1, (x8.1.2.2.1, (x8.1.2.2.2.1, Unit.unit)))), (x8.2.1, Unit.unit))))) (Option.bind (r44 (Bool.false, Unit.unit)) (fun x8 => (Option.some ((x8.1.1, (x8.1.2.1, (x8.1.2.2.1, (x8.1.2.2.2.1, Unit.unit)))), (x8.2.1, Unit.unit))))))) (cond (Decidable.decide (LT.lt (0 : Int) x7.1)) (Option.bind (r44 ((Decidable.decide (LE.le (10 : Int) (Tree.val x.1).1)), Unit.unit)) (fun x8 => (Option.some ((x8.1.1, (x8.1.2.1, (x8.1.2.2.1, (x8.1.2.2.2.1, Unit.unit)))), (x8.2.1, Unit.unit))))) (Option.bind (r44 (Bool.false, Unit.unit)) (fun x8 => (Option.some ((x8.1.1, (x8.1.2.1, (x8.1.2.2.1, (x8.1.2.2.2.1, Unit.unit)))), (x8.2.1, Unit.unit)))))))))))) (Option.none)))) (Option.none))))) (Option.none))))) (Option.none))))) (Option.none)))) (Option.none)) (cond (Decidable.decide (Eq (Tree.val x.1).1 (19 : Int))) (cond (inB (0 : Int) (List.length x0.1.1)) (Option.bind (GetElem?.getElem? x0.1.1 0) (fun x1 => (cond (Bool.not (Decidable.decide (Eq x1.1 (2 : Int)))) (Option.some (((0 : Int), ((0 : Int), ((ByteArray.mk (List.toArray (List.nil))), (Bool.false, Unit.unit)))), ((8 : Int), Unit.unit))) (cond (inB (0 : Int) (List.length x0.1.1)) (Option.bind (GetElem?.getElem? x0.1.1 0) (fun x2 => (Option.some (((1 : Int), ((Nat.cast (ByteArray.size x2.2.2.1) : Int), ((ByteArray.mk (List.toArray (List.nil))), (Bool.false, Unit.unit)))), ((0 : Int), Unit.unit))))) (Option.none))))) (Option.none)) (Option.bind (loop (D := (Prod (Kd.T (.pair (.int .i64) .unit)) (Kd.T .unit))) (O := (Sum (Kd.T (.pair (.pair (.int .i64) (.pair (.int .i64) (.pair (.int .i64) (.pair .str (.pair .bool .unit))))) .unit)) (OutT (List.cons ((Ex3.exit 4), (Sh.mk (List.nil) (List.nil) (List.nil))) (List.nil))))) (fun x1 => (cond (Decidable.decide (LT.lt x1.1.1 (Nat.cast (List.length x0.1.1) : Int))) (cond (inB x1.1.1 (List.length x0.1.1)) (Option.bind (GetElem?.getElem? x0.1.1 (Int.toNat x1.1.1)) (fun x2 => (cond (Bool.not (Decidable.decide (Eq x2.1 (1 : Int)))) (Option.some (Sum.inr (Sum.inl (((8 : Int), ((0 : Int), ((0 : Int), ((ByteArray.mk (List.toArray (List.nil))), (Bool.false, Unit.unit))))), Unit.unit)))) (Option.some (Sum.inl (((IntKind.wrap IntKind.i64 (HAdd.hAdd x1.1.1 (1 : Int))), Unit.unit), Unit.unit)))))) (Option.none)) (Option.some (Sum.inr (Sum.inr (Sum.inl (Unit.unit, Unit.unit))))))) (((0 : Int), Unit.unit), Unit.unit)) (sumE (fun x1 => (Option.some ((x1.1.2.1, (x1.1.2.2.1, (x1.1.2.2.2.1, (x1.1.2.2.2.2.1, Unit.unit)))), (x1.1.1, Unit.unit)))) (sumE (fun x1 => (cond (Decidable.decide (Eq (Tree.val x.1).1 (17 : Int))) (cond (inB (0 : Int) (List.length x0.1.1)) (Option.bind (GetElem?.getElem? x0.1.1 0) (fun x2 => (Option.some (((1 : Int), ((IntKind.wrap IntKind.i64 (HSub.hSub (0 : Int) x2.2.1)), ((ByteArray.mk (List.toArray (List.nil))), (Bool.false, Unit.unit)))), ((0 : Int), Unit.unit))))) (Option.none)) (cond (inB (0 : Int) (List.length x0.1.1)) (Option.bind (GetElem?.getElem? x0.1.1 0) (fun x2 => (cond (inB (1 : Int) (List.length x0.1.1)) (Option.bind (GetElem?.getElem? x0.1.1 1) (fun x3 => (Option.bind (r46 ((Tree.val x.1).1, (x2.2.1, (x3.2.1, Unit.unit)))) (fun x4 => (Option.some ((x4.1.1, (x4.1.2.1, (x4.1.2.2.1, (x4.1.2.2.2.1, Unit.unit)))), (x4.2.1, Unit.unit))))))) (Option.none)))) (Option.none)))) (emptyE))))))))) (emptyE))))) (cond (Decidable.decide (Eq (Tree.val x.1).1 (18 : Int))) (Option.bind (r43 n ((Tree.node ((Tree.val x.1).1, (((Tree.val x.1).2.1.1, ((Tree.val x.1).2.1.2.1, ((Tree.val x.1).2.1.2.2.1, ((Tree.val x.1).2.1.2.2.2.1, Unit.unit)))), ((Tree.val x.1).2.2.1, Unit.unit))) (Tree.kids x.1)), ((x.2.1.1, (x.2.1.2.1, (x.2.1.2.2.1, (x.2.1.2.2.2.1, (x.2.1.2.2.2.2.1, (x.2.1.2.2.2.2.2.1, Unit.unit)))))), Unit.unit))) (fun x0 => (Option.some ((x0.1.1, (x0.1.2.1, (x0.1.2.2.1, (x0.1.2.2.2.1, Unit.unit)))), (x0.2.1, Unit.unit))))) (Option.bind (loop (D := (Prod (Kd.T (.pair (.slice (.pair (.int .i64) (.pair (.int .i64) (.pair .str (.pair .bool .unit))))) (.pair (.int .i64) .unit))) (Kd.T .unit))) (O := (Sum (Kd.T (.pair (.pair (.int .i64) (.pair (.int .i64) (.pair (.int .i64) (.pair .str (.pair .bool .unit))))) .unit)) (OutT (List.cons ((Ex3.exit 1), (Sh.mk (List.cons (6, (ASh.own (Kd.pair (Kd.int IntKind.i64) (Kd.pair (Kd.int IntKind.i64) (Kd.pair Kd.str (Kd.pair Kd.bool Kd.unit)))))) (List.nil)) (List.nil) (List.nil))) (List.nil))))) (fun x0 => (cond (Decidable.decide (LT.lt x0.1.2.1 (Nat.cast (List.length (Tree.kids x.1)) : Int))) (cond (inB x0.1.2.1 (List.length (Tree.kids x.1))) (Option.bind (GetElem?.getElem? (Tree.kids x.1) (Int.toNat x0.1.2.1)) (fun x1 => (Option.bind (r14 n ((Tree.node ((Tree.val x1).1, (((Tree.val x1).2.1.1, ((Tree.val x1).2.1.2.1, ((Tree.val x1).2.1.2.2.1, ((Tree.val x1).2.1.2.2.2.1, Unit.unit)))), ((Tree.val x1).2.2.1, Unit.unit))) (Tree.kids x1)), ((x.2.1.1, (x.2.1.2.1, (x.2.1.2.2.1, (x.2.1.2.2.2.1, (x.2.1.2.2.2.2.1, (x.2.1.2.2.2.2.2.1, Unit.unit)))))), Unit.unit))) (fun x2 => (cond (Bool.not (Decidable.decide (Eq x2.2.1 (0 : Int)))) (Option.some (Sum.inr (Sum.inl ((x2.2.1, ((0 : Int), ((0 : Int), ((ByteArray.mk (List.toArray (List.nil))), (Bool.false, Unit.unit))))), Unit.unit)))) (cond (fits (HAdd.hAdd (List.length x0.1.1) (List.length (List.cons (x2.1.1, (x2.1.2.1, (x2.1.2.2.1, (x2.1.2.2.2.1, Unit.unit)))) (List.nil)))) 40) (Option.some (Sum.inl (((HAppend.hAppend x0.1.1 (List.cons (x2.1.1, (x2.1.2.1, (x2.1.2.2.1, (x2.1.2.2.2.1, Unit.unit)))) (List.nil))), ((IntKind.wrap IntKind.i64 (HAdd.hAdd x0.1.2.1 (1 : Int))), Unit.unit)), Unit.unit))) (Option.none))))))) (Option.none)) (Option.some (Sum.inr (Sum.inr (Sum.inl ((x0.1.1, Unit.unit), Unit.unit))))))) (((List.nil), ((0 : Int), Unit.unit)), Unit.unit)) (sumE (fun x0 => (Option.some ((x0.1.2.1, (x0.1.2.2.1, (x0.1.2.2.2.1, (x0.1.2.2.2.2.1, Unit.unit)))), (x0.1.1, Unit.unit)))) (sumE (fun x0 => (cond (Decidable.decide (Eq (Tree.val x.1).1 (6 : Int))) (cond (inB (0 : Int) (List.length x0.1.1)) (Option.bind (GetElem?.getElem? x0.1.1 0) (fun x1 => (cond (inB (1 : Int) (List.length x0.1.1)) (Option.bind (GetElem?.getElem? x0.1.1 1) (fun x2 => (Option.bind (r45 ((x1.1, (x1.2.1, (x1.2.2.1, (x1.2.2.2.1, Unit.unit)))), ((x2.1, (x2.2.1, (x2.2.2.1, (x2.2.2.2.1, Unit.unit)))), Unit.unit))) (fun x3 => (Option.bind (r44 ((Decidable.decide (Eq (Decidable.decide (Eq x3.1 (0 : Int))) (Decidable.decide (Eq (Tree.val x.1).1 (6 : Int))))), Unit.unit)) (fun x4 => (Option.some ((x4.1.1, (x4.1.2.1, (x4.1.2.2.1, (x4.1.2.2.2.1, Unit.unit)))), (x4.2.1, Unit.unit))))))))) (Option.none)))) (Option.none)) (cond (Decidable.decide (Eq (Tree.val x.1).1 (7 : Int))) (cond (inB (0 : Int) (List.length x0.1.1)) (Option.bind (GetElem?.getElem? x0.1.1 0) (fun x1 => (cond (inB (1 : Int) (List.length x0.1.1)) (Option.bind (GetElem?.getElem? x0.1.1 1) (fun x2 => (Option.bind (r45 ((x1.1, (x1.2.1, (x1.2.2.1, (x1.2.2.2.1, Unit.unit)))), ((x2.1, (x2.2.1, (x2.2.2.1, (x2.2.2.2.1, Unit.unit)))), Unit.unit))) (fun x3 => (Option.bind (r44 ((Decidable.decide (Eq (Decidable.decide (Eq x3.1 (0 : Int))) (Decidable.decide (Eq (Tree.val x.1).1 (6 : Int))))), Unit.unit)) (fun x4 => (Option.some ((x4.1.1, (x4.1.2.1, (x4.1.2.2.1, (x4.1.2.2.2.1, Unit.unit)))), (x4.2.1, Unit.unit))))))))) (Option.none)))) (Option.none)) (cond (Decidable.decide (LE.le (Tree.val x.1).1 (11 : Int))) (cond (inB (0 : Int) (List.length x0.1.1)) (Option.bind (GetElem?.getElem? x0.1.1 0) (fun x1 => (cond (inB (1 : Int) (List.length x0.1.1)) (Option.bind (GetElem?.getElem? x0.1.1 1) (fun x2 => (cond (Bool.not (Decidable.decide (Eq x1.1 x2.1))) (Option.some (((0 : Int), ((0 : Int), ((ByteArray.mk (List.toArray (List.nil))), (Bool.false, Unit.unit)))), ((8 : Int), Unit.unit))) (cond (inB (0 : Int) (List.length x0.1.1)) (Option.bind (GetElem?.getElem? x0.1.1 0) (fun x3 => (cond (Decidable.decide (LT.lt x3.1 (1 : Int))) (Option.some (((0 : Int), ((0 : Int), ((ByteArray.mk (List.toArray (List.nil))), (Bool.false, Unit.unit)))), ((8 : Int), Unit.unit))) (cond (inB (0 : Int) (List.length x0.1.1)) (Option.bind (GetElem?.getElem? x0.1.1 0) (fun x4 => (cond (Decidable.decide (LT.lt (2 : Int) x4.1)) (Option.some (((0 : Int), ((0 : Int), ((ByteArray.mk (List.toArray (List.nil))), (Bool.false, Unit.unit)))), ((8 : Int), Unit.unit))) (cond (inB (0 : Int) (List.length x0.1.1)) (Option.bind (GetElem?.getElem? x0.1.1 0) (fun x5 => (cond (inB (1 : Int) (List.length x0.1.1)) (Option.bind (GetElem?.getElem? x0.1.1 1) (fun x6 => (Option.bind (r45 ((x5.1, (x5.2.1, (x5.2.2.1, (x5.2.2.2.1, Unit.unit)))), ((x6.1, (x6.2.1, (x6.2.2.1, (x6.2.2.2.1, Unit.unit)))), Unit.unit))) (fun x7 => (cond (Decidable.decide (Eq x7.1 (0 : Int))) (cond (Decidable.decide (Eq (Int.tmod (Tree.val x.1).1 (2 : Int)) (1 : Int))) (Option.bind (r44 (Bool.true, Unit.unit)) (fun x8 => (Option.some ((x8.1.1, (x8.1.2.1, (x8.1.2.2.1, (x8.1.2.2.2.1, Unit.unit)))), (x8.2.1, Unit.unit))))) (cond (Decidable.decide (LT.lt x7.1 (0 : Int))) (cond (Decidable.decide (LE.le (Tree.val x.1).1 (9 : Int))) (Option.bind (r44 (Bool.true, Unit.unit)) (fun x8 => (Option.some ((x8.1.1, (x8.1.2.1, (x8.1.2.2.1, (x8.1.2.2.2.1, Unit.unit)))), (x8.2.1, Unit.unit))))) (cond (Decidable.decide (LT.lt (0 : Int) x7.1)) (Option.bind (r44 ((Decidable.decide (LE.le (10 : Int) (Tree.val x.1).1)), Unit.unit)) (fun x8 => (Option.some ((x8.1.1, (x8.1.2.1, (x8.1.2.2.1, (x8.1.2.2.2.1, Unit.unit)))), (x8.2.1, Unit.unit))))) (Option.bind (r44 (Bool.false, Unit.unit)) (fun x8 => (Option.some ((x8.1.1, (x8.1.2.1, (x8.1.2.2.1, (x8.1.2.2.2.1, Unit.unit)))), (x8.2.1, Unit.unit))))))) (cond (Decidable.decide (LT.lt (0 : Int) x7.1)) (Option.bind (r44 ((Decidable.decide (LE.le (10 : Int) (Tree.val x.1).1)), Unit.unit)) (fun x8 => (Option.some ((x8.1.1, (x8.1.2.1, (x8.1.2.2.1, (x8.1.2.2.2.1, Unit.unit)))), (x8.2.1, Unit.unit))))) (Option.bind (r44 (Bool.false, Unit.unit)) (fun x8 => (Option.some ((x8.1.1, (x8.1.2.1, (x8.1.2.2.1, (x8.1.2.2.2.1, Unit.unit)))), (x8.2.1, Unit.unit)))))))) (cond (Decidable.decide (LT.lt x7.1 (0 : Int))) (cond (Decidable.decide (LE.le (Tree.val x.1).1 (9 : Int))) (Option.bind (r44 (Bool.true, Unit.unit)) (fun x8 => (Option.some ((x8.1.1, (x8.1.2.1, (x8.1.2.2.1, (x8.1.2.2.2.1, Unit.unit)))), (x8.2.1, Unit.unit))))) (cond (Decidable.decide (LT.lt (0 : Int) x7.1)) (Option.bind (r44 ((Decidable.decide (LE.le (10 : Int) (Tree.val x.1).1)), Unit.unit)) (fun x8 => (Option.some ((x8.1.1, (x8.1.2.1, (x8.1.2.2.1, (x8.1.2.2.2.1, Unit.unit)))), (x8.2.1, Unit.unit))))) (Option.bind (r44 (Bool.false, Unit.unit)) (fun x8 => (Option.some ((x8.1.1, (x8.1.2.1, (x8.1.2.2.1, (x8.1.2.2.2.1, Unit.unit)))), (x8.2.1, Unit.unit))))))) (cond (Decidable.decide (LT.lt (0 : Int) x7.1)) (Option.bind (r44 ((Decidable.decide (LE.le (10 : Int) (Tree.val x.1).1)), Unit.unit)) (fun x8 => (Option.some ((x8.1.1, (x8.1.2.1, (x8.1.2.2.1, (x8.1.2.2.2.1, Unit.unit)))), (x8.2.1, Unit.unit))))) (Option.bind (r44 (Bool.false, Unit.unit)) (fun x8 => (Option.some ((x8.1.1, (x8.1.2.1, (x8.1.2.2.1, (x8.1.2.2.2.1, Unit.unit)))), (x8.2.1, Unit.unit)))))))))))) (Option.none)))) (Option.none))))) (Option.none))))) (Option.none))))) (Option.none)))) (Option.none)) (cond (Decidable.decide (Eq (Tree.val x.1).1 (19 : Int))) (cond (inB (0 : Int) (List.length x0.1.1)) (Option.bind (GetElem?.getElem? x0.1.1 0) (fun x1 => (cond (Bool.not (Decidable.decide (Eq x1.1 (2 : Int)))) (Option.some (((0 : Int), ((0 : Int), ((ByteArray.mk (List.toArray (List.nil))), (Bool.false, Unit.unit)))), ((8 : Int), Unit.unit))) (cond (inB (0 : Int) (List.length x0.1.1)) (Option.bind (GetElem?.getElem? x0.1.1 0) (fun x2 => (Option.some (((1 : Int), ((Nat.cast (ByteArray.size x2.2.2.1) : Int), ((ByteArray.mk (List.toArray (List.nil))), (Bool.false, Unit.unit)))), ((0 : Int), Unit.unit))))) (Option.none))))) (Option.none)) (Option.bind (loop (D := (Prod (Kd.T (.pair (.int .i64) .unit)) (Kd.T .unit))) (O := (Sum (Kd.T (.pair (.pair (.int .i64) (.pair (.int .i64) (.pair (.int .i64) (.pair .str (.pair .bool .unit))))) .unit)) (OutT (List.cons ((Ex3.exit 4), (Sh.mk (List.nil) (List.nil) (List.nil))) (List.nil))))) (fun x1 => (cond (Decidable.decide (LT.lt x1.1.1 (Nat.cast (List.length x0.1.1) : Int))) (cond (inB x1.1.1 (List.length x0.1.1)) (Option.bind (GetElem?.getElem? x0.1.1 (Int.toNat x1.1.1)) (fun x2 => (cond (Bool.not (Decidable.decide (Eq x2.1 (1 : Int)))) (Option.some (Sum.inr (Sum.inl (((8 : Int), ((0 : Int), ((0 : Int), ((ByteArray.mk (List.toArray (List.nil))), (Bool.false, Unit.unit))))), Unit.unit)))) (Option.some (Sum.inl (((IntKind.wrap IntKind.i64 (HAdd.hAdd x1.1.1 (1 : Int))), Unit.unit), Unit.unit)))))) (Option.none)) (Option.some (Sum.inr (Sum.inr (Sum.inl (Unit.unit, Unit.unit))))))) (((0 : Int), Unit.unit), Unit.unit)) (sumE (fun x1 => (Option.some ((x1.1.2.1, (x1.1.2.2.1, (x1.1.2.2.2.1, (x1.1.2.2.2.2.1, Unit.unit)))), (x1.1.1, Unit.unit)))) (sumE (fun x1 => (cond (Decidable.decide (Eq (Tree.val x.1).1 (17 : Int))) (cond (inB (0 : Int) (List.length x0.1.1)) (Option.bind (GetElem?.getElem? x0.1.1 0) (fun x2 => (Option.some (((1 : Int), ((IntKind.wrap IntKind.i64 (HSub.hSub (0 : Int) x2.2.1)), ((ByteArray.mk (List.toArray (List.nil))), (Bool.false, Unit.unit)))), ((0 : Int), Unit.unit))))) (Option.none)) (cond (inB (0 : Int) (List.length x0.1.1)) (Option.bind (GetElem?.getElem? x0.1.1 0) (fun x2 => (cond (inB (1 : Int) (List.length x0.1.1)) (Option.bind (GetElem?.getElem? x0.1.1 1) (fun x3 => (Option.bind (r46 ((Tree.val x.1).1, (x2.2.1, (x3.2.1, Unit.unit)))) (fun x4 => (Option.some ((x4.1.1, (x4.1.2.1, (x4.1.2.2.1, (x4.1.2.2.2.1, Unit.unit)))), (x4.2.1, Unit.unit))))))) (Option.none)))) (Option.none)))) (emptyE))))))))) (emptyE)))))))))))
noncomputable def r43K (n : Nat) : ((x : (kdP [(.tree (.pair (.int .i64) (.pair (.pair (.int .i64) (.pair (.int .i64) (.pair .str (.pair .bool .unit)))) (.pair .str .unit)))), (.pair (.int .i64) (.pair (.int .i64) (.pair (.slice (.slice (.pair (.int .i64) (.pair (.int .i64) .unit)))) (.pair (.slice (.pair .str (.pair (.pair (.int .i64) (.pair (.int .i64) (.pair .str (.pair .bool .unit)))) .unit))) (.pair (.int .i64) (.pair (.int .i64) .unit))))))]).T) → Option (kdP [(.pair (.int .i64) (.pair (.int .i64) (.pair .str (.pair .bool .unit)))), (.int .i64)]).T) × ((x : (kdP [(.tree (.pair (.int .i64) (.pair (.pair (.int .i64) (.pair (.int .i64) (.pair .str (.pair .bool .unit)))) (.pair .str .unit)))), (.pair (.int .i64) (.pair (.int .i64) (.pair (.slice (.slice (.pair (.int .i64) (.pair (.int .i64) .unit)))) (.pair (.slice (.pair .str (.pair (.pair (.int .i64) (.pair (.int .i64) (.pair .str (.pair .bool .unit)))) .unit))) (.pair (.int .i64) (.pair (.int .i64) .unit))))))]).T) → Option (kdP [(.pair (.int .i64) (.pair (.int .i64) (.pair .str (.pair .bool .unit)))), (.int .i64)]).T) × Unit :=
  Nat.rec (motive := fun _ => ((x : (kdP [(.tree (.pair (.int .i64) (.pair (.pair (.int .i64) (.pair (.int .i64) (.pair .str (.pair .bool .unit)))) (.pair .str .unit)))), (.pair (.int .i64) (.pair (.int .i64) (.pair (.slice (.slice (.pair (.int .i64) (.pair (.int .i64) .unit)))) (.pair (.slice (.pair .str (.pair (.pair (.int .i64) (.pair (.int .i64) (.pair .str (.pair .bool .unit)))) .unit))) (.pair (.int .i64) (.pair (.int .i64) .unit))))))]).T) → Option (kdP [(.pair (.int .i64) (.pair (.int .i64) (.pair .str (.pair .bool .unit)))), (.int .i64)]).T) × ((x : (kdP [(.tree (.pair (.int .i64) (.pair (.pair (.int .i64) (.pair (.int .i64) (.pair .str (.pair .bool .unit)))) (.pair .str .unit)))), (.pair (.int .i64) (.pair (.int .i64) (.pair (.slice (.slice (.pair (.int .i64) (.pair (.int .i64) .unit)))) (.pair (.slice (.pair .str (.pair (.pair (.int .i64) (.pair (.int .i64) (.pair .str (.pair .bool .unit)))) .unit))) (.pair (.int .i64) (.pair (.int .i64) .unit))))))]).T) → Option (kdP [(.pair (.int .i64) (.pair (.int .i64) (.pair .str (.pair .bool .unit)))), (.int .i64)]).T) × Unit) ((fun _ => none), ((fun _ => none), ())) (fun n ih => (r43B n (fun _ => ih.1) (fun _ => ih.2.1), (r14B n (fun _ => ih.1) (fun _ => ih.2.1), ()))) n
noncomputable def r43 (n : Nat) : ((x : (kdP [(.tree (.pair (.int .i64) (.pair (.pair (.int .i64) (.pair (.int .i64) (.pair .str (.pair .bool .unit)))) (.pair .str .unit)))), (.pair (.int .i64) (.pair (.int .i64) (.pair (.slice (.slice (.pair (.int .i64) (.pair (.int .i64) .unit)))) (.pair (.slice (.pair .str (.pair (.pair (.int .i64) (.pair (.int .i64) (.pair .str (.pair .bool .unit)))) .unit))) (.pair (.int .i64) (.pair (.int .i64) .unit))))))]).T) → Option (kdP [(.pair (.int .i64) (.pair (.int .i64) (.pair .str (.pair .bool .unit)))), (.int .i64)]).T) := (r43K n).1
noncomputable def r14 (n : Nat) : ((x : (kdP [(.tree (.pair (.int .i64) (.pair (.pair (.int .i64) (.pair (.int .i64) (.pair .str (.pair .bool .unit)))) (.pair .str .unit)))), (.pair (.int .i64) (.pair (.int .i64) (.pair (.slice (.slice (.pair (.int .i64) (.pair (.int .i64) .unit)))) (.pair (.slice (.pair .str (.pair (.pair (.int .i64) (.pair (.int .i64) (.pair .str (.pair .bool .unit)))) .unit))) (.pair (.int .i64) (.pair (.int .i64) .unit))))))]).T) → Option (kdP [(.pair (.int .i64) (.pair (.int .i64) (.pair .str (.pair .bool .unit)))), (.int .i64)]).T) := (r43K n).2.1
theorem r43_succ (n : Nat) : r43 (n + 1) = r43B n r43 r14 := rfl
theorem r14_succ (n : Nat) : r14 (n + 1) = r14B n r43 r14 := rfl
theorem r43K_ok (n : Nat) : PureOk Go.Proofs.Tryz.prog nF gF 43 [(.tree (.pair (.int .i64) (.pair (.pair (.int .i64) (.pair (.int .i64) (.pair .str (.pair .bool .unit)))) (.pair .str .unit)))), (.pair (.int .i64) (.pair (.int .i64) (.pair (.slice (.slice (.pair (.int .i64) (.pair (.int .i64) .unit)))) (.pair (.slice (.pair .str (.pair (.pair (.int .i64) (.pair (.int .i64) (.pair .str (.pair .bool .unit)))) .unit))) (.pair (.int .i64) (.pair (.int .i64) .unit))))))] [(.pair (.int .i64) (.pair (.int .i64) (.pair .str (.pair .bool .unit)))), (.int .i64)] (r43 n) ∧ PureOk Go.Proofs.Tryz.prog nF gF 14 [(.tree (.pair (.int .i64) (.pair (.pair (.int .i64) (.pair (.int .i64) (.pair .str (.pair .bool .unit)))) (.pair .str .unit)))), (.pair (.int .i64) (.pair (.int .i64) (.pair (.slice (.slice (.pair (.int .i64) (.pair (.int .i64) .unit)))) (.pair (.slice (.pair .str (.pair (.pair (.int .i64) (.pair (.int .i64) (.pair .str (.pair .bool .unit)))) .unit))) (.pair (.int .i64) (.pair (.int .i64) .unit))))))] [(.pair (.int .i64) (.pair (.int .i64) (.pair .str (.pair .bool .unit)))), (.int .i64)] (r14 n) ∧ True := by
  induction n with
  | zero => exact ⟨pureOk_none (by kernel_rfl), pureOk_none (by kernel_rfl), trivial⟩
  | succ n ih => exact ⟨(show PureOk Go.Proofs.Tryz.prog nF gF 43 [(.tree (.pair (.int .i64) (.pair (.pair (.int .i64) (.pair (.int .i64) (.pair .str (.pair .bool .unit)))) (.pair .str .unit)))), (.pair (.int .i64) (.pair (.int .i64) (.pair (.slice (.slice (.pair (.int .i64) (.pair (.int .i64) .unit)))) (.pair (.slice (.pair .str (.pair (.pair (.int .i64) (.pair (.int .i64) (.pair .str (.pair .bool .unit)))) .unit))) (.pair (.int .i64) (.pair (.int .i64) .unit))))))] [(.pair (.int .i64) (.pair (.int .i64) (.pair .str (.pair .bool .unit)))), (.int .i64)] (r43B n r43 r14) from pureOk_of_run (F := specOf [(14, pureSpec [(.tree (.pair (.int .i64) (.pair (.pair (.int .i64) (.pair (.int .i64) (.pair .str (.pair .bool .unit)))) (.pair .str .unit)))), (.pair (.int .i64) (.pair (.int .i64) (.pair (.slice (.slice (.pair (.int .i64) (.pair (.int .i64) .unit)))) (.pair (.slice (.pair .str (.pair (.pair (.int .i64) (.pair (.int .i64) (.pair .str (.pair .bool .unit)))) .unit))) (.pair (.int .i64) (.pair (.int .i64) .unit))))))] [(.pair (.int .i64) (.pair (.int .i64) (.pair .str (.pair .bool .unit)))), (.int .i64)] (r14 n))]) (hs := hintOf []) stays_F (specOf_cons (PureOk.spec ih.2.1) specOf_nil) mixed Go.Proofs.Tryz.func43 rfl (by kernel_rfl) (fun _ => by kernel_rfl)), (show PureOk Go.Proofs.Tryz.prog nF gF 14 [(.tree (.pair (.int .i64) (.pair (.pair (.int .i64) (.pair (.int .i64) (.pair .str (.pair .bool .unit)))) (.pair .str .unit)))), (.pair (.int .i64) (.pair (.int .i64) (.pair (.slice (.slice (.pair (.int .i64) (.pair (.int .i64) .unit)))) (.pair (.slice (.pair .str (.pair (.pair (.int .i64) (.pair (.int .i64) (.pair .str (.pair .bool .unit)))) .unit))) (.pair (.int .i64) (.pair (.int .i64) .unit))))))] [(.pair (.int .i64) (.pair (.int .i64) (.pair .str (.pair .bool .unit)))), (.int .i64)] (r14B n r43 r14) from pureOk_of_run (F := specOf [(41, pureSpec [(.pair (.int .i64) (.pair (.int .i64) (.pair (.slice (.slice (.pair (.int .i64) (.pair (.int .i64) .unit)))) (.pair (.slice (.pair .str (.pair (.pair (.int .i64) (.pair (.int .i64) (.pair .str (.pair .bool .unit)))) .unit))) (.pair (.int .i64) (.pair (.int .i64) .unit)))))), .str] [(.pair (.int .i64) (.pair (.int .i64) (.pair .str (.pair .bool .unit))))] r41), (42, pureSpec [.str, (.pair (.int .i64) (.pair (.int .i64) (.pair (.slice (.slice (.pair (.int .i64) (.pair (.int .i64) .unit)))) (.pair (.slice (.pair .str (.pair (.pair (.int .i64) (.pair (.int .i64) (.pair .str (.pair .bool .unit)))) .unit))) (.pair (.int .i64) (.pair (.int .i64) .unit))))))] [(.pair (.int .i64) (.pair (.int .i64) (.pair .str (.pair .bool .unit))))] r42), (43, pureSpec [(.tree (.pair (.int .i64) (.pair (.pair (.int .i64) (.pair (.int .i64) (.pair .str (.pair .bool .unit)))) (.pair .str .unit)))), (.pair (.int .i64) (.pair (.int .i64) (.pair (.slice (.slice (.pair (.int .i64) (.pair (.int .i64) .unit)))) (.pair (.slice (.pair .str (.pair (.pair (.int .i64) (.pair (.int .i64) (.pair .str (.pair .bool .unit)))) .unit))) (.pair (.int .i64) (.pair (.int .i64) .unit))))))] [(.pair (.int .i64) (.pair (.int .i64) (.pair .str (.pair .bool .unit)))), (.int .i64)] (r43 n)), (14, pureSpec [(.tree (.pair (.int .i64) (.pair (.pair (.int .i64) (.pair (.int .i64) (.pair .str (.pair .bool .unit)))) (.pair .str .unit)))), (.pair (.int .i64) (.pair (.int .i64) (.pair (.slice (.slice (.pair (.int .i64) (.pair (.int .i64) .unit)))) (.pair (.slice (.pair .str (.pair (.pair (.int .i64) (.pair (.int .i64) (.pair .str (.pair .bool .unit)))) .unit))) (.pair (.int .i64) (.pair (.int .i64) .unit))))))] [(.pair (.int .i64) (.pair (.int .i64) (.pair .str (.pair .bool .unit)))), (.int .i64)] (r14 n)), (45, pureSpec [(.pair (.int .i64) (.pair (.int .i64) (.pair .str (.pair .bool .unit)))), (.pair (.int .i64) (.pair (.int .i64) (.pair .str (.pair .bool .unit))))] [(.int .i64)] r45), (44, pureSpec [.bool] [(.pair (.int .i64) (.pair (.int .i64) (.pair .str (.pair .bool .unit)))), (.int .i64)] r44), (46, pureSpec [(.int .i64), (.int .i64), (.int .i64)] [(.pair (.int .i64) (.pair (.int .i64) (.pair .str (.pair .bool .unit)))), (.int .i64)] r46)]) (hs := hintOf [(4, ⟨⟨[(173, .lf (.int .i64))], [], []⟩, [(.ret, ⟨[(5, .lf (.int .i64))], [(128, [.lf (.int .i64), .lf (.int .i64), .lf .str, .lf .bool])], []⟩), ((.exit 4), ⟨[], [], []⟩)]⟩), (1, ⟨⟨[(6, .own (.pair (.int .i64) (.pair (.int .i64) (.pair .str (.pair .bool .unit))))), (46, .lf (.int .i64))], [], []⟩, [(.ret, ⟨[(5, .lf (.int .i64))], [(128, [.lf (.int .i64), .lf (.int .i64), .lf .str, .lf .bool])], []⟩), ((.exit 1), ⟨[(6, .own (.pair (.int .i64) (.pair (.int .i64) (.pair .str (.pair .bool .unit)))))], [], []⟩)]⟩)]) stays_F (specOf_cons (PureOk.spec r41_ok) (specOf_cons (PureOk.spec r42_ok) (specOf_cons (PureOk.spec ih.1) (specOf_cons (PureOk.spec ih.2.1) (specOf_cons (PureOk.spec r45_ok) (specOf_cons (PureOk.spec r44_ok) (specOf_cons (PureOk.spec r46_ok) specOf_nil))))))) mixed Go.Proofs.Tryz.func14 rfl (by kernel_rfl) (fun _ => by kernel_rfl)), trivial⟩
theorem r14_ok (n : Nat) : PureOk Go.Proofs.Tryz.prog nF gF 14 [(.tree (.pair (.int .i64) (.pair (.pair (.int .i64) (.pair (.int .i64) (.pair .str (.pair .bool .unit)))) (.pair .str .unit)))), (.pair (.int .i64) (.pair (.int .i64) (.pair (.slice (.slice (.pair (.int .i64) (.pair (.int .i64) .unit)))) (.pair (.slice (.pair .str (.pair (.pair (.int .i64) (.pair (.int .i64) (.pair .str (.pair .bool .unit)))) .unit))) (.pair (.int .i64) (.pair (.int .i64) .unit))))))] [(.pair (.int .i64) (.pair (.int .i64) (.pair .str (.pair .bool .unit)))), (.int .i64)] (r14 n) := (r43K_ok n).2.1

/-- terrier/terrref2.True -/
noncomputable def r11 (n : Nat) (x : (kdP [(.tree (.pair (.int .i64) (.pair (.pair (.int .i64) (.pair (.int .i64) (.pair .str (.pair .bool .unit)))) (.pair .str .unit)))), (.pair (.int .i64) (.pair (.int .i64) (.pair (.slice (.slice (.pair (.int .i64) (.pair (.int .i64) .unit)))) (.pair (.slice (.pair .str (.pair (.pair (.int .i64) (.pair (.int .i64) (.pair .str (.pair .bool .unit)))) .unit))) (.pair (.int .i64) (.pair (.int .i64) .unit))))))]).T) : Option (kdP [.bool]).T :=
  (Option.bind (r12 n ((Tree.node ((Tree.val x.1).1, (((Tree.val x.1).2.1.1, ((Tree.val x.1).2.1.2.1, ((Tree.val x.1).2.1.2.2.1, ((Tree.val x.1).2.1.2.2.2.1, Unit.unit)))), ((Tree.val x.1).2.2.1, Unit.unit))) (Tree.kids x.1)), Unit.unit)) (fun x0 => (cond (Bool.not (Decidable.decide (Eq x0.1 (0 : Int)))) (Option.some (Bool.false, Unit.unit)) (Option.bind (r13 ((x.2.1.1, (x.2.1.2.1, (x.2.1.2.2.1, (x.2.1.2.2.2.1, (x.2.1.2.2.2.2.1, (x.2.1.2.2.2.2.2.1, Unit.unit)))))), Unit.unit)) (fun x1 => (cond (Bool.not (Decidable.decide (Eq x1.1 (0 : Int)))) (Option.some (Bool.false, Unit.unit)) (Option.bind (r14 n ((Tree.node ((Tree.val x.1).1, (((Tree.val x.1).2.1.1, ((Tree.val x.1).2.1.2.1, ((Tree.val x.1).2.1.2.2.1, ((Tree.val x.1).2.1.2.2.2.1, Unit.unit)))), ((Tree.val x.1).2.2.1, Unit.unit))) (Tree.kids x.1)), ((x.2.1.1, (x.2.1.2.1, (x.2.1.2.2.1, (x.2.1.2.2.2.1, (x.2.1.2.2.2.2.1, (x.2.1.2.2.2.2.2.1, Unit.unit)))))), Unit.unit))) (fun x2 => (cond (Decidable.decide (Eq x2.2.1 (0 : Int))) (Option.some ((Bool.and (Decidable.decide (Eq x2.1.1 (3 : Int))) (Bool.and (Decidable.decide (Eq x2.1.2.1 (0 : Int))) (Bool.and (Decidable.decide (Eq x2.1.2.2.1 (ByteArray.mk (List.toArray (List.nil))))) (Decidable.decide (Eq x2.1.2.2.2.1 Bool.true))))), Unit.unit)) (Option.some (Bool.false, Unit.unit)))))))))))
theorem r11_ok (n : Nat) : PureOk Go.Proofs.Tryz.prog nF gF 11 [(.tree (.pair (.int .i64) (.pair (.pair (.int .i64) (.pair (.int .i64) (.pair .str (.pair .bool .unit)))) (.pair .str .unit)))), (.pair (.int .i64) (.pair (.int .i64) (.pair (.slice (.slice (.pair (.int .i64) (.pair (.int .i64) .unit)))) (.pair (.slice (.pair .str (.pair (.pair (.int .i64) (.pair (.int .i64) (.pair .str (.pair .bool .unit)))) .unit))) (.pair (.int .i64) (.pair (.int .i64) .unit))))))] [.bool] (r11 n) :=
  pureOk_of_run (F := specOf [(12, pureSpec [(.tree (.pair (.int .i64) (.pair (.pair (.int .i64) (.pair (.int .i64) (.pair .str (.pair .bool .unit)))) (.pair .str .unit))))] [(.int .i64)] (r12 n)), (13, pureSpec [(.pair (.int .i64) (.pair (.int .i64) (.pair (.slice (.slice (.pair (.int .i64) (.pair (.int .i64) .unit)))) (.pair (.slice (.pair .str (.pair (.pair (.int .i64) (.pair (.int .i64) (.pair .str (.pair .bool .unit)))) .unit))) (.pair (.int .i64) (.pair (.int .i64) .unit))))))] [(.int .i64)] r13), (14, pureSpec [(.tree (.pair (.int .i64) (.pair (.pair (.int .i64) (.pair (.int .i64) (.pair .str (.pair .bool .unit)))) (.pair .str .unit)))), (.pair (.int .i64) (.pair (.int .i64) (.pair (.slice (.slice (.pair (.int .i64) (.pair (.int .i64) .unit)))) (.pair (.slice (.pair .str (.pair (.pair (.int .i64) (.pair (.int .i64) (.pair .str (.pair .bool .unit)))) .unit))) (.pair (.int .i64) (.pair (.int .i64) .unit))))))] [(.pair (.int .i64) (.pair (.int .i64) (.pair .str (.pair .bool .unit)))), (.int .i64)] (r14 n))]) (hs := hintOf []) stays_F (specOf_cons (PureOk.spec (r12_ok n)) (specOf_cons (PureOk.spec r13_ok) (specOf_cons (PureOk.spec (r14_ok n)) specOf_nil))) mixed Go.Proofs.Tryz.func11 rfl (by kernel_rfl) (fun _ => by kernel_rfl)

/-- terrier/terrlaw2.EvalTells -/
noncomputable def r3 (n : Nat) (x : (kdP [(.tree (.pair (.int .i64) (.pair (.pair (.int .i64) (.pair (.int .i64) (.pair .str (.pair .bool .unit)))) (.pair .str .unit)))), (.pair (.int .i64) (.pair (.int .i64) (.pair (.slice (.slice (.pair (.int .i64) (.pair (.int .i64) .unit)))) (.pair (.slice (.pair .str (.pair (.pair (.int .i64) (.pair (.int .i64) (.pair .str (.pair .bool .unit)))) .unit))) (.pair (.int .i64) (.pair (.int .i64) .unit))))))]).T) : Option (kdP [.bool]).T :=
  (Option.bind (r9 Unit.unit) (fun x0 => (cond (inB (0 : Int) (List.length x0.1)) (Option.bind (GetElem?.getElem? x0.1 0) (fun x1 => (Option.bind (r8 n ((Tree.node ((0 : Int), (((1 : Int), ((2 : Int), ((ByteArray.mk (List.toArray (List.nil))), (Bool.false, Unit.unit)))), ((ByteArray.mk (List.toArray (List.nil))), Unit.unit))) (List.nil)), ((x1.1, (x1.2.1, (x1.2.2.1, (x1.2.2.2.1, (x1.2.2.2.2.1, (x1.2.2.2.2.2.1, Unit.unit)))))), Unit.unit))) (fun x2 => (cond (Bool.not (Decidable.decide (Eq x2.2.1 (0 : Int)))) (Option.some (Bool.false, Unit.unit)) (cond (Bool.not (Bool.and (Decidable.decide (Eq x2.1.1 (1 : Int))) (Bool.and (Decidable.decide (Eq x2.1.2.1 (2 : Int))) (Bool.and (Decidable.decide (Eq x2.1.2.2.1 (ByteArray.mk (List.toArray (List.nil))))) (Decidable.decide (Eq x2.1.2.2.2.1 Bool.false)))))) (Option.some (Bool.false, Unit.unit)) (Option.bind (r8 n ((Tree.node ((Tree.val x.1).1, (((Tree.val x.1).2.1.1, ((Tree.val x.1).2.1.2.1, ((Tree.val x.1).2.1.2.2.1, ((Tree.val x.1).2.1.2.2.2.1, Unit.unit)))), ((Tree.val x.1).2.2.1, Unit.unit))) (Tree.kids x.1)), ((x.2.1.1, (x.2.1.2.1, (x.2.1.2.2.1, (x.2.1.2.2.2.1, (x.2.1.2.2.2.2.1, (x.2.1.2.2.2.2.2.1, Unit.unit)))))), Unit.unit))) (fun x3 => (Option.bind (r10 n ((Tree.node ((Tree.val x.1).1, (((Tree.val x.1).2.1.1, ((Tree.val x.1).2.1.2.1, ((Tree.val x.1).2.1.2.2.1, ((Tree.val x.1).2.1.2.2.2.1, Unit.unit)))), ((Tree.val x.1).2.2.1, Unit.unit))) (Tree.kids x.1)), ((x.2.1.1, (x.2.1.2.1, (x.2.1.2.2.1, (x.2.1.2.2.2.1, (x.2.1.2.2.2.2.1, (x.2.1.2.2.2.2.2.1, Unit.unit)))))), Unit.unit))) (fun x4 => (Option.bind (r11 n ((Tree.node ((Tree.val x.1).1, (((Tree.val x.1).2.1.1, ((Tree.val x.1).2.1.2.1, ((Tree.val x.1).2.1.2.2.1, ((Tree.val x.1).2.1.2.2.2.1, Unit.unit)))), ((Tree.val x.1).2.2.1, Unit.unit))) (Tree.kids x.1)), ((x.2.1.1, (x.2.1.2.1, (x.2.1.2.2.1, (x.2.1.2.2.2.1, (x.2.1.2.2.2.2.1, (x.2.1.2.2.2.2.2.1, Unit.unit)))))), Unit.unit))) (fun x5 => (cond (Bool.not (Decidable.decide (Eq x4.1 x5.1))) (Option.some (Bool.false, Unit.unit)) (Option.bind (r12 n ((Tree.node ((Tree.val x.1).1, (((Tree.val x.1).2.1.1, ((Tree.val x.1).2.1.2.1, ((Tree.val x.1).2.1.2.2.1, ((Tree.val x.1).2.1.2.2.2.1, Unit.unit)))), ((Tree.val x.1).2.2.1, Unit.unit))) (Tree.kids x.1)), Unit.unit)) (fun x6 => (cond (Decidable.decide (Eq x6.1 (0 : Int))) (Option.bind (r13 ((x.2.1.1, (x.2.1.2.1, (x.2.1.2.2.1, (x.2.1.2.2.2.1, (x.2.1.2.2.2.2.1, (x.2.1.2.2.2.2.2.1, Unit.unit)))))), Unit.unit)) (fun x7 => (cond (Decidable.decide (Eq x7.1 (0 : Int))) (Option.bind (r14 n ((Tree.node ((Tree.val x.1).1, (((Tree.val x.1).2.1.1, ((Tree.val x.1).2.1.2.1, ((Tree.val x.1).2.1.2.2.1, ((Tree.val x.1).2.1.2.2.2.1, Unit.unit)))), ((Tree.val x.1).2.2.1, Unit.unit))) (Tree.kids x.1)), ((x.2.1.1, (x.2.1.2.1, (x.2.1.2.2.1, (x.2.1.2.2.2.1, (x.2.1.2.2.2.2.1, (x.2.1.2.2.2.2.2.1, Unit.unit)))))), Unit.unit))) (fun x8 => (cond (Bool.not (Decidable.decide (Eq x8.2.1 (0 : Int)))) (cond (Decidable.decide (Eq x3.2.1 x8.2.1)) (Option.some ((Bool.and (Decidable.decide (Eq x3.1.1 (0 : Int))) (Bool.and (Decidable.decide (Eq x3.1.2.1 (0 : Int))) (Bool.and (Decidable.decide (Eq x3.1.2.2.1 (ByteArray.mk (List.toArray (List.nil))))) (Decidable.decide (Eq x3.1.2.2.2.1 Bool.false))))), Unit.unit)) (Option.some (Bool.false, Unit.unit))) (cond (Decidable.decide (Eq x3.2.1 (0 : Int))) (Option.some ((Bool.and (Decidable.decide (Eq x3.1.1 x8.1.1)) (Bool.and (Decidable.decide (Eq x3.1.2.1 x8.1.2.1)) (Bool.and (Decidable.decide (Eq x3.1.2.2.1 x8.1.2.2.1)) (Decidable.decide (Eq x3.1.2.2.2.1 x8.1.2.2.2.1))))), Unit.unit)) (Option.some (Bool.false, Unit.unit)))))) (cond (Bool.not (Decidable.decide (Eq x7.1 (0 : Int)))) (cond (Decidable.decide (Eq x3.2.1 x7.1)) (Option.some ((Bool.and (Decidable.decide (Eq x3.1.1 (0 : Int))) (Bool.and (Decidable.decide (Eq x3.1.2.1 (0 : Int))) (Bool.and (Decidable.decide (Eq x3.1.2.2.1 (ByteArray.mk (List.toArray (List.nil))))) (Decidable.decide (Eq x3.1.2.2.2.1 Bool.false))))), Unit.unit)) (Option.some (Bool.false, Unit.unit))) (cond (Decidable.decide (Eq x3.2.1 (0 : Int))) (Option.some ((Bool.and (Decidable.decide (Eq x3.1.1 (0 : Int))) (Bool.and (Decidable.decide (Eq x3.1.2.1 (0 : Int))) (Bool.and (Decidable.decide (Eq x3.1.2.2.1 (ByteArray.mk (List.toArray (List.nil))))) (Decidable.decide (Eq x3.1.2.2.2.1 Bool.false))))), Unit.unit)) (Option.some (Bool.false, Unit.unit))))))) (cond (Decidable.decide (Eq x6.1 (0 : Int))) (Option.bind (r14 n ((Tree.node ((Tree.val x.1).1, (((Tree.val x.1).2.1.1, ((Tree.val x.1).2.1.2.1, ((Tree.val x.1).2.1.2.2.1, ((Tree.val x.1).2.1.2.2.2.1, Unit.unit)))), ((Tree.val x.1).2.2.1, Unit.unit))) (Tree.kids x.1)), ((x.2.1.1, (x.2.1.2.1, (x.2.1.2.2.1, (x.2.1.2.2.2.1, (x.2.1.2.2.2.2.1, (x.2.1.2.2.2.2.2.1, Unit.unit)))))), Unit.unit))) (fun x7 => (cond (Bool.not (Decidable.decide (Eq x7.2.1 (0 : Int)))) (cond (Decidable.decide (Eq x3.2.1 x7.2.1)) (Option.some ((Bool.and (Decidable.decide (Eq x3.1.1 (0 : Int))) (Bool.and (Decidable.decide (Eq x3.1.2.1 (0 : Int))) (Bool.and (Decidable.decide (Eq x3.1.2.2.1 (ByteArray.mk (List.toArray (List.nil))))) (Decidable.decide (Eq x3.1.2.2.2.1 Bool.false))))), Unit.unit)) (Option.some (Bool.false, Unit.unit))) (cond (Decidable.decide (Eq x3.2.1 (0 : Int))) (Option.some ((Bool.and (Decidable.decide (Eq x3.1.1 x7.1.1)) (Bool.and (Decidable.decide (Eq x3.1.2.1 x7.1.2.1)) (Bool.and (Decidable.decide (Eq x3.1.2.2.1 x7.1.2.2.1)) (Decidable.decide (Eq x3.1.2.2.2.1 x7.1.2.2.2.1))))), Unit.unit)) (Option.some (Bool.false, Unit.unit)))))) (cond (Bool.not (Decidable.decide (Eq x6.1 (0 : Int)))) (cond (Decidable.decide (Eq x3.2.1 x6.1)) (Option.some ((Bool.and (Decidable.decide (Eq x3.1.1 (0 : Int))) (Bool.and (Decidable.decide (Eq x3.1.2.1 (0 : Int))) (Bool.and (Decidable.decide (Eq x3.1.2.2.1 (ByteArray.mk (List.toArray (List.nil))))) (Decidable.decide (Eq x3.1.2.2.2.1 Bool.false))))), Unit.unit)) (Option.some (Bool.false, Unit.unit))) (cond (Decidable.decide (Eq x3.2.1 (0 : Int))) (Option.some ((Bool.and (Decidable.decide (Eq x3.1.1 (0 : Int))) (Bool.and (Decidable.decide (Eq x3.1.2.1 (0 : Int))) (Bool.and (Decidable.decide (Eq x3.1.2.2.1 (ByteArray.mk (List.toArray (List.nil))))) (Decidable.decide (Eq x3.1.2.2.2.1 Bool.false))))), Unit.unit)) (Option.some (Bool.false, Unit.unit))))))))))))))))))))) (Option.none))))
theorem r3_ok (n : Nat) : PureOk Go.Proofs.Tryz.prog nF gF 3 [(.tree (.pair (.int .i64) (.pair (.pair (.int .i64) (.pair (.int .i64) (.pair .str (.pair .bool .unit)))) (.pair .str .unit)))), (.pair (.int .i64) (.pair (.int .i64) (.pair (.slice (.slice (.pair (.int .i64) (.pair (.int .i64) .unit)))) (.pair (.slice (.pair .str (.pair (.pair (.int .i64) (.pair (.int .i64) (.pair .str (.pair .bool .unit)))) .unit))) (.pair (.int .i64) (.pair (.int .i64) .unit))))))] [.bool] (r3 n) :=
  pureOk_of_run (F := specOf [(9, pureSpec [] [(.slice (.pair (.int .i64) (.pair (.int .i64) (.pair (.slice (.slice (.pair (.int .i64) (.pair (.int .i64) .unit)))) (.pair (.slice (.pair .str (.pair (.pair (.int .i64) (.pair (.int .i64) (.pair .str (.pair .bool .unit)))) .unit))) (.pair (.int .i64) (.pair (.int .i64) .unit)))))))] r9), (8, pureSpec [(.tree (.pair (.int .i64) (.pair (.pair (.int .i64) (.pair (.int .i64) (.pair .str (.pair .bool .unit)))) (.pair .str .unit)))), (.pair (.int .i64) (.pair (.int .i64) (.pair (.slice (.slice (.pair (.int .i64) (.pair (.int .i64) .unit)))) (.pair (.slice (.pair .str (.pair (.pair (.int .i64) (.pair (.int .i64) (.pair .str (.pair .bool .unit)))) .unit))) (.pair (.int .i64) (.pair (.int .i64) .unit))))))] [(.pair (.int .i64) (.pair (.int .i64) (.pair .str (.pair .bool .unit)))), (.int .i64)] (r8 n)), (10, pureSpec [(.tree (.pair (.int .i64) (.pair (.pair (.int .i64) (.pair (.int .i64) (.pair .str (.pair .bool .unit)))) (.pair .str .unit)))), (.pair (.int .i64) (.pair (.int .i64) (.pair (.slice (.slice (.pair (.int .i64) (.pair (.int .i64) .unit)))) (.pair (.slice (.pair .str (.pair (.pair (.int .i64) (.pair (.int .i64) (.pair .str (.pair .bool .unit)))) .unit))) (.pair (.int .i64) (.pair (.int .i64) .unit))))))] [.bool] (r10 n)), (11, pureSpec [(.tree (.pair (.int .i64) (.pair (.pair (.int .i64) (.pair (.int .i64) (.pair .str (.pair .bool .unit)))) (.pair .str .unit)))), (.pair (.int .i64) (.pair (.int .i64) (.pair (.slice (.slice (.pair (.int .i64) (.pair (.int .i64) .unit)))) (.pair (.slice (.pair .str (.pair (.pair (.int .i64) (.pair (.int .i64) (.pair .str (.pair .bool .unit)))) .unit))) (.pair (.int .i64) (.pair (.int .i64) .unit))))))] [.bool] (r11 n)), (12, pureSpec [(.tree (.pair (.int .i64) (.pair (.pair (.int .i64) (.pair (.int .i64) (.pair .str (.pair .bool .unit)))) (.pair .str .unit))))] [(.int .i64)] (r12 n)), (13, pureSpec [(.pair (.int .i64) (.pair (.int .i64) (.pair (.slice (.slice (.pair (.int .i64) (.pair (.int .i64) .unit)))) (.pair (.slice (.pair .str (.pair (.pair (.int .i64) (.pair (.int .i64) (.pair .str (.pair .bool .unit)))) .unit))) (.pair (.int .i64) (.pair (.int .i64) .unit))))))] [(.int .i64)] r13), (14, pureSpec [(.tree (.pair (.int .i64) (.pair (.pair (.int .i64) (.pair (.int .i64) (.pair .str (.pair .bool .unit)))) (.pair .str .unit)))), (.pair (.int .i64) (.pair (.int .i64) (.pair (.slice (.slice (.pair (.int .i64) (.pair (.int .i64) .unit)))) (.pair (.slice (.pair .str (.pair (.pair (.int .i64) (.pair (.int .i64) (.pair .str (.pair .bool .unit)))) .unit))) (.pair (.int .i64) (.pair (.int .i64) .unit))))))] [(.pair (.int .i64) (.pair (.int .i64) (.pair .str (.pair .bool .unit)))), (.int .i64)] (r14 n))]) (hs := hintOf []) stays_F (specOf_cons (PureOk.spec r9_ok) (specOf_cons (PureOk.spec (r8_ok n)) (specOf_cons (PureOk.spec (r10_ok n)) (specOf_cons (PureOk.spec (r11_ok n)) (specOf_cons (PureOk.spec (r12_ok n)) (specOf_cons (PureOk.spec r13_ok) (specOf_cons (PureOk.spec (r14_ok n)) specOf_nil))))))) mixed Go.Proofs.Tryz.func3 rfl (by kernel_rfl) (fun _ => by kernel_rfl)

end Go.Proofs.YtfmadjkakghohaaGreatDoor.I

namespace Go.Proofs.YtfmadjkakghohaaGreatDoor.I
open Go.RowKit
set_option linter.unusedVariables false
/-- A loop over a list, told by recursion. -/
def foldL {α S O : Type} (body : Nat → α → S → Option (S ⊕ O)) (out : S → O) : Nat → List α → S → Option O
  | _, [], s => some (out s)
  | i, a :: l, s => match body i a s with
    | none => none
    | some (.inl s') => foldL body out (i + 1) l s'
    | some (.inr o) => some o
def stepTo {D S O : Type} (emb : Int → S → D) (i : Nat) : Option (S ⊕ O) → Option (D ⊕ O)
  | none => none
  | some (.inl s') => some (.inl (emb ((i : Int) + 1) s'))
  | some (.inr o) => some (.inr o)
theorem loop_from {α S D O : Type} {step : D → Option (D ⊕ O)} (emb : Int → S → D) (xs : List α) (body : Nat → α → S → Option (S ⊕ O)) (out : S → O)
    (hin : ∀ (i : Nat) a s, xs[i]? = some a → step (emb i s) = stepTo emb i (body i a s))
    (hend : ∀ s, step (emb (xs.length : Int) s) = some (.inr (out s))) : ∀ (l : List α) (i : Nat) (s : S), i ≤ xs.length → xs.drop i = l → loop step (emb i s) = foldL body out i l s
  | [], i, s, hi, hl => by
    have : i = xs.length := by
      have := congrArg List.length hl
      simp at this; omega
    subst this
    rw [loop_eq, hend]
    rfl
  | a :: l, i, s, hi, hl => by
    have ha : xs[i]? = some a := by
      have := congrArg (fun l => l[0]?) hl
      simpa using this
    have hlt : i < xs.length := (List.getElem?_eq_some_iff.1 ha).1
    have hd : xs.drop (i + 1) = l := by rw [← List.drop_drop, hl]; rfl
    rw [loop_eq, hin i a s ha]
    simp only [foldL]
    cases hb : body i a s with
    | none => rfl
    | some r =>
      cases r with
      | inr o => rfl
      | inl s' =>
        simp only [stepTo]
        exact loop_from emb xs body out hin hend l (i + 1) s' hlt hd
theorem loop_list {α S D O : Type} {step : D → Option (D ⊕ O)} (emb : Int → S → D) (xs : List α) (body : Nat → α → S → Option (S ⊕ O)) (out : S → O)
    (hin : ∀ (i : Nat) a s, xs[i]? = some a → step (emb i s) = stepTo emb i (body i a s))
    (hend : ∀ s, step (emb (xs.length : Int) s) = some (.inr (out s))) (s : S) : loop step (emb 0 s) = foldL body out 0 xs s :=
  loop_from emb xs body out hin hend xs 0 s (Nat.zero_le _) rfl
theorem wrap64 {n : Int} (h1 : -9223372036854775808 ≤ n) (h2 : n ≤ 9223372036854775807) : IntKind.wrap .i64 n = n := by
  unfold IntKind.wrap
  simp only [IntKind.signed, IntKind.bits]
  simp
  omega
theorem lt_of_get {α : Type} {xs : List α} {i : Nat} {a : α} (h : xs[i]? = some a) : i < xs.length := (List.getElem?_eq_some_iff.1 h).1
theorem dec_lt {i n : Nat} (h : i < n) : decide ((i : Int) < (n : Int)) = true := by simp; omega
theorem dec_nlt {i : Nat} : decide ((i : Int) < (i : Int)) = false := by simp
theorem inB_lt {i n : Nat} (h : i < n) : inB (i : Int) n = true := by unfold inB; simp; omega
theorem wrapS {i n : Nat} (h : i < n) (hn : n ≤ 9223372036854775807) : IntKind.wrap .i64 ((i : Int) + 1) = (i : Int) + 1 := wrap64 (by omega) (by omega)
theorem bytes_get {s : ByteArray} {i : Nat} : strAt s (i : Int) = s.data.toList[i]? := by
  unfold strAt
  rw [if_pos (by omega)]
  simp only [Int.toNat_natCast]
  show s[i]? = _
  cases h : s.data.toList[i]? with
  | none =>
    have := List.getElem?_eq_none_iff.1 h
    rw [Array.length_toList] at this
    exact getElem?_neg s i (by show ¬ i < s.data.size; omega)
  | some b =>
    have h2 := (List.getElem?_eq_some_iff.1 h)
    obtain ⟨h3, h4⟩ := h2
    rw [Array.length_toList] at h3
    rw [getElem?_pos s i h3]
    congr 1
theorem bytes_len {s : ByteArray} : s.size = s.data.toList.length := by rw [Array.length_toList]; rfl
end Go.Proofs.YtfmadjkakghohaaGreatDoor.I

namespace Go.Proofs.YtfmadjkakghohaaGreatDoor.I
open Go.RowKit
set_option linter.unusedVariables false

abbrev DPt := Int × Int × Unit
abbrev DVal := Int × Int × ByteArray × Bool × Unit
abbrev DAtt := ByteArray × DVal × Unit
abbrev DFea := Int × Int × List (List DPt) × List DAtt × Int × Int × Unit

def found {O : Type} : Option O → Option (Unit ⊕ O)
  | some o => some (.inr o)
  | none => some (.inl ())
theorem foldL_find {α O : Type} {body : Nat → α → Unit → Option (Unit ⊕ O)} {out : Unit → O} (g : α → Option O) : ∀ (xs : List α) (i : Nat), (∀ (j : Nat) a, xs[j]? = some a → body (i + j) a () = found (g a)) →
    foldL body out i xs () = some ((xs.findSome? g).getD (out ()))
  | [], i, _ => rfl
  | a :: l, i, h => by
    have h0 := h 0 a rfl
    simp only [Nat.add_zero] at h0
    simp only [foldL, h0, List.findSome?_cons]
    cases hg : g a with
    | some o => rfl
    | none =>
      simp only [found]
      exact foldL_find g l (i + 1) (fun j b hb => by
        have := h (j + 1) b (by simpa using hb)
        rwa [show i + 1 + j = i + (j + 1) by omega])

def okB (b : UInt8) : Bool := !(decide ((b.toNat : Int) < 32)) && (!(decide (126 < (b.toNat : Int))) && !(decide ((b.toNat : Int) = 34)))
theorem find_all {α : Type} (p : α → Bool) {O : Type} (o : O) : ∀ (xs : List α), xs.findSome? (fun a => if p a then none else some o) = if xs.all p then none else some o
  | [] => rfl
  | a :: l => by
    rw [List.findSome?_cons, List.all_cons]
    cases h : p a with
    | true => simp [find_all p o l]
    | false => simp
theorem r38_eq (s : ByteArray) (hs : s.size ≤ 9223372036854775807) : r133 (s, ()) = some (s.data.toList.all okB, ()) := by
  unfold r133
  rw [loop_list (fun i _ => ((i, ()), ())) s.data.toList (fun i b _ => found (if okB b then none else some (Sum.inl ((false, ()), ())))) (fun _ => Sum.inr (Sum.inl ((), ()))) (fun i b _ h => ?_) (fun _ => ?_) ()]
  · rw [foldL_find (fun b => if okB b then none else some (Sum.inl ((false, ()), ()))) s.data.toList 0 (fun j a _ => rfl), find_all]
    cases s.data.toList.all okB <;> rfl
  · have hl := lt_of_get h
    have hlen : s.size = s.data.toList.length := bytes_len
    simp only [hlen, dec_lt hl, bytes_get, h, cond_true, Option.bind_some]
    rw [wrapS hl (by omega)]
    unfold okB
    cases decide ((b.toNat : Int) < 32) <;> cases decide (126 < (b.toNat : Int)) <;> cases decide ((b.toNat : Int) = 34) <;> rfl
  · simp only [← bytes_len, dec_nlt, cond_false]

def checkV (v : DVal) : Int :=
  if v.1 < 0 then 8 else if 3 < v.1 then 8 else if ¬ v.1 = 1 ∧ ¬ v.2.1 = 0 then 3 else if ¬ v.1 = 2 ∧ ¬ v.2.2.1 = ByteArray.mk (List.toArray []) then 3 else if ¬ v.1 = 3 ∧ v.2.2.2.1 = true then 3
  else if v.2.1 < -1000000000000 then 2 else if 1000000000000 < v.2.1 then 2 else if 40 < (v.2.2.1.size : Int) then 2 else if v.2.2.1.data.toList.all okB = true then 0 else 3
theorem r10_eq (v : DVal) (hs : v.2.2.1.size ≤ 9223372036854775807) : r82 (v, ()) = some (checkV v, ()) := by
  obtain ⟨k, n, s, b, ⟨⟩⟩ := v
  have h38 := r38_eq s hs
  unfold r82 checkV
  simp only [h38, Option.bind_some]
  generalize s.data.toList.all okB = a
  clear h38 hs
  generalize s.size = z
  by_cases h1 : k < 0
  · simp [h1]
  by_cases h2 : 3 < k
  · simp [h1, h2]
  have hk : k = 0 ∨ k = 1 ∨ k = 2 ∨ k = 3 := by omega
  by_cases h3 : n = 0 <;> by_cases h4 : s = ByteArray.mk (List.toArray []) <;> by_cases h5 : n < -1000000000000 <;> by_cases h6 : 1000000000000 < n <;> by_cases h7 : 40 < (z : Int) <;> rcases hk with rfl | rfl | rfl | rfl <;> cases b <;> cases a <;> simp [h3, h4, h5, h6, h7]
def okI (b : Int) : Bool := !(decide (b < 32)) && (!(decide (126 < b)) && !(decide (b = 34)))
theorem okI_all (s : ByteArray) : (bytesOf s).all okI = s.data.toList.all okB := by
  unfold bytesOf
  rw [List.all_map]
  rfl
theorem r29_eq (v : DVal) (hs : v.2.2.1.size ≤ 9223372036854775807) : r34 (v, ()) = some (checkV v, ()) := by
  obtain ⟨k, n, s, b, ⟨⟩⟩ := v
  unfold r34 checkV
  have hb : (bytesOf s).length = s.size := by unfold bytesOf; rw [List.length_map, ← bytes_len]
  rw [loop_list (fun i _ => ((i, ()), ())) (bytesOf s) (fun i b _ => found (if okI b then none else some (Sum.inl ((3, ()), ())))) (fun _ => Sum.inr (Sum.inl ((), ()))) (fun i b _ h => ?_) (fun _ => ?_) ()]
  · rw [foldL_find (fun b => if okI b then none else some (Sum.inl ((3, ()), ()))) (bytesOf s) 0 (fun j a _ => rfl), find_all, okI_all]
    generalize s.data.toList.all okB = a
    clear hb hs
    generalize s.size = z
    by_cases h1 : k < 0
    · simp [h1]
    by_cases h2 : 3 < k
    · simp [h1, h2]
    have hk : k = 0 ∨ k = 1 ∨ k = 2 ∨ k = 3 := by omega
    have hn : ((0 : Int) = n) = (n = 0) := propext eq_comm
    have hc : ((ByteArray.mk #[]) = s) = (s = ByteArray.mk #[]) := propext eq_comm
    by_cases h3 : n = 0 <;> by_cases h4 : s = ByteArray.mk (List.toArray []) <;> by_cases h5 : n < -1000000000000 <;> by_cases h6 : 1000000000000 < n <;> by_cases h7 : 40 < (z : Int) <;> rcases hk with rfl | rfl | rfl | rfl <;> cases b <;> cases a <;> simp [h3, h4, h5, h6, h7, inB, sumE, hc, hn]
  · have hl := lt_of_get h
    simp only [dec_lt hl, inB_lt hl, Int.toNat_natCast, h, cond_true, Option.bind_some]
    rw [wrapS hl (by rw [hb]; exact hs)]
    unfold okI
    cases decide (b < 32) <;> cases decide (126 < b) <;> cases decide (b = 34) <;> rfl
  · simp only [dec_nlt, cond_false]
end Go.Proofs.YtfmadjkakghohaaGreatDoor.I

namespace Go.Proofs.YtfmadjkakghohaaGreatDoor.I
open Go.RowKit
set_option linter.unusedVariables false
theorem loop_up {S D O : Type} {step : D → Option (D ⊕ O)} (emb : Int → S → D) (n : Nat) (Inv : Nat → S → Prop) (Post : O → Prop)
    (hin : ∀ (i : Nat) (s : S), i < n → Inv i s → (∃ s', step (emb (i : Int) s) = some (.inl (emb ((i : Int) + 1) s')) ∧ Inv (i + 1) s') ∨ ∃ o, step (emb (i : Int) s) = some (.inr o) ∧ Post o)
    (hend : ∀ s, Inv n s → ∃ o, step (emb (n : Int) s) = some (.inr o) ∧ Post o) : ∀ (k : Nat) (s : S), k ≤ n → Inv k s → ∃ o, loop step (emb (k : Int) s) = some o ∧ Post o := by
  have key : ∀ (m k : Nat) (s : S), n - k = m → k ≤ n → Inv k s → ∃ o, loop step (emb (k : Int) s) = some o ∧ Post o := by
    intro m
    induction m with
    | zero =>
      intro k s hm hk hI
      have : k = n := by omega
      subst this
      obtain ⟨o, h1, h2⟩ := hend s hI
      rw [loop_eq, h1]
      exact ⟨o, rfl, h2⟩
    | succ m ih =>
      intro k s hm hk hI
      rcases hin k s (by omega) hI with ⟨s', h1, h2⟩ | ⟨o, h1, h2⟩
      · rw [loop_eq, h1]
        exact ih (k + 1) s' (by omega) (by omega) h2
      · rw [loop_eq, h1]
        exact ⟨o, rfl, h2⟩
  exact fun k s => key _ k s rfl
theorem bind_loop {D O R : Type} {step : D → Option (D ⊕ O)} {d : D} {f : O → Option R} {Post : O → Prop} {y : R} (h : ∃ o, loop step d = some o ∧ Post o) (k : ∀ o, Post o → f o = some y) : Option.bind (loop step d) f = some y := by
  obtain ⟨o, h1, h2⟩ := h
  rw [h1]
  exact k o h2
theorem bind_loopQ {D O R : Type} {step : D → Option (D ⊕ O)} {d : D} {f : O → Option R} {Post : O → Prop} (Q : Option R → Prop) (h : ∃ o, loop step d = some o ∧ Post o) (k : ∀ o, Post o → Q (f o)) : Q (Option.bind (loop step d) f) := by
  obtain ⟨o, h1, h2⟩ := h
  rw [h1]
  exact k o h2
/-- From the first element on; only one way out. -/
theorem loop_all {S D O R : Type} {step : D → Option (D ⊕ O)} {f : O → Option R} {y : R} (emb : Int → S → D) (n : Nat) (Inv : Nat → S → Prop) (out : S → O)
    (hin : ∀ (i : Nat) (s : S), i < n → Inv i s → ∃ s', step (emb (i : Int) s) = some (.inl (emb ((i : Int) + 1) s')) ∧ Inv (i + 1) s')
    (hend : ∀ s, Inv n s → step (emb (n : Int) s) = some (.inr (out s))) (s0 : S) (h0 : Inv 0 s0) (k : ∀ s, Inv n s → f (out s) = some y) : Option.bind (loop step (emb 0 s0)) f = some y := by
  have h := loop_up (step := step) emb n Inv (fun o => ∃ s, Inv n s ∧ o = out s) (fun i s hi hs => .inl (hin i s hi hs)) (fun s hs => ⟨_, hend s hs, s, hs, rfl⟩) 0 s0 (Nat.zero_le _) h0
  refine bind_loop h ?_
  rintro o ⟨s, hs, rfl⟩
  exact k s hs
/-- The state after each round is told. -/
theorem loop_is {S D O R : Type} {step : D → Option (D ⊕ O)} {f : O → Option R} {y : R} (emb : Int → S → D) (n : Nat) (st : Nat → S) (out : S → O)
    (hin : ∀ (i : Nat), i < n → step (emb (i : Int) (st i)) = some (.inl (emb ((i : Int) + 1) (st (i + 1)))))
    (hend : step (emb (n : Int) (st n)) = some (.inr (out (st n)))) (k : f (out (st n)) = some y) (s0 : S) (h0 : s0 = st 0) : Option.bind (loop step (emb 0 s0)) f = some y :=
  loop_all emb n (fun i s => s = st i) out (fun i s hi hs => ⟨_, by subst hs; exact hin i hi, rfl⟩) (fun s hs => by subst hs; exact hend) s0 h0 (fun s hs => by subst hs; exact k)
/-- From a later element on. -/
theorem loop_isk {S D O R : Type} {step : D → Option (D ⊕ O)} {f : O → Option R} {y : R} (emb : Int → S → D) (k0 n : Nat) (hk : k0 ≤ n) (st : Nat → S) (out : S → O)
    (hin : ∀ (i : Nat), k0 ≤ i → i < n → step (emb (i : Int) (st i)) = some (.inl (emb ((i : Int) + 1) (st (i + 1)))))
    (hend : step (emb (n : Int) (st n)) = some (.inr (out (st n)))) (k : f (out (st n)) = some y) (x : Int) (hx : x = (k0 : Int)) (s0 : S) (h0 : s0 = st k0) : Option.bind (loop step (emb x s0)) f = some y := by
  subst hx h0
  have h := loop_up (step := step) emb n (fun i s => k0 ≤ i ∧ s = st i) (fun o => o = out (st n)) (fun i s hi hs => .inl ⟨_, by rw [hs.2]; exact hin i hs.1 hi, by omega, rfl⟩) (fun s hs => ⟨_, by rw [hs.2]; exact hend, rfl⟩) k0 _ hk ⟨Nat.le_refl _, rfl⟩
  refine bind_loop h ?_
  rintro o rfl
  exact k
/-- What a loop that has ended has come to. -/
theorem loop_post {S D O : Type} {step : D → Option (D ⊕ O)} {o : O} (emb : Int → S → D) (n : Nat) (Inv : Nat → S → Prop) (Post : O → Prop) (s0 : S) (h1 : loop step (emb 0 s0) = some o)
    (hin : ∀ (i : Nat) (s : S), i < n → Inv i s → (∃ s', step (emb (i : Int) s) = some (.inl (emb ((i : Int) + 1) s')) ∧ Inv (i + 1) s') ∨ ∃ o, step (emb (i : Int) s) = some (.inr o) ∧ Post o)
    (hend : ∀ s, Inv n s → ∃ o, step (emb (n : Int) s) = some (.inr o) ∧ Post o) (h0 : Inv 0 s0) : Post o := by
  obtain ⟨o', h2, h3⟩ := loop_up emb n Inv Post hin hend 0 s0 (Nat.zero_le _) h0
  have h2 : loop step (emb 0 s0) = some o' := h2
  rw [h1] at h2
  injection h2 with h2
  subst h2
  exact h3
theorem take_succ {α : Type} {l : List α} {i : Nat} {a : α} (h : l[i]? = some a) : l.take (i + 1) = l.take i ++ [a] := by
  rw [List.take_add_one, h]; rfl
theorem get_lt {α : Type} {l : List α} {i : Nat} (h : i < l.length) : ∃ a, l[i]? = some a := ⟨_, List.getElem?_eq_getElem h⟩
end Go.Proofs.YtfmadjkakghohaaGreatDoor.I

namespace Go.Proofs.YtfmadjkakghohaaGreatDoor.I
open Go.RowKit
set_option linter.unusedVariables false
set_option linter.constructorNameAsVariable false
theorem name_eq (s : ByteArray) (h : s.size ≤ 9223372036854775807) : r83 (s, ()) = some (nameOk s, ()) := by
  unfold r83
  have : decide (s.size ≤ 9223372036854775807) = true := decide_eq_true h
  simp only [this, cond_true]
end Go.Proofs.YtfmadjkakghohaaGreatDoor.I

namespace Go.Proofs.YtfmadjkakghohaaGreatDoor.I
open Go.RowKit
set_option linter.unusedVariables false

/-- Element by element, each with the key of the one before. -/
def scan {α K O : Type} (F : K → α → Option O) (key : α → K) (o : O) : K → List α → O
  | _, [] => o
  | p, a :: l => match F p a with
    | some e => e
    | none => scan F key o (key a) l
def stepK {K O : Type} (k : K) : Option O → Option (K ⊕ O)
  | some o => some (.inr o)
  | none => some (.inl k)
theorem foldL_state {α K O : Type} {body : Nat → α → K → Option (K ⊕ O)} (F : K → α → Option O) (key : α → K) (o : O) : ∀ (l : List α) (i : Nat) (p : K), (∀ i a p, a ∈ l → body i a p = stepK (key a) (F p a)) → foldL body (fun _ => o) i l p = some (scan F key o p l)
  | [], _, _, _ => rfl
  | a :: l, i, p, h => by
    simp only [foldL, h i a p (by simp), scan]
    cases F p a with
    | some e => rfl
    | none => simp only [stepK]; exact foldL_state F key o l (i + 1) (key a) (fun i b p hb => h i b p (by simp [hb]))
def prevOf {α K : Type} (key : α → K) (p0 : K) (xs : List α) : Nat → K
  | 0 => p0
  | i + 1 => match xs[i]? with
    | some a => key a
    | none => p0
theorem foldL_prev {α K O : Type} {body : Nat → α → Unit → Option (Unit ⊕ O)} (F : K → α → Option O) (key : α → K) (o : O) (p0 : K) (xs : List α) (h : ∀ i a, xs[i]? = some a → body i a () = found (F (prevOf key p0 xs i) a)) :
    ∀ (l : List α) (i : Nat), xs.drop i = l → foldL body (fun _ => o) i l () = some (scan F key o (prevOf key p0 xs i) l)
  | [], _, _ => rfl
  | a :: l, i, hl => by
    have ha : xs[i]? = some a := by
      have := congrArg (fun l => l[0]?) hl
      simpa using this
    simp only [foldL, h i a ha, scan]
    cases F (prevOf key p0 xs i) a with
    | some e => rfl
    | none =>
      simp only [found]
      rw [foldL_prev F key o p0 xs h l (i + 1) (by rw [← List.drop_drop, hl]; rfl)]
      simp only [prevOf, ha]
theorem scan_map {α K O R : Type} (G : O → R) (F : K → α → Option O) (key : α → K) (o : O) : ∀ (l : List α) (p : K), G (scan F key o p l) = scan (fun p a => (F p a).map G) key (G o) p l
  | [], _ => rfl
  | a :: l, p => by
    simp only [scan]
    cases F p a with
    | some e => rfl
    | none => exact scan_map G F key o l (key a)
theorem scan_congr {α K O : Type} {F F' : K → α → Option O} {key : α → K} {o : O} : ∀ {l : List α} {p : K}, (∀ p a, a ∈ l → F p a = F' p a) → scan F key o p l = scan F' key o p l
  | [], _, _ => rfl
  | a :: l, p, h => by
    simp only [scan]
    rw [h p a (by simp)]
    cases F' p a with
    | some e => rfl
    | none => exact scan_congr (fun p b hb => h p b (by simp [hb]))

theorem less_nilS {k : ByteArray} (h : nameOk k = true) : strLt (ByteArray.mk (List.toArray [])) k = true := by
  have hs : 1 ≤ k.size := by
    unfold nameOk at h
    simp at h
    omega
  unfold strLt
  rw [ByteArray.toList_eq, ByteArray.toList_eq]
  have hl : k.data.toList ≠ [] := by
    intro e
    have : k.data.toList.length = 0 := by rw [e]; rfl
    rw [Array.length_toList] at this
    have h2 : k.size = k.data.size := rfl
    omega
  cases hk : k.data.toList with
  | nil => exact absurd hk hl
  | cons x m => rfl
theorem leq_lawL : ∀ a b : List UInt8, (Op.bytesLess a b || a == b) = !Op.bytesLess b a
  | [], [] => rfl
  | [], _ :: _ => rfl
  | _ :: _, [] => rfl
  | x :: l, y :: m => by
    have ih := leq_lawL l m
    unfold Op.bytesLess
    rcases Nat.lt_trichotomy x.toNat y.toNat with h | h | h
    · have h1 : x < y := UInt8.lt_iff_toNat_lt.2 h
      have h2 : ¬ y < x := fun e => by have := UInt8.lt_iff_toNat_lt.1 e; omega
      have h3 : (y == x) = false := by
        rw [beq_eq_false_iff_ne]
        intro e
        rw [e] at h
        omega
      simp [h1, h2, h3]
    · have h1 : x = y := UInt8.toNat_inj.1 h
      subst h1
      have h2 : ¬ x < x := fun e => by have := UInt8.lt_iff_toNat_lt.1 e; omega
      simp only [h2, decide_false, Bool.false_or, beq_self_eq_true, Bool.true_and, List.cons_beq_cons]
      exact ih
    · have h1 : ¬ x < y := fun e => by have := UInt8.lt_iff_toNat_lt.1 e; omega
      have h2 : y < x := UInt8.lt_iff_toNat_lt.2 h
      have h3 : (x == y) = false := by
        rw [beq_eq_false_iff_ne]
        intro e
        rw [e] at h
        omega
      simp [h1, h2, h3]
theorem leq_lawS (a b : ByteArray) : (strLt a b || decide (a = b)) = !strLt b a := by
  unfold strLt
  rw [← ba_beq, leq_lawL]
def attF (nils : Bool) (last : ByteArray) (a : DAtt) : Option Int :=
  if nameOk a.1 = false then some 16 else if strLt last a.1 = false then some 9 else if checkV a.2.1 ≠ 0 then some (checkV a.2.1) else if nils = false ∧ a.2.1.1 = 0 then some 3 else none
def attrsE (nils : Bool) (l : List DAtt) : Int := if 8 < l.length then 2 else scan (attF nils) (fun a => a.1) 0 (ByteArray.mk (List.toArray [])) l
def attW (e : Int) : ((Int × Unit) × Unit) ⊕ (Unit × Unit) ⊕ Empty := Sum.inl ((e, ()), ())
theorem attr_bounds {l : List DAtt} (h : small (.slice (.pair .str (.pair (.pair (.int .i64) (.pair (.int .i64) (.pair .str (.pair .bool .unit)))) .unit))) l) : l.length ≤ 9223372036854775807 ∧ ∀ a ∈ l, a.1.size ≤ 9223372036854775807 ∧ a.2.1.2.2.1.size ≤ 9223372036854775807 := by
  have hm : maxLen = 9223372036854775807 := rfl
  simp only [small, hm] at h
  exact ⟨h.1, fun a ha => ⟨(h.2 a ha).1, (h.2 a ha).2.1.2.2.1⟩⟩
theorem zeroV {v : DVal} (h : checkV v = 0) (hk : v.1 = 0) : v.2.1 = 0 ∧ v.2.2.1 = ByteArray.mk (List.toArray []) ∧ v.2.2.2.1 = false := by
  unfold checkV at h
  rw [hk] at h
  obtain ⟨k, n, s, b, ⟨⟩⟩ := v
  simp only at hk h ⊢
  subst hk
  by_cases h1 : n = 0
  · by_cases h2 : s = ByteArray.mk (List.toArray [])
    · cases b with
      | false => exact ⟨h1, h2, rfl⟩
      | true => simp [h1, h2] at h
    · simp only [List.toArray] at h2
      simp [h1, h2] at h
  · simp [h1] at h
set_option maxHeartbeats 1000000 in
theorem r22_eq (l : List DAtt) (nils : Bool) (hs : small (.slice (.pair .str (.pair (.pair (.int .i64) (.pair (.int .i64) (.pair .str (.pair .bool .unit)))) .unit))) l) : r65 (l, (nils, ())) = some (attrsE nils l, ()) := by
  obtain ⟨hl, hb⟩ := attr_bounds hs
  unfold r65 attrsE
  by_cases h8 : 8 < l.length
  · rw [if_pos h8]
    have : decide ((8 : Int) < (l.length : Int)) = true := by simp; omega
    simp only [this, cond_true]
  · rw [if_neg h8]
    have : decide ((8 : Int) < (l.length : Int)) = false := by simp; omega
    simp only [this, cond_false]
    rw [loop_list (fun i _ => ((i, ()), ())) l (fun i a _ => found ((attF nils (prevOf (fun a => a.1) (ByteArray.mk (List.toArray [])) l i) a).map attW)) (fun _ => Sum.inr (Sum.inl ((), ()))) (fun i a _ h => ?_) (fun _ => ?_) ()]
    · rw [foldL_prev (fun p a => (attF nils p a).map attW) (fun a => a.1) (Sum.inr (Sum.inl ((), ()))) (ByteArray.mk (List.toArray [])) l (fun i a _ => rfl) l 0 rfl]
      simp only [Option.bind_some]
      have := scan_map (sumE (fun x0 => some (x0.1.1, ())) (sumE (fun x0 => some ((0 : Int), ())) emptyE) : ((Int × Unit) × Unit) ⊕ (Unit × Unit) ⊕ Empty → Option (Int × Unit)) (fun p a => (attF nils p a).map attW) (fun a : DAtt => a.1) (Sum.inr (Sum.inl ((), ()))) l (ByteArray.mk (List.toArray []))
      refine this.trans ?_
      have h2 := scan_map (fun e : Int => some (e, ())) (attF nils) (fun a : DAtt => a.1) 0 l (ByteArray.mk (List.toArray []))
      refine Eq.trans ?_ h2.symm
      refine scan_congr (fun p a _ => ?_)
      cases attF nils p a <;> rfl
    · have hlt := lt_of_get h
      obtain ⟨hb1, hb2⟩ := hb a (List.mem_of_getElem? h)
      simp only [dec_lt hlt, inB_lt hlt, Int.toNat_natCast, h, cond_true, Option.bind_some]
      rw [wrapS hlt hl]
      have hn : r83 (a.1, ()) = some (nameOk a.1, ()) := by
        exact name_eq a.1 (by omega)
      have hv := r10_eq a.2.1 hb2
      have hv' : r82 ((a.2.1.1, (a.2.1.2.1, (a.2.1.2.2.1, (a.2.1.2.2.2.1, ())))), ()) = some (checkV a.2.1, ()) := hv
      simp only [hn, hv', Option.bind_some]
      cases hno : nameOk a.1 with
      | false => simp [attF, hno, found, stepTo, attW]
      | true =>
        simp only [Bool.not_true, cond_false]
        cases i with
        | zero =>
          have hd0 : decide ((0 : Int) < ((0 : Nat) : Int)) = false := by simp
          simp only [hd0, cond_false, prevOf]
          have hless := less_nilS hno
          by_cases hc : checkV a.2.1 = 0 <;> by_cases hk : a.2.1.1 = 0 <;> cases nils <;> simp [attF, hno, hless, hc, hk, found, stepTo, attW]
        | succ j =>
          have hd0 : decide ((0 : Int) < ((j + 1 : Nat) : Int)) = true := by simp
          obtain ⟨b, hbj⟩ : ∃ b, l[j]? = some b := ⟨_, List.getElem?_eq_getElem (by omega)⟩
          have hw : IntKind.wrap .i64 (((j + 1 : Nat) : Int) - 1) = (j : Int) := by rw [wrap64 (by omega) (by omega)]; omega
          simp only [hd0, cond_true, prevOf, hbj, hw, inB_lt (show j < l.length by omega), Int.toNat_natCast, Option.bind_some]
          cases hless : strLt b.1 a.1 with
          | false => simp [attF, hno, hless, found, stepTo, attW]
          | true =>
            by_cases hc : checkV a.2.1 = 0 <;> by_cases hk : a.2.1.1 = 0 <;> cases nils <;> simp [attF, hno, hless, hc, hk, found, stepTo, attW]
    · simp only [dec_nlt, cond_false]
set_option maxHeartbeats 1000000 in
theorem r23_eq (l : List DAtt) (nils : Bool) (hs : small (.slice (.pair .str (.pair (.pair (.int .i64) (.pair (.int .i64) (.pair .str (.pair .bool .unit)))) .unit))) l) : r40 (l, (nils, ())) = some (attrsE nils l, ()) := by
  obtain ⟨hl, hb⟩ := attr_bounds hs
  unfold r40 attrsE
  by_cases h8 : 8 < l.length
  · rw [if_pos h8]
    have : decide ((8 : Int) < (l.length : Int)) = true := by simp; omega
    simp only [this, cond_true]
  · rw [if_neg h8]
    have : decide ((8 : Int) < (l.length : Int)) = false := by simp; omega
    simp only [this, cond_false]
    rw [loop_list (fun i (p : ByteArray) => ((p, (i, ())), ())) l (fun i a p => stepK a.1 ((attF nils p a).map attW)) (fun _ => Sum.inr (Sum.inl ((), ()))) (fun i a p h => ?_) (fun _ => ?_) (ByteArray.mk (List.toArray []))]
    · rw [foldL_state (fun p a => (attF nils p a).map attW) (fun a => a.1) (Sum.inr (Sum.inl ((), ()))) l 0 _ (fun i a p _ => rfl)]
      simp only [Option.bind_some]
      have := scan_map (sumE (fun x0 => some (x0.1.1, ())) (sumE (fun x0 => some ((0 : Int), ())) emptyE) : ((Int × Unit) × Unit) ⊕ (Unit × Unit) ⊕ Empty → Option (Int × Unit)) (fun p a => (attF nils p a).map attW) (fun a : DAtt => a.1) (Sum.inr (Sum.inl ((), ()))) l (ByteArray.mk (List.toArray []))
      refine this.trans ?_
      have h2 := scan_map (fun e : Int => some (e, ())) (attF nils) (fun a : DAtt => a.1) 0 l (ByteArray.mk (List.toArray []))
      refine Eq.trans ?_ h2.symm
      refine scan_congr (fun p a _ => ?_)
      cases attF nils p a <;> rfl
    · have hlt := lt_of_get h
      obtain ⟨hb1, hb2⟩ := hb a (List.mem_of_getElem? h)
      simp only [dec_lt hlt, inB_lt hlt, Int.toNat_natCast, h, cond_true, Option.bind_some]
      rw [wrapS hlt hl]
      have hn : r35 (a.1, ()) = some (nameOk a.1, ()) := by
        unfold r35
        have : decide (a.1.size ≤ 9223372036854775807) = true := by simp; omega
        simp only [this, cond_true]
      have hv' : r34 ((a.2.1.1, (a.2.1.2.1, (a.2.1.2.2.1, (a.2.1.2.2.2.1, ())))), ()) = some (checkV a.2.1, ()) := r29_eq a.2.1 hb2
      simp only [hn, hv', Option.bind_some, leq_lawS]
      cases hno : nameOk a.1 with
      | false => simp [attF, hno, stepK, stepTo, attW]
      | true =>
        cases hless : strLt p a.1 with
        | false => simp [attF, hno, hless, stepK, stepTo, attW]
        | true =>
          by_cases hc : checkV a.2.1 = 0
          · by_cases hk : a.2.1.1 = 0
            · obtain ⟨z1, z2, z3⟩ := zeroV hc hk
              cases nils <;> simp [attF, hno, hless, hc, hk, stepK, stepTo, attW, z1, z2, z3]
            · cases nils <;> simp [attF, hno, hless, hc, hk, stepK, stepTo, attW]
          · cases nils <;> simp [attF, hno, hless, hc, stepK, stepTo, attW]
    · simp only [dec_nlt, cond_false]
end Go.Proofs.YtfmadjkakghohaaGreatDoor.I

namespace Go.Proofs.YtfmadjkakghohaaGreatDoor.I
open Go.RowKit
set_option linter.unusedVariables false
set_option linter.constructorNameAsVariable false

/-- A search by index. -/
theorem foldL_index {α O : Type} {body : Nat → α → Unit → Option (Unit ⊕ O)} {out : Unit → O} (p : α → Bool) (W : Int → O) : ∀ (xs : List α) (i : Nat), (∀ (j : Nat) a, xs[j]? = some a → body (i + j) a () = found (if p a then some (W ((i + j : Nat) : Int)) else none)) →
    ∃ r, foldL body out i xs () = some r ∧ ((xs.any p = true ∧ ∃ j : Nat, r = W (j : Int)) ∨ (xs.any p = false ∧ r = out ()))
  | [], i, _ => ⟨out (), rfl, .inr ⟨rfl, rfl⟩⟩
  | a :: l, i, h => by
    have h0 := h 0 a rfl
    simp only [Nat.add_zero] at h0
    simp only [foldL, h0, List.any_cons]
    cases hp : p a with
    | true => exact ⟨_, rfl, .inl ⟨rfl, i, rfl⟩⟩
    | false =>
      obtain ⟨r, h1, h2⟩ := foldL_index p W l (i + 1) (fun j b hb => by
        have := h (j + 1) b (by simpa using hb)
        rwa [show i + 1 + j = i + (j + 1) by omega])
      exact ⟨r, h1, by simpa using h2⟩
theorem loop_list1 {α S D O : Type} {step : D → Option (D ⊕ O)} (emb : Int → S → D) (xs : List α) (body : Nat → α → S → Option (S ⊕ O)) (out : S → O)
    (hin : ∀ (i : Nat) a s, xs[i + 1]? = some a → step (emb ((i : Int) + 1) s) = stepTo emb (i + 1) (body (i + 1) a s))
    (hend : ∀ s, step (emb (xs.length : Int) s) = some (.inr (out s))) (h1 : 1 ≤ xs.length) (s : S) : loop step (emb 1 s) = foldL body out 1 (xs.drop 1) s := by
  have key : ∀ (l : List α) (i : Nat) (s : S), i + 1 ≤ xs.length → xs.drop (i + 1) = l → loop step (emb ((i + 1 : Nat) : Int) s) = foldL body out (i + 1) l s := by
    intro l
    induction l with
    | nil =>
      intro i s hi hl
      have : i + 1 = xs.length := by
        have := congrArg List.length hl
        simp at this; omega
      rw [this, loop_eq, hend]
      rfl
    | cons a l ih =>
      intro i s hi hl
      have ha : xs[i + 1]? = some a := by
        have := congrArg (fun l => l[0]?) hl
        simpa using this
      have hlt : i + 1 < xs.length := (List.getElem?_eq_some_iff.1 ha).1
      have hd : xs.drop (i + 1 + 1) = l := by rw [← List.drop_drop, hl]; rfl
      have hs := hin i a s ha
      rw [loop_eq, show ((i + 1 : Nat) : Int) = (i : Int) + 1 by omega, hs]
      simp only [foldL]
      cases hb : body (i + 1) a s with
      | none => rfl
      | some r =>
        cases r with
        | inr o => rfl
        | inl s' =>
          simp only [stepTo]
          have := ih (i + 1) s' (by omega) hd
          rwa [show ((i + 1 + 1 : Nat) : Int) = ((i + 1 : Nat) : Int) + 1 by omega] at this
  exact key (xs.drop 1) 0 s h1 rfl

def far (q : DPt) : Bool := decide (q.1 < -1048576) || (decide (1048576 < q.1) || (decide (q.2.1 < -1048576) || decide (1048576 < q.2.1)))
def ptEq (a b : DPt) : Bool := decide (a.1 = b.1) && decide (a.2.1 = b.2.1)
def adj : List DPt → Bool
  | a :: b :: l => ptEq a b || adj (b :: l)
  | _ => false
def partE (kind : Int) (p : List DPt) : Int :=
  if p.any far = true then 1 else if kind = 1 then (if p.length = 1 then 0 else 3) else if kind = 2 then (if p.length < 2 then 3 else if adj p = true then 3 else 0) else 0
theorem clamp_iff (x : Int) : decide (x = maxI (-1048576) (minI x 1048576)) = !(decide (x < -1048576) || decide (1048576 < x)) := by
  rw [Bool.eq_iff_iff]
  simp only [decide_eq_true_eq, Bool.not_eq_true', Bool.or_eq_false_iff, decide_eq_false_iff_not]
  unfold maxI minI
  split <;> split <;> omega
theorem r86_eq (q : DPt) : r152 (q, ()) = some (far q, ()) := by
  obtain ⟨x, y, ⟨⟩⟩ := q
  unfold r152 r153 r186 r211
  simp only [Option.bind_some]
  have hw : IntKind.wrap .i64 (0 - 1048576) = -1048576 := by rw [wrap64 (by omega) (by omega)]; rfl
  rw [hw, clamp_iff, clamp_iff]
  unfold far
  congr 2
  simp only
  cases decide (x < -1048576) <;> cases decide (1048576 < x) <;> cases decide (y < -1048576) <;> cases decide (1048576 < y) <;> rfl
theorem r48_eq (p : List DPt) : r114 (p, ()) = some (decide ((200 : Int) < (p.length : Int)), ()) := rfl
theorem r85_eq (p : List DPt) (hl : p.length ≤ 9223372036854775807) : r151_152 (p, ((), ())) = some (p.any far, ()) := by
  unfold r151_152 r185_152
  rw [loop_list (fun i _ => ((i, ()), ())) p (fun i a _ => found (if far a then some (Sum.inl (((i : Int), ()), ())) else none)) (fun _ => Sum.inr (Sum.inl ((), ()))) (fun i a _ h => ?_) (fun _ => ?_) ()]
  · obtain ⟨r, h1, h2⟩ := foldL_index (body := fun (i : Nat) a (_ : Unit) => found (if far a then some (Sum.inl (((i : Int), ()), ())) else none)) (out := fun _ => (Sum.inr (Sum.inl ((), ())) : ((Int × Unit) × Unit) ⊕ (Unit × Unit) ⊕ Empty)) far (fun i => Sum.inl ((i, ()), ())) p 0 (fun j a _ => rfl)
    rw [h1]
    rcases h2 with ⟨h2, j, rfl⟩ | ⟨h2, rfl⟩
    · rw [h2]; simp [sumE]
    · rw [h2]; rfl
  · have hlt := lt_of_get h
    have h86 : r152 ((a.1, (a.2.1, ())), ()) = some (far a, ()) := r86_eq a
    simp only [dec_lt hlt, inB_lt hlt, Int.toNat_natCast, h, cond_true, Option.bind_some, h86]
    rw [wrapS hlt hl]
    cases far a <;> rfl
  · simp only [dec_nlt, cond_false]
end Go.Proofs.YtfmadjkakghohaaGreatDoor.I

namespace Go.Proofs.YtfmadjkakghohaaGreatDoor.I
open Go.RowKit
set_option linter.unusedVariables false
set_option linter.constructorNameAsVariable false

theorem ptEq_comm (a b : DPt) : ptEq a b = ptEq b a := by
  unfold ptEq
  have h1 : decide (a.1 = b.1) = decide (b.1 = a.1) := decide_eq_decide.2 eq_comm
  have h2 : decide (a.2.1 = b.2.1) = decide (b.2.1 = a.2.1) := decide_eq_decide.2 eq_comm
  rw [h1, h2]
abbrev O3 := ((Int × Unit) × Unit) ⊕ (Unit × Unit) ⊕ Empty
def w3 (e : Int) : O3 := Sum.inl ((e, ()), ())
def w0 : O3 := Sum.inr (Sum.inl ((), ()))
theorem scan_adj (p : List DPt) (a : DPt) : scan (fun p b => if ptEq p b then some (w3 3) else none) id w0 a p = if adj (a :: p) then w3 3 else w0 := by
  induction p generalizing a with
  | nil => simp [adj, scan]
  | cons b l ih =>
    simp only [adj, scan]
    by_cases h : ptEq a b = true
    · simp [h]
    · simpa [h] using ih b
theorem foldL_ahead {body : Nat → DPt → Unit → Option (Unit ⊕ O3)} (xs : List DPt) (h : ∀ i a, xs[i]? = some a → body i a () = found (match xs[i + 1]? with | some b => if ptEq a b then some (w3 3) else none | none => none)) :
    ∀ (l : List DPt) (i : Nat), xs.drop i = l → foldL body (fun _ => w0) i l () = some (if adj l then w3 3 else w0)
  | [], _, _ => rfl
  | a :: l, i, hl => by
    have ha : xs[i]? = some a := by
      have := congrArg (fun l => l[0]?) hl
      simpa using this
    have hd : xs.drop (i + 1) = l := by rw [← List.drop_drop, hl]; rfl
    have hn : xs[i + 1]? = l[0]? := by rw [← hd]; simp
    simp only [foldL, h i a ha, hn]
    cases l with
    | nil =>
      simp only [List.getElem?_nil, found]
      rfl
    | cons b l =>
      simp only [List.getElem?_cons_zero, adj]
      by_cases hp : ptEq a b = true
      · simp [hp, found]
      · have ih := foldL_ahead xs h (b :: l) (i + 1) hd
        simpa [hp, found] using ih
theorem foldL_nothing {α O : Type} {body : Nat → α → Unit → Option (Unit ⊕ O)} {out : Unit → O} : ∀ (l : List α) (i : Nat), (∀ i a, a ∈ l → body i a () = some (.inl ())) → foldL body out i l () = some (out ())
  | [], _, _ => rfl
  | a :: l, i, h => by
    simp only [foldL, h i a (by simp)]
    exact foldL_nothing l (i + 1) (fun i b hb => h i b (by simp [hb]))
set_option maxHeartbeats 1000000 in
theorem r49_eq (kind : Int) (p : List DPt) (hl : p.length ≤ 9223372036854775807) : r115 (kind, (p, ())) = some (partE kind p, ()) := by
  unfold r115 partE
  simp only [r85_eq p hl, Option.bind_some]
  cases hf : p.any far with
  | true => simp
  | false =>
    simp only [cond_false, Bool.false_eq_true, if_false]
    by_cases h1 : kind = 1
    · subst h1
      by_cases h2 : p.length = 1
      · simp [h2]
      · have : ¬ ((p.length : Int) = 1) := by omega
        simp [h2, this]
    · by_cases h2 : kind = 2
      · subst h2
        by_cases h3 : p.length < 2
        · have : ((p.length : Int) < 2) := by omega
          simp [h3, this]
        · have h3' : ¬ ((p.length : Int) < 2) := by omega
          simp only [h1, h3, h3', decide_false, decide_true, cond_true, cond_false, if_false, if_true]
          rw [loop_list1 (fun i _ => ((i, ()), ())) p (fun i a _ => found (if ptEq (prevOf id a p i) a then some (w3 3) else none)) (fun _ => w0) (fun i a _ h => ?_) (fun _ => ?_) (by omega) ()]
          · obtain ⟨a, l, rfl⟩ : ∃ a l, p = a :: l := by
              cases p with
              | nil => simp at h3
              | cons a l => exact ⟨a, l, rfl⟩
            have := foldL_prev (body := fun i (b : DPt) _ => found (if ptEq (prevOf id b (a :: l) i) b then some (w3 3) else none)) (fun p b => if ptEq p b then some (w3 3) else none) id w0 a (a :: l) (fun i b hb => by
              cases i with
              | zero => simp at hb; subst hb; rfl
              | succ i =>
                have hlt := lt_of_get hb
                have : ∃ c, (a :: l)[i]? = some c := ⟨_, List.getElem?_eq_getElem (by omega)⟩
                obtain ⟨c, hc⟩ := this
                simp only [prevOf, hc]) l 1 rfl
            rw [show (a :: l).drop 1 = l from rfl, this]
            simp only [prevOf, List.getElem?_cons_zero, id, scan_adj, Option.bind_some]
            cases adj (a :: l) <;> rfl
          · have hlt := lt_of_get h
            obtain ⟨b, hb⟩ : ∃ b, p[i]? = some b := ⟨_, List.getElem?_eq_getElem (by omega)⟩
            have e1 : ((i : Int) + 1) = ((i + 1 : Nat) : Int) := by omega
            have hw : IntKind.wrap .i64 (((i + 1 : Nat) : Int) - 1) = (i : Int) := by rw [wrap64 (by omega) (by omega)]; omega
            simp only [e1, dec_lt hlt, inB_lt hlt, Int.toNat_natCast, h, cond_true, Option.bind_some, hw, inB_lt (show i < p.length by omega), hb, prevOf, id]
            rw [wrapS hlt hl, ← show ptEq a b = (decide (a.1 = b.1) && decide (a.2.1 = b.2.1)) from rfl, ptEq_comm a b]
            cases ptEq b a <;> rfl
          · simp only [dec_nlt, cond_false]
            rfl
      · simp [h1, h2]

/-- Both checks of parts, as far as the areas. -/
def partsE (area : Option (Int × Unit)) (kind : Int) (l : List (List DPt)) : Option (Int × Unit) :=
  if kind < 1 then some (8, ()) else if 3 < kind then some (8, ()) else if 20 < l.length then some (2, ()) else if l.any (fun p => decide ((200 : Int) < (p.length : Int))) = true then some (2, ()) else if l.length = 0 then some (4, ())
  else match l.findSome? (fun p => if partE kind p = 0 then none else some (partE kind p)) with
    | some e => some (e, ())
    | none => if kind = 3 then area else some (0, ())
theorem parts_bounds {l : List (List DPt)} (h : small (.slice (.slice (.pair (.int .i64) (.pair (.int .i64) .unit)))) l) : l.length ≤ 9223372036854775807 ∧ ∀ p ∈ l, p.length ≤ 9223372036854775807 := by
  have hm : maxLen = 9223372036854775807 := rfl
  simp only [small, hm] at h
  exact ⟨h.1, fun p hp => (h.2 p hp).1⟩
theorem find_w3 (F : List DPt → Int) (l : List (List DPt)) : (l.findSome? (fun p => if F p = 0 then none else some (w3 (F p)))).getD w0 = match l.findSome? (fun p => if F p = 0 then none else some (F p)) with
    | some e => w3 e
    | none => w0 := by
  induction l with
  | nil => rfl
  | cons p l ih =>
    simp only [List.findSome?_cons]
    by_cases h : F p = 0
    · simpa [h] using ih
    · simp [h]
theorem r47_eq (l : List (List DPt)) (hl : l.length ≤ 9223372036854775807) : r113_114 (l, ((), ())) = some (l.any (fun p => decide ((200 : Int) < (p.length : Int))), ()) := by
  unfold r113_114 r150_114
  rw [loop_list (fun i _ => ((i, ()), ())) l (fun i p _ => found (if (fun p : List DPt => decide ((200 : Int) < (p.length : Int))) p then some (w3 (i : Int)) else none)) (fun _ => w0) (fun i a _ h => ?_) (fun _ => ?_) ()]
  · obtain ⟨r, h1, h2⟩ := foldL_index (body := fun (i : Nat) p (_ : Unit) => found (if (fun p : List DPt => decide ((200 : Int) < (p.length : Int))) p then some (w3 (i : Int)) else none)) (out := fun _ => w0) (fun p : List DPt => decide ((200 : Int) < (p.length : Int))) w3 l 0 (fun j a _ => by rw [Nat.zero_add])
    rw [h1]
    rcases h2 with ⟨h2, j, rfl⟩ | ⟨h2, rfl⟩
    · rw [h2]; simp [sumE, w3]
    · rw [h2]; rfl
  · have hlt := lt_of_get h
    simp only [dec_lt hlt, inB_lt hlt, Int.toNat_natCast, h, cond_true, Option.bind_some]
    rw [wrapS hlt hl, r48_eq a]
    by_cases hd : (200 : Int) < (a.length : Int)
    · simp [hd, found, stepTo, w3]
    · simp [hd, found, stepTo]
  · simp only [dec_nlt, cond_false]
    rfl
set_option maxHeartbeats 1000000 in
theorem r20_eq (kind : Int) (l : List (List DPt)) (hs : small (.slice (.slice (.pair (.int .i64) (.pair (.int .i64) .unit)))) l) : r64 (kind, (l, ())) = partsE (Option.bind (r75 (l, ())) fun x => some (x.1, ())) kind l := by
  obtain ⟨hl, hb⟩ := parts_bounds hs
  unfold r64 partsE
  simp only [r47_eq l hl, Option.bind_some]
  by_cases h1 : kind < 1
  · simp [h1]
  by_cases h2 : 3 < kind
  · simp [h1, h2]
  by_cases h3 : 20 < l.length
  · have : (20 : Int) < (l.length : Int) := by omega
    simp [h1, h2, h3, this]
  have h3' : ¬ (20 : Int) < (l.length : Int) := by omega
  generalize l.any (fun p => decide ((200 : Int) < (p.length : Int))) = long
  by_cases h4 : l.length = 0
  · cases long <;> simp [h1, h2, h4]
  have h4' : ¬ (l.length : Int) = 0 := by omega
  simp only [h1, h2, h3, h3', h4, h4', decide_false, cond_false, if_false]
  cases long with
  | true => rfl
  | false =>
    simp only [cond_false, Bool.false_eq_true, if_false]
    rw [loop_list (fun i _ => ((i, ()), ())) l (fun i p _ => found (if partE kind p = 0 then none else some (w3 (partE kind p)))) (fun _ => w0) (fun i a _ h => ?_) (fun _ => ?_) ()]
    · rw [foldL_find (fun p => if partE kind p = 0 then none else some (w3 (partE kind p))) l 0 (fun j a _ => rfl), find_w3 (partE kind) l]
      simp only [Option.bind_some]
      cases l.findSome? (fun p => if partE kind p = 0 then none else some (partE kind p)) with
      | some e => rfl
      | none =>
        by_cases h5 : kind = 3
        · simp [h5, w0, sumE]
        · simp [h5, w0, sumE]
    · have hlt := lt_of_get h
      simp only [dec_lt hlt, inB_lt hlt, Int.toNat_natCast, h, cond_true, Option.bind_some, r49_eq kind a (hb a (List.mem_of_getElem? h))]
      rw [wrapS hlt hl]
      by_cases hp : partE kind a = 0
      · simp [hp, found, stepTo]
      · simp [hp, found, stepTo, w3]
    · simp only [dec_nlt, cond_false]
      rfl
set_option maxHeartbeats 4000000 in
theorem r21_eq (kind : Int) (l : List (List DPt)) (hs : small (.slice (.slice (.pair (.int .i64) (.pair (.int .i64) .unit)))) l) : r39 (kind, (l, ())) = partsE (Option.bind (r75 (l, ())) fun x => some (x.1, ())) kind l := by
  obtain ⟨hl, hb⟩ := parts_bounds hs
  unfold r39 partsE
  by_cases h1 : kind < 1
  · simp [h1]
  by_cases h2 : 3 < kind
  · simp [h1, h2]
  simp only [h1, h2, decide_false, cond_false, if_false]
  rw [loop_list (fun i (b : Bool) => ((b, (i, ())), ())) l (fun i p b => some (Sum.inl (b || decide ((200 : Int) < (p.length : Int))))) (fun b => Sum.inl ((b, ()), ())) (fun i a b h => ?_) (fun _ => ?_) (decide ((20 : Int) < (l.length : Int)))]
  · have key : ∀ (m : List (List DPt)) (i : Nat) (b : Bool), foldL (fun (i : Nat) (p : List DPt) (b : Bool) => (some (Sum.inl (b || decide ((200 : Int) < (p.length : Int)))) : Option (Bool ⊕ (((Bool × Unit) × Unit) ⊕ Empty)))) (fun b => Sum.inl ((b, ()), ())) i m b = some (Sum.inl ((b || m.any (fun p => decide ((200 : Int) < (p.length : Int))), ()), ())) := by
      intro m
      induction m with
      | nil => intro i b; simp [foldL]
      | cons p m ih => intro i b; simp only [foldL, ih, List.any_cons, Bool.or_assoc]
    rw [key]
    simp only [Option.bind_some, sumE]
    by_cases h3 : 20 < l.length
    · have : (20 : Int) < (l.length : Int) := by omega
      simp [h3, this]
    have h3' : ¬ (20 : Int) < (l.length : Int) := by omega
    simp only [h3, h3', decide_false, Bool.false_or, if_false]
    generalize l.any (fun p => decide ((200 : Int) < (p.length : Int))) = long
    cases long with
    | true => rfl
    | false =>
      simp only [cond_false, Bool.false_eq_true, if_false]
      by_cases h4 : l.length = 0
      · simp [h4]
      have h4' : ¬ (l.length : Int) = 0 := by omega
      simp only [h4, h4', decide_false, cond_false, if_false]
      rw [loop_list (fun i _ => ((i, ()), ())) l (fun i p _ => found (if partE kind p = 0 then none else some (w3 (partE kind p)))) (fun _ => w0) (fun i a _ h => ?_) (fun _ => ?_) ()]
      · rw [foldL_find (fun p => if partE kind p = 0 then none else some (w3 (partE kind p))) l 0 (fun j a _ => rfl), find_w3 (partE kind) l]
        simp only [Option.bind_some]
        cases l.findSome? (fun p => if partE kind p = 0 then none else some (partE kind p)) with
        | some e => rfl
        | none =>
          by_cases h5 : kind = 3
          · simp [h5, w0, sumE]
          · simp [h5, w0, sumE]
      · have hlt := lt_of_get h
        have hal := hb a (List.mem_of_getElem? h)
        simp only [dec_lt hlt, inB_lt hlt, Int.toNat_natCast, h, cond_true, Option.bind_some]
        rw [wrapS hlt hl]
        rw [loop_list (fun i _ => ((i, ()), ())) a (fun i q _ => found (if far q then some (w3 1) else none)) (fun _ => w0) (fun i q _ hq => ?_) (fun _ => ?_) ()]
        · rw [foldL_find (fun q => if far q then some (w3 1) else none) a 0 (fun j q _ => rfl)]
          have hfar : ∀ (m : List DPt), (m.findSome? (fun q => if far q then some (w3 1) else none)).getD w0 = cond (m.any far) (w3 1) w0 := by
            intro m
            induction m with
            | nil => rfl
            | cons q m ih =>
              simp only [List.findSome?_cons, List.any_cons]
              by_cases hq : far q = true
              · simp [hq]
              · have hq' : far q = false := by simpa using hq
                simp [hq', ih]
          rw [hfar]
          rw [loop_list (fun i _ => ((i, ()), ())) a (fun i q _ => found (if kind = 2 then (match a[i + 1]? with | some b => if ptEq q b then some (w3 3) else none | none => none) else none)) (fun _ => w0) (fun i q _ hq => ?_) (fun _ => ?_) ()]
          · have hadj : foldL (fun (i : Nat) (q : DPt) (_ : Unit) => found (if kind = 2 then (match a[i + 1]? with | some b => if ptEq q b then some (w3 3) else none | none => none) else none)) (fun _ => w0) 0 a () = some (if kind = 2 ∧ adj a = true then w3 3 else w0) := by
              by_cases hk : kind = 2
              · simp only [hk, if_true, true_and]
                exact foldL_ahead a (fun i q _ => rfl) a 0 rfl
              · simp only [hk, if_false, false_and]
                exact foldL_nothing a 0 (fun i q _ => rfl)
            rw [hadj]
            unfold partE
            simp only [Option.bind_some]
            by_cases hf : a.any far = true
            · simp [hf, found, stepTo, w3, sumE]
            · have hf' : a.any far = false := by simpa using hf
              by_cases k1 : kind = 1
              · subst k1
                by_cases hl1 : a.length = 1
                · simp [hf', hl1, w0, sumE, found, stepTo]
                · have hl1' : ¬ (a.length : Int) = 1 := by omega
                  simp [hf', hl1, hl1', w0, w3, sumE, found, stepTo]
              · by_cases k2 : kind = 2
                · subst k2
                  by_cases hl1 : a.length < 2
                  · have hl1' : (a.length : Int) < 2 := by omega
                    simp [hf', hl1, hl1', w0, w3, sumE, found, stepTo]
                  · have hl1' : ¬ (a.length : Int) < 2 := by omega
                    by_cases ha : adj a = true
                    · simp [hf', hl1, hl1', ha, w0, w3, sumE, found, stepTo]
                    · simp [hf', hl1, hl1', ha, w0, w3, sumE, found, stepTo]
                · simp [hf', k1, k2, w0, sumE, found, stepTo]
          · have hqt := lt_of_get hq
            simp only [dec_lt hqt, inB_lt hqt, Int.toNat_natCast, hq, cond_true, Option.bind_some]
            rw [wrapS hqt hal]
            by_cases hk : kind = 2
            · subst hk
              by_cases hn : i + 1 < a.length
              · obtain ⟨b, hb1⟩ : ∃ b, a[i + 1]? = some b := ⟨_, List.getElem?_eq_getElem hn⟩
                have e1 : ((i : Int) + 1) = ((i + 1 : Nat) : Int) := by omega
                simp only [e1, dec_lt hn, inB_lt hn, Int.toNat_natCast, hb1, cond_true, Option.bind_some, decide_true]
                rw [← show ptEq q b = (decide (q.1 = b.1) && decide (q.2.1 = b.2.1)) from rfl]
                by_cases hp : ptEq q b = true
                · simp [hp, found, stepTo, w3]
                · have hp' : ptEq q b = false := by simpa using hp
                  simp [hp', found, stepTo]
              · have hb1 : a[i + 1]? = none := List.getElem?_eq_none_iff.2 (by omega)
                have e2 : decide (((i : Int) + 1) < (a.length : Int)) = false := by simp; omega
                simp [e2, hb1, found, stepTo]
            · simp [hk, found, stepTo]
          · simp only [dec_nlt, cond_false]
            rfl
        · have hqt := lt_of_get hq
          simp only [dec_lt hqt, inB_lt hqt, Int.toNat_natCast, hq, cond_true, Option.bind_some]
          rw [wrapS hqt hal]
          unfold far
          cases decide (q.1 < -1048576) <;> cases decide (1048576 < q.1) <;> cases decide (q.2.1 < -1048576) <;> cases decide (1048576 < q.2.1) <;> rfl
        · simp only [dec_nlt, cond_false]
          rfl
      · simp only [dec_nlt, cond_false]
        rfl
  · have hlt := lt_of_get h
    simp only [dec_lt hlt, inB_lt hlt, Int.toNat_natCast, h, cond_true, Option.bind_some]
    rw [wrapS hlt hl]
    cases b <;> rfl
  · simp only [dec_nlt, cond_false]
end Go.Proofs.YtfmadjkakghohaaGreatDoor.I

namespace Go.Proofs.YtfmadjkakghohaaGreatDoor.I
open Go.RowKit
set_option linter.unusedVariables false
set_option linter.constructorNameAsVariable false
def Tot {α : Type} (o : Option α) : Prop := ∃ y, o = some y
theorem tot_some {α : Type} (y : α) : Tot (some y) := ⟨y, rfl⟩
theorem tot_bind {α β : Type} {o : Option α} {f : α → Option β} (h : Tot o) (k : ∀ y, Tot (f y)) : Tot (o.bind f) := by
  obtain ⟨y, rfl⟩ := h
  exact k y
theorem tot_cond {α : Type} {b : Bool} {x y : Option α} (h : Tot x) (k : Tot y) : Tot (cond b x y) := by
  cases b
  · exact k
  · exact h
/-- A loop that counts. -/
theorem tot_count {S D O : Type} {step : D → Option (D ⊕ O)} (emb : Int → S → D) (Inv : Nat → S → Prop) (n : Nat)
    (hin : ∀ (i : Nat) s, i < n → Inv i s → ∃ r, step (emb i s) = some r ∧ ((∃ s', r = .inl (emb ((i : Int) + 1) s') ∧ Inv (i + 1) s') ∨ ∃ o, r = .inr o))
    (hend : ∀ s, ∃ o, step (emb (n : Int) s) = some (.inr o)) (s : S) (h0 : Inv 0 s) : Tot (loop step (emb 0 s)) := by
  have key : ∀ (m i : Nat) (s : S), n - i = m → i ≤ n → Inv i s → Tot (loop step (emb (i : Int) s)) := by
    intro m
    induction m with
    | zero =>
      intro i s hm hi hI
      have : i = n := by omega
      subst this
      obtain ⟨o, ho⟩ := hend s
      exact ⟨o, by rw [loop_eq, ho]⟩
    | succ m ih =>
      intro i s hm hi hI
      obtain ⟨r, hr, h⟩ := hin i s (by omega) hI
      rw [loop_eq, hr]
      rcases h with ⟨s', rfl, hI'⟩ | ⟨o, rfl⟩
      · exact ih (i + 1) s' (by omega) (by omega) hI'
      · exact ⟨o, rfl⟩
  exact key n 0 s (by omega) (Nat.zero_le _) h0
theorem tot_sumE {α β γ : Type} {f : α → Option γ} {g : β → Option γ} (h : ∀ a, Tot (f a)) (k : ∀ b, Tot (g b)) (o : α ⊕ β) : Tot (sumE f g o) := by
  cases o
  · exact h _
  · exact k _
theorem tot_emptyE {γ : Type} (o : Empty) : Tot (emptyE (γ := Option γ) o) := nomatch o
/-- What a round may come to. -/
def Good {S D O : Type} (emb : Int → S → D) (Inv : Nat → S → Prop) (i : Nat) (x : Option (D ⊕ O)) : Prop := (∃ s', x = some (.inl (emb ((i : Int) + 1) s')) ∧ Inv (i + 1) s') ∨ ∃ o, x = some (.inr o)
section
variable {S D O : Type} {emb : Int → S → D} {Inv : Nat → S → Prop} {i : Nat}
theorem good_cond {b : Bool} {x y : Option (D ⊕ O)} (h : Good emb Inv i x) (k : Good emb Inv i y) : Good emb Inv i (cond b x y) := by
  cases b
  · exact k
  · exact h
theorem good_bind {α : Type} {o : Option α} {f : α → Option (D ⊕ O)} (h : Tot o) (k : ∀ y, Good emb Inv i (f y)) : Good emb Inv i (o.bind f) := by
  obtain ⟨y, rfl⟩ := h
  exact k y
theorem good_out (o : O) : Good emb Inv i (some (.inr o) : Option (D ⊕ O)) := .inr ⟨o, rfl⟩
theorem good_next (s' : S) (h : Inv (i + 1) s') : Good emb Inv i (some (.inl (emb ((i : Int) + 1) s')) : Option (D ⊕ O)) := .inl ⟨s', rfl, h⟩
theorem good_sumE {α β : Type} {f : α → Option (D ⊕ O)} {g : β → Option (D ⊕ O)} (h : ∀ a, Good emb Inv i (f a)) (k : ∀ b, Good emb Inv i (g b)) (o : α ⊕ β) : Good emb Inv i (sumE f g o) := by
  cases o
  · exact h _
  · exact k _
theorem good_emptyE (o : Empty) : Good emb Inv i (emptyE (γ := Option (D ⊕ O)) o) := nomatch o
theorem tot_loop {step : D → Option (D ⊕ O)} (emb : Int → S → D) (Inv : Nat → S → Prop) (n : Nat) (hin : ∀ (i : Nat) s, i < n → Inv i s → Good emb Inv i (step (emb i s))) (hend : ∀ s, ∃ o, step (emb (n : Int) s) = some (.inr o)) (s : S) (h0 : Inv 0 s) : Tot (loop step (emb 0 s)) :=
  tot_count emb Inv n (fun i s hi hI => by
    rcases hin i s hi hI with ⟨s', h1, h2⟩ | ⟨o, h1⟩
    · exact ⟨_, h1, .inl ⟨s', rfl, h2⟩⟩
    · exact ⟨_, h1, .inr ⟨o, rfl⟩⟩) hend s h0
end
theorem at_next {α : Type} {xs : List α} {i : Nat} (hi : i < xs.length) (hl : xs.length ≤ 9223372036854775807) :
    inB (Int.tmod (IntKind.wrap .i64 ((i : Int) + 1)) (xs.length : Int)) xs.length = true ∧ ∃ a, xs[Int.toNat (Int.tmod (IntKind.wrap .i64 ((i : Int) + 1)) (xs.length : Int))]? = some a := by
  rw [wrapS hi hl, show (i : Int) + 1 = ((i + 1 : Nat) : Int) by omega, ← Int.ofNat_tmod]
  have hlt : (i + 1) % xs.length < xs.length := Nat.mod_lt _ (by omega)
  exact ⟨inB_lt hlt, by rw [Int.toNat_natCast]; exact ⟨_, List.getElem?_eq_getElem hlt⟩⟩
theorem t110 (x) : Tot (r186 x) := tot_bind (tot_some _) fun _ => tot_bind (tot_some _) fun _ => tot_some _
theorem t153 (x) : Tot (r226 x) := tot_bind (t110 _) fun _ => tot_bind (t110 _) fun _ => tot_some _
theorem t149 (x) : Tot (r221 x) := tot_bind (t153 _) fun _ => tot_bind (t153 _) fun _ => tot_some _
theorem t154 (x) : Tot (r227 x) := tot_bind (t153 _) fun _ => tot_bind (t153 _) fun _ => tot_some _
theorem t36 (x) : Tot (r157 x) := tot_bind (tot_some _) fun _ => tot_bind (tot_some _) fun _ => tot_cond (tot_cond (tot_some _) (tot_some _)) (tot_cond (tot_some _) (tot_cond (tot_some _) (tot_cond (tot_some _) (tot_some _))))
theorem t143 (x) : Tot (r214 x) := tot_bind (t149 _) fun _ => tot_bind (t36 _) fun _ => tot_some _
theorem t87 (x) : Tot (r153 x) := tot_bind (t110 _) fun _ => tot_some _
theorem t111 (x) : Tot (r165 x) := tot_bind (t87 _) fun _ => tot_some _
theorem t151 (x) : Tot (r223 x) := tot_bind (t143 _) fun _ => tot_cond (tot_bind (t154 _) fun _ => tot_some _) (tot_some _)
abbrev IU : Type := (Int × Unit) × Unit
@[reducible] def embI (i : Int) (_ : Unit) : IU := ((i, ()), ())
theorem t145 (l : List Int) (n : Int) (hl : l.length ≤ 9223372036854775807) : Tot (r85 (l, (n, ()))) := by
  unfold r85
  refine tot_bind (tot_loop embI (fun _ _ => True) l.length (fun i _ hi _ => ?_) (fun _ => ?_) () trivial) (tot_sumE (fun _ => tot_some _) (tot_sumE (fun _ => tot_some _) tot_emptyE))
  · obtain ⟨a, ha⟩ : ∃ a, l[i]? = some a := ⟨_, List.getElem?_eq_getElem hi⟩
    dsimp only [embI]
    simp only [dec_lt hi, inB_lt hi, Int.toNat_natCast, ha, cond_true, Option.bind_some]
    rw [wrapS hi hl]
    exact good_cond (good_out _) (good_next () trivial)
  · dsimp only [embI]
    simp only [dec_nlt, cond_false]
    exact ⟨_, rfl⟩
theorem t130 (l : List Int) (n : Int) (hl : l.length ≤ 9223372036854775807) : Tot (r53 (l, (n, ()))) := tot_bind (t145 l n hl) fun _ => tot_some _
theorem t109 (l : List DPt) (hl : l.length ≤ 9223372036854775807) : Tot (r185_165 (l, ((), ()))) := by
  unfold r185_165
  refine tot_bind (tot_loop embI (fun _ _ => True) l.length (fun i _ hi _ => ?_) (fun _ => ?_) () trivial) (tot_sumE (fun _ => tot_some _) (tot_sumE (fun _ => tot_some _) tot_emptyE))
  · obtain ⟨a, ha⟩ : ∃ a, l[i]? = some a := ⟨_, List.getElem?_eq_getElem hi⟩
    dsimp only [embI]
    simp only [dec_lt hi, inB_lt hi, Int.toNat_natCast, ha, cond_true, Option.bind_some]
    rw [wrapS hi hl]
    exact good_bind (t111 _) fun _ => good_cond (good_out _) (good_next () trivial)
  · dsimp only [embI]
    simp only [dec_nlt, cond_false]
    exact ⟨_, rfl⟩
theorem t85 (l : List DPt) (hl : l.length ≤ 9223372036854775807) : Tot (r151_165 (l, ((), ()))) := tot_bind (t109 l hl) fun _ => tot_some _
/-- A shared point is listed once. -/
theorem t150 (x) (d : List DPt) (hd : d.length ≤ 3) : ∃ d', r222 x (d, ()) = some ((), (d', ())) ∧ d'.length ≤ d.length + 1 := by
  unfold r222
  obtain ⟨y, hy⟩ := t151 ((x.2.1.1, (x.2.1.2.1, ())), ((x.2.2.1.1, (x.2.2.1.2.1, ())), ((x.1.1, (x.1.2.1, ())), ())))
  simp only [hy, Option.bind_some]
  cases y.1 with
  | false => exact ⟨d, rfl, by omega⟩
  | true =>
    simp only [Bool.not_true, cond_false]
    have hl : Tot (loop (fun (x1 : IU) => (cond (Decidable.decide (LT.lt x1.1.1 (Nat.cast (List.length d) : Int))) (cond (inB x1.1.1 (List.length d)) (Option.bind (GetElem?.getElem? d (Int.toNat x1.1.1)) (fun x2 => (cond (Bool.and (Decidable.decide (Eq x2.1 x.1.1)) (Decidable.decide (Eq x2.2.1 x.1.2.1))) (Option.some (Sum.inr (Sum.inl (Unit.unit, Unit.unit)))) (Option.some (Sum.inl (((IntKind.wrap IntKind.i64 (HAdd.hAdd x1.1.1 (1 : Int))), Unit.unit), Unit.unit)))))) (Option.none)) (Option.some (Sum.inr (Sum.inr (Sum.inl (Unit.unit, Unit.unit) : (Unit × Unit) ⊕ Empty) : (Unit × Unit) ⊕ (Unit × Unit) ⊕ Empty))))) (embI 0 ())) := by
      refine tot_loop embI (fun _ _ => True) d.length (fun i _ hi _ => ?_) (fun _ => ?_) () trivial
      · obtain ⟨a, ha⟩ : ∃ a, d[i]? = some a := ⟨_, List.getElem?_eq_getElem hi⟩
        dsimp only [embI]
        simp only [dec_lt hi, inB_lt hi, Int.toNat_natCast, ha, cond_true, Option.bind_some]
        rw [wrapS hi (by omega)]
        exact good_cond (good_out _) (good_next () trivial)
      · dsimp only [embI]
        simp only [dec_nlt, cond_false]
        exact ⟨_, rfl⟩
    obtain ⟨o, ho⟩ := hl
    refine Exists.imp (fun d' h => ⟨?_, h.2⟩) (p := fun d' => sumE (fun _ => some ((), (d, ()))) (sumE (fun _ => (cond (fits (d.length + (List.cons (x.1.1, (x.1.2.1, ())) []).length) 16) (some ((), ((d ++ [(x.1.1, (x.1.2.1, ()))]), ()))) none)) emptyE) o = some ((), (d', ())) ∧ d'.length ≤ d.length + 1) ?_
    · refine Eq.trans ?_ h.1
      exact congrArg (fun z => Option.bind z _) ho
    · rcases o with o | o | o
      · exact ⟨d, rfl, by omega⟩
      · refine ⟨d ++ [(x.1.1, (x.1.2.1, ()))], ?_, by simp⟩
        have : fits (d.length + 1) 16 = true := by unfold fits; simp; omega
        simp only [sumE, List.length_cons, List.length_nil, this, cond_true]
      · exact nomatch o
theorem t144 (x) : Tot (r215 x) := by
  unfold r215
  obtain ⟨d1, h1, l1⟩ := t150 ((x.1.1, (x.1.2.1, ())), ((x.2.2.1.1, (x.2.2.1.2.1, ())), ((x.2.2.2.1.1, (x.2.2.2.1.2.1, ())), ()))) [] (by simp)
  obtain ⟨d2, h2, l2⟩ := t150 ((x.2.1.1, (x.2.1.2.1, ())), ((x.2.2.1.1, (x.2.2.1.2.1, ())), ((x.2.2.2.1.1, (x.2.2.2.1.2.1, ())), ()))) d1 (by simp at l1; omega)
  obtain ⟨d3, h3, l3⟩ := t150 ((x.2.2.1.1, (x.2.2.1.2.1, ())), ((x.1.1, (x.1.2.1, ())), ((x.2.1.1, (x.2.1.2.1, ())), ()))) d2 (by simp at l1; omega)
  obtain ⟨d4, h4, l4⟩ := t150 ((x.2.2.2.1.1, (x.2.2.2.1.2.1, ())), ((x.1.1, (x.1.2.1, ())), ((x.2.1.1, (x.2.1.2.1, ())), ()))) d3 (by simp at l1; omega)
  simp only [h1, h2, h3, h4, Option.bind_some]
  exact tot_some _
theorem t128 (x) : Tot (r196 x) := tot_bind (t110 _) fun _ => tot_bind (t110 _) fun _ => tot_bind (t110 _) fun _ => tot_bind (t110 _) fun _ => tot_bind (t143 _) fun _ => tot_bind (t143 _) fun _ =>
  tot_cond (tot_bind (t143 _) fun _ => tot_bind (t143 _) fun _ => tot_cond (tot_some _) (tot_bind (t144 _) fun _ => tot_some _)) (tot_bind (t144 _) fun _ => tot_some _)
theorem t113 (x) : Tot (r167 x) := tot_bind (t128 _) fun _ => tot_cond (tot_some _) (tot_cond (tot_cond (tot_some _) (tot_cond (tot_some _) (tot_cond (tot_some _) (tot_some _)))) (tot_some _))
end Go.Proofs.YtfmadjkakghohaaGreatDoor.I

namespace Go.Proofs.YtfmadjkakghohaaGreatDoor.I
open Go.RowKit
set_option linter.unusedVariables false
set_option linter.constructorNameAsVariable false
theorem len0 {α : Type} {l : List α} {i : Nat} (h : i < l.length) : decide ((l.length : Int) = 0) = false := decide_eq_false (by omega)
theorem t112 (l : List DPt) (i k : Nat) (hi : i < l.length) (hk : k < l.length) (hl : l.length ≤ 9223372036854775807) : Tot (r166 (l, ((i : Int), ((k : Int), ())))) := by
  unfold r166
  obtain ⟨b1, a1, ha1⟩ := at_next hi hl
  obtain ⟨b2, a2, ha2⟩ := at_next hk hl
  obtain ⟨a3, ha3⟩ : ∃ a, l[i]? = some a := ⟨_, List.getElem?_eq_getElem hi⟩
  obtain ⟨a4, ha4⟩ : ∃ a, l[k]? = some a := ⟨_, List.getElem?_eq_getElem hk⟩
  simp only [inB_lt hi, inB_lt hk, Int.toNat_natCast, ha3, ha4, b1, b2, ha1, ha2, len0 hi, cond_true, cond_false, Option.bind_some]
  exact tot_cond (tot_some _) (tot_cond (tot_some _) (tot_cond (tot_bind (t128 _) fun _ => tot_some _) (tot_cond (tot_bind (t128 _) fun _ => tot_some _) (tot_bind (t128 _) fun _ => tot_some _))))
theorem t129 (l m : List DPt) (i : Nat) (hi : i < l.length) (hl : l.length ≤ 9223372036854775807) (hm : m.length ≤ 9223372036854775807) : Tot (r197 (l, ((i : Int), (m, ())))) := by
  unfold r197
  obtain ⟨b1, a1, ha1⟩ := at_next hi hl
  obtain ⟨a3, ha3⟩ : ∃ a, l[i]? = some a := ⟨_, List.getElem?_eq_getElem hi⟩
  simp only [inB_lt hi, Int.toNat_natCast, ha3, b1, ha1, len0 hi, cond_true, cond_false, Option.bind_some]
  refine tot_bind (tot_loop (fun i (n : Int) => ((n, (i, ())), ())) (fun _ _ => True) m.length (fun j n hj _ => ?_) (fun _ => ?_) (-1) trivial) (tot_sumE (fun _ => tot_some _) tot_emptyE)
  · obtain ⟨c1, d1, hd1⟩ := at_next hj hm
    obtain ⟨d3, hd3⟩ : ∃ a, m[j]? = some a := ⟨_, List.getElem?_eq_getElem hj⟩
    dsimp only
    simp only [dec_lt hj, inB_lt hj, Int.toNat_natCast, hd3, c1, hd1, len0 hj, cond_true, cond_false, Option.bind_some]
    rw [wrapS hj hm]
    refine good_cond (good_cond (good_cond (good_cond ?_ ?_) ?_) ?_) (good_cond (good_cond (good_cond ?_ ?_) ?_) ?_) <;> exact good_next _ trivial
  · dsimp only
    simp only [dec_nlt, cond_false]
    exact ⟨_, rfl⟩
theorem t114 (l m : List DPt) (hl : l.length ≤ 200) (hm : m.length ≤ 9223372036854775807) : Tot (r168 (l, (m, ()))) := by
  unfold r168
  refine tot_bind (tot_loop (fun i (s : List Int) => ((s, (i, ())), ())) (fun i s => s.length ≤ i) l.length (fun j s hj hs => ?_) (fun _ => ?_) [] (Nat.le_refl _)) (tot_sumE (fun _ => tot_some _) tot_emptyE)
  · dsimp only
    simp only [dec_lt hj, cond_true]
    rw [wrapS hj (by omega)]
    refine good_bind (t129 l m j hj (by omega) hm) fun n => good_bind (t130 s n.1 (by omega)) fun b => good_cond ?_ (good_next s (by omega))
    have : fits (s.length + 1) 8 = true := by unfold fits; simp; omega
    simp only [List.length_cons, List.length_nil, Nat.zero_add, this, cond_true]
    exact good_next (s ++ [n.1]) (by simp; omega)
  · dsimp only
    simp only [dec_nlt, cond_false]
    exact ⟨_, rfl⟩
theorem t89 (l m : List DPt) (hl : l.length ≤ 200) (hm : m.length ≤ 200) : Tot (r132 (l, (m, ()))) := by
  unfold r132
  refine tot_bind (tot_loop embI (fun _ _ => True) l.length (fun i _ hi _ => ?_) (fun _ => ?_) () trivial) (tot_sumE (fun _ => tot_some _) (tot_sumE (fun _ => ?_) tot_emptyE))
  · dsimp only [embI]
    simp only [dec_lt hi, cond_true]
    rw [wrapS hi (by omega)]
    refine good_bind (tot_loop embI (fun _ _ => True) m.length (fun j _ hj _ => ?_) (fun _ => ?_) () trivial) (good_sumE (fun _ => good_out _) (good_sumE (fun _ => good_next () trivial) good_emptyE))
    · obtain ⟨b1, a1, ha1⟩ := at_next hi (by omega)
      obtain ⟨b2, a2, ha2⟩ := at_next hj (by omega)
      rw [wrapS hi (by omega)] at b1 ha1
      obtain ⟨a3, ha3⟩ : ∃ a, l[i]? = some a := ⟨_, List.getElem?_eq_getElem hi⟩
      obtain ⟨a4, ha4⟩ : ∃ a, m[j]? = some a := ⟨_, List.getElem?_eq_getElem hj⟩
      dsimp only [embI]
      simp only [dec_lt hj, inB_lt hi, inB_lt hj, Int.toNat_natCast, ha3, ha4, b1, b2, ha1, ha2, len0 hi, len0 hj, cond_true, cond_false, Option.bind_some]
      refine good_bind (t113 _) fun _ => good_cond (good_out _) ?_
      rw [wrapS hj (by omega)]
      exact good_next () trivial
    · dsimp only [embI]
      simp only [dec_nlt, cond_false]
      exact ⟨_, rfl⟩
  · dsimp only [embI]
    simp only [dec_nlt, cond_false]
    exact ⟨_, rfl⟩
  · exact tot_bind (t114 l m hl (by omega)) fun _ => tot_cond (tot_bind (t114 m l hm (by omega)) fun _ => tot_some _) (tot_some _)
theorem t88 (l : List DPt) (hl : l.length ≤ 9223372036854775807) : Tot (r131 (l, ())) := by
  unfold r131
  refine tot_cond (tot_some _) (tot_cond (tot_some _) (tot_bind (t85 l hl) fun _ => tot_cond (tot_some _) (tot_bind (tot_loop embI (fun _ _ => True) l.length (fun i _ hi _ => ?_) (fun _ => ?_) () trivial) (tot_sumE (fun _ => tot_some _) (tot_sumE (fun _ => tot_some _) tot_emptyE)))))
  · dsimp only [embI]
    simp only [dec_lt hi, cond_true]
    rw [wrapS hi hl]
    refine good_bind (tot_loop embI (fun _ _ => True) i (fun j _ hj _ => ?_) (fun _ => ?_) () trivial) (good_sumE (fun _ => good_out _) (good_sumE (fun _ => good_next () trivial) good_emptyE))
    · dsimp only [embI]
      simp only [dec_lt hj, cond_true]
      rw [wrapS hj (by omega)]
      exact good_bind (t112 l j i (by omega) hi hl) fun _ => good_cond (good_out _) (good_next () trivial)
    · dsimp only [embI]
      simp only [dec_nlt, cond_false]
      exact ⟨_, rfl⟩
  · dsimp only [embI]
    simp only [dec_nlt, cond_false]
    exact ⟨_, rfl⟩
theorem t50 (l : List (List DPt)) (hl : l.length ≤ 9223372036854775807) (hp : ∀ p ∈ l, p.length ≤ 200) : Tot (r75 (l, ())) := by
  unfold r75
  refine tot_cond (tot_some _) (tot_bind (tot_loop embI (fun _ _ => True) l.length (fun i _ hi _ => ?_) (fun _ => ?_) () trivial) (tot_sumE (fun _ => tot_some _) (tot_sumE (fun _ => tot_bind (tot_loop embI (fun _ _ => True) l.length (fun i _ hi _ => ?_) (fun _ => ?_) () trivial) (tot_sumE (fun _ => tot_some _) (tot_sumE (fun _ => tot_some _) tot_emptyE))) tot_emptyE)))
  · obtain ⟨a, ha⟩ : ∃ a, l[i]? = some a := ⟨_, List.getElem?_eq_getElem hi⟩
    dsimp only [embI]
    simp only [dec_lt hi, inB_lt hi, Int.toNat_natCast, ha, cond_true, Option.bind_some]
    rw [wrapS hi hl]
    exact good_bind (t88 a (by have := hp a (List.mem_of_getElem? ha); omega)) fun _ => good_cond (good_out _) (good_next () trivial)
  · dsimp only [embI]
    simp only [dec_nlt, cond_false]
    exact ⟨_, rfl⟩
  · obtain ⟨a, ha⟩ : ∃ a, l[i]? = some a := ⟨_, List.getElem?_eq_getElem hi⟩
    have hup : upTo (i : Int) (l.length : Int) = true := by unfold upTo; simp; omega
    dsimp only [embI]
    simp only [dec_lt hi, inB_lt hi, Int.toNat_natCast, ha, hup, cond_true, Option.bind_some]
    rw [wrapS hi hl]
    refine good_bind (tot_loop embI (fun _ _ => True) (l.take i).length (fun j _ hj _ => ?_) (fun _ => ?_) () trivial) (good_sumE (fun _ => good_out _) (good_sumE (fun _ => good_next () trivial) good_emptyE))
    · obtain ⟨b, hb⟩ : ∃ a, (l.take i)[j]? = some a := ⟨_, List.getElem?_eq_getElem hj⟩
      have hjl : (l.take i).length ≤ 9223372036854775807 := by rw [List.length_take]; omega
      dsimp only [embI]
      simp only [dec_lt hj, inB_lt hj, Int.toNat_natCast, hb, cond_true, Option.bind_some]
      rw [wrapS hj hjl]
      exact good_bind (t89 a b (hp a (List.mem_of_getElem? ha)) (hp b (List.mem_of_mem_take (List.mem_of_getElem? hb)))) fun _ => good_cond (good_out _) (good_next () trivial)
    · dsimp only [embI]
      simp only [dec_nlt, cond_false]
      exact ⟨_, rfl⟩
  · dsimp only [embI]
    simp only [dec_nlt, cond_false]
    exact ⟨_, rfl⟩
end Go.Proofs.YtfmadjkakghohaaGreatDoor.I

namespace Go.Proofs.YtfmadjkakghohaaGreatDoor.I
open Go.RowKit
set_option linter.unusedVariables false
set_option linter.constructorNameAsVariable false
abbrev kPt : Kd := .pair (.int .i64) (.pair (.int .i64) .unit)
abbrev kVal : Kd := .pair (.int .i64) (.pair (.int .i64) (.pair .str (.pair .bool .unit)))
abbrev kAtt : Kd := .pair .str (.pair kVal .unit)
abbrev kFea : Kd := .pair (.int .i64) (.pair (.int .i64) (.pair (.slice (.slice kPt)) (.pair (.slice kAtt) (.pair (.int .i64) (.pair (.int .i64) .unit)))))
noncomputable def areaO (l : List (List DPt)) : Option (Int × Unit) := Option.bind (r75 (l, ())) fun x => some (x.1, ())
noncomputable def partsV (kind : Int) (l : List (List DPt)) : Int := ((partsE (areaO l) kind l).getD (0, ())).1
theorem parts_some {kind : Int} {l : List (List DPt)} (hs : small (.slice (.slice kPt)) l) : partsE (areaO l) kind l = some (partsV kind l, ()) := by
  obtain ⟨hl, hb⟩ := parts_bounds hs
  have key : Tot (partsE (areaO l) kind l) := by
    unfold partsE
    split
    · exact tot_some _
    split
    · exact tot_some _
    split
    · exact tot_some _
    split
    · exact tot_some _
    rename_i hlong
    split
    · exact tot_some _
    split
    · exact tot_some _
    split
    · unfold areaO
      refine tot_bind (t50 l hl (fun p hp => ?_)) fun _ => tot_some _
      rcases Nat.lt_or_ge 200 p.length with h | h
      · exact absurd (List.any_eq_true.2 ⟨p, hp, by simp; omega⟩) hlong
      · exact h
    · exact tot_some _
  obtain ⟨y, hy⟩ := key
  unfold partsV
  rw [hy]
  rfl
noncomputable def featV (f : DFea) : Int :=
  if f.1 < 1 then 1 else if 1073741824 < f.1 then 1 else if partsV f.2.1 f.2.2.1 ≠ 0 then partsV f.2.1 f.2.2.1 else if attrsE false f.2.2.2.1 ≠ 0 then attrsE false f.2.2.2.1
  else if f.2.2.2.2.1 < 0 then 1 else if 1073741824 < f.2.2.2.2.2.1 then 1 else if f.2.2.2.2.2.1 ≤ f.2.2.2.2.1 then 1 else 0
theorem fea_small {f : DFea} (h : small kFea f) : small (.slice (.slice kPt)) f.2.2.1 ∧ small (.slice kAtt) f.2.2.2.1 := ⟨h.2.2.1, h.2.2.2.1⟩
theorem r18_eq (f : DFea) (h : small kFea f) : r29 (f, ()) = some (featV f, ()) := by
  obtain ⟨h1, h2⟩ := fea_small h
  unfold r29 featV
  have e1 : r64 (f.2.1, (f.2.2.1, ())) = some (partsV f.2.1 f.2.2.1, ()) := (r20_eq f.2.1 f.2.2.1 h1).trans (parts_some h1)
  have e2 : r65 (f.2.2.2.1, (false, ())) = some (attrsE false f.2.2.2.1, ()) := r22_eq f.2.2.2.1 false h2
  simp only [e1, e2, Option.bind_some]
  generalize partsV f.2.1 f.2.2.1 = p
  generalize attrsE false f.2.2.2.1 = a
  obtain ⟨id, kind, ps, ats, fr, tt, ⟨⟩⟩ := f
  simp only
  by_cases k1 : id < 1
  · simp [k1]
  by_cases k2 : 1073741824 < id
  · simp [k1, k2]
  by_cases k3 : p = 0 <;> by_cases k4 : a = 0 <;> by_cases k5 : fr < 0 <;> by_cases k6 : 1073741824 < tt <;> by_cases k7 : tt ≤ fr <;> simp [k1, k2, k3, k4, k5, k6, k7]
theorem r19_eq (f : DFea) (h : small kFea f) : r13 (f, ()) = some (featV f, ()) := by
  obtain ⟨h1, h2⟩ := fea_small h
  unfold r13 featV
  have e1 : r39 (f.2.1, (f.2.2.1, ())) = some (partsV f.2.1 f.2.2.1, ()) := (r21_eq f.2.1 f.2.2.1 h1).trans (parts_some h1)
  have e2 : r40 (f.2.2.2.1, (false, ())) = some (attrsE false f.2.2.2.1, ()) := r23_eq f.2.2.2.1 false h2
  simp only [e1, e2, Option.bind_some]
  generalize partsV f.2.1 f.2.2.1 = p
  generalize attrsE false f.2.2.2.1 = a
  obtain ⟨id, kind, ps, ats, fr, tt, ⟨⟩⟩ := f
  simp only
  by_cases k1 : id < 1
  · have : id ≤ 0 := by omega
    simp [k1, this]
  have k1' : ¬ id ≤ 0 := by omega
  by_cases k2 : 1073741824 < id
  · simp [k1, k1', k2]
  by_cases k3 : p = 0 <;> by_cases k4 : a = 0 <;> by_cases k5 : fr < 0 <;> by_cases k6 : 1073741824 < tt <;> by_cases k7 : tt ≤ fr <;> simp [k1, k1', k2, k3, k4, k5, k6, k7]
end Go.Proofs.YtfmadjkakghohaaGreatDoor.I

namespace Go.Proofs.YtfmadjkakghohaaGreatDoor.I
open Go.RowKit
set_option linter.unusedVariables false
set_option linter.unusedSimpArgs false
set_option linter.constructorNameAsVariable false
abbrev DNode := Int × DVal × ByteArray × Unit
abbrev DExp := Tree DNode
abbrev kNode : Kd := .pair (.int .i64) (.pair kVal (.pair .str .unit))
abbrev kExp : Kd := .tree kNode
theorem t_eta (a : DExp) : Tree.node ((Tree.val a).1, (((Tree.val a).2.1.1, ((Tree.val a).2.1.2.1, ((Tree.val a).2.1.2.2.1, ((Tree.val a).2.1.2.2.2.1, Unit.unit)))), ((Tree.val a).2.2.1, Unit.unit))) (Tree.kids a) = a := by
  cases a
  rfl
theorem exp_small {t : DExp} (h : small kExp t) : small (.int .i64) (Tree.val t).1 ∧ small kVal (Tree.val t).2.1 ∧ (Tree.val t).2.2.1.size ≤ 9223372036854775807 ∧ (Tree.kids t).length ≤ 9223372036854775807 ∧ ∀ k ∈ Tree.kids t, small kExp k := by
  cases t with
  | node v ks =>
    obtain ⟨h1, h2, h3⟩ := h
    exact ⟨h1.1, h1.2.1, h1.2.2.1, h2, smallTs_iff.1 h3⟩
def emptyS : ByteArray := ByteArray.mk (List.toArray [])
/-- How many operands. -/
def kidsN (op : Int) : Int := if 0 ≤ op ∧ op ≤ 2 then 0 else if op = 5 ∨ op = 17 ∨ op = 19 then 1 else if op = 18 then 3 else if 3 ≤ op ∧ op ≤ 21 then 2 else -1
theorem kids_eq (op : Int) : r81 (op, ()) = some (kidsN op, ()) := by
  by_cases h : 0 ≤ op ∧ op ≤ 21
  · have key : ∀ n : Fin 22, r81 (((n : Nat) : Int), ()) = some (kidsN ((n : Nat) : Int), ()) := by decide +kernel
    have := key ⟨op.toNat, by omega⟩
    simp only at this
    rwa [show ((op.toNat : Nat) : Int) = op by omega] at this
  · have e5 : decide (op = 5) = false := decide_eq_false (by omega)
    have e17 : decide (op = 17) = false := decide_eq_false (by omega)
    have e19 : decide (op = 19) = false := decide_eq_false (by omega)
    have e18 : decide (op = 18) = false := decide_eq_false (by omega)
    unfold r81 kidsN
    rw [if_neg (by omega), if_neg (by omega), if_neg (by omega), if_neg (by omega)]
    simp only [e5, e17, e19, e18, cond_false]
    by_cases h0 : 0 ≤ op
    · simp only [decide_eq_true h0, decide_eq_false (show ¬ op ≤ 2 by omega), decide_eq_true (show 3 ≤ op by omega), decide_eq_false (show ¬ op ≤ 21 by omega), cond_true, cond_false]
    · simp only [decide_eq_false h0, decide_eq_false (show ¬ 3 ≤ op by omega), cond_false]
noncomputable def wordsL : List ByteArray := ((r18 ()).getD ([], ())).1
noncomputable def fieldsL : List ByteArray := ((r17 ()).getD ([], ())).1
theorem words_eq : r18 () = some (wordsL, ()) := rfl
theorem fields_eq : r17 () = some (fieldsL, ()) := rfl
theorem index_str (l : List ByteArray) (s : ByteArray) (hl : l.length ≤ 1000000) : ∃ i : Int, r73 (l, (s, ())) = some (i, ()) ∧ (0 ≤ i ↔ s ∈ l) := by
  unfold r73
  refine bind_loopQ (fun r => ∃ i : Int, r = some (i, ()) ∧ (0 ≤ i ↔ s ∈ l)) (loop_up embI l.length (fun i _ => s ∉ l.take i) (fun o => (∃ k : Nat, o = Sum.inl (((k : Int), ()), ()) ∧ s ∈ l) ∨ (o = Sum.inr (Sum.inl ((), ())) ∧ s ∉ l)) (fun i u hi hI => ?_) (fun u hI => ?_) 0 () (Nat.zero_le _) (by simp)) (fun o ho => ?_)
  · obtain ⟨a, ha⟩ := get_lt hi
    simp only [embI, dec_lt hi, inB_lt hi, Int.toNat_natCast, ha, cond_true, Option.bind_some]
    by_cases he : s = a
    · refine .inr ⟨_, by rw [decide_eq_true he]; rfl, .inl ⟨i, rfl, ?_⟩⟩
      rw [he]
      exact List.mem_of_getElem? ha
    · refine .inl ⟨(), by rw [decide_eq_false he, cond_false, wrapS hi (by omega)], ?_⟩
      rw [take_succ ha]
      simp only [List.mem_append, List.mem_singleton]
      exact fun h => h.elim hI he
  · rw [List.take_length] at hI
    refine ⟨_, by simp only [embI, dec_nlt, cond_false], .inr ⟨rfl, hI⟩⟩
  · rcases ho with ⟨k, rfl, h⟩ | ⟨rfl, h⟩
    · exact ⟨_, rfl, fun _ => h, fun _ => by simp⟩
    · refine ⟨_, rfl, fun hc => ?_, fun hc => absurd hc h⟩
      simp at hc
def inL (s : ByteArray) (l : List ByteArray) : Bool := l.any fun a => decide (s = a)
theorem inL_iff {s : ByteArray} {l : List ByteArray} : inL s l = true ↔ s ∈ l := by simp [inL]
theorem contains_str (l : List ByteArray) (s : ByteArray) (hl : l.length ≤ 1000000) : r36 (l, (s, ())) = some (inL s l, ()) := by
  unfold r36
  obtain ⟨i, h1, h2⟩ := index_str l s hl
  rw [h1]
  simp only [Option.bind_some]
  have : decide (0 ≤ i) = inL s l := by
    rw [Bool.eq_iff_iff, inL_iff, decide_eq_true_eq]
    exact h2
  rw [this]
/-- What a node's own fault is. -/
noncomputable def oneE (nd : DNode) (k : Nat) : Int :=
  if kidsN nd.1 < 0 then 8
  else if ¬ ((k : Int) = kidsN nd.1) ∨ (nd.1 ≠ 0 ∧ nd.2.1 ≠ (0, (0, (emptyS, (false, ()))))) ∨ (nd.1 ≠ 1 ∧ nd.1 ≠ 2 ∧ nd.2.2.1 ≠ emptyS) then 3
  else if nd.1 = 0 then checkV nd.2.1
  else if (nd.1 = 1 ∧ (nameOk nd.2.2.1 = false ∨ inL nd.2.2.1 wordsL = true)) ∨ (nd.1 = 2 ∧ inL nd.2.2.1 fieldsL = false) then 16 else 0
theorem words_len : wordsL.length = 10 := rfl
theorem fields_len : fieldsL.length = 10 := rfl
theorem val_nil (v : DVal) : (Bool.and (decide (v.1 = (0 : Int))) (Bool.and (decide (v.2.1 = (0 : Int))) (Bool.and (decide (v.2.2.1 = (ByteArray.mk (List.toArray (List.nil))))) (decide (v.2.2.2.1 = Bool.false))))) = decide (v = (0, (0, (emptyS, (false, ()))))) := by
  obtain ⟨a, b, c, d, ⟨⟩⟩ := v
  rw [Bool.eq_iff_iff]
  simp [emptyS]
set_option maxHeartbeats 4000000 in
theorem one_eq (t : DExp) (h : small kExp t) : r48 (t, ()) = some (oneE (Tree.val t) (Tree.kids t).length, ()) := by
  obtain ⟨h1, h2, h3, h4, h5⟩ := exp_small h
  generalize hk : (Tree.kids t).length = k
  have hv := r10_eq (Tree.val t).2.1 h2.2.2.1
  have hn := name_eq (Tree.val t).2.2.1 h3
  have hw := contains_str wordsL (Tree.val t).2.2.1 (by rw [words_len]; omega)
  have hf := contains_str fieldsL (Tree.val t).2.2.1 (by rw [fields_len]; omega)
  have hv' : r82 (((Tree.val t).2.1.1, ((Tree.val t).2.1.2.1, ((Tree.val t).2.1.2.2.1, ((Tree.val t).2.1.2.2.2.1, Unit.unit)))), Unit.unit) = some (checkV (Tree.val t).2.1, ()) := hv
  have hkk : r81 ((Tree.val t).1, Unit.unit) = some (kidsN (Tree.val t).1, ()) := kids_eq _
  unfold r48 oneE
  simp only [hkk, hk, hv', hn, hw, hf, words_eq, fields_eq, Option.bind_some, val_nil]
  generalize hop : (Tree.val t).1 = op
  generalize (Tree.val t).2.1 = v
  generalize (Tree.val t).2.2.1 = s
  by_cases k0 : kidsN op < 0
  · rw [if_pos k0, decide_eq_true k0]
    rfl
  rw [if_neg k0, decide_eq_false k0, cond_false]
  by_cases k1 : (k : Int) = kidsN op
  rotate_left
  · rw [if_pos (.inl k1), decide_eq_false k1]
    rfl
  rw [decide_eq_true k1]
  simp only [k1, Bool.not_true, cond_false, not_true_eq_false, false_or]
  by_cases b0 : op = 0
  · subst b0
    by_cases be : s = emptyS
    · subst be
      simp [emptyS]
    · have : ¬ s = ByteArray.mk (List.toArray []) := be
      simp [be, this]
  · by_cases bv : v = (0, (0, (emptyS, (false, ()))))
    · by_cases b1 : op = 1
      · subst b1
        cases hnm : nameOk s <;> cases hmw : inL s wordsL <;> simp [bv]
      · by_cases b2 : op = 2
        · subst b2
          cases hmf : inL s fieldsL <;> simp [bv]
        · by_cases be : s = emptyS
          · have : s = ByteArray.mk (List.toArray []) := be
            simp [b0, b1, b2, bv, be, emptyS]
          · have : ¬ s = ByteArray.mk (List.toArray []) := be
            simp [b0, b1, b2, bv, be, this]
    · simp [b0, bv]
end Go.Proofs.YtfmadjkakghohaaGreatDoor.I

namespace Go.Proofs.YtfmadjkakghohaaGreatDoor.I
open Go.RowKit
set_option linter.unusedVariables false
set_option linter.constructorNameAsVariable false
/-- Rounds that go on or end. -/
def foldE {α S O : Type} (body : S → α → S ⊕ O) (out : S → O) : List α → S → O
  | [], s => out s
  | a :: l, s => match body s a with
    | .inl s' => foldE body out l s'
    | .inr o => o
def stepE {D S O : Type} (emb : Int → S → D) (i : Nat) : S ⊕ O → Option (D ⊕ O)
  | .inl s' => some (.inl (emb ((i : Int) + 1) s'))
  | .inr o => some (.inr o)
theorem loop_exit {α S D O : Type} {step : D → Option (D ⊕ O)} (emb : Int → S → D) (body : S → α → S ⊕ O) (Inv : Nat → S → Prop) (out : S → O) (xs : List α)
    (hin : ∀ (i : Nat) a s, xs[i]? = some a → Inv i s → step (emb i s) = stepE emb i (body s a) ∧ ∀ s', body s a = .inl s' → Inv (i + 1) s')
    (hend : ∀ s, Inv xs.length s → step (emb (xs.length : Int) s) = some (.inr (out s))) (s : S) (h0 : Inv 0 s) : loop step (emb 0 s) = some (foldE body out xs s) := by
  have key : ∀ (l : List α) (i : Nat) (s : S), i ≤ xs.length → xs.drop i = l → Inv i s → loop step (emb (i : Int) s) = some (foldE body out l s) := by
    intro l
    induction l with
    | nil =>
      intro i s hi hl hI
      have : i = xs.length := by
        have := congrArg List.length hl
        simp at this; omega
      subst this
      rw [loop_eq, hend s hI]
      rfl
    | cons a l ih =>
      intro i s hi hl hI
      have ha : xs[i]? = some a := by
        have := congrArg (fun l => l[0]?) hl
        simpa using this
      have hlt := lt_of_get ha
      have hd : xs.drop (i + 1) = l := by rw [← List.drop_drop, hl]; rfl
      obtain ⟨h1, h2⟩ := hin i a s ha hI
      rw [loop_eq, h1]
      simp only [foldE]
      cases hb : body s a with
      | inl s' => exact ih (i + 1) _ hlt hd (h2 s' hb)
      | inr o => rfl
  exact key xs 0 s (Nat.zero_le _) rfl h0
end Go.Proofs.YtfmadjkakghohaaGreatDoor.I

namespace Go.Proofs.YtfmadjkakghohaaGreatDoor.I
open Go.RowKit
set_option linter.unusedVariables false
set_option linter.constructorNameAsVariable false
def eqAt (a b : DAtt) : Bool := decide (a.1 = b.1) && (decide (a.2.1.1 = b.2.1.1) && (decide (a.2.1.2.1 = b.2.1.2.1) && (decide (a.2.1.2.2.1 = b.2.1.2.2.1) && decide (a.2.1.2.2.2.1 = b.2.1.2.2.2.1))))
theorem eqAt_iff (a b : DAtt) : eqAt a b = true ↔ a = b := by
  obtain ⟨k, ⟨v1, v2, v3, v4, ⟨⟩⟩, ⟨⟩⟩ := a
  obtain ⟨k', ⟨w1, w2, w3, w4, ⟨⟩⟩, ⟨⟩⟩ := b
  simp [eqAt]
instance decAtt : DecidableEq DAtt := fun a b => decidable_of_iff (eqAt a b = true) (eqAt_iff a b)
def eqFe (a b : DFea) : Bool := decide (a.1 = b.1) && (decide (a.2.1 = b.2.1) && (decide (a.2.2.1 = b.2.2.1) && (decide (a.2.2.2.1 = b.2.2.2.1) && (decide (a.2.2.2.2.1 = b.2.2.2.2.1) && decide (a.2.2.2.2.2.1 = b.2.2.2.2.2.1)))))
theorem eqFe_iff (a b : DFea) : eqFe a b = true ↔ a = b := by
  obtain ⟨i, k, ps, ats, fr, up, ⟨⟩⟩ := a
  obtain ⟨i', k', ps', ats', fr', up', ⟨⟩⟩ := b
  simp [eqFe]
instance decFea : DecidableEq DFea := fun a b => decidable_of_iff (eqFe a b = true) (eqFe_iff a b)
structure Few (f : DFea) : Prop where
  parts : f.2.2.1.length ≤ 1048576
  pts : ∀ p ∈ f.2.2.1, p.length ≤ 1048576
  atts : f.2.2.2.1.length ≤ 1048576
end Go.Proofs.YtfmadjkakghohaaGreatDoor.I

namespace Go.Proofs.YtfmadjkakghohaaGreatDoor.I
open Go.RowKit
set_option linter.unusedVariables false
set_option linter.constructorNameAsVariable false
theorem fitsN {n m : Nat} (h : n ≤ 1048577) (hm : m ≤ 80) : fits n m = true := by
  unfold fits
  have : n * m ≤ 1048577 * 80 := Nat.mul_le_mul h hm
  simp
  omega
def nilV : DVal := (0, (0, (⟨List.toArray []⟩, (false, ()))))
def getV (l : List DAtt) (key : ByteArray) : DVal := match l.find? (fun a => decide (a.1 = key)) with
  | some a => a.2.1
  | none => nilV
theorem get_eq (f : DFea) (key : ByteArray) (h : Few f) : r66 (f, (key, ())) = some (getV f.2.2.2.1 key, ()) := by
  unfold r66
  have ha := h.atts
  refine (congrArg (fun z => Option.bind z _) (loop_exit (fun i (_ : Unit) => (((i : Int), ()), ())) (fun _ (a : DAtt) => cond (decide (a.1 = key)) (.inr (Sum.inl (a.2.1, ()))) (.inl ())) (fun _ _ => True) (fun _ => Sum.inr (Sum.inl ((), ()))) f.2.2.2.1 (fun i a s hi _ => ?_) (fun s _ => ?_) () trivial)).trans ?_
  · have hlt := lt_of_get hi
    refine ⟨?_, fun _ _ => trivial⟩
    simp only [dec_lt hlt, inB_lt hlt, Int.toNat_natCast, hi, cond_true, Option.bind_some]
    rw [wrapS hlt (by omega)]
    cases decide (a.1 = key) <;> rfl
  · simp only [dec_nlt, cond_false]
  · simp only [Option.bind_some]
    have key2 : ∀ (l : List DAtt), foldE (O := ((DVal × Unit) ⊕ ((Unit × Unit) ⊕ Empty))) (fun (_ : Unit) (a : DAtt) => cond (decide (a.1 = key)) (.inr (Sum.inl (a.2.1, ()))) (.inl ())) (fun _ => Sum.inr (Sum.inl ((), ()))) l () = match l.find? (fun a => decide (a.1 = key)) with
        | some a => Sum.inl (a.2.1, ())
        | none => Sum.inr (Sum.inl ((), ())) := by
      intro l
      induction l with
      | nil => rfl
      | cons a l ih =>
        simp only [foldE, List.find?_cons]
        cases decide (a.1 = key) with
        | true => rfl
        | false => exact ih
    rw [key2]
    unfold getV
    cases f.2.2.2.1.find? (fun a => decide (a.1 = key)) with
    | none => rfl
    | some a => rfl
/-- From the end to the front. -/
theorem loop_down {α S D O : Type} {step : D → Option (D ⊕ O)} (emb : Int → S → D) (f : S → α → S) (out : S → O) (xs : List α)
    (hin : ∀ (i : Nat) a s, xs[i]? = some a → step (emb i s) = some (.inl (emb ((i : Int) - 1) (f s a)))) (hend : ∀ s, step (emb (-1) s) = some (.inr (out s))) (s : S) :
    loop step (emb ((xs.length : Int) - 1) s) = some (out (xs.foldr (fun a s => f s a) s)) := by
  have key : ∀ (k : Nat) (s : S), k ≤ xs.length → loop step (emb ((k : Int) - 1) s) = some (out ((xs.take k).foldr (fun a s => f s a) s)) := by
    intro k
    induction k with
    | zero =>
      intro s _
      rw [loop_eq, show ((0 : Nat) : Int) - 1 = -1 by omega, hend]
      rfl
    | succ k ih =>
      intro s hk
      have ha : xs[k]? = some xs[k] := List.getElem?_eq_getElem (by omega)
      rw [loop_eq, show ((k + 1 : Nat) : Int) - 1 = (k : Int) by omega, hin k _ s ha]
      simp only
      have e : xs.take (k + 1) = xs.take k ++ [xs[k]] := by rw [List.take_add_one, ha]; rfl
      rw [ih _ (by omega), e, List.foldr_append]
      rfl
  rw [key xs.length s (Nat.le_refl _), List.take_length]
@[reducible] def embG (i : Int) (v : DVal) : (Int × DVal) × Unit := ((i, (v.1, (v.2.1, (v.2.2.1, (v.2.2.2.1, ()))))), ())
theorem got_eq (f : DFea) (key : ByteArray) (h : Few f) : r41 (f, (key, ())) = some (getV f.2.2.2.1 key, ()) := by
  unfold r41
  have ha := h.atts
  have hw : IntKind.wrap .i64 ((f.2.2.2.1.length : Int) - 1) = (f.2.2.2.1.length : Int) - 1 := wrap64 (by omega) (by omega)
  rw [hw]
  refine (congrArg (fun z => Option.bind z _) (loop_down embG (fun v a => cond (decide (a.1 = key)) a.2.1 v) (fun v => Sum.inl ((v.1, (v.2.1, (v.2.2.1, (v.2.2.2.1, ())))), ())) f.2.2.2.1 (fun i a s hi => ?_) (fun s => ?_) nilV)).trans ?_
  · have hlt := lt_of_get hi
    have h0 : decide ((0 : Int) ≤ (i : Int)) = true := by simp
    simp only [embG, h0, inB_lt hlt, Int.toNat_natCast, hi, cond_true, Option.bind_some]
    rw [wrap64 (by omega) (by omega)]
    cases decide (a.1 = key) <;> rfl
  · rfl
  · have hf : ∀ (l : List DAtt), l.foldr (fun a v => cond (decide (a.1 = key)) a.2.1 v) nilV = getV l key := by
      intro l
      induction l with
      | nil => rfl
      | cons a l ih =>
        rw [List.foldr_cons, ih]
        unfold getV
        rw [List.find?_cons]
        cases decide (a.1 = key) <;> rfl
    rw [hf]
    rfl
end Go.Proofs.YtfmadjkakghohaaGreatDoor.I

namespace Go.Proofs.YtfmadjkakghohaaGreatDoor.I
open Go.RowKit
set_option linter.unusedVariables false
set_option linter.unusedSimpArgs false
set_option linter.constructorNameAsVariable false
mutual
def sz : DExp → Nat
  | .node v ks => szL ks + 1
def szL : List DExp → Nat
  | [] => 0
  | t :: ts => sz t + szL ts
end
theorem sz_node (t : DExp) : sz t = szL (Tree.kids t) + 1 := by
  cases t
  simp only [sz, Tree.kids]
theorem szL_mem : ∀ {ks : List DExp} {t : DExp}, t ∈ ks → sz t ≤ szL ks
  | k :: ks, t, h => by
    simp only [szL]
    rcases List.mem_cons.1 h with rfl | h
    · omega
    · have := szL_mem h
      omega
mutual
/-- The nodes with their depths, in the order of a walk; behind a depth of 20 none. -/
def pre (d : Nat) : DExp → List (DExp × Nat)
  | .node v ks => (.node v ks, d) :: (if 20 < d then [] else preL (d + 1) ks)
def preL (d : Nat) : List DExp → List (DExp × Nat)
  | [] => []
  | t :: ts => pre d t ++ preL d ts
end
theorem pre_node (d : Nat) (t : DExp) : pre d t = (t, d) :: (if 20 < d then [] else preL (d + 1) (Tree.kids t)) := by
  cases t
  simp only [pre, Tree.kids]
theorem preL_app (d : Nat) : ∀ (a b : List DExp), preL d (a ++ b) = preL d a ++ preL d b
  | [], b => rfl
  | t :: a, b => by simp only [List.cons_append, preL, preL_app d a b, List.append_assoc]
theorem preL_one (d : Nat) (t : DExp) : preL d [t] = pre d t := by simp only [preL, List.append_nil]
noncomputable def nodeE (i : Nat) (p : DExp × Nat) : Int := if 100 ≤ i ∨ 20 < p.2 then 2 else oneE (Tree.val p.1) (Tree.kids p.1).length
noncomputable def firstE : Nat → List (DExp × Nat) → Int
  | _, [] => 0
  | i, p :: l => if nodeE i p ≠ 0 then nodeE i p else firstE (i + 1) l
theorem firstE_app : ∀ (a b : List (DExp × Nat)) (i : Nat), firstE i (a ++ b) = if firstE i a ≠ 0 then firstE i a else firstE (i + a.length) b
  | [], b, i => by simp [firstE]
  | p :: a, b, i => by
    simp only [List.cons_append, firstE, firstE_app a b (i + 1), List.length_cons]
    by_cases h : nodeE i p = 0
    · simp only [h, ne_eq, not_true_eq_false, if_false]
      rw [show i + (a.length + 1) = i + 1 + a.length by omega]
    · simp only [h, ne_eq, not_false_eq_true, if_true]
@[reducible] def embCW (i : Int) (s : Int) : (Int × Int × Unit) × Unit := ((i, (s, ())), ())
set_option maxHeartbeats 2000000 in
theorem walk_eq : ∀ (n : Nat) (t : DExp) (d i : Nat), sz t ≤ n → i ≤ 100 → small kExp t → ∃ c' : Int, r47 n (t, ((d : Int), ())) ((i : Int), ()) = some ((firstE i (pre d t), ()), (c', ())) ∧ (firstE i (pre d t) = 0 → c' = ((i + (pre d t).length : Nat) : Int) ∧ i + (pre d t).length ≤ 100)
  | 0, t, d, i, hn, _, _ => by rw [sz_node] at hn; omega
  | n + 1, t, d, i, hn, hi, hs => by
    have w1 : IntKind.wrap .i64 ((i : Int) + 1) = ((i + 1 : Nat) : Int) := by rw [wrap64 (by omega) (by omega)]; omega
    rw [r47_succ]
    unfold r47B
    simp only [w1]
    rw [pre_node]
    simp only [firstE]
    by_cases h100 : i = 100
    · have e1 : decide ((100 : Int) < ((i + 1 : Nat) : Int)) = true := decide_eq_true (by omega)
      have e2 : nodeE i (t, d) = 2 := by unfold nodeE; rw [if_pos (.inl (by omega))]
      rw [e1, cond_true, e2]
      exact ⟨_, rfl, fun h => by simp at h⟩
    have e1 : decide ((100 : Int) < ((i + 1 : Nat) : Int)) = false := decide_eq_false (by omega)
    rw [e1, cond_false]
    by_cases hd : 20 < d
    · have e2 : nodeE i (t, d) = 2 := by unfold nodeE; rw [if_pos (.inr hd)]
      have e3 : decide ((20 : Int) < (d : Int)) = true := decide_eq_true (by omega)
      rw [e3, cond_true, e2]
      exact ⟨_, rfl, fun h => by simp at h⟩
    have e3 : decide ((20 : Int) < (d : Int)) = false := decide_eq_false (by omega)
    have e2 : nodeE i (t, d) = oneE (Tree.val t) (Tree.kids t).length := by unfold nodeE; rw [if_neg (by simp; omega)]
    rw [e3, cond_false, t_eta, one_eq t hs, e2, if_neg hd]
    simp only [Option.bind_some]
    by_cases he : oneE (Tree.val t) (Tree.kids t).length = 0
    rotate_left
    · rw [decide_eq_false he]
      simp only [Bool.not_false, cond_true]
      exact ⟨_, by rw [if_pos he], fun h => by rw [if_pos he] at h; exact absurd h he⟩
    rw [decide_eq_true he]
    simp only [Bool.not_true, cond_false, he, ne_eq, not_true_eq_false, if_false]
    have hsk := (exp_small hs).2.2.2.2
    have hlk := (exp_small hs).2.2.2.1
    have hszk : ∀ k ∈ Tree.kids t, sz k ≤ n := fun k hk => by
      have := szL_mem hk
      rw [sz_node] at hn
      omega
    have hd1 : IntKind.wrap .i64 ((d : Int) + 1) = ((d + 1 : Nat) : Int) := by rw [wrap64 (by omega) (by omega)]; omega
    generalize Tree.kids t = ks at hsk hlk hszk
    refine bind_loopQ (fun r => ∃ c' : Int, r = some ((firstE (i + 1) (preL (d + 1) ks), ()), (c', ())) ∧ (firstE (i + 1) (preL (d + 1) ks) = 0 → c' = ((i + ((t, d) :: preL (d + 1) ks).length : Nat) : Int) ∧ i + ((t, d) :: preL (d + 1) ks).length ≤ 100))
      (loop_up embCW ks.length (fun j s => s = ((i + 1 + (preL (d + 1) (ks.take j)).length : Nat) : Int) ∧ firstE (i + 1) (preL (d + 1) (ks.take j)) = 0 ∧ i + 1 + (preL (d + 1) (ks.take j)).length ≤ 100)
        (fun o => (∃ e c' : Int, o = Sum.inl ((e, (c', ())), ()) ∧ e ≠ 0 ∧ firstE (i + 1) (preL (d + 1) ks) = e) ∨ (∃ c' : Int, o = Sum.inr (Sum.inl ((c', ()), ())) ∧ firstE (i + 1) (preL (d + 1) ks) = 0 ∧ c' = ((i + 1 + (preL (d + 1) ks).length : Nat) : Int) ∧ i + 1 + (preL (d + 1) ks).length ≤ 100))
        (fun j s hj hI => ?_) (fun s hI => ?_) 0 _ (Nat.zero_le _) ⟨by simp [preL], by simp [preL, firstE], by simp [preL]; omega⟩) (fun o ho => ?_)
    · obtain ⟨rfl, h1, h2⟩ := hI
      obtain ⟨k, hk⟩ := get_lt hj
      have hkm := List.mem_of_getElem? hk
      obtain ⟨c', g1, g2⟩ := walk_eq n k (d + 1) (i + 1 + (preL (d + 1) (ks.take j)).length) (hszk k hkm) h2 (hsk k hkm)
      simp only [embCW, dec_lt hj, inB_lt hj, Int.toNat_natCast, hk, cond_true, Option.bind_some, t_eta, hd1, g1]
      have hsplit : preL (d + 1) (ks.take (j + 1)) = preL (d + 1) (ks.take j) ++ pre (d + 1) k := by rw [take_succ hk, preL_app, preL_one]
      have hall : ks = ks.take (j + 1) ++ ks.drop (j + 1) := (List.take_append_drop _ _).symm
      by_cases hz : firstE (i + 1 + (preL (d + 1) (ks.take j)).length) (pre (d + 1) k) = 0
      · obtain ⟨rfl, g3⟩ := g2 hz
        refine .inl ⟨_, by rw [decide_eq_true hz]; simp only [Bool.not_true, cond_false]; rw [wrapS hj (by omega)], ?_, ?_, ?_⟩
        · rw [hsplit, List.length_append]; congr 1; omega
        · rw [hsplit, firstE_app, h1]
          simpa using hz
        · rw [hsplit, List.length_append]; omega
      · refine .inr ⟨_, by rw [decide_eq_false hz]; simp only [Bool.not_false, cond_true], .inl ⟨_, c', rfl, hz, ?_⟩⟩
        have e5 : firstE (i + 1) (preL (d + 1) (ks.take (j + 1))) = firstE (i + 1 + (preL (d + 1) (ks.take j)).length) (pre (d + 1) k) := by
          rw [hsplit, firstE_app, h1]
          simp
        have hf := congrArg (fun l => firstE (i + 1) (preL (d + 1) l)) hall
        rw [show firstE (i + 1) (preL (d + 1) ks) = firstE (i + 1) (preL (d + 1) (ks.take (j + 1) ++ ks.drop (j + 1))) from hf, preL_app, firstE_app, e5, if_pos hz]
    · obtain ⟨rfl, h1, h2⟩ := hI
      rw [List.take_length] at h1 h2 ⊢
      exact ⟨_, by simp only [embCW, dec_nlt, cond_false], .inr ⟨_, rfl, h1, rfl, h2⟩⟩
    · rcases ho with ⟨e, c', rfl, h1, h2⟩ | ⟨c', rfl, h1, rfl, h2⟩
      · exact ⟨c', by rw [h2]; rfl, fun h => absurd (h2 ▸ h) h1⟩
      · refine ⟨((i + 1 + (preL (d + 1) ks).length : Nat) : Int), by rw [h1]; rfl, fun _ => ⟨?_, ?_⟩⟩
        · rw [List.length_cons]; congr 1; omega
        · rw [List.length_cons]; omega
/-- What an expression's fault is. -/
noncomputable def expE (t : DExp) : Int := firstE 0 (pre 1 t)
theorem check_eq (n : Nat) (t : DExp) (hn : sz t ≤ n) (hs : small kExp t) : r19 n (t, ()) = some (expE t, ()) := by
  obtain ⟨c', h1, _⟩ := walk_eq n t 1 0 hn (by omega) hs
  have h1 : r47 n (t, ((1 : Int), Unit.unit)) ((0 : Int), Unit.unit) = some ((expE t, ()), (c', ())) := h1
  unfold r19
  rw [t_eta, h1]
  rfl
end Go.Proofs.YtfmadjkakghohaaGreatDoor.I

namespace Go.Proofs.YtfmadjkakghohaaGreatDoor.I
open Go.RowKit
set_option linter.unusedVariables false
set_option linter.unusedSimpArgs false
set_option linter.constructorNameAsVariable false
theorem take_app_take {α : Type} (X Y : List α) (m : Nat) : (X.take m ++ Y).take m = (X ++ Y).take m := by
  rcases Nat.le_total m X.length with h | h
  · rw [List.take_append_of_le_length (by rw [List.length_take]; omega), List.take_append_of_le_length h, List.take_take, Nat.min_self]
  · rw [List.take_of_length_le h]
def rows (B : List (DExp × Nat)) : List DExp × List Int × Unit := (B.map (·.1), (B.map (fun p => ((p.2 : Nat) : Int)), ()))
@[reducible] def embFl (i : Int) (s : List DExp × List Int × Unit) : (List DExp × List Int × Int × Unit) × Unit := ((s.1, (s.2.1, (i, ()))), ())
theorem rows_app (A : List (DExp × Nat)) (t : DExp) (d : Nat) : (A.map (·.1) ++ [t], (A.map (fun p => ((p.2 : Nat) : Int)) ++ [(d : Int)], ())) = rows (A ++ [(t, d)]) := by
  unfold rows
  simp
set_option maxHeartbeats 2000000 in
theorem flat_eq : ∀ (n : Nat) (t : DExp) (d : Nat) (A : List (DExp × Nat)), sz t ≤ n → A.length ≤ 101 → d ≤ 21 → small kExp t → r32 n (t, ((d : Int), ((101 : Int), ()))) (rows A) = some (rows ((A ++ pre d t).take 101))
  | 0, t, d, A, hn, _, _, _ => by rw [sz_node] at hn; omega
  | n + 1, t, d, A, hn, hA, hd, hs => by
    rw [r32_succ]
    unfold r32B
    simp only [t_eta]
    have hl1 : (rows A).1.length = A.length := by simp [rows]
    have hl2 : (rows A).2.1.length = A.length := by simp [rows]
    rw [hl1, hl2]
    by_cases h101 : A.length = 101
    · have e1 : decide ((101 : Int) ≤ ((A.length : Nat) : Int)) = true := decide_eq_true (by omega)
      rw [e1, cond_true, List.take_append_of_le_length (by omega), List.take_of_length_le (by omega)]
    have e1 : decide ((101 : Int) ≤ ((A.length : Nat) : Int)) = false := decide_eq_false (by omega)
    have e2 : fits (A.length + [t].length) 88 = true := by unfold fits; simp; omega
    have e3 : fits (A.length + [(d : Int)].length) 8 = true := by unfold fits; simp; omega
    rw [e1, cond_false, e2, cond_true, e3, cond_true]
    by_cases hd2 : 20 < d
    · have e4 : decide ((20 : Int) < (d : Int)) = true := decide_eq_true (by omega)
      rw [e4, cond_true, pre_node, if_pos hd2, List.take_of_length_le (by simp; omega)]
      exact congrArg some (rows_app A t d)
    have e4 : decide ((20 : Int) < (d : Int)) = false := decide_eq_false (by omega)
    rw [e4, cond_false, pre_node, if_neg hd2]
    have hsk := (exp_small hs).2.2.2.2
    have hlk := (exp_small hs).2.2.2.1
    have hszk : ∀ k ∈ Tree.kids t, sz k ≤ n := fun k hk => by
      have := szL_mem hk
      rw [sz_node] at hn
      omega
    have hd1 : IntKind.wrap .i64 ((d : Int) + 1) = ((d + 1 : Nat) : Int) := by rw [wrap64 (by omega) (by omega)]; omega
    generalize Tree.kids t = ks at hsk hlk hszk
    rw [show (((rows A).1 ++ [t]), ((rows A).2.1 ++ [(d : Int)], ((0 : Int), Unit.unit))) = (((rows (A ++ [(t, d)])).1), ((rows (A ++ [(t, d)])).2.1, ((0 : Int), Unit.unit))) by unfold rows; simp]
    refine loop_is (y := rows ((A ++ (t, d) :: preL (d + 1) ks).take 101)) embFl ks.length (fun j => rows ((A ++ (t, d) :: preL (d + 1) (ks.take j)).take 101)) (fun s => Sum.inl ((s.1, (s.2.1, ())), ())) (fun j hj => ?_) ?_ ?_ _ ?_
    · obtain ⟨k, hk⟩ := get_lt hj
      have hkm := List.mem_of_getElem? hk
      have ih := flat_eq n k (d + 1) ((A ++ (t, d) :: preL (d + 1) (ks.take j)).take 101) (hszk k hkm) (by rw [List.length_take]; omega) (by omega) (hsk k hkm)
      have hsplit : preL (d + 1) (ks.take (j + 1)) = preL (d + 1) (ks.take j) ++ pre (d + 1) k := by rw [take_succ hk, preL_app, preL_one]
      have ih : r32 n (k, (((d + 1 : Nat) : Int), ((101 : Int), Unit.unit))) ((rows ((A ++ (t, d) :: preL (d + 1) (ks.take j)).take 101)).1, ((rows ((A ++ (t, d) :: preL (d + 1) (ks.take j)).take 101)).2.1, Unit.unit)) = _ := ih
      simp only [embFl, dec_lt hj, inB_lt hj, Int.toNat_natCast, hk, cond_true, Option.bind_some, t_eta, hd1, ih]
      rw [wrapS hj (by omega), take_app_take, hsplit]
      simp only [List.append_assoc, List.cons_append]
    · simp only [embFl, dec_nlt, cond_false]
    · rw [List.take_length]
      rfl
    · rw [List.take_zero, preL, List.take_of_length_le (by simp; omega)]
mutual
theorem pre_small : ∀ (t : DExp) (d : Nat), small kExp t → ∀ p ∈ pre d t, small kExp p.1
  | .node v ks, d, h, p, hp => by
    simp only [pre] at hp
    rcases List.mem_cons.1 hp with rfl | hp
    · exact h
    · split at hp
      · cases hp
      · exact preL_small ks (d + 1) (smallTs_iff.1 h.2.2) p hp
theorem preL_small : ∀ (ks : List DExp) (d : Nat), (∀ k ∈ ks, small kExp k) → ∀ p ∈ preL d ks, small kExp p.1
  | [], _, _, p, hp => by cases hp
  | k :: ks, d, h, p, hp => by
    simp only [preL] at hp
    rcases List.mem_append.1 hp with hp | hp
    · exact pre_small k d (h k (by simp)) p hp
    · exact preL_small ks d (fun x hx => h x (by simp [hx])) p hp
end
theorem firstE_take : ∀ (l : List (DExp × Nat)) (i : Nat), i ≤ 100 → firstE i (l.take (101 - i)) = firstE i l
  | [], i, _ => by simp
  | p :: l, i, hi => by
    rw [show 101 - i = (101 - (i + 1)) + 1 by omega, List.take_succ_cons]
    simp only [firstE]
    by_cases h : nodeE i p = 0
    · simp only [h, ne_eq, not_true_eq_false, if_false]
      have : i < 100 := by
        rcases Nat.lt_or_ge i 100 with h1 | h1
        · exact h1
        · unfold nodeE at h
          rw [if_pos (.inl h1)] at h
          cases h
      exact firstE_take l (i + 1) (by omega)
    · simp only [h, ne_eq, not_false_eq_true, if_true]
noncomputable def operL : List Int := ((r33 ()).getD ([], ())).1
theorem oper_eq : r33 () = some (operL, ()) := rfl
theorem oper_at (op : Int) (h0 : 0 ≤ op) (h1 : op ≤ 21) : inB op operL.length = true ∧ operL[op.toNat]? = some (kidsN op) := by
  have key : ∀ n : Fin 22, inB ((n : Nat) : Int) operL.length = true ∧ operL[(n : Nat)]? = some (kidsN ((n : Nat) : Int)) := by decide +kernel
  have := key ⟨op.toNat, by omega⟩
  simp only at this
  rwa [show ((op.toNat : Nat) : Int) = op by omega] at this
theorem kids_in {op : Int} (h0 : 0 ≤ op) (h1 : op ≤ 21) : ¬ kidsN op < 0 := by
  have key : ∀ n : Fin 22, ¬ kidsN ((n : Nat) : Int) < 0 := by decide
  have := key ⟨op.toNat, by omega⟩
  simp only at this
  rwa [show ((op.toNat : Nat) : Int) = op by omega] at this
theorem kids_out {op : Int} (h : op < 0 ∨ 21 < op) : kidsN op < 0 := by
  unfold kidsN
  rw [if_neg (by omega), if_neg (by omega), if_neg (by omega), if_neg (by omega)]
  omega
theorem reserved_eq : r37 () = some (wordsL, ()) := by kernel_rfl
theorem rfields_eq : r38 () = some (fieldsL, ()) := by kernel_rfl
end Go.Proofs.YtfmadjkakghohaaGreatDoor.I

namespace Go.Proofs.YtfmadjkakghohaaGreatDoor.I
open Go.RowKit
set_option linter.unusedVariables false
set_option linter.unusedSimpArgs false
set_option linter.constructorNameAsVariable false
theorem rname_eq (s : ByteArray) (h : s.size ≤ 9223372036854775807) : r35 (s, ()) = some (nameOk s, ()) := by
  unfold r35
  have : decide (s.size ≤ 9223372036854775807) = true := decide_eq_true h
  simp only [this, cond_true]
@[reducible] def exX (e : Int) : (IU) ⊕ (((Int × Unit) × Unit) ⊕ ((Unit × Unit) ⊕ Empty)) := Sum.inr (Sum.inl ((e, ()), ()))
set_option maxHeartbeats 8000000 in
theorem exprErr_eq (n : Nat) (t : DExp) (hn : sz t ≤ n) (hs : small kExp t) : r12 n (t, ()) = some (expE t, ()) := by
  unfold r12
  have h1 := flat_eq n t 1 [] hn (by simp) (by omega) hs
  have h1 : r32 n (t, ((1 : Int), ((101 : Int), Unit.unit))) (List.nil, (List.nil, Unit.unit)) = some (rows ((pre 1 t).take 101)) := h1
  rw [t_eta, h1]
  simp only [Option.bind_some]
  have hsm : ∀ p ∈ (pre 1 t).take 101, small kExp p.1 := fun p hp => pre_small t 1 hs p (List.mem_of_mem_take hp)
  have hl : ((pre 1 t).take 101).length ≤ 101 := by rw [List.length_take]; omega
  have hfin : firstE 0 ((pre 1 t).take 101) = expE t := firstE_take (pre 1 t) 0 (by omega)
  rw [← hfin]
  generalize (pre 1 t).take 101 = B at hsm hl
  have hl1 : (rows B).1.length = B.length := by simp [rows]
  have hl2 : (rows B).2.1.length = B.length := by simp [rows]
  refine bind_loop (Post := fun o => (∃ e : Int, o = Sum.inl ((e, ()), ()) ∧ firstE 0 B = e) ∨ (o = Sum.inr (Sum.inl ((), ())) ∧ firstE 0 B = 0)) (loop_up embI B.length (fun j _ => firstE 0 (B.take j) = 0) _ (fun j u hj hI => ?_) (fun u hI => ?_) 0 () (Nat.zero_le _) (by simp [firstE])) (fun o ho => ?_)
  · obtain ⟨p, hp⟩ := get_lt hj
    have hps := hsm p (List.mem_of_getElem? hp)
    have ea : (rows B).1[j]? = some p.1 := by simp [rows, hp]
    have eb : (rows B).2.1[j]? = some ((p.2 : Nat) : Int) := by simp [rows, hp]
    have hsplit : B.take (j + 1) = B.take j ++ [p] := take_succ hp
    have hj2 : (B.take j).length = j := by rw [List.length_take]; omega
    have hone : firstE 0 (B.take (j + 1)) = nodeE j p := by
      rw [hsplit, firstE_app, hI, hj2, if_neg (by simp), Nat.zero_add]
      simp only [firstE]
      by_cases hz : nodeE j p = 0
      · rw [hz]; simp
      · rw [if_pos hz]
    have hall : B = B.take (j + 1) ++ B.drop (j + 1) := (List.take_append_drop _ _).symm
    have hbad : nodeE j p ≠ 0 → firstE 0 B = nodeE j p := fun hne => by
      have hf := congrArg (fun l => firstE 0 l) hall
      rw [show firstE 0 B = firstE 0 (B.take (j + 1) ++ B.drop (j + 1)) from hf, firstE_app, hone, if_pos hne]
    simp only [embI, hl1, hl2, dec_lt hj, inB_lt hj, Int.toNat_natCast, ea, eb, cond_true, Option.bind_some]
    suffices hstep : ∀ r : Option (IU ⊕ (((Int × Unit) × Unit) ⊕ ((Unit × Unit) ⊕ Empty))), r = (if nodeE j p = 0 then some (Sum.inl ((((j : Int) + 1, ()), ()))) else some (exX (nodeE j p))) → ((∃ s' : Unit, r = some (Sum.inl (((((j : Int) + 1), ()), ()))) ∧ firstE 0 (B.take (j + 1)) = 0) ∨ ∃ o, r = some (Sum.inr o) ∧ ((∃ e : Int, o = Sum.inl ((e, ()), ()) ∧ firstE 0 B = e) ∨ (o = Sum.inr (Sum.inl ((), ())) ∧ firstE 0 B = 0))) by
      refine hstep _ ?_
      obtain ⟨t', d'⟩ := p
      obtain ⟨k1, k2, k3, k4, k5⟩ := exp_small hps
      simp only
      have hv := r29_eq (Tree.val t').2.1 k2.2.2.1
      have hv' : r34 (((Tree.val t').2.1.1, ((Tree.val t').2.1.2.1, ((Tree.val t').2.1.2.2.1, ((Tree.val t').2.1.2.2.2.1, Unit.unit)))), Unit.unit) = some (checkV (Tree.val t').2.1, ()) := hv
      have hnm := rname_eq (Tree.val t').2.2.1 k3
      have hw := contains_str wordsL (Tree.val t').2.2.1 (by rw [words_len]; omega)
      have hf := contains_str fieldsL (Tree.val t').2.2.1 (by rw [fields_len]; omega)
      rw [wrapS hj (by omega)]
      have hNE : nodeE j (t', d') = if 100 ≤ j ∨ 20 < d' then 2 else oneE (Tree.val t') (Tree.kids t').length := rfl
      rw [hNE]
      by_cases h100 : j = 100
      · have e1 : decide ((j : Int) = 100) = true := decide_eq_true (by omega)
        rw [e1, cond_true, if_pos (show 100 ≤ j ∨ 20 < d' from .inl (by omega))]
        rfl
      have e1 : decide ((j : Int) = 100) = false := decide_eq_false (by omega)
      rw [e1, cond_false]
      by_cases hd : 20 < d'
      · have e2 : decide ((20 : Int) < (d' : Int)) = true := decide_eq_true (by omega)
        rw [e2, cond_true, if_pos (show 100 ≤ j ∨ 20 < d' from .inr hd)]
        rfl
      have e2 : decide ((20 : Int) < (d' : Int)) = false := decide_eq_false (by omega)
      rw [e2, cond_false, if_neg (show ¬ (100 ≤ j ∨ 20 < d') by omega)]
      by_cases ho1 : (Tree.val t').1 < 0
      · rw [decide_eq_true ho1, cond_true]
        have : oneE (Tree.val t') (Tree.kids t').length = 8 := by unfold oneE; rw [if_pos (kids_out (.inl ho1))]
        rw [this]
        rfl
      rw [decide_eq_false ho1, cond_false]
      by_cases ho2 : 21 < (Tree.val t').1
      · rw [decide_eq_true ho2, cond_true]
        have : oneE (Tree.val t') (Tree.kids t').length = 8 := by unfold oneE; rw [if_pos (kids_out (.inr ho2))]
        rw [this]
        rfl
      rw [decide_eq_false ho2, cond_false]
      obtain ⟨q1, q2⟩ := oper_at (Tree.val t').1 (by omega) (by omega)
      have q3 := kids_in (op := (Tree.val t').1) (by omega) (by omega)
      simp only [oper_eq, q1, q2, cond_true, Option.bind_some, hv', hnm, hw, hf, reserved_eq, rfields_eq, val_nil]
      unfold oneE
      rw [if_neg q3]
      generalize (Tree.kids t').length = k
      generalize (Tree.val t').2.1 = v
      generalize (Tree.val t').2.2.1 = s
      generalize (Tree.val t').1 = op at *
      clear hv hv' hnm hw hf q1 q2
      by_cases z1 : (k : Int) = kidsN op
      rotate_left
      · rw [if_pos (Or.inl z1 : ¬ (k : Int) = kidsN op ∨ _), decide_eq_false z1]
        rfl
      rw [decide_eq_true z1]
      simp only [z1, Bool.not_true, cond_false, not_true_eq_false, false_or]
      by_cases b0 : op = 0
      · subst b0
        by_cases be : s = emptyS
        · subst be
          by_cases hc : checkV v = 0 <;> simp [emptyS, hc]
        · have : ¬ s = ByteArray.mk (List.toArray []) := be
          simp [be, this]
      · by_cases bv : v = (0, (0, (emptyS, (false, ()))))
        · by_cases b1 : op = 1
          · subst b1
            cases hnm : nameOk s <;> cases hmw : inL s wordsL <;> simp [bv]
          · by_cases b2 : op = 2
            · subst b2
              cases hmf : inL s fieldsL <;> simp [bv]
            · by_cases be : s = emptyS
              · have : s = ByteArray.mk (List.toArray []) := be
                simp [b0, b1, b2, bv, be, emptyS]
              · have : ¬ s = ByteArray.mk (List.toArray []) := be
                simp [b0, b1, b2, bv, be, this]
        · simp [b0, bv]
    intro r hr
    by_cases hz : nodeE j p = 0
    · rw [if_pos hz] at hr
      exact .inl ⟨(), hr, by rw [hone, hz]⟩
    · rw [if_neg hz] at hr
      exact .inr ⟨_, hr, .inl ⟨_, rfl, hbad hz⟩⟩
  · rw [List.take_length] at hI
    exact ⟨_, by simp only [embI, hl1, dec_nlt, cond_false], .inr ⟨rfl, hI⟩⟩
  · rcases ho with ⟨e, rfl, h⟩ | ⟨rfl, h⟩
    · rw [h]; rfl
    · rw [h]; rfl
end Go.Proofs.YtfmadjkakghohaaGreatDoor.I

namespace Go.Proofs.YtfmadjkakghohaaGreatDoor.I
open Go.RowKit
set_option linter.unusedVariables false
set_option linter.unusedSimpArgs false
set_option linter.constructorNameAsVariable false
def boolV (b : Bool) : DVal := (3, (0, (emptyS, (b, ()))))
def numV (n : Int) : DVal := (1, (n, (emptyS, (false, ()))))
def zeroV0 : DVal := (0, (0, (emptyS, (false, ()))))
def ordI (a b : Int) : Int := if a < b then -1 else if b < a then 1 else 0
def biI (b : Bool) : Int := cond b 1 0
def fnz : List Int → Int
  | [] => 0
  | a :: l => if a ≠ 0 then a else fnz l
def cmpV (a b : DVal) : Int := fnz [ordI a.1 b.1, ordI a.2.1 b.2.1, Lib.compareBytes a.2.2.1.data.toList b.2.2.1.data.toList, biI a.2.2.2.1 - biI b.2.2.2.1]
theorem compare_eq (a b : Int) : r157 (a, (b, ())) = some (ordI a b, ()) := by
  unfold r157 r189 ordI
  by_cases h1 : a < b
  · simp [h1]
  · by_cases h2 : b < a
    · simp [h1, h2]
    · simp [h1, h2]
theorem order_eq (a b : Int) : r78 (a, (b, ())) = some (ordI a b, ()) := by
  unfold r78 ordI
  by_cases h1 : a < b
  · simp [h1]
  · by_cases h2 : b < a
    · simp [h1, h2]
    · simp [h1, h2]
theorem fnz_drop {l : List Int} {i : Nat} {a : Int} (h : l[i]? = some a) : fnz (l.drop i) = if a ≠ 0 then a else fnz (l.drop (i + 1)) := by
  have : l.drop i = a :: l.drop (i + 1) := by
    have hl := (List.getElem?_eq_some_iff.1 h)
    obtain ⟨h1, h2⟩ := hl
    rw [← h2]
    exact List.drop_eq_getElem_cons h1
  rw [this]
  rfl
theorem or_eq (l : List Int) (hl : l.length ≤ 1000000) : r156 (l, ()) = some (fnz l, ()) := by
  unfold r156
  refine bind_loop (Post := fun o => o = Sum.inl ((fnz l, ()), ()) ∨ (o = Sum.inr (Sum.inl ((), ())) ∧ fnz l = 0)) (loop_up embI l.length (fun j _ => fnz l = fnz (l.drop j)) _ (fun j u hj hI => ?_) (fun u hI => ?_) 0 () (Nat.zero_le _) rfl) (fun o ho => ?_)
  · obtain ⟨a, ha⟩ := get_lt hj
    simp only [embI, dec_lt hj, inB_lt hj, Int.toNat_natCast, ha, cond_true, Option.bind_some]
    rw [fnz_drop ha] at hI
    by_cases hz : a = 0
    · refine .inl ⟨(), by rw [decide_eq_true hz]; simp only [Bool.not_true, cond_false]; rw [wrapS hj (by omega)], ?_⟩
      rw [hI, if_neg (by simpa using hz)]
    · refine .inr ⟨_, by rw [decide_eq_false hz]; rfl, .inl ?_⟩
      rw [hI, if_pos hz]
  · rw [List.drop_length] at hI
    exact ⟨_, by simp only [embI, dec_nlt, cond_false], .inr ⟨rfl, hI⟩⟩
  · rcases ho with rfl | ⟨rfl, h⟩
    · rfl
    · rw [h]; rfl
theorem cmp_eq (a b : DVal) : r119 (a, (b, ())) = some (cmpV a b, ()) := by
  obtain ⟨a1, a2, a3, a4, ⟨⟩⟩ := a
  obtain ⟨b1, b2, b3, b4, ⟨⟩⟩ := b
  unfold r119 cmpV
  have hs : r158 (a3, (b3, ())) = some (Lib.compareBytes a3.data.toList b3.data.toList, ()) := rfl
  have c1 : r157 (a1, (b1, Unit.unit)) = some (ordI a1 b1, ()) := compare_eq a1 b1
  have c2 : r157 (a2, (b2, Unit.unit)) = some (ordI a2 b2, ()) := compare_eq a2 b2
  have c3 : ∀ y : Int, r156 (List.cons (ordI a1 b1) (List.cons (ordI a2 b2) (List.cons (Lib.compareBytes a3.data.toList b3.data.toList) (List.cons y List.nil))), Unit.unit) = some (fnz [ordI a1 b1, ordI a2 b2, Lib.compareBytes a3.data.toList b3.data.toList, y], ()) := fun y => or_eq _ (by simp)
  cases a4 <;> cases b4 <;> simp only [c1, c2, c3, hs, Option.bind_some, cond_true, cond_false] <;> rfl
theorem less_cmpL : ∀ a b : List UInt8, (Op.bytesLess a b = true ∧ a ≠ b ∧ Lib.compareBytes a b = -1) ∨ (Op.bytesLess a b = false ∧ a = b ∧ Lib.compareBytes a b = 0) ∨ (Op.bytesLess a b = false ∧ a ≠ b ∧ Lib.compareBytes a b = 1)
  | [], [] => .inr (.inl ⟨rfl, rfl, rfl⟩)
  | [], _ :: _ => .inl ⟨rfl, by simp, rfl⟩
  | _ :: _, [] => .inr (.inr ⟨rfl, by simp, rfl⟩)
  | a :: x, b :: y => by
    have ih := less_cmpL x y
    unfold Op.bytesLess Lib.compareBytes
    by_cases h1 : a < b
    · left
      have hne : a ≠ b := fun e => by subst e; exact absurd h1 (UInt8.lt_irrefl _)
      simp [h1, hne]
    · by_cases h2 : b < a
      · right; right
        have hne : a ≠ b := fun e => by subst e; exact absurd h2 (UInt8.lt_irrefl _)
        simp [h1, h2, hne]
      · have he : a = b := UInt8.le_antisymm (UInt8.not_lt.1 h2) (UInt8.not_lt.1 h1)
        subst he
        simpa [h1] using ih
theorem less_cmpS (a b : ByteArray) : (strLt a b = true ∧ a ≠ b ∧ Lib.compareBytes a.data.toList b.data.toList = -1) ∨ (strLt a b = false ∧ a = b ∧ Lib.compareBytes a.data.toList b.data.toList = 0) ∨ (strLt a b = false ∧ a ≠ b ∧ Lib.compareBytes a.data.toList b.data.toList = 1) := by
  have hne : ∀ {x y : ByteArray}, x.data.toList ≠ y.data.toList → x ≠ y := fun h e => h (by rw [e])
  have hlt : strLt a b = Op.bytesLess a.data.toList b.data.toList := by
    unfold strLt
    first | rfl | (rw [ByteArray.toList_eq, ByteArray.toList_eq])
  rw [hlt]
  rcases less_cmpL a.data.toList b.data.toList with ⟨h1, h2, h3⟩ | ⟨h1, h2, h3⟩ | ⟨h1, h2, h3⟩
  · exact .inl ⟨h1, hne h2, h3⟩
  · refine .inr (.inl ⟨h1, ?_, h3⟩)
    obtain ⟨⟨x⟩⟩ := a
    obtain ⟨⟨y⟩⟩ := b
    simp only at h2
    rw [h2]
  · exact .inr (.inr ⟨h1, hne h2, h3⟩)
theorem rcmp_eq (a b : DVal) : r45 (a, (b, ())) = some (cmpV a b, ()) := by
  obtain ⟨a1, a2, a3, a4, ⟨⟩⟩ := a
  obtain ⟨b1, b2, b3, b4, ⟨⟩⟩ := b
  unfold r45 cmpV
  have c1 : r78 (a1, (b1, Unit.unit)) = some (ordI a1 b1, ()) := order_eq a1 b1
  have c2 : r78 (a2, (b2, Unit.unit)) = some (ordI a2 b2, ()) := order_eq a2 b2
  simp only [c1, c2, Option.bind_some]
  refine bind_loop (Post := fun o => (o = Sum.inl ((fnz [ordI a1 b1, ordI a2 b2, Lib.compareBytes a3.data.toList b3.data.toList, biI a4 - biI b4], ()), ())) ∨ (o = Sum.inr (Sum.inl ((), ())) ∧ ordI a1 b1 = 0 ∧ ordI a2 b2 = 0)) (loop_up embI 2 (fun j _ => (1 ≤ j → ordI a1 b1 = 0) ∧ (2 ≤ j → ordI a2 b2 = 0)) _ (fun j u hj hI => ?_) (fun u hI => ?_) 0 () (Nat.zero_le _) ⟨fun h => by omega, fun h => by omega⟩) (fun o ho => ?_)
  · have hj2 : j = 0 ∨ j = 1 := by omega
    rcases hj2 with rfl | rfl
    · by_cases hz : ordI a1 b1 = 0
      · exact .inl ⟨(), by simp [embI, inB, hz]; decide, fun _ => hz, fun h => by omega⟩
      · exact .inr ⟨_, by simp [embI, inB, hz]; rfl, .inl (by simp [fnz, hz])⟩
    · have h0 := hI.1 (by omega)
      by_cases hz : ordI a2 b2 = 0
      · exact .inl ⟨(), by simp [embI, inB, hz]; decide, fun _ => h0, fun _ => hz⟩
      · exact .inr ⟨_, by simp [embI, inB, hz]; rfl, .inl (by simp [fnz, hz, h0])⟩
  · exact ⟨_, by simp [embI], .inr ⟨rfl, hI.1 (by omega), hI.2 (by omega)⟩⟩
  · rcases ho with rfl | ⟨rfl, h1, h2⟩
    · rfl
    · simp only [h1, h2, fnz, sumE]
      rcases less_cmpS a3 b3 with ⟨g1, g2, g3⟩ | ⟨g1, g2, g3⟩ | ⟨g1, g2, g3⟩
      · simp [g1, g3]
      · subst g2
        rw [g1, g3]
        cases a4 <;> cases b4 <;> simp [biI]
      · simp [g1, g2, g3]
end Go.Proofs.YtfmadjkakghohaaGreatDoor.I
