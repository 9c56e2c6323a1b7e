import Derived.Test.YtdfgfjnpllncdaaGreatDoorXr4
import Derived.Test.YtdfgfjnpllncdaaGreatDoorProg
import Derived.Lib.ItoaLen
import Derived.OpenShut
import Derived.Lib.Small
import Derived.Lib.Join
import Derived.Lib.AtoiAllCases
set_option linter.unusedSimpArgs false
set_option linter.unusedVariables false
namespace Go.Proofs.YtdfgfjnpllncdaaGreatDoor.I
open Go.RowKit
open _root_.Decidable renaming decide → qd
open _root_.Option renaming bind → qb, some → qs, none → qn
open _root_.Unit renaming unit → qu
open IntKind renaming wrap → qw, i64 → q6
open _root_.HAdd renaming hAdd → qa
open _root_.Nat renaming cast → qc
open _root_.ByteArray renaming extract → qx, size → qz, mk → qm
open _root_.List renaming length → ql, cons → qk, nil → qe, toArray → qt
open _root_.HAppend renaming hAppend → qp
open _root_.Bool renaming not → qo, and → qj, true → q1, false → q0
open _root_.Int renaming toNat → qi
open _root_.UInt8 renaming toNat → qv
open _root_.Sum renaming inl → qf, inr → qr
open _root_.GetElem? renaming getElem? → qg
open _root_.LE renaming le → qq
open _root_.LT renaming lt → qy
set_option linter.unusedVariables false
set_option maxRecDepth 100000
/-- terrier/terrref2.pieces -/
noncomputable def r44 (x : (kdP [.str]).T) : Option (kdP [(.slice .str), .bool]).T :=
  (qb (loop (D := (Prod (Kd.T (.pair (.int .i64) (.pair (.slice .str) .unit))) (Kd.T .unit))) (O := (Sum (Kd.T (.pair (.pair (.slice .str) (.pair .bool .unit)) .unit)) (OutT (qk ((Ex3.exit 0), (Sh.mk (qk (4, (ASh.own Kd.str)) (qe)) (qe) (qe))) (qe))))) (fun x0 => (cond (qd (qy x0.1.1 (qc (qz x.1) : Int))) (qb (strAt x.1 x0.1.1) (fun x1 => (cond (qd (qq (97 : Int) (qc (qv x1) : Int))) (cond (qd (qq (48 : Int) (qc (qv x1) : Int))) (cond (qd (Eq (qc (qv x1) : Int) (32 : Int))) (qs (qf (((qw q6 (qa x0.1.1 (1 : Int))), (x0.1.2.1, qu)), qu))) (cond (qd (qq (qc (qv x1) : Int) (122 : Int))) (qb (loop (D := (Prod (Kd.T (.pair (.int .i64) .unit)) (Kd.T .unit))) (O := (Sum (Kd.T (.pair (.pair (.int .i64) .unit) .unit)) (OutT (qk ((Ex3.exit 3), (Sh.mk (qk (46, (ASh.lf Kd.str)) (qk (47, (ASh.lf (Kd.int q6))) (qk (48, (ASh.lf (Kd.int IntKind.u8))) (qk (49, (ASh.lf Kd.bool)) (qk (50, (ASh.lf Kd.bool)) (qk (55, (ASh.lf Kd.bool)) (qk (56, (ASh.lf Kd.bool)) (qk (57, (ASh.lf Kd.bool)) (qk (58, (ASh.lf Kd.bool)) (qk (75, (ASh.lf Kd.bool)) (qk (76, (ASh.lf Kd.bool)) (qk (5, (ASh.lf (Kd.int q6))) (qe))))))))))))) (qe) (qe))) (qk ((Ex3.exit 3), (Sh.mk (qk (46, (ASh.lf Kd.str)) (qk (47, (ASh.lf (Kd.int q6))) (qk (48, (ASh.lf (Kd.int IntKind.u8))) (qk (49, (ASh.lf Kd.bool)) (qk (50, (ASh.lf Kd.bool)) (qk (51, (ASh.lf Kd.str)) (qk (52, (ASh.lf (Kd.int q6))) (qk (53, (ASh.lf (Kd.int IntKind.u8))) (qk (54, (ASh.lf Kd.bool)) (qk (55, (ASh.lf Kd.bool)) (qk (56, (ASh.lf Kd.bool)) (qk (57, (ASh.lf Kd.bool)) (qk (58, (ASh.lf Kd.bool)) (qk (75, (ASh.lf Kd.bool)) (qk (76, (ASh.lf Kd.bool)) (qk (5, (ASh.lf (Kd.int q6))) (qe))))))))))))))))) (qe) (qe))) (qe)))))) (fun x2 => (cond (qd (qy x2.1.1 (qc (qz x.1) : Int))) (qb (strAt x.1 x2.1.1) (fun x3 => (cond (qd (qq (48 : Int) (qc (qv x3) : Int))) (qb (strAt x.1 x2.1.1) (fun x4 => (cond (qd (qq (qc (qv x4) : Int) (57 : Int))) (qs (qf (((qw q6 (qa x2.1.1 (1 : Int))), qu), qu))) (cond (qd (qq (qc (qv x1) : Int) (122 : Int))) (qb (strAt x.1 x2.1.1) (fun x5 => (cond (qd (qq (97 : Int) (qc (qv x5) : Int))) (qb (strAt x.1 x2.1.1) (fun x6 => (cond (qd (qq (qc (qv x6) : Int) (122 : Int))) (qs (qf (((qw q6 (qa x2.1.1 (1 : Int))), qu), qu))) (qb (strAt x.1 x2.1.1) (fun x7 => (cond (qd (Eq (qc (qv x7) : Int) (95 : Int))) (qs (qf (((qw q6 (qa x2.1.1 (1 : Int))), qu), qu))) (qs (qr (qf ((x2.1.1, qu), qu)))))))))) (qb (strAt x.1 x2.1.1) (fun x6 => (cond (qd (Eq (qc (qv x6) : Int) (95 : Int))) (qs (qf (((qw q6 (qa x2.1.1 (1 : Int))), qu), qu))) (qs (qr (qf ((x2.1.1, qu), qu)))))))))) (qs (qr (qf ((x2.1.1, qu), qu)))))))) (cond (qd (qq (qc (qv x1) : Int) (122 : Int))) (qb (strAt x.1 x2.1.1) (fun x4 => (cond (qd (qq (97 : Int) (qc (qv x4) : Int))) (qb (strAt x.1 x2.1.1) (fun x5 => (cond (qd (qq (qc (qv x5) : Int) (122 : Int))) (qs (qf (((qw q6 (qa x2.1.1 (1 : Int))), qu), qu))) (qb (strAt x.1 x2.1.1) (fun x6 => (cond (qd (Eq (qc (qv x6) : Int) (95 : Int))) (qs (qf (((qw q6 (qa x2.1.1 (1 : Int))), qu), qu))) (qs (qr (qf ((x2.1.1, qu), qu)))))))))) (qb (strAt x.1 x2.1.1) (fun x5 => (cond (qd (Eq (qc (qv x5) : Int) (95 : Int))) (qs (qf (((qw q6 (qa x2.1.1 (1 : Int))), qu), qu))) (qs (qr (qf ((x2.1.1, qu), qu)))))))))) (qs (qr (qf ((x2.1.1, qu), qu)))))))) (qs (qr (qf ((x2.1.1, qu), qu)))))) ((x0.1.1, qu), qu)) (sumE (fun x2 => (cond (upTo x2.1.1 (qc (qz x.1) : Int)) (cond (upTo x0.1.1 x2.1.1) (cond (fits (qa (ql x0.1.2.1) (ql (qk (qx x.1 (qi x0.1.1) (qi x2.1.1)) (qe)))) 16) (qs (qf ((x2.1.1, ((qp x0.1.2.1 (qk (qx x.1 (qi x0.1.1) (qi x2.1.1)) (qe))), qu)), qu))) (qn)) (qn)) (qn))) (sumE (fun x2 => (cond (upTo x2.1.2.2.2.2.2.2.2.2.2.2.2.1 (qc (qz x.1) : Int)) (cond (upTo x0.1.1 x2.1.2.2.2.2.2.2.2.2.2.2.2.1) (cond (fits (qa (ql x0.1.2.1) (ql (qk (qx x.1 (qi x0.1.1) (qi x2.1.2.2.2.2.2.2.2.2.2.2.2.1)) (qe)))) 16) (qs (qf ((x2.1.2.2.2.2.2.2.2.2.2.2.2.1, ((qp x0.1.2.1 (qk (qx x.1 (qi x0.1.1) (qi x2.1.2.2.2.2.2.2.2.2.2.2.2.1)) (qe))), qu)), qu))) (qn)) (qn)) (qn))) (sumE (fun x2 => (cond (upTo x2.1.2.2.2.2.2.2.2.2.2.2.2.2.2.2.2.1 (qc (qz x.1) : Int)) (cond (upTo x0.1.1 x2.1.2.2.2.2.2.2.2.2.2.2.2.2.2.2.2.1) (cond (fits (qa (ql x0.1.2.1) (ql (qk (qx x.1 (qi x0.1.1) (qi x2.1.2.2.2.2.2.2.2.2.2.2.2.2.2.2.2.1)) (qe)))) 16) (qs (qf ((x2.1.2.2.2.2.2.2.2.2.2.2.2.2.2.2.2.1, ((qp x0.1.2.1 (qk (qx x.1 (qi x0.1.1) (qi x2.1.2.2.2.2.2.2.2.2.2.2.2.2.2.2.2.1)) (qe))), qu)), qu))) (qn)) (qn)) (qn))) (emptyE))))) (cond (qd (qq (qc (qv x1) : Int) (57 : Int))) (qb (loop (D := (Prod (Kd.T (.pair (.int .i64) .unit)) (Kd.T .unit))) (O := (Sum (Kd.T (.pair (.pair (.int .i64) .unit) .unit)) (OutT (qk ((Ex3.exit 3), (Sh.mk (qk (46, (ASh.lf Kd.str)) (qk (47, (ASh.lf (Kd.int q6))) (qk (48, (ASh.lf (Kd.int IntKind.u8))) (qk (49, (ASh.lf Kd.bool)) (qk (50, (ASh.lf Kd.bool)) (qk (55, (ASh.lf Kd.bool)) (qk (56, (ASh.lf Kd.bool)) (qk (57, (ASh.lf Kd.bool)) (qk (58, (ASh.lf Kd.bool)) (qk (75, (ASh.lf Kd.bool)) (qk (76, (ASh.lf Kd.bool)) (qk (5, (ASh.lf (Kd.int q6))) (qe))))))))))))) (qe) (qe))) (qk ((Ex3.exit 3), (Sh.mk (qk (46, (ASh.lf Kd.str)) (qk (47, (ASh.lf (Kd.int q6))) (qk (48, (ASh.lf (Kd.int IntKind.u8))) (qk (49, (ASh.lf Kd.bool)) (qk (50, (ASh.lf Kd.bool)) (qk (51, (ASh.lf Kd.str)) (qk (52, (ASh.lf (Kd.int q6))) (qk (53, (ASh.lf (Kd.int IntKind.u8))) (qk (54, (ASh.lf Kd.bool)) (qk (55, (ASh.lf Kd.bool)) (qk (56, (ASh.lf Kd.bool)) (qk (57, (ASh.lf Kd.bool)) (qk (58, (ASh.lf Kd.bool)) (qk (75, (ASh.lf Kd.bool)) (qk (76, (ASh.lf Kd.bool)) (qk (5, (ASh.lf (Kd.int q6))) (qe))))))))))))))))) (qe) (qe))) (qe)))))) (fun x2 => (cond (qd (qy x2.1.1 (qc (qz x.1) : Int))) (qb (strAt x.1 x2.1.1) (fun x3 => (cond (qd (qq (48 : Int) (qc (qv x3) : Int))) (qb (strAt x.1 x2.1.1) (fun x4 => (cond (qd (qq (qc (qv x4) : Int) (57 : Int))) (qs (qf (((qw q6 (qa x2.1.1 (1 : Int))), qu), qu))) (cond (qd (qq (qc (qv x1) : Int) (122 : Int))) (qb (strAt x.1 x2.1.1) (fun x5 => (cond (qd (qq (97 : Int) (qc (qv x5) : Int))) (qb (strAt x.1 x2.1.1) (fun x6 => (cond (qd (qq (qc (qv x6) : Int) (122 : Int))) (qs (qf (((qw q6 (qa x2.1.1 (1 : Int))), qu), qu))) (qb (strAt x.1 x2.1.1) (fun x7 => (cond (qd (Eq (qc (qv x7) : Int) (95 : Int))) (qs (qf (((qw q6 (qa x2.1.1 (1 : Int))), qu), qu))) (qs (qr (qf ((x2.1.1, qu), qu)))))))))) (qb (strAt x.1 x2.1.1) (fun x6 => (cond (qd (Eq (qc (qv x6) : Int) (95 : Int))) (qs (qf (((qw q6 (qa x2.1.1 (1 : Int))), qu), qu))) (qs (qr (qf ((x2.1.1, qu), qu)))))))))) (qs (qr (qf ((x2.1.1, qu), qu)))))))) (cond (qd (qq (qc (qv x1) : Int) (122 : Int))) (qb (strAt x.1 x2.1.1) (fun x4 => (cond (qd (qq (97 : Int) (qc (qv x4) : Int))) (qb (strAt x.1 x2.1.1) (fun x5 => (cond (qd (qq (qc (qv x5) : Int) (122 : Int))) (qs (qf (((qw q6 (qa x2.1.1 (1 : Int))), qu), qu))) (qb (strAt x.1 x2.1.1) (fun x6 => (cond (qd (Eq (qc (qv x6) : Int) (95 : Int))) (qs (qf (((qw q6 (qa x2.1.1 (1 : Int))), qu), qu))) (qs (qr (qf ((x2.1.1, qu), qu)))))))))) (qb (strAt x.1 x2.1.1) (fun x5 => (cond (qd (Eq (qc (qv x5) : Int) (95 : Int))) (qs (qf (((qw q6 (qa x2.1.1 (1 : Int))), qu), qu))) (qs (qr (qf ((x2.1.1, qu), qu)))))))))) (qs (qr (qf ((x2.1.1, qu), qu)))))))) (qs (qr (qf ((x2.1.1, qu), qu)))))) ((x0.1.1, qu), qu)) (sumE (fun x2 => (cond (upTo x2.1.1 (qc (qz x.1) : Int)) (cond (upTo x0.1.1 x2.1.1) (cond (fits (qa (ql x0.1.2.1) (ql (qk (qx x.1 (qi x0.1.1) (qi x2.1.1)) (qe)))) 16) (qs (qf ((x2.1.1, ((qp x0.1.2.1 (qk (qx x.1 (qi x0.1.1) (qi x2.1.1)) (qe))), qu)), qu))) (qn)) (qn)) (qn))) (sumE (fun x2 => (cond (upTo x2.1.2.2.2.2.2.2.2.2.2.2.2.1 (qc (qz x.1) : Int)) (cond (upTo x0.1.1 x2.1.2.2.2.2.2.2.2.2.2.2.2.1) (cond (fits (qa (ql x0.1.2.1) (ql (qk (qx x.1 (qi x0.1.1) (qi x2.1.2.2.2.2.2.2.2.2.2.2.2.1)) (qe)))) 16) (qs (qf ((x2.1.2.2.2.2.2.2.2.2.2.2.2.1, ((qp x0.1.2.1 (qk (qx x.1 (qi x0.1.1) (qi x2.1.2.2.2.2.2.2.2.2.2.2.2.1)) (qe))), qu)), qu))) (qn)) (qn)) (qn))) (sumE (fun x2 => (cond (upTo x2.1.2.2.2.2.2.2.2.2.2.2.2.2.2.2.2.1 (qc (qz x.1) : Int)) (cond (upTo x0.1.1 x2.1.2.2.2.2.2.2.2.2.2.2.2.2.2.2.2.1) (cond (fits (qa (ql x0.1.2.1) (ql (qk (qx x.1 (qi x0.1.1) (qi x2.1.2.2.2.2.2.2.2.2.2.2.2.2.2.2.2.1)) (qe)))) 16) (qs (qf ((x2.1.2.2.2.2.2.2.2.2.2.2.2.2.2.2.2.1, ((qp x0.1.2.1 (qk (qx x.1 (qi x0.1.1) (qi x2.1.2.2.2.2.2.2.2.2.2.2.2.2.2.2.2.1)) (qe))), qu)), qu))) (qn)) (qn)) (qn))) (emptyE))))) (cond (qd (Eq (qc (qv x1) : Int) (34 : Int))) (cond (upTo (qw q6 (qa x0.1.1 (1 : Int))) (qc (qz x.1) : Int)) (qb (r75 ((qx x.1 (qi (qw q6 (qa x0.1.1 (1 : Int)))) (qz x.1)), ((qm (qt [34])), qu))) (fun x2 => (cond (qd (qy x2.1 (0 : Int))) (qs (qr (qf (((qe), (q0, qu)), qu)))) (cond (upTo (qw q6 (qa x0.1.1 (qw q6 (qa x2.1 (2 : Int))))) (qc (qz x.1) : Int)) (cond (upTo x0.1.1 (qw q6 (qa x0.1.1 (qw q6 (qa x2.1 (2 : Int)))))) (cond (fits (qa (ql x0.1.2.1) (ql (qk (qx x.1 (qi x0.1.1) (qi (qw q6 (qa x0.1.1 (qw q6 (qa x2.1 (2 : Int))))))) (qe)))) 16) (qs (qf (((qw q6 (qa x0.1.1 (qw q6 (qa x2.1 (2 : Int))))), ((qp x0.1.2.1 (qk (qx x.1 (qi x0.1.1) (qi (qw q6 (qa x0.1.1 (qw q6 (qa x2.1 (2 : Int))))))) (qe))), qu)), qu))) (qn)) (qn)) (qn))))) (qn)) (cond (upTo x0.1.1 (qc (qz x.1) : Int)) (qb (r76 ((qx x.1 (qi x0.1.1) (qz x.1)), ((qm (qt [33, 61])), qu))) (fun x2 => (cond x2.1 (cond (upTo (qw q6 (qa x0.1.1 (2 : Int))) (qc (qz x.1) : Int)) (cond (upTo x0.1.1 (qw q6 (qa x0.1.1 (2 : Int)))) (cond (fits (qa (ql x0.1.2.1) (ql (qk (qx x.1 (qi x0.1.1) (qi (qw q6 (qa x0.1.1 (2 : Int))))) (qe)))) 16) (qs (qf (((qw q6 (qa x0.1.1 (2 : Int))), ((qp x0.1.2.1 (qk (qx x.1 (qi x0.1.1) (qi (qw q6 (qa x0.1.1 (2 : Int))))) (qe))), qu)), qu))) (qn)) (qn)) (qn)) (cond (upTo x0.1.1 (qc (qz x.1) : Int)) (qb (r76 ((qx x.1 (qi x0.1.1) (qz x.1)), ((qm (qt [60, 61])), qu))) (fun x3 => (cond x3.1 (cond (upTo (qw q6 (qa x0.1.1 (2 : Int))) (qc (qz x.1) : Int)) (cond (upTo x0.1.1 (qw q6 (qa x0.1.1 (2 : Int)))) (cond (fits (qa (ql x0.1.2.1) (ql (qk (qx x.1 (qi x0.1.1) (qi (qw q6 (qa x0.1.1 (2 : Int))))) (qe)))) 16) (qs (qf (((qw q6 (qa x0.1.1 (2 : Int))), ((qp x0.1.2.1 (qk (qx x.1 (qi x0.1.1) (qi (qw q6 (qa x0.1.1 (2 : Int))))) (qe))), qu)), qu))) (qn)) (qn)) (qn)) (cond (upTo x0.1.1 (qc (qz x.1) : Int)) (qb (r76 ((qx x.1 (qi x0.1.1) (qz x.1)), ((qm (qt [62, 61])), qu))) (fun x4 => (cond x4.1 (cond (upTo (qw q6 (qa x0.1.1 (2 : Int))) (qc (qz x.1) : Int)) (cond (upTo x0.1.1 (qw q6 (qa x0.1.1 (2 : Int)))) (cond (fits (qa (ql x0.1.2.1) (ql (qk (qx x.1 (qi x0.1.1) (qi (qw q6 (qa x0.1.1 (2 : Int))))) (qe)))) 16) (qs (qf (((qw q6 (qa x0.1.1 (2 : Int))), ((qp x0.1.2.1 (qk (qx x.1 (qi x0.1.1) (qi (qw q6 (qa x0.1.1 (2 : Int))))) (qe))), qu)), qu))) (qn)) (qn)) (qn)) (qb (r77 ((qm (qt [61, 60, 62, 43, 45, 42, 47, 37, 40, 41, 44, 46])), ((mkStr (qk (qc (qv x1) : Int) (qe))), qu))) (fun x5 => (cond x5.1 (cond (upTo (qw q6 (qa x0.1.1 (1 : Int))) (qc (qz x.1) : Int)) (cond (upTo x0.1.1 (qw q6 (qa x0.1.1 (1 : Int)))) (cond (fits (qa (ql x0.1.2.1) (ql (qk (qx x.1 (qi x0.1.1) (qi (qw q6 (qa x0.1.1 (1 : Int))))) (qe)))) 16) (qs (qf (((qw q6 (qa x0.1.1 (1 : Int))), ((qp x0.1.2.1 (qk (qx x.1 (qi x0.1.1) (qi (qw q6 (qa x0.1.1 (1 : Int))))) (qe))), qu)), qu))) (qn)) (qn)) (qn)) (qs (qr (qf (((qe), (q0, qu)), qu)))))))))) (qn))))) (qn))))) (qn)))))) (cond (qd (Eq (qc (qv x1) : Int) (32 : Int))) (qs (qf (((qw q6 (qa x0.1.1 (1 : Int))), (x0.1.2.1, qu)), qu))) (cond (qd (qq (qc (qv x1) : Int) (122 : Int))) (qb (loop (D := (Prod (Kd.T (.pair (.int .i64) .unit)) (Kd.T .unit))) (O := (Sum (Kd.T (.pair (.pair (.int .i64) .unit) .unit)) (OutT (qk ((Ex3.exit 3), (Sh.mk (qk (46, (ASh.lf Kd.str)) (qk (47, (ASh.lf (Kd.int q6))) (qk (48, (ASh.lf (Kd.int IntKind.u8))) (qk (49, (ASh.lf Kd.bool)) (qk (50, (ASh.lf Kd.bool)) (qk (55, (ASh.lf Kd.bool)) (qk (56, (ASh.lf Kd.bool)) (qk (57, (ASh.lf Kd.bool)) (qk (58, (ASh.lf Kd.bool)) (qk (75, (ASh.lf Kd.bool)) (qk (76, (ASh.lf Kd.bool)) (qk (5, (ASh.lf (Kd.int q6))) (qe))))))))))))) (qe) (qe))) (qk ((Ex3.exit 3), (Sh.mk (qk (46, (ASh.lf Kd.str)) (qk (47, (ASh.lf (Kd.int q6))) (qk (48, (ASh.lf (Kd.int IntKind.u8))) (qk (49, (ASh.lf Kd.bool)) (qk (50, (ASh.lf Kd.bool)) (qk (51, (ASh.lf Kd.str)) (qk (52, (ASh.lf (Kd.int q6))) (qk (53, (ASh.lf (Kd.int IntKind.u8))) (qk (54, (ASh.lf Kd.bool)) (qk (55, (ASh.lf Kd.bool)) (qk (56, (ASh.lf Kd.bool)) (qk (57, (ASh.lf Kd.bool)) (qk (58, (ASh.lf Kd.bool)) (qk (75, (ASh.lf Kd.bool)) (qk (76, (ASh.lf Kd.bool)) (qk (5, (ASh.lf (Kd.int q6))) (qe))))))))))))))))) (qe) (qe))) (qe)))))) (fun x2 => (cond (qd (qy x2.1.1 (qc (qz x.1) : Int))) (qb (strAt x.1 x2.1.1) (fun x3 => (cond (qd (qq (48 : Int) (qc (qv x3) : Int))) (qb (strAt x.1 x2.1.1) (fun x4 => (cond (qd (qq (qc (qv x4) : Int) (57 : Int))) (qs (qf (((qw q6 (qa x2.1.1 (1 : Int))), qu), qu))) (cond (qd (qq (qc (qv x1) : Int) (122 : Int))) (qb (strAt x.1 x2.1.1) (fun x5 => (cond (qd (qq (97 : Int) (qc (qv x5) : Int))) (qb (strAt x.1 x2.1.1) (fun x6 => (cond (qd (qq (qc (qv x6) : Int) (122 : Int))) (qs (qf (((qw q6 (qa x2.1.1 (1 : Int))), qu), qu))) (qb (strAt x.1 x2.1.1) (fun x7 => (cond (qd (Eq (qc (qv x7) : Int) (95 : Int))) (qs (qf (((qw q6 (qa x2.1.1 (1 : Int))), qu), qu))) (qs (qr (qf ((x2.1.1, qu), qu)))))))))) (qb (strAt x.1 x2.1.1) (fun x6 => (cond (qd (Eq (qc (qv x6) : Int) (95 : Int))) (qs (qf (((qw q6 (qa x2.1.1 (1 : Int))), qu), qu))) (qs (qr (qf ((x2.1.1, qu), qu)))))))))) (qs (qr (qf ((x2.1.1, qu), qu)))))))) (cond (qd (qq (qc (qv x1) : Int) (122 : Int))) (qb (strAt x.1 x2.1.1) (fun x4 => (cond (qd (qq (97 : Int) (qc (qv x4) : Int))) (qb (strAt x.1 x2.1.1) (fun x5 => (cond (qd (qq (qc (qv x5) : Int) (122 : Int))) (qs (qf (((qw q6 (qa x2.1.1 (1 : Int))), qu), qu))) (qb (strAt x.1 x2.1.1) (fun x6 => (cond (qd (Eq (qc (qv x6) : Int) (95 : Int))) (qs (qf (((qw q6 (qa x2.1.1 (1 : Int))), qu), qu))) (qs (qr (qf ((x2.1.1, qu), qu)))))))))) (qb (strAt x.1 x2.1.1) (fun x5 => (cond (qd (Eq (qc (qv x5) : Int) (95 : Int))) (qs (qf (((qw q6 (qa x2.1.1 (1 : Int))), qu), qu))) (qs (qr (qf ((x2.1.1, qu), qu)))))))))) (qs (qr (qf ((x2.1.1, qu), qu)))))))) (qs (qr (qf ((x2.1.1, qu), qu)))))) ((x0.1.1, qu), qu)) (sumE (fun x2 => (cond (upTo x2.1.1 (qc (qz x.1) : Int)) (cond (upTo x0.1.1 x2.1.1) (cond (fits (qa (ql x0.1.2.1) (ql (qk (qx x.1 (qi x0.1.1) (qi x2.1.1)) (qe)))) 16) (qs (qf ((x2.1.1, ((qp x0.1.2.1 (qk (qx x.1 (qi x0.1.1) (qi x2.1.1)) (qe))), qu)), qu))) (qn)) (qn)) (qn))) (sumE (fun x2 => (cond (upTo x2.1.2.2.2.2.2.2.2.2.2.2.2.1 (qc (qz x.1) : Int)) (cond (upTo x0.1.1 x2.1.2.2.2.2.2.2.2.2.2.2.2.1) (cond (fits (qa (ql x0.1.2.1) (ql (qk (qx x.1 (qi x0.1.1) (qi x2.1.2.2.2.2.2.2.2.2.2.2.2.1)) (qe)))) 16) (qs (qf ((x2.1.2.2.2.2.2.2.2.2.2.2.2.1, ((qp x0.1.2.1 (qk (qx x.1 (qi x0.1.1) (qi x2.1.2.2.2.2.2.2.2.2.2.2.2.1)) (qe))), qu)), qu))) (qn)) (qn)) (qn))) (sumE (fun x2 => (cond (upTo x2.1.2.2.2.2.2.2.2.2.2.2.2.2.2.2.2.1 (qc (qz x.1) : Int)) (cond (upTo x0.1.1 x2.1.2.2.2.2.2.2.2.2.2.2.2.2.2.2.2.1) (cond (fits (qa (ql x0.1.2.1) (ql (qk (qx x.1 (qi x0.1.1) (qi x2.1.2.2.2.2.2.2.2.2.2.2.2.2.2.2.2.1)) (qe)))) 16) (qs (qf ((x2.1.2.2.2.2.2.2.2.2.2.2.2.2.2.2.2.1, ((qp x0.1.2.1 (qk (qx x.1 (qi x0.1.1) (qi x2.1.2.2.2.2.2.2.2.2.2.2.2.2.2.2.2.1)) (qe))), qu)), qu))) (qn)) (qn)) (qn))) (emptyE))))) (cond (qd (Eq (qc (qv x1) : Int) (34 : Int))) (cond (upTo (qw q6 (qa x0.1.1 (1 : Int))) (qc (qz x.1) : Int)) (qb (r75 ((qx x.1 (qi (qw q6 (qa x0.1.1 (1 : Int)))) (qz x.1)), ((qm (qt [34])), qu))) (fun x2 => (cond (qd (qy x2.1 (0 : Int))) (qs (qr (qf (((qe), (q0, qu)), qu)))) (cond (upTo (qw q6 (qa x0.1.1 (qw q6 (qa x2.1 (2 : Int))))) (qc (qz x.1) : Int)) (cond (upTo x0.1.1 (qw q6 (qa x0.1.1 (qw q6 (qa x2.1 (2 : Int)))))) (cond (fits (qa (ql x0.1.2.1) (ql (qk (qx x.1 (qi x0.1.1) (qi (qw q6 (qa x0.1.1 (qw q6 (qa x2.1 (2 : Int))))))) (qe)))) 16) (qs (qf (((qw q6 (qa x0.1.1 (qw q6 (qa x2.1 (2 : Int))))), ((qp x0.1.2.1 (qk (qx x.1 (qi x0.1.1) (qi (qw q6 (qa x0.1.1 (qw q6 (qa x2.1 (2 : Int))))))) (qe))), qu)), qu))) (qn)) (qn)) (qn))))) (qn)) (cond (upTo x0.1.1 (qc (qz x.1) : Int)) (qb (r76 ((qx x.1 (qi x0.1.1) (qz x.1)), ((qm (qt [33, 61])), qu))) (fun x2 => (cond x2.1 (cond (upTo (qw q6 (qa x0.1.1 (2 : Int))) (qc (qz x.1) : Int)) (cond (upTo x0.1.1 (qw q6 (qa x0.1.1 (2 : Int)))) (cond (fits (qa (ql x0.1.2.1) (ql (qk (qx x.1 (qi x0.1.1) (qi (qw q6 (qa x0.1.1 (2 : Int))))) (qe)))) 16) (qs (qf (((qw q6 (qa x0.1.1 (2 : Int))), ((qp x0.1.2.1 (qk (qx x.1 (qi x0.1.1) (qi (qw q6 (qa x0.1.1 (2 : Int))))) (qe))), qu)), qu))) (qn)) (qn)) (qn)) (cond (upTo x0.1.1 (qc (qz x.1) : Int)) (qb (r76 ((qx x.1 (qi x0.1.1) (qz x.1)), ((qm (qt [60, 61])), qu))) (fun x3 => (cond x3.1 (cond (upTo (qw q6 (qa x0.1.1 (2 : Int))) (qc (qz x.1) : Int)) (cond (upTo x0.1.1 (qw q6 (qa x0.1.1 (2 : Int)))) (cond (fits (qa (ql x0.1.2.1) (ql (qk (qx x.1 (qi x0.1.1) (qi (qw q6 (qa x0.1.1 (2 : Int))))) (qe)))) 16) (qs (qf (((qw q6 (qa x0.1.1 (2 : Int))), ((qp x0.1.2.1 (qk (qx x.1 (qi x0.1.1) (qi (qw q6 (qa x0.1.1 (2 : Int))))) (qe))), qu)), qu))) (qn)) (qn)) (qn)) (cond (upTo x0.1.1 (qc (qz x.1) : Int)) (qb (r76 ((qx x.1 (qi x0.1.1) (qz x.1)), ((qm (qt [62, 61])), qu))) (fun x4 => (cond x4.1 (cond (upTo (qw q6 (qa x0.1.1 (2 : Int))) (qc (qz x.1) : Int)) (cond (upTo x0.1.1 (qw q6 (qa x0.1.1 (2 : Int)))) (cond (fits (qa (ql x0.1.2.1) (ql (qk (qx x.1 (qi x0.1.1) (qi (qw q6 (qa x0.1.1 (2 : Int))))) (qe)))) 16) (qs (qf (((qw q6 (qa x0.1.1 (2 : Int))), ((qp x0.1.2.1 (qk (qx x.1 (qi x0.1.1) (qi (qw q6 (qa x0.1.1 (2 : Int))))) (qe))), qu)), qu))) (qn)) (qn)) (qn)) (qb (r77 ((qm (qt [61, 60, 62, 43, 45, 42, 47, 37, 40, 41, 44, 46])), ((mkStr (qk (qc (qv x1) : Int) (qe))), qu))) (fun x5 => (cond x5.1 (cond (upTo (qw q6 (qa x0.1.1 (1 : Int))) (qc (qz x.1) : Int)) (cond (upTo x0.1.1 (qw q6 (qa x0.1.1 (1 : Int)))) (cond (fits (qa (ql x0.1.2.1) (ql (qk (qx x.1 (qi x0.1.1) (qi (qw q6 (qa x0.1.1 (1 : Int))))) (qe)))) 16) (qs (qf (((qw q6 (qa x0.1.1 (1 : Int))), ((qp x0.1.2.1 (qk (qx x.1 (qi x0.1.1) (qi (qw q6 (qa x0.1.1 (1 : Int))))) (qe))), qu)), qu))) (qn)) (qn)) (qn)) (qs (qr (qf (((qe), (q0, qu)), qu)))))))))) (qn))))) (qn))))) (qn)))))) (cond (qd (qq (48 : Int) (qc (qv x1) : Int))) (cond (qd (Eq (qc (qv x1) : Int) (32 : Int))) (qs (qf (((qw q6 (qa x0.1.1 (1 : Int))), (x0.1.2.1, qu)), qu))) (cond (qd (qq (qc (qv x1) : Int) (57 : Int))) (qb (loop (D := (Prod (Kd.T (.pair (.int .i64) .unit)) (Kd.T .unit))) (O := (Sum (Kd.T (.pair (.pair (.int .i64) .unit) .unit)) (OutT (qk ((Ex3.exit 3), (Sh.mk (qk (46, (ASh.lf Kd.str)) (qk (47, (ASh.lf (Kd.int q6))) (qk (48, (ASh.lf (Kd.int IntKind.u8))) (qk (49, (ASh.lf Kd.bool)) (qk (50, (ASh.lf Kd.bool)) (qk (55, (ASh.lf Kd.bool)) (qk (56, (ASh.lf Kd.bool)) (qk (57, (ASh.lf Kd.bool)) (qk (58, (ASh.lf Kd.bool)) (qk (75, (ASh.lf Kd.bool)) (qk (76, (ASh.lf Kd.bool)) (qk (5, (ASh.lf (Kd.int q6))) (qe))))))))))))) (qe) (qe))) (qk ((Ex3.exit 3), (Sh.mk (qk (46, (ASh.lf Kd.str)) (qk (47, (ASh.lf (Kd.int q6))) (qk (48, (ASh.lf (Kd.int IntKind.u8))) (qk (49, (ASh.lf Kd.bool)) (qk (50, (ASh.lf Kd.bool)) (qk (51, (ASh.lf Kd.str)) (qk (52, (ASh.lf (Kd.int q6))) (qk (53, (ASh.lf (Kd.int IntKind.u8))) (qk (54, (ASh.lf Kd.bool)) (qk (55, (ASh.lf Kd.bool)) (qk (56, (ASh.lf Kd.bool)) (qk (57, (ASh.lf Kd.bool)) (qk (58, (ASh.lf Kd.bool)) (qk (75, (ASh.lf Kd.bool)) (qk (76, (ASh.lf Kd.bool)) (qk (5, (ASh.lf (Kd.int q6))) (qe))))))))))))))))) (qe) (qe))) (qe)))))) (fun x2 => (cond (qd (qy x2.1.1 (qc (qz x.1) : Int))) (qb (strAt x.1 x2.1.1) (fun x3 => (cond (qd (qq (48 : Int) (qc (qv x3) : Int))) (qb (strAt x.1 x2.1.1) (fun x4 => (cond (qd (qq (qc (qv x4) : Int) (57 : Int))) (qs (qf (((qw q6 (qa x2.1.1 (1 : Int))), qu), qu))) (qs (qr (qf ((x2.1.1, qu), qu))))))) (qs (qr (qf ((x2.1.1, qu), qu))))))) (qs (qr (qf ((x2.1.1, qu), qu)))))) ((x0.1.1, qu), qu)) (sumE (fun x2 => (cond (upTo x2.1.1 (qc (qz x.1) : Int)) (cond (upTo x0.1.1 x2.1.1) (cond (fits (qa (ql x0.1.2.1) (ql (qk (qx x.1 (qi x0.1.1) (qi x2.1.1)) (qe)))) 16) (qs (qf ((x2.1.1, ((qp x0.1.2.1 (qk (qx x.1 (qi x0.1.1) (qi x2.1.1)) (qe))), qu)), qu))) (qn)) (qn)) (qn))) (sumE (fun x2 => (cond (upTo x2.1.2.2.2.2.2.2.2.2.2.2.2.1 (qc (qz x.1) : Int)) (cond (upTo x0.1.1 x2.1.2.2.2.2.2.2.2.2.2.2.2.1) (cond (fits (qa (ql x0.1.2.1) (ql (qk (qx x.1 (qi x0.1.1) (qi x2.1.2.2.2.2.2.2.2.2.2.2.2.1)) (qe)))) 16) (qs (qf ((x2.1.2.2.2.2.2.2.2.2.2.2.2.1, ((qp x0.1.2.1 (qk (qx x.1 (qi x0.1.1) (qi x2.1.2.2.2.2.2.2.2.2.2.2.2.1)) (qe))), qu)), qu))) (qn)) (qn)) (qn))) (sumE (fun x2 => (cond (upTo x2.1.2.2.2.2.2.2.2.2.2.2.2.2.2.2.2.1 (qc (qz x.1) : Int)) (cond (upTo x0.1.1 x2.1.2.2.2.2.2.2.2.2.2.2.2.2.2.2.2.1) (cond (fits (qa (ql x0.1.2.1) (ql (qk (qx x.1 (qi x0.1.1) (qi x2.1.2.2.2.2.2.2.2.2.2.2.2.2.2.2.2.1)) (qe)))) 16) (qs (qf ((x2.1.2.2.2.2.2.2.2.2.2.2.2.2.2.2.2.1, ((qp x0.1.2.1 (qk (qx x.1 (qi x0.1.1) (qi x2.1.2.2.2.2.2.2.2.2.2.2.2.2.2.2.2.1)) (qe))), qu)), qu))) (qn)) (qn)) (qn))) (emptyE))))) (cond (qd (Eq (qc (qv x1) : Int) (34 : Int))) (cond (upTo (qw q6 (qa x0.1.1 (1 : Int))) (qc (qz x.1) : Int)) (qb (r75 ((qx x.1 (qi (qw q6 (qa x0.1.1 (1 : Int)))) (qz x.1)), ((qm (qt [34])), qu))) (fun x2 => (cond (qd (qy x2.1 (0 : Int))) (qs (qr (qf (((qe), (q0, qu)), qu)))) (cond (upTo (qw q6 (qa x0.1.1 (qw q6 (qa x2.1 (2 : Int))))) (qc (qz x.1) : Int)) (cond (upTo x0.1.1 (qw q6 (qa x0.1.1 (qw q6 (qa x2.1 (2 : Int)))))) (cond (fits (qa (ql x0.1.2.1) (ql (qk (qx x.1 (qi x0.1.1) (qi (qw q6 (qa x0.1.1 (qw q6 (qa x2.1 (2 : Int))))))) (qe)))) 16) (qs (qf (((qw q6 (qa x0.1.1 (qw q6 (qa x2.1 (2 : Int))))), ((qp x0.1.2.1 (qk (qx x.1 (qi x0.1.1) (qi (qw q6 (qa x0.1.1 (qw q6 (qa x2.1 (2 : Int))))))) (qe))), qu)), qu))) (qn)) (qn)) (qn))))) (qn)) (cond (upTo x0.1.1 (qc (qz x.1) : Int)) (qb (r76 ((qx x.1 (qi x0.1.1) (qz x.1)), ((qm (qt [33, 61])), qu))) (fun x2 => (cond x2.1 (cond (upTo (qw q6 (qa x0.1.1 (2 : Int))) (qc (qz x.1) : Int)) (cond (upTo x0.1.1 (qw q6 (qa x0.1.1 (2 : Int)))) (cond (fits (qa (ql x0.1.2.1) (ql (qk (qx x.1 (qi x0.1.1) (qi (qw q6 (qa x0.1.1 (2 : Int))))) (qe)))) 16) (qs (qf (((qw q6 (qa x0.1.1 (2 : Int))), ((qp x0.1.2.1 (qk (qx x.1 (qi x0.1.1) (qi (qw q6 (qa x0.1.1 (2 : Int))))) (qe))), qu)), qu))) (qn)) (qn)) (qn)) (cond (upTo x0.1.1 (qc (qz x.1) : Int)) (qb (r76 ((qx x.1 (qi x0.1.1) (qz x.1)), ((qm (qt [60, 61])), qu))) (fun x3 => (cond x3.1 (cond (upTo (qw q6 (qa x0.1.1 (2 : Int))) (qc (qz x.1) : Int)) (cond (upTo x0.1.1 (qw q6 (qa x0.1.1 (2 : Int)))) (cond (fits (qa (ql x0.1.2.1) (ql (qk (qx x.1 (qi x0.1.1) (qi (qw q6 (qa x0.1.1 (2 : Int))))) (qe)))) 16) (qs (qf (((qw q6 (qa x0.1.1 (2 : Int))), ((qp x0.1.2.1 (qk (qx x.1 (qi x0.1.1) (qi (qw q6 (qa x0.1.1 (2 : Int))))) (qe))), qu)), qu))) (qn)) (qn)) (qn)) (cond (upTo x0.1.1 (qc (qz x.1) : Int)) (qb (r76 ((qx x.1 (qi x0.1.1) (qz x.1)), ((qm (qt [62, 61])), qu))) (fun x4 => (cond x4.1 (cond (upTo (qw q6 (qa x0.1.1 (2 : Int))) (qc (qz x.1) : Int)) (cond (upTo x0.1.1 (qw q6 (qa x0.1.1 (2 : Int)))) (cond (fits (qa (ql x0.1.2.1) (ql (qk (qx x.1 (qi x0.1.1) (qi (qw q6 (qa x0.1.1 (2 : Int))))) (qe)))) 16) (qs (qf (((qw q6 (qa x0.1.1 (2 : Int))), ((qp x0.1.2.1 (qk (qx x.1 (qi x0.1.1) (qi (qw q6 (qa x0.1.1 (2 : Int))))) (qe))), qu)), qu))) (qn)) (qn)) (qn)) (qb (r77 ((qm (qt [61, 60, 62, 43, 45, 42, 47, 37, 40, 41, 44, 46])), ((mkStr (qk (qc (qv x1) : Int) (qe))), qu))) (fun x5 => (cond x5.1 (cond (upTo (qw q6 (qa x0.1.1 (1 : Int))) (qc (qz x.1) : Int)) (cond (upTo x0.1.1 (qw q6 (qa x0.1.1 (1 : Int)))) (cond (fits (qa (ql x0.1.2.1) (ql (qk (qx x.1 (qi x0.1.1) (qi (qw q6 (qa x0.1.1 (1 : Int))))) (qe)))) 16) (qs (qf (((qw q6 (qa x0.1.1 (1 : Int))), ((qp x0.1.2.1 (qk (qx x.1 (qi x0.1.1) (qi (qw q6 (qa x0.1.1 (1 : Int))))) (qe))), qu)), qu))) (qn)) (qn)) (qn)) (qs (qr (qf (((qe), (q0, qu)), qu)))))))))) (qn))))) (qn))))) (qn))))) (cond (qd (Eq (qc (qv x1) : Int) (32 : Int))) (qs (qf (((qw q6 (qa x0.1.1 (1 : Int))), (x0.1.2.1, qu)), qu))) (cond (qd (Eq (qc (qv x1) : Int) (34 : Int))) (cond (upTo (qw q6 (qa x0.1.1 (1 : Int))) (qc (qz x.1) : Int)) (qb (r75 ((qx x.1 (qi (qw q6 (qa x0.1.1 (1 : Int)))) (qz x.1)), ((qm (qt [34])), qu))) (fun x2 => (cond (qd (qy x2.1 (0 : Int))) (qs (qr (qf (((qe), (q0, qu)), qu)))) (cond (upTo (qw q6 (qa x0.1.1 (qw q6 (qa x2.1 (2 : Int))))) (qc (qz x.1) : Int)) (cond (upTo x0.1.1 (qw q6 (qa x0.1.1 (qw q6 (qa x2.1 (2 : Int)))))) (cond (fits (qa (ql x0.1.2.1) (ql (qk (qx x.1 (qi x0.1.1) (qi (qw q6 (qa x0.1.1 (qw q6 (qa x2.1 (2 : Int))))))) (qe)))) 16) (qs (qf (((qw q6 (qa x0.1.1 (qw q6 (qa x2.1 (2 : Int))))), ((qp x0.1.2.1 (qk (qx x.1 (qi x0.1.1) (qi (qw q6 (qa x0.1.1 (qw q6 (qa x2.1 (2 : Int))))))) (qe))), qu)), qu))) (qn)) (qn)) (qn))))) (qn)) (cond (upTo x0.1.1 (qc (qz x.1) : Int)) (qb (r76 ((qx x.1 (qi x0.1.1) (qz x.1)), ((qm (qt [33, 61])), qu))) (fun x2 => (cond x2.1 (cond (upTo (qw q6 (qa x0.1.1 (2 : Int))) (qc (qz x.1) : Int)) (cond (upTo x0.1.1 (qw q6 (qa x0.1.1 (2 : Int)))) (cond (fits (qa (ql x0.1.2.1) (ql (qk (qx x.1 (qi x0.1.1) (qi (qw q6 (qa x0.1.1 (2 : Int))))) (qe)))) 16) (qs (qf (((qw q6 (qa x0.1.1 (2 : Int))), ((qp x0.1.2.1 (qk (qx x.1 (qi x0.1.1) (qi (qw q6 (qa x0.1.1 (2 : Int))))) (qe))), qu)), qu))) (qn)) (qn)) (qn)) (cond (upTo x0.1.1 (qc (qz x.1) : Int)) (qb (r76 ((qx x.1 (qi x0.1.1) (qz x.1)), ((qm (qt [60, 61])), qu))) (fun x3 => (cond x3.1 (cond (upTo (qw q6 (qa x0.1.1 (2 : Int))) (qc (qz x.1) : Int)) (cond (upTo x0.1.1 (qw q6 (qa x0.1.1 (2 : Int)))) (cond (fits (qa (ql x0.1.2.1) (ql (qk (qx x.1 (qi x0.1.1) (qi (qw q6 (qa x0.1.1 (2 : Int))))) (qe)))) 16) (qs (qf (((qw q6 (qa x0.1.1 (2 : Int))), ((qp x0.1.2.1 (qk (qx x.1 (qi x0.1.1) (qi (qw q6 (qa x0.1.1 (2 : Int))))) (qe))), qu)), qu))) (qn)) (qn)) (qn)) (cond (upTo x0.1.1 (qc (qz x.1) : Int)) (qb (r76 ((qx x.1 (qi x0.1.1) (qz x.1)), ((qm (qt [62, 61])), qu))) (fun x4 => (cond x4.1 (cond (upTo (qw q6 (qa x0.1.1 (2 : Int))) (qc (qz x.1) : Int)) (cond (upTo x0.1.1 (qw q6 (qa x0.1.1 (2 : Int)))) (cond (fits (qa (ql x0.1.2.1) (ql (qk (qx x.1 (qi x0.1.1) (qi (qw q6 (qa x0.1.1 (2 : Int))))) (qe)))) 16) (qs (qf (((qw q6 (qa x0.1.1 (2 : Int))), ((qp x0.1.2.1 (qk (qx x.1 (qi x0.1.1) (qi (qw q6 (qa x0.1.1 (2 : Int))))) (qe))), qu)), qu))) (qn)) (qn)) (qn)) (qb (r77 ((qm (qt [61, 60, 62, 43, 45, 42, 47, 37, 40, 41, 44, 46])), ((mkStr (qk (qc (qv x1) : Int) (qe))), qu))) (fun x5 => (cond x5.1 (cond (upTo (qw q6 (qa x0.1.1 (1 : Int))) (qc (qz x.1) : Int)) (cond (upTo x0.1.1 (qw q6 (qa x0.1.1 (1 : Int)))) (cond (fits (qa (ql x0.1.2.1) (ql (qk (qx x.1 (qi x0.1.1) (qi (qw q6 (qa x0.1.1 (1 : Int))))) (qe)))) 16) (qs (qf (((qw q6 (qa x0.1.1 (1 : Int))), ((qp x0.1.2.1 (qk (qx x.1 (qi x0.1.1) (qi (qw q6 (qa x0.1.1 (1 : Int))))) (qe))), qu)), qu))) (qn)) (qn)) (qn)) (qs (qr (qf (((qe), (q0, qu)), qu)))))))))) (qn))))) (qn))))) (qn)))))))) (qs (qr (qr (qf ((x0.1.2.1, qu), qu))))))) (((0 : Int), ((qe), qu)), qu)) (sumE (fun x0 => (qs (x0.1.1, (x0.1.2.1, qu)))) (sumE (fun x0 => (qs (x0.1.1, (q1, qu)))) (emptyE))))
theorem r44_ok : PureOk Go.Proofs.Tryz.prog nA gA 44 [.str] [(.slice .str), .bool] r44 :=
  pureOk_of_run (F := specOf [(75, pureSpec [.str, .str] [(.int .i64)] r75), (76, pureSpec [.str, .str] [.bool] r76), (77, pureSpec [.str, .str] [.bool] r77)]) (hs := hintOf [(1000000, ⟨⟨[], [], []⟩, []⟩), (3, ⟨⟨[(5, .lf (.int .i64))], [], []⟩, [((.exit 3), ⟨[(5, .lf (.int .i64))], [], []⟩), ((.exit 3), ⟨[(46, .lf .str), (47, .lf (.int .i64)), (48, .lf (.int .u8)), (49, .lf .bool), (50, .lf .bool), (55, .lf .bool), (56, .lf .bool), (57, .lf .bool), (58, .lf .bool), (75, .lf .bool), (76, .lf .bool), (5, .lf (.int .i64))], [], []⟩), ((.exit 3), ⟨[(46, .lf .str), (47, .lf (.int .i64)), (48, .lf (.int .u8)), (49, .lf .bool), (50, .lf .bool), (51, .lf .str), (52, .lf (.int .i64)), (53, .lf (.int .u8)), (54, .lf .bool), (55, .lf .bool), (56, .lf .bool), (57, .lf .bool), (58, .lf .bool), (75, .lf .bool), (76, .lf .bool), (5, .lf (.int .i64))], [], []⟩)]⟩), (0, ⟨⟨[(5, .lf (.int .i64)), (4, .own .str)], [], []⟩, [(.ret, ⟨[(2, .lf (.slice .str)), (3, .lf .bool)], [], []⟩), ((.exit 0), ⟨[(4, .own .str)], [], []⟩)]⟩)]) stays_A (specOf_cons (PureOk.spec r75_ok) (specOf_cons (PureOk.spec r76_ok) (specOf_cons (PureOk.spec r77_ok) specOf_nil))) mixed Go.Proofs.Tryz.func44 rfl (by kernel_rfl) (fun _ => by kernel_rfl)

/-- (*terrier/terrref2.reading).peek -/
noncomputable def r78 (x : (kdP []).T) (d : (kdL [.lf (.slice .str), .lf .bool]).T) : Option ((kdP [.str]).T × (kdL [.lf (.slice .str), .lf .bool]).T) :=
  (cond (qd (Eq (qc (ql d.1) : Int) (0 : Int))) (qs (((qm (qt [])), qu), d)) (cond (inB (0 : Int) (ql d.1)) (qb (qg d.1 0) (fun x0 => (qs ((x0, qu), d)))) (qn)))
theorem r78_ok : SpecOk Go.Proofs.Tryz.prog nA gA 78 (memSpec [.ptr 0 0] [(0, [.lf (.slice .str), .lf .bool])] [(0, [.lf (.slice .str), .lf .bool])] [.str] r78) :=
  memSpec_ok (F := specOf []) (hs := hintOf [(1000000, ⟨⟨[], [], []⟩, []⟩)]) stays_A specOf_nil mixed Go.Proofs.Tryz.func78 rfl (by kernel_rfl) (by kernel_rfl) (fun _ _ => by kernel_rfl)

/-- (*terrier/terrref2.reading).next -/
noncomputable def r79 (x : (kdP []).T) (d : (kdL [.lf (.slice .str), .lf .bool]).T) : Option ((kdP [.str]).T × (kdL [.lf (.slice .str), .lf .bool]).T) :=
  (qb (r78 qu d) (fun x0 => (cond (qd (Eq (qc (ql x0.2.1) : Int) (0 : Int))) (qs (((qm (qt [])), qu), (x0.2.1, (q1, qu)))) (cond (upTo (1 : Int) (qc (ql x0.2.1) : Int)) (qs (x0.1, ((List.drop 1 x0.2.1), x0.2.2))) (qn)))))
theorem r79_ok : SpecOk Go.Proofs.Tryz.prog nA gA 79 (memSpec [.ptr 0 0] [(0, [.lf (.slice .str), .lf .bool])] [(0, [.lf (.slice .str), .lf .bool])] [.str] r79) :=
  memSpec_ok (F := specOf [(78, memSpec [.ptr 0 0] [(0, [.lf (.slice .str), .lf .bool])] [(0, [.lf (.slice .str), .lf .bool])] [.str] r78)]) (hs := hintOf [(1000000, ⟨⟨[], [], []⟩, []⟩)]) stays_A (specOf_cons r78_ok specOf_nil) mixed Go.Proofs.Tryz.func79 rfl (by kernel_rfl) (by kernel_rfl) (fun _ _ => by kernel_rfl)

/-- (*terrier/terrref2.reading).want -/
noncomputable def r110 (x : (kdP [.str]).T) (d : (kdL [.lf (.slice .str), .lf .bool]).T) : Option ((kdP []).T × (kdL [.lf (.slice .str), .lf .bool]).T) :=
  (qb (r79 qu d) (fun x0 => (cond (qo (qd (Eq x0.1.1 x.1))) (qs (qu, (x0.2.1, (q1, qu)))) (qs (qu, x0.2)))))
theorem r110_ok : SpecOk Go.Proofs.Tryz.prog nA gA 110 (memSpec [.ptr 0 0, .dat .str] [(0, [.lf (.slice .str), .lf .bool])] [(0, [.lf (.slice .str), .lf .bool])] [] r110) :=
  memSpec_ok (F := specOf [(79, memSpec [.ptr 0 0] [(0, [.lf (.slice .str), .lf .bool])] [(0, [.lf (.slice .str), .lf .bool])] [.str] r79)]) (hs := hintOf [(1000000, ⟨⟨[], [], []⟩, []⟩)]) stays_A (specOf_cons r79_ok specOf_nil) mixed Go.Proofs.Tryz.func110 rfl (by kernel_rfl) (by kernel_rfl) (fun _ _ => by kernel_rfl)

/-- internal/stringslite.HasSuffix -/
noncomputable def r151 (x : (kdP [.str, .str]).T) : Option (kdP [.bool]).T :=
  (cond (qd (qq (qc (qz x.2.1) : Int) (qc (qz x.1) : Int))) (cond (upTo (qw q6 (HSub.hSub (qc (qz x.1) : Int) (qc (qz x.2.1) : Int))) (qc (qz x.1) : Int)) (qs ((qd (Eq (qx x.1 (qi (qw q6 (HSub.hSub (qc (qz x.1) : Int) (qc (qz x.2.1) : Int)))) (qz x.1)) x.2.1)), qu)) (qn)) (qs (q0, qu)))
theorem r151_ok : PureOk Go.Proofs.Tryz.prog nA gA 151 [.str, .str] [.bool] r151 :=
  pureOk_of_run (F := specOf []) (hs := hintOf [(1000000, ⟨⟨[], [], []⟩, []⟩)]) stays_A specOf_nil mixed Go.Proofs.Tryz.func151 rfl (by kernel_rfl) (fun _ => by kernel_rfl)

/-- strings.HasSuffix -/
noncomputable def r133 (x : (kdP [.str, .str]).T) : Option (kdP [.bool]).T :=
  (qb (r151 (x.1, (x.2.1, qu))) (fun x0 => (qs (x0.1, qu))))
theorem r133_ok : PureOk Go.Proofs.Tryz.prog nA gA 133 [.str, .str] [.bool] r133 :=
  pureOk_of_run (F := specOf [(151, pureSpec [.str, .str] [.bool] r151)]) (hs := hintOf []) stays_A (specOf_cons (PureOk.spec r151_ok) specOf_nil) mixed Go.Proofs.Tryz.func133 rfl (by kernel_rfl) (fun _ => by kernel_rfl)

/-- terrier/terrref2.Whole -/
noncomputable def r134 (x : (kdP [.str]).T) : Option (kdP [(.int .i64), .bool]).T :=
  (qb (r152 (x.1, ((10 : Int), ((64 : Int), qu)))) (fun x0 => (cond (qj q1 (qo x0.2.1)) (qb (r56 (x0.1, ((10 : Int), qu))) (fun x1 => (qs (x0.1, ((qd (Eq x1.1 x.1)), qu))))) (qs (x0.1, (q0, qu))))))
theorem r134_ok : PureOk Go.Proofs.Tryz.prog nA gA 134 [.str] [(.int .i64), .bool] r134 :=
  pureOk_of_run (F := specOf [(152, pureSpec [.str, (.int .i64), (.int .i64)] [(.int .i64), .err] r152), (56, pureSpec [(.int .i64), (.int .i64)] [.str] r56)]) (hs := hintOf [(1000000, ⟨⟨[], [], []⟩, []⟩)]) stays_A (specOf_cons (PureOk.spec r152_ok) (specOf_cons (PureOk.spec r56_ok) specOf_nil)) mixed Go.Proofs.Tryz.func134 rfl (by kernel_rfl) (fun _ => by kernel_rfl)

/-- terrier/terrref2.ValueOf -/
noncomputable def r109 (x : (kdP [.str]).T) : Option (kdP [(.pair (.int .i64) (.pair (.int .i64) (.pair .str (.pair .bool .unit)))), (.int .i64)]).T :=
  (cond (qd (Eq x.1 (qm (qt [110, 105, 108])))) (qb (r24 (((0 : Int), ((0 : Int), ((qm (qt [])), (q0, qu)))), qu)) (fun x0 => (cond (qo (qd (Eq x0.1 (0 : Int)))) (qs (((0 : Int), ((0 : Int), ((qm (qt [])), (q0, qu)))), x0)) (qs (((0 : Int), ((0 : Int), ((qm (qt [])), (q0, qu)))), ((0 : Int), qu)))))) (cond (qd (Eq x.1 (qm (qt [116, 114, 117, 101])))) (qb (r24 (((3 : Int), ((0 : Int), ((qm (qt [])), (q1, qu)))), qu)) (fun x0 => (cond (qo (qd (Eq x0.1 (0 : Int)))) (qs (((0 : Int), ((0 : Int), ((qm (qt [])), (q0, qu)))), x0)) (qs (((3 : Int), ((0 : Int), ((qm (qt [])), (q1, qu)))), ((0 : Int), qu)))))) (cond (qd (Eq x.1 (qm (qt [102, 97, 108, 115, 101])))) (qb (r24 (((3 : Int), ((0 : Int), ((qm (qt [])), (q0, qu)))), qu)) (fun x0 => (cond (qo (qd (Eq x0.1 (0 : Int)))) (qs (((0 : Int), ((0 : Int), ((qm (qt [])), (q0, qu)))), x0)) (qs (((3 : Int), ((0 : Int), ((qm (qt [])), (q0, qu)))), ((0 : Int), qu)))))) (cond (qd (qy (1 : Int) (qc (qz x.1) : Int))) (qb (r76 (x.1, ((qm (qt [34])), qu))) (fun x0 => (cond x0.1 (qb (r133 (x.1, ((qm (qt [34])), qu))) (fun x1 => (cond x1.1 (cond (upTo (qw q6 (HSub.hSub (qc (qz x.1) : Int) (1 : Int))) (qc (qz x.1) : Int)) (cond (upTo (1 : Int) (qw q6 (HSub.hSub (qc (qz x.1) : Int) (1 : Int)))) (qb (r24 (((2 : Int), ((0 : Int), ((qx x.1 1 (qi (qw q6 (HSub.hSub (qc (qz x.1) : Int) (1 : Int))))), (q0, qu)))), qu)) (fun x2 => (cond (qo (qd (Eq x2.1 (0 : Int)))) (qs (((0 : Int), ((0 : Int), ((qm (qt [])), (q0, qu)))), x2)) (qs (((2 : Int), ((0 : Int), ((qx x.1 1 (qi (qw q6 (HSub.hSub (qc (qz x.1) : Int) (1 : Int))))), (q0, qu)))), ((0 : Int), qu)))))) (qn)) (qn)) (qb (r134 x) (fun x2 => (cond (qo x2.2.1) (qs (((0 : Int), ((0 : Int), ((qm (qt [])), (q0, qu)))), ((15 : Int), qu))) (qb (r24 (((1 : Int), (x2.1, ((qm (qt [])), (q0, qu)))), qu)) (fun x3 => (cond (qo (qd (Eq x3.1 (0 : Int)))) (qs (((0 : Int), ((0 : Int), ((qm (qt [])), (q0, qu)))), x3)) (qs (((1 : Int), (x2.1, ((qm (qt [])), (q0, qu)))), ((0 : Int), qu)))))))))))) (qb (r134 x) (fun x1 => (cond (qo x1.2.1) (qs (((0 : Int), ((0 : Int), ((qm (qt [])), (q0, qu)))), ((15 : Int), qu))) (qb (r24 (((1 : Int), (x1.1, ((qm (qt [])), (q0, qu)))), qu)) (fun x2 => (cond (qo (qd (Eq x2.1 (0 : Int)))) (qs (((0 : Int), ((0 : Int), ((qm (qt [])), (q0, qu)))), x2)) (qs (((1 : Int), (x1.1, ((qm (qt [])), (q0, qu)))), ((0 : Int), qu)))))))))))) (qb (r134 x) (fun x0 => (cond (qo x0.2.1) (qs (((0 : Int), ((0 : Int), ((qm (qt [])), (q0, qu)))), ((15 : Int), qu))) (qb (r24 (((1 : Int), (x0.1, ((qm (qt [])), (q0, qu)))), qu)) (fun x1 => (cond (qo (qd (Eq x1.1 (0 : Int)))) (qs (((0 : Int), ((0 : Int), ((qm (qt [])), (q0, qu)))), x1)) (qs (((1 : Int), (x0.1, ((qm (qt [])), (q0, qu)))), ((0 : Int), qu)))))))))))))
theorem r109_ok : PureOk Go.Proofs.Tryz.prog nA gA 109 [.str] [(.pair (.int .i64) (.pair (.int .i64) (.pair .str (.pair .bool .unit)))), (.int .i64)] r109 :=
  pureOk_of_run (F := specOf [(76, pureSpec [.str, .str] [.bool] r76), (133, pureSpec [.str, .str] [.bool] r133), (134, pureSpec [.str] [(.int .i64), .bool] r134), (24, pureSpec [(.pair (.int .i64) (.pair (.int .i64) (.pair .str (.pair .bool .unit))))] [(.int .i64)] r24)]) (hs := hintOf [(1000000, ⟨⟨[], [], []⟩, []⟩)]) stays_A (specOf_cons (PureOk.spec r76_ok) (specOf_cons (PureOk.spec r133_ok) (specOf_cons (PureOk.spec r134_ok) (specOf_cons (PureOk.spec r24_ok) specOf_nil)))) mixed Go.Proofs.Tryz.func109 rfl (by kernel_rfl) (fun _ => by kernel_rfl)

/-- (*terrier/terrref2.reading).literal -/
noncomputable def r81 (x : (kdP [.str]).T) (d : (kdL [.lf (.slice .str), .lf .bool]).T) : Option ((kdP [(.tree (.pair (.int .i64) (.pair (.pair (.int .i64) (.pair (.int .i64) (.pair .str (.pair .bool .unit)))) (.pair .str .unit))))]).T × (kdL [.lf (.slice .str), .lf .bool]).T) :=
  (qb (r109 x) (fun x0 => (cond (qo (qd (Eq x0.2.1 (0 : Int)))) (qs (((Tree.node ((0 : Int), (x0.1, ((qm (qt [])), qu))) (qe)), qu), (d.1, (q1, qu)))) (qs (((Tree.node ((0 : Int), (x0.1, ((qm (qt [])), qu))) (qe)), qu), d)))))
theorem r81_ok : SpecOk Go.Proofs.Tryz.prog nA gA 81 (memSpec [.ptr 0 0, .dat .str] [(0, [.lf (.slice .str), .lf .bool])] [(0, [.lf (.slice .str), .lf .bool])] [(.tree (.pair (.int .i64) (.pair (.pair (.int .i64) (.pair (.int .i64) (.pair .str (.pair .bool .unit)))) (.pair .str .unit))))] r81) :=
  memSpec_ok (F := specOf [(109, pureSpec [.str] [(.pair (.int .i64) (.pair (.int .i64) (.pair .str (.pair .bool .unit)))), (.int .i64)] r109)]) (hs := hintOf [(1000000, ⟨⟨[], [], []⟩, []⟩)]) stays_A (specOf_cons (PureOk.spec r109_ok) specOf_nil) mixed Go.Proofs.Tryz.func81 rfl (by kernel_rfl) (by kernel_rfl) (fun _ _ => by kernel_rfl)

/-- (*terrier/terrref2.reading).atom -/
noncomputable def r82B (n : Nat) (r82 : Nat → ((x : (kdP []).T) → (d : (kdL [.lf (.slice .str), .lf .bool]).T) → Option ((kdP [(.tree (.pair (.int .i64) (.pair (.pair (.int .i64) (.pair (.int .i64) (.pair .str (.pair .bool .unit)))) (.pair .str .unit))))]).T × (kdL [.lf (.slice .str), .lf .bool]).T))) (r80 : Nat → ((x : (kdP [(.tree (.pair (.int .i64) (.pair (.pair (.int .i64) (.pair (.int .i64) (.pair .str (.pair .bool .unit)))) (.pair .str .unit)))), (.int .i64), (.int .i64)]).T) → (d : (kdL [.lf (.slice .str), .lf .bool]).T) → Option ((kdP [(.tree (.pair (.int .i64) (.pair (.pair (.int .i64) (.pair (.int .i64) (.pair .str (.pair .bool .unit)))) (.pair .str .unit))))]).T × (kdL [.lf (.slice .str), .lf .bool]).T))) (r45 : Nat → ((x : (kdP [(.int .i64)]).T) → (d : (kdL [.lf (.slice .str), .lf .bool]).T) → Option ((kdP [(.tree (.pair (.int .i64) (.pair (.pair (.int .i64) (.pair (.int .i64) (.pair .str (.pair .bool .unit)))) (.pair .str .unit))))]).T × (kdL [.lf (.slice .str), .lf .bool]).T))) (x : (kdP []).T) (d : (kdL [.lf (.slice .str), .lf .bool]).T) : Option ((kdP [(.tree (.pair (.int .i64) (.pair (.pair (.int .i64) (.pair (.int .i64) (.pair .str (.pair .bool .unit)))) (.pair .str .unit))))]).T × (kdL [.lf (.slice .str), .lf .bool]).T) :=
  (qb (r79 qu d) (fun x0 => (cond x0.2.2.1 (qs (((Tree.node ((0 : Int), (((0 : Int), ((0 : Int), ((qm (qt [])), (q0, qu)))), ((qm (qt [])), qu))) (qe)), qu), x0.2)) (cond (qd (Eq x0.1.1 (qm (qt [40])))) (qb (r45 n ((1 : Int), qu) x0.2) (fun x1 => (qb (r110 ((qm (qt [41])), qu) x1.2) (fun x2 => (qs (((Tree.node (Tree.val x1.1.1) (Tree.kids x1.1.1)), qu), x2.2)))))) (cond (qd (Eq x0.1.1 (qm (qt [46])))) (qb (r79 qu x0.2) (fun x1 => (qb (r28 qu) (fun x2 => (qb (r26 (x2.1, x1.1)) (fun x3 => (cond x3.1 (qs (((Tree.node ((2 : Int), (((0 : Int), ((0 : Int), ((qm (qt [])), (q0, qu)))), x1.1)) (qe)), qu), x1.2)) (qs (((Tree.node ((0 : Int), (((0 : Int), ((0 : Int), ((qm (qt [])), (q0, qu)))), ((qm (qt [])), qu))) (qe)), qu), (x1.2.1, (q1, qu))))))))))) (qb (strAt x0.1.1 (0 : Int)) (fun x1 => (cond (qd (Eq (qc (qv x1) : Int) (34 : Int))) (qb (r81 x0.1 x0.2) (fun x2 => (qs (((Tree.node (Tree.val x2.1.1) (Tree.kids x2.1.1)), qu), x2.2)))) (qb (strAt x0.1.1 (0 : Int)) (fun x2 => (cond (qd (qq (48 : Int) (qc (qv x2) : Int))) (qb (strAt x0.1.1 (0 : Int)) (fun x3 => (cond (qd (qq (qc (qv x3) : Int) (57 : Int))) (qb (r81 x0.1 x0.2) (fun x4 => (qs (((Tree.node (Tree.val x4.1.1) (Tree.kids x4.1.1)), qu), x4.2)))) (cond (qd (Eq x0.1.1 (qm (qt [116, 114, 117, 101])))) (qb (r81 x0.1 x0.2) (fun x4 => (qs (((Tree.node (Tree.val x4.1.1) (Tree.kids x4.1.1)), qu), x4.2)))) (cond (qd (Eq x0.1.1 (qm (qt [102, 97, 108, 115, 101])))) (qb (r81 x0.1 x0.2) (fun x4 => (qs (((Tree.node (Tree.val x4.1.1) (Tree.kids x4.1.1)), qu), x4.2)))) (cond (qd (Eq x0.1.1 (qm (qt [110, 105, 108])))) (qb (r81 x0.1 x0.2) (fun x4 => (qs (((Tree.node (Tree.val x4.1.1) (Tree.kids x4.1.1)), qu), x4.2)))) (qb (r33 qu) (fun x4 => (cond (upTo (18 : Int) (qc (ql x4.1) : Int)) (qb (r26 ((List.drop 18 x4.1), x0.1)) (fun x5 => (cond x5.1 (qb (r33 qu) (fun x6 => (cond (upTo (18 : Int) (qc (ql x6.1) : Int)) (qb (r49 ((List.drop 18 x6.1), x0.1)) (fun x7 => (qb (r110 ((qm (qt [40])), qu) x0.2) (fun x8 => (qb (r23 qu) (fun x9 => (cond (inB (qw q6 (qa (18 : Int) x7.1)) (ql x9.1)) (qb (qg x9.1 (qi (qw q6 (qa (18 : Int) x7.1)))) (fun x10 => (qb (loop (D := (Prod (Kd.T (.pair (.int .i64) (.pair (.int .i64) (.pair (.int .i64) (.pair (.int .i64) (.pair .str (.pair .bool (.pair .str (.pair (.slice (.tree (.pair (.int .i64) (.pair (.pair (.int .i64) (.pair (.int .i64) (.pair .str (.pair .bool .unit)))) (.pair .str .unit))))) (.pair (.slice .str) (.pair .bool .unit))))))))))) (Kd.T .unit))) (O := (Sum (Kd.T (.pair (.pair (.slice .str) (.pair .bool (.pair (.int .i64) (.pair (.int .i64) (.pair (.int .i64) (.pair .str (.pair .bool (.pair .str (.pair (.slice (.tree (.pair (.int .i64) (.pair (.pair (.int .i64) (.pair (.int .i64) (.pair .str (.pair .bool .unit)))) (.pair .str .unit))))) .unit))))))))) .unit)) (OutT (qe)))) (fun x11 => (cond (qd (qy x11.1.1 x10)) (cond (qd (qy (0 : Int) x11.1.1)) (qb (r110 ((qm (qt [44])), qu) x11.1.2.2.2.2.2.2.2.2) (fun x12 => (qb (r45 n ((1 : Int), qu) x12.2) (fun x13 => (cond (fits (qa (ql x11.1.2.2.2.2.2.2.2.1) (ql (qk (Tree.node (Tree.val x13.1.1) (Tree.kids x13.1.1)) (qe)))) 88) (qs (qf (((qw q6 (qa x11.1.1 (1 : Int))), (x11.1.2.1, (x11.1.2.2.1, (x11.1.2.2.2.1, (x11.1.2.2.2.2.1, (x11.1.2.2.2.2.2.1, (x11.1.2.2.2.2.2.2.1, ((qp x11.1.2.2.2.2.2.2.2.1 (qk (Tree.node (Tree.val x13.1.1) (Tree.kids x13.1.1)) (qe))), x13.2)))))))), qu))) (qn)))))) (qb (r45 n ((1 : Int), qu) x11.1.2.2.2.2.2.2.2.2) (fun x12 => (cond (fits (qa (ql x11.1.2.2.2.2.2.2.2.1) (ql (qk (Tree.node (Tree.val x12.1.1) (Tree.kids x12.1.1)) (qe)))) 88) (qs (qf (((qw q6 (qa x11.1.1 (1 : Int))), (x11.1.2.1, (x11.1.2.2.1, (x11.1.2.2.2.1, (x11.1.2.2.2.2.1, (x11.1.2.2.2.2.2.1, (x11.1.2.2.2.2.2.2.1, ((qp x11.1.2.2.2.2.2.2.2.1 (qk (Tree.node (Tree.val x12.1.1) (Tree.kids x12.1.1)) (qe))), x12.2)))))))), qu))) (qn))))) (qs (qr (qf ((x11.1.2.2.2.2.2.2.2.2.1, (x11.1.2.2.2.2.2.2.2.2.2.1, (x11.1.2.1, (x11.1.2.2.1, (x11.1.2.2.2.1, (x11.1.2.2.2.2.1, (x11.1.2.2.2.2.2.1, (x11.1.2.2.2.2.2.2.1, (x11.1.2.2.2.2.2.2.2.1, qu))))))))), qu)))))) (((0 : Int), ((qw q6 (qa (18 : Int) x7.1)), ((0 : Int), ((0 : Int), ((qm (qt [])), (q0, ((qm (qt [])), ((qe), x8.2)))))))), qu)) (sumE (fun x11 => (qb (r110 ((qm (qt [41])), qu) (x11.1.1, (x11.1.2.1, qu))) (fun x12 => (qs (((Tree.node (x11.1.2.2.1, ((x11.1.2.2.2.1, (x11.1.2.2.2.2.1, (x11.1.2.2.2.2.2.1, (x11.1.2.2.2.2.2.2.1, qu)))), (x11.1.2.2.2.2.2.2.2.1, qu))) x11.1.2.2.2.2.2.2.2.2.1), qu), x12.2))))) (emptyE))))) (qn)))))))) (qn)))) (qb (r25 x0.1) (fun x6 => (cond x6.1 (qb (r27 qu) (fun x7 => (qb (r26 (x7.1, x0.1)) (fun x8 => (cond (qo x8.1) (qs (((Tree.node ((1 : Int), (((0 : Int), ((0 : Int), ((qm (qt [])), (q0, qu)))), x0.1)) (qe)), qu), x0.2)) (qs (((Tree.node ((0 : Int), (((0 : Int), ((0 : Int), ((qm (qt [])), (q0, qu)))), ((qm (qt [])), qu))) (qe)), qu), (x0.2.1, (q1, qu))))))))) (qs (((Tree.node ((0 : Int), (((0 : Int), ((0 : Int), ((qm (qt [])), (q0, qu)))), ((qm (qt [])), qu))) (qe)), qu), (x0.2.1, (q1, qu)))))))))) (qn)))))))))) (cond (qd (Eq x0.1.1 (qm (qt [116, 114, 117, 101])))) (qb (r81 x0.1 x0.2) (fun x3 => (qs (((Tree.node (Tree.val x3.1.1) (Tree.kids x3.1.1)), qu), x3.2)))) (cond (qd (Eq x0.1.1 (qm (qt [102, 97, 108, 115, 101])))) (qb (r81 x0.1 x0.2) (fun x3 => (qs (((Tree.node (Tree.val x3.1.1) (Tree.kids x3.1.1)), qu), x3.2)))) (cond (qd (Eq x0.1.1 (qm (qt [110, 105, 108])))) (qb (r81 x0.1 x0.2) (fun x3 => (qs (((Tree.node (Tree.val x3.1.1) (Tree.kids x3.1.1)), qu), x3.2)))) (qb (r33 qu) (fun x3 => (cond (upTo (18 : Int) (qc (ql x3.1) : Int)) (qb (r26 ((List.drop 18 x3.1), x0.1)) (fun x4 => (cond x4.1 (qb (r33 qu) (fun x5 => (cond (upTo (18 : Int) (qc (ql x5.1) : Int)) (qb (r49 ((List.drop 18 x5.1), x0.1)) (fun x6 => (qb (r110 ((qm (qt [40])), qu) x0.2) (fun x7 => (qb (r23 qu) (fun x8 => (cond (inB (qw q6 (qa (18 : Int) x6.1)) (ql x8.1)) (qb (qg x8.1 (qi (qw q6 (qa (18 : Int) x6.1)))) (fun x9 => (qb (loop (D := (Prod (Kd.T (.pair (.int .i64) (.pair (.int .i64) (.pair (.int .i64) (.pair (.int .i64) (.pair .str (.pair .bool (.pair .str (.pair (.slice (.tree (.pair (.int .i64) (.pair (.pair (.int .i64) (.pair (.int .i64) (.pair .str (.pair .bool .unit)))) (.pair .str .unit))))) (.pair (.slice .str) (.pair .bool .unit))))))))))) (Kd.T .unit))) (O := (Sum (Kd.T (.pair (.pair (.slice .str) (.pair .bool (.pair (.int .i64) (.pair (.int .i64) (.pair (.int .i64) (.pair .str (.pair .bool (.pair .str (.pair (.slice (.tree (.pair (.int .i64) (.pair (.pair (.int .i64) (.pair (.int .i64) (.pair .str (.pair .bool .unit)))) (.pair .str .unit))))) .unit))))))))) .unit)) (OutT (qe)))) (fun x10 => (cond (qd (qy x10.1.1 x9)) (cond (qd (qy (0 : Int) x10.1.1)) (qb (r110 ((qm (qt [44])), qu) x10.1.2.2.2.2.2.2.2.2) (fun x11 => (qb (r45 n ((1 : Int), qu) x11.2) (fun x12 => (cond (fits (qa (ql x10.1.2.2.2.2.2.2.2.1) (ql (qk (Tree.node (Tree.val x12.1.1) (Tree.kids x12.1.1)) (qe)))) 88) (qs (qf (((qw q6 (qa x10.1.1 (1 : Int))), (x10.1.2.1, (x10.1.2.2.1, (x10.1.2.2.2.1, (x10.1.2.2.2.2.1, (x10.1.2.2.2.2.2.1, (x10.1.2.2.2.2.2.2.1, ((qp x10.1.2.2.2.2.2.2.2.1 (qk (Tree.node (Tree.val x12.1.1) (Tree.kids x12.1.1)) (qe))), x12.2)))))))), qu))) (qn)))))) (qb (r45 n ((1 : Int), qu) x10.1.2.2.2.2.2.2.2.2) (fun x11 => (cond (fits (qa (ql x10.1.2.2.2.2.2.2.2.1) (ql (qk (Tree.node (Tree.val x11.1.1) (Tree.kids x11.1.1)) (qe)))) 88) (qs (qf (((qw q6 (qa x10.1.1 (1 : Int))), (x10.1.2.1, (x10.1.2.2.1, (x10.1.2.2.2.1, (x10.1.2.2.2.2.1, (x10.1.2.2.2.2.2.1, (x10.1.2.2.2.2.2.2.1, ((qp x10.1.2.2.2.2.2.2.2.1 (qk (Tree.node (Tree.val x11.1.1) (Tree.kids x11.1.1)) (qe))), x11.2)))))))), qu))) (qn))))) (qs (qr (qf ((x10.1.2.2.2.2.2.2.2.2.1, (x10.1.2.2.2.2.2.2.2.2.2.1, (x10.1.2.1, (x10.1.2.2.1, (x10.1.2.2.2.1, (x10.1.2.2.2.2.1, (x10.1.2.2.2.2.2.1, (x10.1.2.2.2.2.2.2.1, (x10.1.2.2.2.2.2.2.2.1, qu))))))))), qu)))))) (((0 : Int), ((qw q6 (qa (18 : Int) x6.1)), ((0 : Int), ((0 : Int), ((qm (qt [])), (q0, ((qm (qt [])), ((qe), x7.2)))))))), qu)) (sumE (fun x10 => (qb (r110 ((qm (qt [41])), qu) (x10.1.1, (x10.1.2.1, qu))) (fun x11 => (qs (((Tree.node (x10.1.2.2.1, ((x10.1.2.2.2.1, (x10.1.2.2.2.2.1, (x10.1.2.2.2.2.2.1, (x10.1.2.2.2.2.2.2.1, qu)))), (x10.1.2.2.2.2.2.2.2.1, qu))) x10.1.2.2.2.2.2.2.2.2.1), qu), x11.2))))) (emptyE))))) (qn)))))))) (qn)))) (qb (r25 x0.1) (fun x5 => (cond x5.1 (qb (r27 qu) (fun x6 => (qb (r26 (x6.1, x0.1)) (fun x7 => (cond (qo x7.1) (qs (((Tree.node ((1 : Int), (((0 : Int), ((0 : Int), ((qm (qt [])), (q0, qu)))), x0.1)) (qe)), qu), x0.2)) (qs (((Tree.node ((0 : Int), (((0 : Int), ((0 : Int), ((qm (qt [])), (q0, qu)))), ((qm (qt [])), qu))) (qe)), qu), (x0.2.1, (q1, qu))))))))) (qs (((Tree.node ((0 : Int), (((0 : Int), ((0 : Int), ((qm (qt [])), (q0, qu)))), ((qm (qt [])), qu))) (qe)), qu), (x0.2.1, (q1, qu)))))))))) (qn))))))))))))))))))
noncomputable def r80B (n : Nat) (r82 : Nat → ((x : (kdP []).T) → (d : (kdL [.lf (.slice .str), .lf .bool]).T) → Option ((kdP [(.tree (.pair (.int .i64) (.pair (.pair (.int .i64) (.pair (.int .i64) (.pair .str (.pair .bool .unit)))) (.pair .str .unit))))]).T × (kdL [.lf (.slice .str), .lf .bool]).T))) (r80 : Nat → ((x : (kdP [(.tree (.pair (.int .i64) (.pair (.pair (.int .i64) (.pair (.int .i64) (.pair .str (.pair .bool .unit)))) (.pair .str .unit)))), (.int .i64), (.int .i64)]).T) → (d : (kdL [.lf (.slice .str), .lf .bool]).T) → Option ((kdP [(.tree (.pair (.int .i64) (.pair (.pair (.int .i64) (.pair (.int .i64) (.pair .str (.pair .bool .unit)))) (.pair .str .unit))))]).T × (kdL [.lf (.slice .str), .lf .bool]).T))) (r45 : Nat → ((x : (kdP [(.int .i64)]).T) → (d : (kdL [.lf (.slice .str), .lf .bool]).T) → Option ((kdP [(.tree (.pair (.int .i64) (.pair (.pair (.int .i64) (.pair (.int .i64) (.pair .str (.pair .bool .unit)))) (.pair .str .unit))))]).T × (kdL [.lf (.slice .str), .lf .bool]).T))) (x : (kdP [(.tree (.pair (.int .i64) (.pair (.pair (.int .i64) (.pair (.int .i64) (.pair .str (.pair .bool .unit)))) (.pair .str .unit)))), (.int .i64), (.int .i64)]).T) (d : (kdL [.lf (.slice .str), .lf .bool]).T) : Option ((kdP [(.tree (.pair (.int .i64) (.pair (.pair (.int .i64) (.pair (.int .i64) (.pair .str (.pair .bool .unit)))) (.pair .str .unit))))]).T × (kdL [.lf (.slice .str), .lf .bool]).T) :=
  (qb (loop (D := (Prod (Kd.T (.pair (.int .i64) (.pair (.int .i64) (.pair (.int .i64) (.pair (.int .i64) (.pair .str (.pair .bool (.pair .str (.pair (.slice (.tree (.pair (.int .i64) (.pair (.pair (.int .i64) (.pair (.int .i64) (.pair .str (.pair .bool .unit)))) (.pair .str .unit))))) (.pair (.slice .str) (.pair .bool .unit))))))))))) (Kd.T .unit))) (O := (Sum (Kd.T (.pair (.pair (.slice .str) (.pair .bool (.pair (.int .i64) (.pair (.int .i64) (.pair (.int .i64) (.pair .str (.pair .bool (.pair .str (.pair (.slice (.tree (.pair (.int .i64) (.pair (.pair (.int .i64) (.pair (.int .i64) (.pair .str (.pair .bool .unit)))) (.pair .str .unit))))) (.pair (.int .i64) (.pair (.int .i64) (.pair (.int .i64) (.pair .str (.pair .bool (.pair .str (.pair (.slice (.tree (.pair (.int .i64) (.pair (.pair (.int .i64) (.pair (.int .i64) (.pair .str (.pair .bool .unit)))) (.pair .str .unit))))) .unit)))))))))))))))) .unit)) (OutT (qk ((Ex3.exit 0), (Sh.mk (qe) (qk (0, (qk (ASh.lf (Kd.slice Kd.str)) (qk (ASh.lf Kd.bool) (qe)))) (qk (128, (qk (ASh.lf (Kd.int q6)) (qk (ASh.lf (Kd.int q6)) (qk (ASh.lf (Kd.int q6)) (qk (ASh.lf Kd.str) (qk (ASh.lf Kd.bool) (qk (ASh.lf Kd.str) (qk (ASh.lf (Kd.slice (Kd.tree (Kd.pair (Kd.int q6) (Kd.pair (Kd.pair (Kd.int q6) (Kd.pair (Kd.int q6) (Kd.pair Kd.str (Kd.pair Kd.bool Kd.unit)))) (Kd.pair Kd.str Kd.unit)))))) (qe))))))))) (qe))) (qe))) (qe))))) (fun x0 => (cond (qo x0.1.2.2.2.2.2.2.2.2.2.1) (qb (loop (D := (Prod (Kd.T (.pair (.int .i64) (.pair (.int .i64) (.pair (.slice .str) (.pair .bool .unit))))) (Kd.T .unit))) (O := (Sum (Kd.T (.pair (.pair (.int .i64) (.pair (.slice .str) (.pair .bool .unit))) .unit)) (OutT (qe)))) (fun x1 => (cond (qd (qq x1.1.2.1 (16 : Int))) (cond (qo (qd (Eq x1.1.2.1 (5 : Int)))) (qb (r33 qu) (fun x2 => (cond (inB x1.1.2.1 (ql x2.1)) (qb (qg x2.1 (qi x1.1.2.1)) (fun x3 => (qb (r78 qu x1.1.2.2) (fun x4 => (cond (qd (Eq x3 x4.1.1)) (qs (qf ((x1.1.2.1, ((qw q6 (qa x1.1.2.1 (1 : Int))), x4.2)), qu))) (qs (qf ((x1.1.1, ((qw q6 (qa x1.1.2.1 (1 : Int))), x4.2)), qu)))))))) (qn)))) (qs (qf ((x1.1.1, ((qw q6 (qa x1.1.2.1 (1 : Int))), x1.1.2.2)), qu)))) (qs (qr (qf ((x1.1.1, x1.1.2.2), qu)))))) (((Neg.neg (1 : Int)), ((3 : Int), x0.1.2.2.2.2.2.2.2.2)), qu)) (sumE (fun x1 => (cond (qd (qy x1.1.1 (0 : Int))) (qs (qr (qf ((x1.1.2.1, (x1.1.2.2.1, (x0.1.2.1, (x0.1.2.2.1, (x0.1.2.2.2.1, (x0.1.2.2.2.2.1, (x0.1.2.2.2.2.2.1, (x0.1.2.2.2.2.2.2.1, (x0.1.2.2.2.2.2.2.2.1, (x0.1.2.1, (x0.1.2.2.1, (x0.1.2.2.2.1, (x0.1.2.2.2.2.1, (x0.1.2.2.2.2.2.1, (x0.1.2.2.2.2.2.2.1, (x0.1.2.2.2.2.2.2.2.1, qu)))))))))))))))), qu)))) (qb (r31 (x1.1.1, qu)) (fun x2 => (cond (qd (qy x2.1 x.2.1)) (qs (qr (qf ((x1.1.2.1, (x1.1.2.2.1, (x0.1.2.1, (x0.1.2.2.1, (x0.1.2.2.2.1, (x0.1.2.2.2.2.1, (x0.1.2.2.2.2.2.1, (x0.1.2.2.2.2.2.2.1, (x0.1.2.2.2.2.2.2.2.1, (x0.1.2.1, (x0.1.2.2.1, (x0.1.2.2.2.1, (x0.1.2.2.2.2.1, (x0.1.2.2.2.2.2.1, (x0.1.2.2.2.2.2.2.1, (x0.1.2.2.2.2.2.2.2.1, qu)))))))))))))))), qu)))) (cond (qd (qy x0.1.1 x2.1)) (qs (qr (qf ((x1.1.2.1, (x1.1.2.2.1, (x0.1.2.1, (x0.1.2.2.1, (x0.1.2.2.2.1, (x0.1.2.2.2.2.1, (x0.1.2.2.2.2.2.1, (x0.1.2.2.2.2.2.2.1, (x0.1.2.2.2.2.2.2.2.1, (x0.1.2.1, (x0.1.2.2.1, (x0.1.2.2.2.1, (x0.1.2.2.2.2.1, (x0.1.2.2.2.2.2.1, (x0.1.2.2.2.2.2.2.1, (x0.1.2.2.2.2.2.2.2.1, qu)))))))))))))))), qu)))) (cond (qd (Eq x2.1 (4 : Int))) (cond (qd (Eq x0.1.1 (4 : Int))) (qs (qr (qf ((x1.1.2.1, (x1.1.2.2.1, (x0.1.2.1, (x0.1.2.2.1, (x0.1.2.2.2.1, (x0.1.2.2.2.2.1, (x0.1.2.2.2.2.2.1, (x0.1.2.2.2.2.2.2.1, (x0.1.2.2.2.2.2.2.2.1, (x0.1.2.1, (x0.1.2.2.1, (x0.1.2.2.2.1, (x0.1.2.2.2.2.1, (x0.1.2.2.2.2.2.1, (x0.1.2.2.2.2.2.2.1, (x0.1.2.2.2.2.2.2.2.1, qu)))))))))))))))), qu)))) (qb (r79 qu x1.1.2) (fun x3 => (qb (r45 n ((qw q6 (qa x2.1 (1 : Int))), qu) x3.2) (fun x4 => (qs (qf ((x2.1, (x1.1.1, ((0 : Int), ((0 : Int), ((qm (qt [])), (q0, ((qm (qt [])), ((qk (Tree.node (x0.1.2.1, ((x0.1.2.2.1, (x0.1.2.2.2.1, (x0.1.2.2.2.2.1, (x0.1.2.2.2.2.2.1, qu)))), (x0.1.2.2.2.2.2.2.1, qu))) x0.1.2.2.2.2.2.2.2.1) (qk (Tree.node (Tree.val x4.1.1) (Tree.kids x4.1.1)) (qe))), x4.2)))))))), qu)))))))) (qb (r79 qu x1.1.2) (fun x3 => (qb (r45 n ((qw q6 (qa x2.1 (1 : Int))), qu) x3.2) (fun x4 => (qs (qf ((x2.1, (x1.1.1, ((0 : Int), ((0 : Int), ((qm (qt [])), (q0, ((qm (qt [])), ((qk (Tree.node (x0.1.2.1, ((x0.1.2.2.1, (x0.1.2.2.2.1, (x0.1.2.2.2.2.1, (x0.1.2.2.2.2.2.1, qu)))), (x0.1.2.2.2.2.2.2.1, qu))) x0.1.2.2.2.2.2.2.2.1) (qk (Tree.node (Tree.val x4.1.1) (Tree.kids x4.1.1)) (qe))), x4.2)))))))), qu)))))))))))))) (emptyE))) (qs (qr (qr (qf ((x0.1.2.2.2.2.2.2.2.2.1, (x0.1.2.2.2.2.2.2.2.2.2.1, (x0.1.2.1, (x0.1.2.2.1, (x0.1.2.2.2.1, (x0.1.2.2.2.2.1, (x0.1.2.2.2.2.2.1, (x0.1.2.2.2.2.2.2.1, (x0.1.2.2.2.2.2.2.2.1, qu))))))))), qu))))))) ((x.2.2.1, ((Tree.val x.1).1, ((Tree.val x.1).2.1.1, ((Tree.val x.1).2.1.2.1, ((Tree.val x.1).2.1.2.2.1, ((Tree.val x.1).2.1.2.2.2.1, ((Tree.val x.1).2.2.1, ((Tree.kids x.1), d)))))))), qu)) (sumE (fun x0 => (qs (((Tree.node (x0.1.2.2.2.2.2.2.2.2.2.1, ((x0.1.2.2.2.2.2.2.2.2.2.2.1, (x0.1.2.2.2.2.2.2.2.2.2.2.2.1, (x0.1.2.2.2.2.2.2.2.2.2.2.2.2.1, (x0.1.2.2.2.2.2.2.2.2.2.2.2.2.2.1, qu)))), (x0.1.2.2.2.2.2.2.2.2.2.2.2.2.2.2.1, qu))) x0.1.2.2.2.2.2.2.2.2.2.2.2.2.2.2.2.1), qu), (x0.1.1, (x0.1.2.1, qu))))) (sumE (fun x0 => (qs (((Tree.node (x0.1.2.2.1, ((x0.1.2.2.2.1, (x0.1.2.2.2.2.1, (x0.1.2.2.2.2.2.1, (x0.1.2.2.2.2.2.2.1, qu)))), (x0.1.2.2.2.2.2.2.2.1, qu))) x0.1.2.2.2.2.2.2.2.2.1), qu), (x0.1.1, (x0.1.2.1, qu))))) (emptyE))))
noncomputable def r45B (n : Nat) (r82 : Nat → ((x : (kdP []).T) → (d : (kdL [.lf (.slice .str), .lf .bool]).T) → Option ((kdP [(.tree (.pair (.int .i64) (.pair (.pair (.int .i64) (.pair (.int .i64) (.pair .str (.pair .bool .unit)))) (.pair .str .unit))))]).T × (kdL [.lf (.slice .str), .lf .bool]).T))) (r80 : Nat → ((x : (kdP [(.tree (.pair (.int .i64) (.pair (.pair (.int .i64) (.pair (.int .i64) (.pair .str (.pair .bool .unit)))) (.pair .str .unit)))), (.int .i64), (.int .i64)]).T) → (d : (kdL [.lf (.slice .str), .lf .bool]).T) → Option ((kdP [(.tree (.pair (.int .i64) (.pair (.pair (.int .i64) (.pair (.int .i64) (.pair .str (.pair .bool .unit)))) (.pair .str .unit))))]).T × (kdL [.lf (.slice .str), .lf .bool]).T))) (r45 : Nat → ((x : (kdP [(.int .i64)]).T) → (d : (kdL [.lf (.slice .str), .lf .bool]).T) → Option ((kdP [(.tree (.pair (.int .i64) (.pair (.pair (.int .i64) (.pair (.int .i64) (.pair .str (.pair .bool .unit)))) (.pair .str .unit))))]).T × (kdL [.lf (.slice .str), .lf .bool]).T))) (x : (kdP [(.int .i64)]).T) (d : (kdL [.lf (.slice .str), .lf .bool]).T) : Option ((kdP [(.tree (.pair (.int .i64) (.pair (.pair (.int .i64) (.pair (.int .i64) (.pair .str (.pair .bool .unit)))) (.pair .str .unit))))]).T × (kdL [.lf (.slice .str), .lf .bool]).T) :=
  (qb (r78 qu d) (fun x0 => (cond x0.2.2.1 (qs (((Tree.node ((0 : Int), (((0 : Int), ((0 : Int), ((qm (qt [])), (q0, qu)))), ((qm (qt [])), qu))) (qe)), qu), x0.2)) (cond (qd (Eq x0.1.1 (qm (qt [110, 111, 116])))) (cond (qd (qq x.1 (3 : Int))) (qb (r79 qu x0.2) (fun x1 => (qb (r45 n ((3 : Int), qu) x1.2) (fun x2 => (qb (r80 n ((Tree.node ((5 : Int), (((0 : Int), ((0 : Int), ((qm (qt [])), (q0, qu)))), ((qm (qt [])), qu))) (qk (Tree.node (Tree.val x2.1.1) (Tree.kids x2.1.1)) (qe))), (x.1, ((3 : Int), qu))) x2.2) (fun x3 => (qs (((Tree.node (Tree.val x3.1.1) (Tree.kids x3.1.1)), qu), x3.2)))))))) (cond (qd (Eq x0.1.1 (qm (qt [45])))) (qb (r79 qu x0.2) (fun x1 => (qb (r78 qu x1.2) (fun x2 => (cond (qo (qd (Eq x2.1.1 (qm (qt []))))) (qb (strAt x2.1.1 (0 : Int)) (fun x3 => (cond (qd (qq (48 : Int) (qc (qv x3) : Int))) (qb (strAt x2.1.1 (0 : Int)) (fun x4 => (cond (qd (qq (qc (qv x4) : Int) (57 : Int))) (qb (r79 qu x2.2) (fun x5 => (cond (qd (qy 9223372036854775807 (qa (qz (qm (qt [45]))) (qz x5.1.1)))) (qn) (qb (r81 ((qp (qm (qt [45])) x5.1.1), qu) x5.2) (fun x6 => (qb (r80 n ((Tree.node (Tree.val x6.1.1) (Tree.kids x6.1.1)), (x.1, ((9 : Int), qu))) x6.2) (fun x7 => (qs (((Tree.node (Tree.val x7.1.1) (Tree.kids x7.1.1)), qu), x7.2))))))))) (qb (r45 n ((7 : Int), qu) x2.2) (fun x5 => (qb (r80 n ((Tree.node ((17 : Int), (((0 : Int), ((0 : Int), ((qm (qt [])), (q0, qu)))), ((qm (qt [])), qu))) (qk (Tree.node (Tree.val x5.1.1) (Tree.kids x5.1.1)) (qe))), (x.1, ((9 : Int), qu))) x5.2) (fun x6 => (qs (((Tree.node (Tree.val x6.1.1) (Tree.kids x6.1.1)), qu), x6.2))))))))) (qb (r45 n ((7 : Int), qu) x2.2) (fun x4 => (qb (r80 n ((Tree.node ((17 : Int), (((0 : Int), ((0 : Int), ((qm (qt [])), (q0, qu)))), ((qm (qt [])), qu))) (qk (Tree.node (Tree.val x4.1.1) (Tree.kids x4.1.1)) (qe))), (x.1, ((9 : Int), qu))) x4.2) (fun x5 => (qs (((Tree.node (Tree.val x5.1.1) (Tree.kids x5.1.1)), qu), x5.2))))))))) (qb (r45 n ((7 : Int), qu) x2.2) (fun x3 => (qb (r80 n ((Tree.node ((17 : Int), (((0 : Int), ((0 : Int), ((qm (qt [])), (q0, qu)))), ((qm (qt [])), qu))) (qk (Tree.node (Tree.val x3.1.1) (Tree.kids x3.1.1)) (qe))), (x.1, ((9 : Int), qu))) x3.2) (fun x4 => (qs (((Tree.node (Tree.val x4.1.1) (Tree.kids x4.1.1)), qu), x4.2))))))))))) (qb (r82 n qu x0.2) (fun x1 => (qb (r80 n ((Tree.node (Tree.val x1.1.1) (Tree.kids x1.1.1)), (x.1, ((9 : Int), qu))) x1.2) (fun x2 => (qs (((Tree.node (Tree.val x2.1.1) (Tree.kids x2.1.1)), qu), x2.2)))))))) (cond (qd (Eq x0.1.1 (qm (qt [45])))) (qb (r79 qu x0.2) (fun x1 => (qb (r78 qu x1.2) (fun x2 => (cond (qo (qd (Eq x2.1.1 (qm (qt []))))) (qb (strAt x2.1.1 (0 : Int)) (fun x3 => (cond (qd (qq (48 : Int) (qc (qv x3) : Int))) (qb (strAt x2.1.1 (0 : Int)) (fun x4 => (cond (qd (qq (qc (qv x4) : Int) (57 : Int))) (qb (r79 qu x2.2) (fun x5 => (cond (qd (qy 9223372036854775807 (qa (qz (qm (qt [45]))) (qz x5.1.1)))) (qn) (qb (r81 ((qp (qm (qt [45])) x5.1.1), qu) x5.2) (fun x6 => (qb (r80 n ((Tree.node (Tree.val x6.1.1) (Tree.kids x6.1.1)), (x.1, ((9 : Int), qu))) x6.2) (fun x7 => (qs (((Tree.node (Tree.val x7.1.1) (Tree.kids x7.1.1)), qu), x7.2))))))))) (qb (r45 n ((7 : Int), qu) x2.2) (fun x5 => (qb (r80 n ((Tree.node ((17 : Int), (((0 : Int), ((0 : Int), ((qm (qt [])), (q0, qu)))), ((qm (qt [])), qu))) (qk (Tree.node (Tree.val x5.1.1) (Tree.kids x5.1.1)) (qe))), (x.1, ((9 : Int), qu))) x5.2) (fun x6 => (qs (((Tree.node (Tree.val x6.1.1) (Tree.kids x6.1.1)), qu), x6.2))))))))) (qb (r45 n ((7 : Int), qu) x2.2) (fun x4 => (qb (r80 n ((Tree.node ((17 : Int), (((0 : Int), ((0 : Int), ((qm (qt [])), (q0, qu)))), ((qm (qt [])), qu))) (qk (Tree.node (Tree.val x4.1.1) (Tree.kids x4.1.1)) (qe))), (x.1, ((9 : Int), qu))) x4.2) (fun x5 => (qs (((Tree.node (Tree.val x5.1.1) (Tree.kids x5.1.1)), qu), x5.2))))))))) (qb (r45 n ((7 : Int), qu) x2.2) (fun x3 => (qb (r80 n ((Tree.node ((17 : Int), (((0 : Int), ((0 : Int), ((qm (qt [])), (q0, qu)))), ((qm (qt [])), qu))) (qk (Tree.node (Tree.val x3.1.1) (Tree.kids x3.1.1)) (qe))), (x.1, ((9 : Int), qu))) x3.2) (fun x4 => (qs (((Tree.node (Tree.val x4.1.1) (Tree.kids x4.1.1)), qu), x4.2))))))))))) (qb (r82 n qu x0.2) (fun x1 => (qb (r80 n ((Tree.node (Tree.val x1.1.1) (Tree.kids x1.1.1)), (x.1, ((9 : Int), qu))) x1.2) (fun x2 => (qs (((Tree.node (Tree.val x2.1.1) (Tree.kids x2.1.1)), qu), x2.2)))))))))))
noncomputable def r82K (n : Nat) : ((x : (kdP []).T) → (d : (kdL [.lf (.slice .str), .lf .bool]).T) → Option ((kdP [(.tree (.pair (.int .i64) (.pair (.pair (.int .i64) (.pair (.int .i64) (.pair .str (.pair .bool .unit)))) (.pair .str .unit))))]).T × (kdL [.lf (.slice .str), .lf .bool]).T)) × ((x : (kdP [(.tree (.pair (.int .i64) (.pair (.pair (.int .i64) (.pair (.int .i64) (.pair .str (.pair .bool .unit)))) (.pair .str .unit)))), (.int .i64), (.int .i64)]).T) → (d : (kdL [.lf (.slice .str), .lf .bool]).T) → Option ((kdP [(.tree (.pair (.int .i64) (.pair (.pair (.int .i64) (.pair (.int .i64) (.pair .str (.pair .bool .unit)))) (.pair .str .unit))))]).T × (kdL [.lf (.slice .str), .lf .bool]).T)) × ((x : (kdP [(.int .i64)]).T) → (d : (kdL [.lf (.slice .str), .lf .bool]).T) → Option ((kdP [(.tree (.pair (.int .i64) (.pair (.pair (.int .i64) (.pair (.int .i64) (.pair .str (.pair .bool .unit)))) (.pair .str .unit))))]).T × (kdL [.lf (.slice .str), .lf .bool]).T)) × Unit :=
  Nat.rec (motive := fun _ => ((x : (kdP []).T) → (d : (kdL [.lf (.slice .str), .lf .bool]).T) → Option ((kdP [(.tree (.pair (.int .i64) (.pair (.pair (.int .i64) (.pair (.int .i64) (.pair .str (.pair .bool .unit)))) (.pair .str .unit))))]).T × (kdL [.lf (.slice .str), .lf .bool]).T)) × ((x : (kdP [(.tree (.pair (.int .i64) (.pair (.pair (.int .i64) (.pair (.int .i64) (.pair .str (.pair .bool .unit)))) (.pair .str .unit)))), (.int .i64), (.int .i64)]).T) → (d : (kdL [.lf (.slice .str), .lf .bool]).T) → Option ((kdP [(.tree (.pair (.int .i64) (.pair (.pair (.int .i64) (.pair (.int .i64) (.pair .str (.pair .bool .unit)))) (.pair .str .unit))))]).T × (kdL [.lf (.slice .str), .lf .bool]).T)) × ((x : (kdP [(.int .i64)]).T) → (d : (kdL [.lf (.slice .str), .lf .bool]).T) → Option ((kdP [(.tree (.pair (.int .i64) (.pair (.pair (.int .i64) (.pair (.int .i64) (.pair .str (.pair .bool .unit)))) (.pair .str .unit))))]).T × (kdL [.lf (.slice .str), .lf .bool]).T)) × Unit) ((fun _ _ => none), ((fun _ _ => none), ((fun _ _ => none), ()))) (fun n ih => (r82B n (fun _ => ih.1) (fun _ => ih.2.1) (fun _ => ih.2.2.1), (r80B n (fun _ => ih.1) (fun _ => ih.2.1) (fun _ => ih.2.2.1), (r45B n (fun _ => ih.1) (fun _ => ih.2.1) (fun _ => ih.2.2.1), ())))) n
noncomputable def r82 (n : Nat) : ((x : (kdP []).T) → (d : (kdL [.lf (.slice .str), .lf .bool]).T) → Option ((kdP [(.tree (.pair (.int .i64) (.pair (.pair (.int .i64) (.pair (.int .i64) (.pair .str (.pair .bool .unit)))) (.pair .str .unit))))]).T × (kdL [.lf (.slice .str), .lf .bool]).T)) := (r82K n).1
noncomputable def r80 (n : Nat) : ((x : (kdP [(.tree (.pair (.int .i64) (.pair (.pair (.int .i64) (.pair (.int .i64) (.pair .str (.pair .bool .unit)))) (.pair .str .unit)))), (.int .i64), (.int .i64)]).T) → (d : (kdL [.lf (.slice .str), .lf .bool]).T) → Option ((kdP [(.tree (.pair (.int .i64) (.pair (.pair (.int .i64) (.pair (.int .i64) (.pair .str (.pair .bool .unit)))) (.pair .str .unit))))]).T × (kdL [.lf (.slice .str), .lf .bool]).T)) := (r82K n).2.1
noncomputable def r45 (n : Nat) : ((x : (kdP [(.int .i64)]).T) → (d : (kdL [.lf (.slice .str), .lf .bool]).T) → Option ((kdP [(.tree (.pair (.int .i64) (.pair (.pair (.int .i64) (.pair (.int .i64) (.pair .str (.pair .bool .unit)))) (.pair .str .unit))))]).T × (kdL [.lf (.slice .str), .lf .bool]).T)) := (r82K n).2.2.1
theorem r82_succ (n : Nat) : r82 (n + 1) = r82B n r82 r80 r45 := rfl
theorem r80_succ (n : Nat) : r80 (n + 1) = r80B n r82 r80 r45 := rfl
theorem r45_succ (n : Nat) : r45 (n + 1) = r45B n r82 r80 r45 := rfl
theorem r82K_ok (n : Nat) : SpecOk Go.Proofs.Tryz.prog nA gA 82 (memSpec [.ptr 0 0] [(0, [.lf (.slice .str), .lf .bool])] [(0, [.lf (.slice .str), .lf .bool])] [(.tree (.pair (.int .i64) (.pair (.pair (.int .i64) (.pair (.int .i64) (.pair .str (.pair .bool .unit)))) (.pair .str .unit))))] (r82 n)) ∧ SpecOk Go.Proofs.Tryz.prog nA gA 80 (memSpec [.ptr 0 0, .dat (.tree (.pair (.int .i64) (.pair (.pair (.int .i64) (.pair (.int .i64) (.pair .str (.pair .bool .unit)))) (.pair .str .unit)))), .dat (.int .i64), .dat (.int .i64)] [(0, [.lf (.slice .str), .lf .bool])] [(0, [.lf (.slice .str), .lf .bool])] [(.tree (.pair (.int .i64) (.pair (.pair (.int .i64) (.pair (.int .i64) (.pair .str (.pair .bool .unit)))) (.pair .str .unit))))] (r80 n)) ∧ SpecOk Go.Proofs.Tryz.prog nA gA 45 (memSpec [.ptr 0 0, .dat (.int .i64)] [(0, [.lf (.slice .str), .lf .bool])] [(0, [.lf (.slice .str), .lf .bool])] [(.tree (.pair (.int .i64) (.pair (.pair (.int .i64) (.pair (.int .i64) (.pair .str (.pair .bool .unit)))) (.pair .str .unit))))] (r45 n)) ∧ True := by
  induction n with
  | zero => exact ⟨memSpec_none (by kernel_rfl), memSpec_none (by kernel_rfl), memSpec_none (by kernel_rfl), trivial⟩
  | succ n ih => exact ⟨(show SpecOk Go.Proofs.Tryz.prog nA gA 82 (memSpec [.ptr 0 0] [(0, [.lf (.slice .str), .lf .bool])] [(0, [.lf (.slice .str), .lf .bool])] [(.tree (.pair (.int .i64) (.pair (.pair (.int .i64) (.pair (.int .i64) (.pair .str (.pair .bool .unit)))) (.pair .str .unit))))] (r82B n r82 r80 r45)) from memSpec_ok (F := specOf [(79, memSpec [.ptr 0 0] [(0, [.lf (.slice .str), .lf .bool])] [(0, [.lf (.slice .str), .lf .bool])] [.str] r79), (45, memSpec [.ptr 0 0, .dat (.int .i64)] [(0, [.lf (.slice .str), .lf .bool])] [(0, [.lf (.slice .str), .lf .bool])] [(.tree (.pair (.int .i64) (.pair (.pair (.int .i64) (.pair (.int .i64) (.pair .str (.pair .bool .unit)))) (.pair .str .unit))))] (r45 n)), (110, memSpec [.ptr 0 0, .dat .str] [(0, [.lf (.slice .str), .lf .bool])] [(0, [.lf (.slice .str), .lf .bool])] [] r110), (28, pureSpec [] [(.slice .str)] r28), (26, pureSpec [(.slice .str), .str] [.bool] r26), (81, memSpec [.ptr 0 0, .dat .str] [(0, [.lf (.slice .str), .lf .bool])] [(0, [.lf (.slice .str), .lf .bool])] [(.tree (.pair (.int .i64) (.pair (.pair (.int .i64) (.pair (.int .i64) (.pair .str (.pair .bool .unit)))) (.pair .str .unit))))] r81), (33, pureSpec [] [(.slice .str)] r33), (49, pureSpec [(.slice .str), .str] [(.int .i64)] r49), (23, pureSpec [] [(.slice (.int .i64))] r23), (25, pureSpec [.str] [.bool] r25), (27, pureSpec [] [(.slice .str)] r27)]) (hs := hintOf [(1000000, ⟨⟨[], [], []⟩, []⟩), (1, ⟨⟨[(87, .lf (.int .i64))], [(3456, [.lf (.int .i64), .lf (.int .i64), .lf (.int .i64), .lf .str, .lf .bool, .lf .str, .own (.tree (.pair (.int .i64) (.pair (.pair (.int .i64) (.pair (.int .i64) (.pair .str (.pair .bool .unit)))) (.pair .str .unit))))]), (0, [.lf (.slice .str), .lf .bool])], []⟩, [((.exit 1), ⟨[], [(0, [.lf (.slice .str), .lf .bool]), (3456, [.lf (.int .i64), .lf (.int .i64), .lf (.int .i64), .lf .str, .lf .bool, .lf .str, .own (.tree (.pair (.int .i64) (.pair (.pair (.int .i64) (.pair (.int .i64) (.pair .str (.pair .bool .unit)))) (.pair .str .unit))))])], []⟩)]⟩)]) stays_A (specOf_cons r79_ok (specOf_cons ih.2.2.1 (specOf_cons r110_ok (specOf_cons (PureOk.spec r28_ok) (specOf_cons (PureOk.spec r26_ok) (specOf_cons r81_ok (specOf_cons (PureOk.spec r33_ok) (specOf_cons (PureOk.spec r49_ok) (specOf_cons (PureOk.spec r23_ok) (specOf_cons (PureOk.spec r25_ok) (specOf_cons (PureOk.spec r27_ok) specOf_nil))))))))))) mixed Go.Proofs.Tryz.func82 rfl (by kernel_rfl) (by kernel_rfl) (fun _ _ => by kernel_rfl)), (show SpecOk Go.Proofs.Tryz.prog nA gA 80 (memSpec [.ptr 0 0, .dat (.tree (.pair (.int .i64) (.pair (.pair (.int .i64) (.pair (.int .i64) (.pair .str (.pair .bool .unit)))) (.pair .str .unit)))), .dat (.int .i64), .dat (.int .i64)] [(0, [.lf (.slice .str), .lf .bool])] [(0, [.lf (.slice .str), .lf .bool])] [(.tree (.pair (.int .i64) (.pair (.pair (.int .i64) (.pair (.int .i64) (.pair .str (.pair .bool .unit)))) (.pair .str .unit))))] (r80B n r82 r80 r45)) from memSpec_ok (F := specOf [(33, pureSpec [] [(.slice .str)] r33), (78, memSpec [.ptr 0 0] [(0, [.lf (.slice .str), .lf .bool])] [(0, [.lf (.slice .str), .lf .bool])] [.str] r78), (31, pureSpec [(.int .i64)] [(.int .i64)] r31), (79, memSpec [.ptr 0 0] [(0, [.lf (.slice .str), .lf .bool])] [(0, [.lf (.slice .str), .lf .bool])] [.str] r79), (45, memSpec [.ptr 0 0, .dat (.int .i64)] [(0, [.lf (.slice .str), .lf .bool])] [(0, [.lf (.slice .str), .lf .bool])] [(.tree (.pair (.int .i64) (.pair (.pair (.int .i64) (.pair (.int .i64) (.pair .str (.pair .bool .unit)))) (.pair .str .unit))))] (r45 n))]) (hs := hintOf [(1000000, ⟨⟨[], [], []⟩, []⟩), (2, ⟨⟨[(9, .lf (.int .i64)), (10, .lf (.int .i64))], [(0, [.lf (.slice .str), .lf .bool])], []⟩, [((.exit 2), ⟨[(9, .lf (.int .i64))], [(0, [.lf (.slice .str), .lf .bool])], []⟩)]⟩), (0, ⟨⟨[(3, .lf (.int .i64))], [(128, [.lf (.int .i64), .lf (.int .i64), .lf (.int .i64), .lf .str, .lf .bool, .lf .str, .lf (.slice (.tree (.pair (.int .i64) (.pair (.pair (.int .i64) (.pair (.int .i64) (.pair .str (.pair .bool .unit)))) (.pair .str .unit)))))]), (0, [.lf (.slice .str), .lf .bool])], []⟩, [(.ret, ⟨[], [(0, [.lf (.slice .str), .lf .bool]), (128, [.lf (.int .i64), .lf (.int .i64), .lf (.int .i64), .lf .str, .lf .bool, .lf .str, .lf (.slice (.tree (.pair (.int .i64) (.pair (.pair (.int .i64) (.pair (.int .i64) (.pair .str (.pair .bool .unit)))) (.pair .str .unit)))))]), (192, [.lf (.int .i64), .lf (.int .i64), .lf (.int .i64), .lf .str, .lf .bool, .lf .str, .lf (.slice (.tree (.pair (.int .i64) (.pair (.pair (.int .i64) (.pair (.int .i64) (.pair .str (.pair .bool .unit)))) (.pair .str .unit)))))])], []⟩), ((.exit 0), ⟨[], [(0, [.lf (.slice .str), .lf .bool]), (128, [.lf (.int .i64), .lf (.int .i64), .lf (.int .i64), .lf .str, .lf .bool, .lf .str, .lf (.slice (.tree (.pair (.int .i64) (.pair (.pair (.int .i64) (.pair (.int .i64) (.pair .str (.pair .bool .unit)))) (.pair .str .unit)))))])], []⟩)]⟩)]) stays_A (specOf_cons (PureOk.spec r33_ok) (specOf_cons r78_ok (specOf_cons (PureOk.spec r31_ok) (specOf_cons r79_ok (specOf_cons ih.2.2.1 specOf_nil))))) mixed Go.Proofs.Tryz.func80 rfl (by kernel_rfl) (by kernel_rfl) (fun _ _ => by kernel_rfl)), (show SpecOk Go.Proofs.Tryz.prog nA gA 45 (memSpec [.ptr 0 0, .dat (.int .i64)] [(0, [.lf (.slice .str), .lf .bool])] [(0, [.lf (.slice .str), .lf .bool])] [(.tree (.pair (.int .i64) (.pair (.pair (.int .i64) (.pair (.int .i64) (.pair .str (.pair .bool .unit)))) (.pair .str .unit))))] (r45B n r82 r80 r45)) from memSpec_ok (F := specOf [(78, memSpec [.ptr 0 0] [(0, [.lf (.slice .str), .lf .bool])] [(0, [.lf (.slice .str), .lf .bool])] [.str] r78), (79, memSpec [.ptr 0 0] [(0, [.lf (.slice .str), .lf .bool])] [(0, [.lf (.slice .str), .lf .bool])] [.str] r79), (45, memSpec [.ptr 0 0, .dat (.int .i64)] [(0, [.lf (.slice .str), .lf .bool])] [(0, [.lf (.slice .str), .lf .bool])] [(.tree (.pair (.int .i64) (.pair (.pair (.int .i64) (.pair (.int .i64) (.pair .str (.pair .bool .unit)))) (.pair .str .unit))))] (r45 n)), (80, memSpec [.ptr 0 0, .dat (.tree (.pair (.int .i64) (.pair (.pair (.int .i64) (.pair (.int .i64) (.pair .str (.pair .bool .unit)))) (.pair .str .unit)))), .dat (.int .i64), .dat (.int .i64)] [(0, [.lf (.slice .str), .lf .bool])] [(0, [.lf (.slice .str), .lf .bool])] [(.tree (.pair (.int .i64) (.pair (.pair (.int .i64) (.pair (.int .i64) (.pair .str (.pair .bool .unit)))) (.pair .str .unit))))] (r80 n)), (81, memSpec [.ptr 0 0, .dat .str] [(0, [.lf (.slice .str), .lf .bool])] [(0, [.lf (.slice .str), .lf .bool])] [(.tree (.pair (.int .i64) (.pair (.pair (.int .i64) (.pair (.int .i64) (.pair .str (.pair .bool .unit)))) (.pair .str .unit))))] r81), (82, memSpec [.ptr 0 0] [(0, [.lf (.slice .str), .lf .bool])] [(0, [.lf (.slice .str), .lf .bool])] [(.tree (.pair (.int .i64) (.pair (.pair (.int .i64) (.pair (.int .i64) (.pair .str (.pair .bool .unit)))) (.pair .str .unit))))] (r82 n))]) (hs := hintOf [(1000000, ⟨⟨[], [], []⟩, []⟩)]) stays_A (specOf_cons r78_ok (specOf_cons r79_ok (specOf_cons ih.2.2.1 (specOf_cons ih.2.1 (specOf_cons r81_ok (specOf_cons ih.1 specOf_nil)))))) mixed Go.Proofs.Tryz.func45 rfl (by kernel_rfl) (by kernel_rfl) (fun _ _ => by kernel_rfl)), trivial⟩
theorem r45_ok (n : Nat) : SpecOk Go.Proofs.Tryz.prog nA gA 45 (memSpec [.ptr 0 0, .dat (.int .i64)] [(0, [.lf (.slice .str), .lf .bool])] [(0, [.lf (.slice .str), .lf .bool])] [(.tree (.pair (.int .i64) (.pair (.pair (.int .i64) (.pair (.int .i64) (.pair .str (.pair .bool .unit)))) (.pair .str .unit))))] (r45 n)) := (r82K_ok n).2.2.1

/-- terrier/terrref2.ExprOf -/
noncomputable def r21 (n : Nat) (x : (kdP [.str]).T) : Option (kdP [(.tree (.pair (.int .i64) (.pair (.pair (.int .i64) (.pair (.int .i64) (.pair .str (.pair .bool .unit)))) (.pair .str .unit)))), (.int .i64)]).T :=
  (cond (qd (qy (4000 : Int) (qc (qz x.1) : Int))) (qs ((Tree.node ((0 : Int), (((0 : Int), ((0 : Int), ((qm (qt [])), (q0, qu)))), ((qm (qt [])), qu))) (qe)), ((2 : Int), qu))) (qb (r44 x) (fun x0 => (qb (r45 n ((1 : Int), qu) (x0.1, ((qo x0.2.1), qu))) (fun x1 => (cond x1.2.2.1 (qs ((Tree.node ((0 : Int), (((0 : Int), ((0 : Int), ((qm (qt [])), (q0, qu)))), ((qm (qt [])), qu))) (qe)), ((15 : Int), qu))) (cond (qd (qy (0 : Int) (qc (ql x1.2.1) : Int))) (qs ((Tree.node ((0 : Int), (((0 : Int), ((0 : Int), ((qm (qt [])), (q0, qu)))), ((qm (qt [])), qu))) (qe)), ((15 : Int), qu))) (qb (r8 n ((Tree.node (Tree.val x1.1.1) (Tree.kids x1.1.1)), qu)) (fun x2 => (cond (qo (qd (Eq x2.1 (0 : Int)))) (qs ((Tree.node ((0 : Int), (((0 : Int), ((0 : Int), ((qm (qt [])), (q0, qu)))), ((qm (qt [])), qu))) (qe)), x2)) (qs ((Tree.node (Tree.val x1.1.1) (Tree.kids x1.1.1)), ((0 : Int), qu)))))))))))))
theorem r21_ok (n : Nat) : PureOk Go.Proofs.Tryz.prog nA gA 21 [.str] [(.tree (.pair (.int .i64) (.pair (.pair (.int .i64) (.pair (.int .i64) (.pair .str (.pair .bool .unit)))) (.pair .str .unit)))), (.int .i64)] (r21 n) :=
  pureOk_of_run (F := specOf [(44, pureSpec [.str] [(.slice .str), .bool] r44), (45, memSpec [.ptr 0 0, .dat (.int .i64)] [(0, [.lf (.slice .str), .lf .bool])] [(0, [.lf (.slice .str), .lf .bool])] [(.tree (.pair (.int .i64) (.pair (.pair (.int .i64) (.pair (.int .i64) (.pair .str (.pair .bool .unit)))) (.pair .str .unit))))] (r45 n)), (8, pureSpec [(.tree (.pair (.int .i64) (.pair (.pair (.int .i64) (.pair (.int .i64) (.pair .str (.pair .bool .unit)))) (.pair .str .unit))))] [(.int .i64)] (r8 n))]) (hs := hintOf [(1000000, ⟨⟨[], [], []⟩, []⟩)]) stays_A (specOf_cons (PureOk.spec r44_ok) (specOf_cons (r45_ok n) (specOf_cons (PureOk.spec (r8_ok n)) specOf_nil))) mixed Go.Proofs.Tryz.func21 rfl (by kernel_rfl) (fun _ => by kernel_rfl)

/-- terrier/terrlaw2.ExprReads -/
noncomputable def r6 (n : Nat) (x : (kdP [.str]).T) : Option (kdP [.bool]).T :=
  (qb (r7 n qu) (fun x0 => (cond (qo x0.1) (qs (q0, qu)) (qb (r20 n x) (fun x1 => (qb (r21 n x) (fun x2 => (cond (qd (Eq x1.2.1 x2.2.1)) (qb (r16 n ((Tree.node (Tree.val x1.1) (Tree.kids x1.1)), qu)) (fun x3 => (qb (r16 n ((Tree.node (Tree.val x2.1) (Tree.kids x2.1)), qu)) (fun x4 => (qs ((qd (Eq x3.1 x4.1)), qu)))))) (qs (q0, qu))))))))))
theorem r6_ok (n : Nat) : PureOk Go.Proofs.Tryz.prog nA gA 6 [.str] [.bool] (r6 n) :=
  pureOk_of_run (F := specOf [(7, pureSpec [] [.bool] (r7 n)), (20, pureSpec [.str] [(.tree (.pair (.int .i64) (.pair (.pair (.int .i64) (.pair (.int .i64) (.pair .str (.pair .bool .unit)))) (.pair .str .unit)))), (.int .i64)] (r20 n)), (21, pureSpec [.str] [(.tree (.pair (.int .i64) (.pair (.pair (.int .i64) (.pair (.int .i64) (.pair .str (.pair .bool .unit)))) (.pair .str .unit)))), (.int .i64)] (r21 n)), (16, pureSpec [(.tree (.pair (.int .i64) (.pair (.pair (.int .i64) (.pair (.int .i64) (.pair .str (.pair .bool .unit)))) (.pair .str .unit))))] [.str] (r16 n))]) (hs := hintOf [(1000000, ⟨⟨[], [], []⟩, []⟩)]) stays_A (specOf_cons (PureOk.spec (r7_ok n)) (specOf_cons (PureOk.spec (r20_ok n)) (specOf_cons (PureOk.spec (r21_ok n)) (specOf_cons (PureOk.spec (r16_ok n)) specOf_nil)))) mixed Go.Proofs.Tryz.func6 rfl (by kernel_rfl) (fun _ => by kernel_rfl)

end Go.Proofs.YtdfgfjnpllncdaaGreatDoor.I

namespace Go.Proofs.YtdfgfjnpllncdaaGreatDoor.I
open Go.RowKit
set_option linter.unusedVariables false
/-- A loop over a list, told by recursion. -/
def foldL {α S O : Type} (body : Nat → α → S → Option (S ⊕ O)) (out : S → O) : Nat → List α → S → Option O
  | _, [], s => some (out s)
  | i, a :: l, s => match body i a s with
    | none => none
    | some (.inl s') => foldL body out (i + 1) l s'
    | some (.inr o) => some o
def stepTo {D S O : Type} (emb : Int → S → D) (i : Nat) : Option (S ⊕ O) → Option (D ⊕ O)
  | none => none
  | some (.inl s') => some (.inl (emb ((i : Int) + 1) s'))
  | some (.inr o) => some (.inr o)
theorem loop_from {α S D O : Type} {step : D → Option (D ⊕ O)} (emb : Int → S → D) (xs : List α) (body : Nat → α → S → Option (S ⊕ O)) (out : S → O)
    (hin : ∀ (i : Nat) a s, xs[i]? = some a → step (emb i s) = stepTo emb i (body i a s))
    (hend : ∀ s, step (emb (xs.length : Int) s) = some (.inr (out s))) : ∀ (l : List α) (i : Nat) (s : S), i ≤ xs.length → xs.drop i = l → loop step (emb i s) = foldL body out i l s
  | [], i, s, hi, hl => by
    have : i = xs.length := by
      have := congrArg List.length hl
      simp at this; omega
    subst this
    rw [loop_eq, hend]
    rfl
  | a :: l, i, s, hi, hl => by
    have ha : xs[i]? = some a := by
      have := congrArg (fun l => l[0]?) hl
      simpa using this
    have hlt : i < xs.length := (List.getElem?_eq_some_iff.1 ha).1
    have hd : xs.drop (i + 1) = l := by rw [← List.drop_drop, hl]; rfl
    rw [loop_eq, hin i a s ha]
    simp only [foldL]
    cases hb : body i a s with
    | none => rfl
    | some r =>
      cases r with
      | inr o => rfl
      | inl s' =>
        simp only [stepTo]
        exact loop_from emb xs body out hin hend l (i + 1) s' hlt hd
theorem loop_list {α S D O : Type} {step : D → Option (D ⊕ O)} (emb : Int → S → D) (xs : List α) (body : Nat → α → S → Option (S ⊕ O)) (out : S → O)
    (hin : ∀ (i : Nat) a s, xs[i]? = some a → step (emb i s) = stepTo emb i (body i a s))
    (hend : ∀ s, step (emb (xs.length : Int) s) = some (.inr (out s))) (s : S) : loop step (emb 0 s) = foldL body out 0 xs s :=
  loop_from emb xs body out hin hend xs 0 s (Nat.zero_le _) rfl
theorem wrap64 {n : Int} (h1 : -9223372036854775808 ≤ n) (h2 : n ≤ 9223372036854775807) : IntKind.wrap .i64 n = n := by
  unfold IntKind.wrap
  simp only [IntKind.signed, IntKind.bits]
  simp
  omega
theorem lt_of_get {α : Type} {xs : List α} {i : Nat} {a : α} (h : xs[i]? = some a) : i < xs.length := (List.getElem?_eq_some_iff.1 h).1
theorem dec_lt {i n : Nat} (h : i < n) : decide ((i : Int) < (n : Int)) = true := by simp; omega
theorem dec_nlt {i : Nat} : decide ((i : Int) < (i : Int)) = false := by simp
theorem inB_lt {i n : Nat} (h : i < n) : inB (i : Int) n = true := by unfold inB; simp; omega
theorem wrapS {i n : Nat} (h : i < n) (hn : n ≤ 9223372036854775807) : IntKind.wrap .i64 ((i : Int) + 1) = (i : Int) + 1 := wrap64 (by omega) (by omega)
theorem bytes_get {s : ByteArray} {i : Nat} : strAt s (i : Int) = s.data.toList[i]? := by
  unfold strAt
  rw [if_pos (by omega)]
  simp only [Int.toNat_natCast]
  show s[i]? = _
  cases h : s.data.toList[i]? with
  | none =>
    have := List.getElem?_eq_none_iff.1 h
    rw [Array.length_toList] at this
    exact getElem?_neg s i (by show ¬ i < s.data.size; omega)
  | some b =>
    have h2 := (List.getElem?_eq_some_iff.1 h)
    obtain ⟨h3, h4⟩ := h2
    rw [Array.length_toList] at h3
    rw [getElem?_pos s i h3]
    congr 1
theorem bytes_len {s : ByteArray} : s.size = s.data.toList.length := by rw [Array.length_toList]; rfl
end Go.Proofs.YtdfgfjnpllncdaaGreatDoor.I

namespace Go.Proofs.YtdfgfjnpllncdaaGreatDoor.I
open Go.RowKit
set_option linter.unusedVariables false

abbrev DVal := Int × Int × ByteArray × Bool × Unit
def found {O : Type} : Option O → Option (Unit ⊕ O)
  | some o => some (.inr o)
  | none => some (.inl ())
theorem foldL_find {α O : Type} {body : Nat → α → Unit → Option (Unit ⊕ O)} {out : Unit → O} (g : α → Option O) : ∀ (xs : List α) (i : Nat), (∀ (j : Nat) a, xs[j]? = some a → body (i + j) a () = found (g a)) →
    foldL body out i xs () = some ((xs.findSome? g).getD (out ()))
  | [], i, _ => rfl
  | a :: l, i, h => by
    have h0 := h 0 a rfl
    simp only [Nat.add_zero] at h0
    simp only [foldL, h0, List.findSome?_cons]
    cases hg : g a with
    | some o => rfl
    | none =>
      simp only [found]
      exact foldL_find g l (i + 1) (fun j b hb => by
        have := h (j + 1) b (by simpa using hb)
        rwa [show i + 1 + j = i + (j + 1) by omega])

def okB (b : UInt8) : Bool := !(decide ((b.toNat : Int) < 32)) && (!(decide (126 < (b.toNat : Int))) && !(decide ((b.toNat : Int) = 34)))
theorem find_all {α : Type} (p : α → Bool) {O : Type} (o : O) : ∀ (xs : List α), xs.findSome? (fun a => if p a then none else some o) = if xs.all p then none else some o
  | [] => rfl
  | a :: l => by
    rw [List.findSome?_cons, List.all_cons]
    cases h : p a with
    | true => simp [find_all p o l]
    | false => simp
theorem r38_eq (s : ByteArray) (hs : s.size ≤ 9223372036854775807) : r98 (s, ()) = some (s.data.toList.all okB, ()) := by
  unfold r98
  rw [loop_list (fun i _ => ((i, ()), ())) s.data.toList (fun i b _ => found (if okB b then none else some (Sum.inl ((false, ()), ())))) (fun _ => Sum.inr (Sum.inl ((), ()))) (fun i b _ h => ?_) (fun _ => ?_) ()]
  · rw [foldL_find (fun b => if okB b then none else some (Sum.inl ((false, ()), ()))) s.data.toList 0 (fun j a _ => rfl), find_all]
    cases s.data.toList.all okB <;> rfl
  · have hl := lt_of_get h
    have hlen : s.size = s.data.toList.length := bytes_len
    simp only [hlen, dec_lt hl, bytes_get, h, cond_true, Option.bind_some]
    rw [wrapS hl (by omega)]
    unfold okB
    cases decide ((b.toNat : Int) < 32) <;> cases decide (126 < (b.toNat : Int)) <;> cases decide ((b.toNat : Int) = 34) <;> rfl
  · simp only [← bytes_len, dec_nlt, cond_false]

def checkV (v : DVal) : Int :=
  if v.1 < 0 then 8 else if 3 < v.1 then 8 else if ¬ v.1 = 1 ∧ ¬ v.2.1 = 0 then 3 else if ¬ v.1 = 2 ∧ ¬ v.2.2.1 = ByteArray.mk (List.toArray []) then 3 else if ¬ v.1 = 3 ∧ v.2.2.2.1 = true then 3
  else if v.2.1 < -1000000000000 then 2 else if 1000000000000 < v.2.1 then 2 else if 40 < (v.2.2.1.size : Int) then 2 else if v.2.2.1.data.toList.all okB = true then 0 else 3
theorem r10_eq (v : DVal) (hs : v.2.2.1.size ≤ 9223372036854775807) : r61 (v, ()) = some (checkV v, ()) := by
  obtain ⟨k, n, s, b, ⟨⟩⟩ := v
  have h38 := r38_eq s hs
  unfold r61 checkV
  simp only [h38, Option.bind_some]
  generalize s.data.toList.all okB = a
  clear h38 hs
  generalize s.size = z
  by_cases h1 : k < 0
  · simp [h1]
  by_cases h2 : 3 < k
  · simp [h1, h2]
  have hk : k = 0 ∨ k = 1 ∨ k = 2 ∨ k = 3 := by omega
  by_cases h3 : n = 0 <;> by_cases h4 : s = ByteArray.mk (List.toArray []) <;> by_cases h5 : n < -1000000000000 <;> by_cases h6 : 1000000000000 < n <;> by_cases h7 : 40 < (z : Int) <;> rcases hk with rfl | rfl | rfl | rfl <;> cases b <;> cases a <;> simp [h3, h4, h5, h6, h7]
def okI (b : Int) : Bool := !(decide (b < 32)) && (!(decide (126 < b)) && !(decide (b = 34)))
theorem okI_all (s : ByteArray) : (bytesOf s).all okI = s.data.toList.all okB := by
  unfold bytesOf
  rw [List.all_map]
  rfl
set_option maxHeartbeats 1000000 in
theorem r29_eq (v : DVal) (hs : v.2.2.1.size ≤ 9223372036854775807) : r24 (v, ()) = some (checkV v, ()) := by
  obtain ⟨k, n, s, b, ⟨⟩⟩ := v
  unfold r24 checkV
  have hb : (bytesOf s).length = s.size := by unfold bytesOf; rw [List.length_map, ← bytes_len]
  rw [loop_list (fun i _ => ((i, ()), ())) (bytesOf s) (fun i b _ => found (if okI b then none else some (Sum.inl ((3, ()), ())))) (fun _ => Sum.inr (Sum.inl ((), ()))) (fun i b _ h => ?_) (fun _ => ?_) ()]
  · rw [foldL_find (fun b => if okI b then none else some (Sum.inl ((3, ()), ()))) (bytesOf s) 0 (fun j a _ => rfl), find_all, okI_all]
    generalize s.data.toList.all okB = a
    clear hb hs
    generalize s.size = z
    by_cases h1 : k < 0
    · simp [h1]
    by_cases h2 : 3 < k
    · simp [h1, h2]
    have hk : k = 0 ∨ k = 1 ∨ k = 2 ∨ k = 3 := by omega
    have hn : ((0 : Int) = n) = (n = 0) := propext eq_comm
    have hc : ((ByteArray.mk #[]) = s) = (s = ByteArray.mk #[]) := propext eq_comm
    by_cases h3 : n = 0 <;> by_cases h4 : s = ByteArray.mk (List.toArray []) <;> by_cases h5 : n < -1000000000000 <;> by_cases h6 : 1000000000000 < n <;> by_cases h7 : 40 < (z : Int) <;> rcases hk with rfl | rfl | rfl | rfl <;> cases b <;> cases a <;> simp [h3, h4, h5, h6, h7, inB, sumE, hc, hn]
  · have hl := lt_of_get h
    simp only [dec_lt hl, inB_lt hl, Int.toNat_natCast, h, cond_true, Option.bind_some]
    rw [wrapS hl (by rw [hb]; exact hs)]
    unfold okI
    cases decide (b < 32) <;> cases decide (126 < b) <;> cases decide (b = 34) <;> rfl
  · simp only [dec_nlt, cond_false]
end Go.Proofs.YtdfgfjnpllncdaaGreatDoor.I

namespace Go.Proofs.YtdfgfjnpllncdaaGreatDoor.I
open Go.RowKit
set_option linter.unusedVariables false
theorem loop_up {S D O : Type} {step : D → Option (D ⊕ O)} (emb : Int → S → D) (n : Nat) (Inv : Nat → S → Prop) (Post : O → Prop)
    (hin : ∀ (i : Nat) (s : S), i < n → Inv i s → (∃ s', step (emb (i : Int) s) = some (.inl (emb ((i : Int) + 1) s')) ∧ Inv (i + 1) s') ∨ ∃ o, step (emb (i : Int) s) = some (.inr o) ∧ Post o)
    (hend : ∀ s, Inv n s → ∃ o, step (emb (n : Int) s) = some (.inr o) ∧ Post o) : ∀ (k : Nat) (s : S), k ≤ n → Inv k s → ∃ o, loop step (emb (k : Int) s) = some o ∧ Post o := by
  have key : ∀ (m k : Nat) (s : S), n - k = m → k ≤ n → Inv k s → ∃ o, loop step (emb (k : Int) s) = some o ∧ Post o := by
    intro m
    induction m with
    | zero =>
      intro k s hm hk hI
      have : k = n := by omega
      subst this
      obtain ⟨o, h1, h2⟩ := hend s hI
      rw [loop_eq, h1]
      exact ⟨o, rfl, h2⟩
    | succ m ih =>
      intro k s hm hk hI
      rcases hin k s (by omega) hI with ⟨s', h1, h2⟩ | ⟨o, h1, h2⟩
      · rw [loop_eq, h1]
        exact ih (k + 1) s' (by omega) (by omega) h2
      · rw [loop_eq, h1]
        exact ⟨o, rfl, h2⟩
  exact fun k s => key _ k s rfl
theorem bind_loop {D O R : Type} {step : D → Option (D ⊕ O)} {d : D} {f : O → Option R} {Post : O → Prop} {y : R} (h : ∃ o, loop step d = some o ∧ Post o) (k : ∀ o, Post o → f o = some y) : Option.bind (loop step d) f = some y := by
  obtain ⟨o, h1, h2⟩ := h
  rw [h1]
  exact k o h2
theorem bind_loopQ {D O R : Type} {step : D → Option (D ⊕ O)} {d : D} {f : O → Option R} {Post : O → Prop} (Q : Option R → Prop) (h : ∃ o, loop step d = some o ∧ Post o) (k : ∀ o, Post o → Q (f o)) : Q (Option.bind (loop step d) f) := by
  obtain ⟨o, h1, h2⟩ := h
  rw [h1]
  exact k o h2
/-- From the first element on; only one way out. -/
theorem loop_all {S D O R : Type} {step : D → Option (D ⊕ O)} {f : O → Option R} {y : R} (emb : Int → S → D) (n : Nat) (Inv : Nat → S → Prop) (out : S → O)
    (hin : ∀ (i : Nat) (s : S), i < n → Inv i s → ∃ s', step (emb (i : Int) s) = some (.inl (emb ((i : Int) + 1) s')) ∧ Inv (i + 1) s')
    (hend : ∀ s, Inv n s → step (emb (n : Int) s) = some (.inr (out s))) (s0 : S) (h0 : Inv 0 s0) (k : ∀ s, Inv n s → f (out s) = some y) : Option.bind (loop step (emb 0 s0)) f = some y := by
  have h := loop_up (step := step) emb n Inv (fun o => ∃ s, Inv n s ∧ o = out s) (fun i s hi hs => .inl (hin i s hi hs)) (fun s hs => ⟨_, hend s hs, s, hs, rfl⟩) 0 s0 (Nat.zero_le _) h0
  refine bind_loop h ?_
  rintro o ⟨s, hs, rfl⟩
  exact k s hs
/-- The state after each round is told. -/
theorem loop_is {S D O R : Type} {step : D → Option (D ⊕ O)} {f : O → Option R} {y : R} (emb : Int → S → D) (n : Nat) (st : Nat → S) (out : S → O)
    (hin : ∀ (i : Nat), i < n → step (emb (i : Int) (st i)) = some (.inl (emb ((i : Int) + 1) (st (i + 1)))))
    (hend : step (emb (n : Int) (st n)) = some (.inr (out (st n)))) (k : f (out (st n)) = some y) (s0 : S) (h0 : s0 = st 0) : Option.bind (loop step (emb 0 s0)) f = some y :=
  loop_all emb n (fun i s => s = st i) out (fun i s hi hs => ⟨_, by subst hs; exact hin i hi, rfl⟩) (fun s hs => by subst hs; exact hend) s0 h0 (fun s hs => by subst hs; exact k)
theorem take_succ {α : Type} {l : List α} {i : Nat} {a : α} (h : l[i]? = some a) : l.take (i + 1) = l.take i ++ [a] := by
  rw [List.take_add_one, h]; rfl
theorem get_lt {α : Type} {l : List α} {i : Nat} (h : i < l.length) : ∃ a, l[i]? = some a := ⟨_, List.getElem?_eq_getElem h⟩
theorem bind_of {α β : Type} {o : Option α} {x : α} {f : α → Option β} {y : β} (h : o = some x) (k : f x = some y) : Option.bind o f = some y := by
  rw [h]; exact k
end Go.Proofs.YtdfgfjnpllncdaaGreatDoor.I

namespace Go.Proofs.YtdfgfjnpllncdaaGreatDoor.I
open Go.RowKit
set_option linter.unusedVariables false
set_option linter.constructorNameAsVariable false
theorem name_eq (s : ByteArray) (h : s.size ≤ 9223372036854775807) : r62 (s, ()) = some (nameOk s, ()) := by
  unfold r62
  have : decide (s.size ≤ 9223372036854775807) = true := decide_eq_true h
  simp only [this, cond_true]
end Go.Proofs.YtdfgfjnpllncdaaGreatDoor.I

namespace Go.Proofs.YtdfgfjnpllncdaaGreatDoor.I
open Go.RowKit
set_option linter.unusedVariables false
set_option linter.constructorNameAsVariable false

abbrev O3 := ((Int × Unit) × Unit) ⊕ (Unit × Unit) ⊕ Empty
def w3 (e : Int) : O3 := Sum.inl ((e, ()), ())
def w0 : O3 := Sum.inr (Sum.inl ((), ()))
end Go.Proofs.YtdfgfjnpllncdaaGreatDoor.I

namespace Go.Proofs.YtdfgfjnpllncdaaGreatDoor.I
open Go.RowKit
set_option linter.unusedVariables false
set_option linter.constructorNameAsVariable false
def Tot {α : Type} (o : Option α) : Prop := ∃ y, o = some y
theorem tot_some {α : Type} (y : α) : Tot (some y) := ⟨y, rfl⟩
theorem tot_bind {α β : Type} {o : Option α} {f : α → Option β} (h : Tot o) (k : ∀ y, Tot (f y)) : Tot (o.bind f) := by
  obtain ⟨y, rfl⟩ := h
  exact k y
/-- A loop that counts. -/
theorem tot_count {S D O : Type} {step : D → Option (D ⊕ O)} (emb : Int → S → D) (Inv : Nat → S → Prop) (n : Nat)
    (hin : ∀ (i : Nat) s, i < n → Inv i s → ∃ r, step (emb i s) = some r ∧ ((∃ s', r = .inl (emb ((i : Int) + 1) s') ∧ Inv (i + 1) s') ∨ ∃ o, r = .inr o))
    (hend : ∀ s, ∃ o, step (emb (n : Int) s) = some (.inr o)) (s : S) (h0 : Inv 0 s) : Tot (loop step (emb 0 s)) := by
  have key : ∀ (m i : Nat) (s : S), n - i = m → i ≤ n → Inv i s → Tot (loop step (emb (i : Int) s)) := by
    intro m
    induction m with
    | zero =>
      intro i s hm hi hI
      have : i = n := by omega
      subst this
      obtain ⟨o, ho⟩ := hend s
      exact ⟨o, by rw [loop_eq, ho]⟩
    | succ m ih =>
      intro i s hm hi hI
      obtain ⟨r, hr, h⟩ := hin i s (by omega) hI
      rw [loop_eq, hr]
      rcases h with ⟨s', rfl, hI'⟩ | ⟨o, rfl⟩
      · exact ih (i + 1) s' (by omega) (by omega) hI'
      · exact ⟨o, rfl⟩
  exact key n 0 s (by omega) (Nat.zero_le _) h0
theorem tot_sumE {α β γ : Type} {f : α → Option γ} {g : β → Option γ} (h : ∀ a, Tot (f a)) (k : ∀ b, Tot (g b)) (o : α ⊕ β) : Tot (sumE f g o) := by
  cases o
  · exact h _
  · exact k _
theorem tot_emptyE {γ : Type} (o : Empty) : Tot (emptyE (γ := Option γ) o) := nomatch o
/-- What a round may come to. -/
def Good {S D O : Type} (emb : Int → S → D) (Inv : Nat → S → Prop) (i : Nat) (x : Option (D ⊕ O)) : Prop := (∃ s', x = some (.inl (emb ((i : Int) + 1) s')) ∧ Inv (i + 1) s') ∨ ∃ o, x = some (.inr o)
section
variable {S D O : Type} {emb : Int → S → D} {Inv : Nat → S → Prop} {i : Nat}
theorem good_cond {b : Bool} {x y : Option (D ⊕ O)} (h : Good emb Inv i x) (k : Good emb Inv i y) : Good emb Inv i (cond b x y) := by
  cases b
  · exact k
  · exact h
theorem good_out (o : O) : Good emb Inv i (some (.inr o) : Option (D ⊕ O)) := .inr ⟨o, rfl⟩
theorem good_next (s' : S) (h : Inv (i + 1) s') : Good emb Inv i (some (.inl (emb ((i : Int) + 1) s')) : Option (D ⊕ O)) := .inl ⟨s', rfl, h⟩
theorem tot_loop {step : D → Option (D ⊕ O)} (emb : Int → S → D) (Inv : Nat → S → Prop) (n : Nat) (hin : ∀ (i : Nat) s, i < n → Inv i s → Good emb Inv i (step (emb i s))) (hend : ∀ s, ∃ o, step (emb (n : Int) s) = some (.inr o)) (s : S) (h0 : Inv 0 s) : Tot (loop step (emb 0 s)) :=
  tot_count emb Inv n (fun i s hi hI => by
    rcases hin i s hi hI with ⟨s', h1, h2⟩ | ⟨o, h1⟩
    · exact ⟨_, h1, .inl ⟨s', rfl, h2⟩⟩
    · exact ⟨_, h1, .inr ⟨o, rfl⟩⟩) hend s h0
end
abbrev IU : Type := (Int × Unit) × Unit
@[reducible] def embI (i : Int) (_ : Unit) : IU := ((i, ()), ())
theorem t145 (l : List Int) (n : Int) (hl : l.length ≤ 9223372036854775807) : Tot (r64 (l, (n, ()))) := by
  unfold r64
  refine tot_bind (tot_loop embI (fun _ _ => True) l.length (fun i _ hi _ => ?_) (fun _ => ?_) () trivial) (tot_sumE (fun _ => tot_some _) (tot_sumE (fun _ => tot_some _) tot_emptyE))
  · obtain ⟨a, ha⟩ : ∃ a, l[i]? = some a := ⟨_, List.getElem?_eq_getElem hi⟩
    dsimp only [embI]
    simp only [dec_lt hi, inB_lt hi, Int.toNat_natCast, ha, cond_true, Option.bind_some]
    rw [wrapS hi hl]
    exact good_cond (good_out _) (good_next () trivial)
  · dsimp only [embI]
    simp only [dec_nlt, cond_false]
    exact ⟨_, rfl⟩
end Go.Proofs.YtdfgfjnpllncdaaGreatDoor.I

namespace Go.Proofs.YtdfgfjnpllncdaaGreatDoor.I
open Go.RowKit
set_option linter.unusedVariables false
set_option linter.constructorNameAsVariable false
abbrev kVal : Kd := .pair (.int .i64) (.pair (.int .i64) (.pair .str (.pair .bool .unit)))
end Go.Proofs.YtdfgfjnpllncdaaGreatDoor.I

namespace Go.Proofs.YtdfgfjnpllncdaaGreatDoor.I
open Go.RowKit
open _root_.Decidable renaming decide → qd
open _root_.Option renaming bind → qb, some → qs, none → qn
open _root_.Unit renaming unit → qu
open IntKind renaming wrap → qw, i64 → q6
open _root_.HAdd renaming hAdd → qa
open _root_.Nat renaming cast → qc
open _root_.ByteArray renaming extract → qx, size → qz, mk → qm
open _root_.List renaming length → ql, cons → qk, nil → qe, toArray → qt
open _root_.HAppend renaming hAppend → qp
open _root_.Bool renaming not → qo, and → qj, true → q1, false → q0
open _root_.Int renaming toNat → qi
open _root_.UInt8 renaming toNat → qv
open _root_.Sum renaming inl → qf, inr → qr
open _root_.GetElem? renaming getElem? → qg
open _root_.LE renaming le → qq
open _root_.LT renaming lt → qy
set_option linter.unusedVariables false
set_option linter.unusedSimpArgs false
set_option linter.constructorNameAsVariable false
abbrev DNode := Int × DVal × ByteArray × Unit
abbrev DExp := Tree DNode
abbrev kNode : Kd := .pair (.int .i64) (.pair kVal (.pair .str .unit))
abbrev kExp : Kd := .tree kNode
theorem t_eta (a : DExp) : Tree.node ((Tree.val a).1, (((Tree.val a).2.1.1, ((Tree.val a).2.1.2.1, ((Tree.val a).2.1.2.2.1, ((Tree.val a).2.1.2.2.2.1, qu)))), ((Tree.val a).2.2.1, qu))) (Tree.kids a) = a := by
  cases a
  rfl
theorem exp_small {t : DExp} (h : small kExp t) : small (.int .i64) (Tree.val t).1 ∧ small kVal (Tree.val t).2.1 ∧ (Tree.val t).2.2.1.size ≤ 9223372036854775807 ∧ (Tree.kids t).length ≤ 9223372036854775807 ∧ ∀ k ∈ Tree.kids t, small kExp k := by
  cases t with
  | node v ks =>
    obtain ⟨h1, h2, h3⟩ := h
    exact ⟨h1.1, h1.2.1, h1.2.2.1, h2, smallTs_iff.1 h3⟩
def emptyS : ByteArray := qm (qt [])
/-- How many operands. -/
def kidsN (op : Int) : Int := if 0 ≤ op ∧ op ≤ 2 then 0 else if op = 5 ∨ op = 17 ∨ op = 19 then 1 else if op = 18 then 3 else if 3 ≤ op ∧ op ≤ 21 then 2 else -1
theorem kids_eq (op : Int) : r60 (op, ()) = some (kidsN op, ()) := by
  by_cases h : 0 ≤ op ∧ op ≤ 21
  · have key : ∀ n : Fin 22, r60 (((n : Nat) : Int), ()) = some (kidsN ((n : Nat) : Int), ()) := by decide +kernel
    have := key ⟨op.toNat, by omega⟩
    simp only at this
    rwa [show ((op.toNat : Nat) : Int) = op by omega] at this
  · have e5 : decide (op = 5) = false := decide_eq_false (by omega)
    have e17 : decide (op = 17) = false := decide_eq_false (by omega)
    have e19 : decide (op = 19) = false := decide_eq_false (by omega)
    have e18 : decide (op = 18) = false := decide_eq_false (by omega)
    unfold r60 kidsN
    rw [if_neg (by omega), if_neg (by omega), if_neg (by omega), if_neg (by omega)]
    simp only [e5, e17, e19, e18, cond_false]
    by_cases h0 : 0 ≤ op
    · simp only [decide_eq_true h0, decide_eq_false (show ¬ op ≤ 2 by omega), decide_eq_true (show 3 ≤ op by omega), decide_eq_false (show ¬ op ≤ 21 by omega), cond_true, cond_false]
    · simp only [decide_eq_false h0, decide_eq_false (show ¬ 3 ≤ op by omega), cond_false]
noncomputable def wordsL : List ByteArray := ((r13 ()).getD ([], ())).1
noncomputable def fieldsL : List ByteArray := ((r12 ()).getD ([], ())).1
theorem words_eq : r13 () = some (wordsL, ()) := rfl
theorem fields_eq : r12 () = some (fieldsL, ()) := rfl
theorem index_str (l : List ByteArray) (s : ByteArray) (hl : l.length ≤ 1000000) : ∃ i : Int, r49 (l, (s, ())) = some (i, ()) ∧ (0 ≤ i ↔ s ∈ l) := by
  unfold r49
  refine bind_loopQ (fun r => ∃ i : Int, r = some (i, ()) ∧ (0 ≤ i ↔ s ∈ l)) (loop_up embI l.length (fun i _ => s ∉ l.take i) (fun o => (∃ k : Nat, o = qf (((k : Int), ()), ()) ∧ s ∈ l) ∨ (o = qr (qf ((), ())) ∧ s ∉ l)) (fun i u hi hI => ?_) (fun u hI => ?_) 0 () (Nat.zero_le _) (by simp)) (fun o ho => ?_)
  · obtain ⟨a, ha⟩ := get_lt hi
    simp only [embI, dec_lt hi, inB_lt hi, Int.toNat_natCast, ha, cond_true, Option.bind_some]
    by_cases he : s = a
    · refine .inr ⟨_, by rw [decide_eq_true he]; rfl, .inl ⟨i, rfl, ?_⟩⟩
      rw [he]
      exact List.mem_of_getElem? ha
    · refine .inl ⟨(), by rw [decide_eq_false he, cond_false, wrapS hi (by omega)], ?_⟩
      rw [take_succ ha]
      simp only [List.mem_append, List.mem_singleton]
      exact fun h => h.elim hI he
  · rw [List.take_length] at hI
    refine ⟨_, by simp only [embI, dec_nlt, cond_false], .inr ⟨rfl, hI⟩⟩
  · rcases ho with ⟨k, rfl, h⟩ | ⟨rfl, h⟩
    · exact ⟨_, rfl, fun _ => h, fun _ => by simp⟩
    · refine ⟨_, rfl, fun hc => ?_, fun hc => absurd hc h⟩
      simp at hc
def inL (s : ByteArray) (l : List ByteArray) : Bool := l.any fun a => decide (s = a)
theorem inL_iff {s : ByteArray} {l : List ByteArray} : inL s l = true ↔ s ∈ l := by simp [inL]
theorem contains_str (l : List ByteArray) (s : ByteArray) (hl : l.length ≤ 1000000) : r26 (l, (s, ())) = some (inL s l, ()) := by
  unfold r26
  obtain ⟨i, h1, h2⟩ := index_str l s hl
  rw [h1]
  simp only [Option.bind_some]
  have : decide (0 ≤ i) = inL s l := by
    rw [Bool.eq_iff_iff, inL_iff, decide_eq_true_eq]
    exact h2
  rw [this]
/-- What a node's own fault is. -/
noncomputable def oneE (nd : DNode) (k : Nat) : Int :=
  if kidsN nd.1 < 0 then 8
  else if ¬ ((k : Int) = kidsN nd.1) ∨ (nd.1 ≠ 0 ∧ nd.2.1 ≠ (0, (0, (emptyS, (false, ()))))) ∨ (nd.1 ≠ 1 ∧ nd.1 ≠ 2 ∧ nd.2.2.1 ≠ emptyS) then 3
  else if nd.1 = 0 then checkV nd.2.1
  else if (nd.1 = 1 ∧ (nameOk nd.2.2.1 = false ∨ inL nd.2.2.1 wordsL = true)) ∨ (nd.1 = 2 ∧ inL nd.2.2.1 fieldsL = false) then 16 else 0
theorem words_len : wordsL.length = 10 := rfl
theorem fields_len : fieldsL.length = 10 := rfl
theorem val_nil (v : DVal) : (qj (decide (v.1 = (0 : Int))) (qj (decide (v.2.1 = (0 : Int))) (qj (decide (v.2.2.1 = (qm (qt [])))) (decide (v.2.2.2.1 = q0))))) = decide (v = (0, (0, (emptyS, (false, ()))))) := by
  obtain ⟨a, b, c, d, ⟨⟩⟩ := v
  rw [Bool.eq_iff_iff]
  simp [emptyS]
set_option maxHeartbeats 4000000 in
theorem one_eq (t : DExp) (h : small kExp t) : r36 (t, ()) = some (oneE (Tree.val t) (Tree.kids t).length, ()) := by
  obtain ⟨h1, h2, h3, h4, h5⟩ := exp_small h
  generalize hk : (Tree.kids t).length = k
  have hv := r10_eq (Tree.val t).2.1 h2.2.2.1
  have hn := name_eq (Tree.val t).2.2.1 h3
  have hw := contains_str wordsL (Tree.val t).2.2.1 (by rw [words_len]; omega)
  have hf := contains_str fieldsL (Tree.val t).2.2.1 (by rw [fields_len]; omega)
  have hv' : r61 (((Tree.val t).2.1.1, ((Tree.val t).2.1.2.1, ((Tree.val t).2.1.2.2.1, ((Tree.val t).2.1.2.2.2.1, qu)))), qu) = some (checkV (Tree.val t).2.1, ()) := hv
  have hkk : r60 ((Tree.val t).1, qu) = some (kidsN (Tree.val t).1, ()) := kids_eq _
  unfold r36 oneE
  simp only [hkk, hk, hv', hn, hw, hf, words_eq, fields_eq, Option.bind_some, val_nil]
  generalize hop : (Tree.val t).1 = op
  generalize (Tree.val t).2.1 = v
  generalize (Tree.val t).2.2.1 = s
  by_cases k0 : kidsN op < 0
  · rw [if_pos k0, decide_eq_true k0]
    rfl
  rw [if_neg k0, decide_eq_false k0, cond_false]
  by_cases k1 : (k : Int) = kidsN op
  rotate_left
  · rw [if_pos (.inl k1), decide_eq_false k1]
    rfl
  rw [decide_eq_true k1]
  simp only [k1, Bool.not_true, cond_false, not_true_eq_false, false_or]
  by_cases b0 : op = 0
  · subst b0
    by_cases be : s = emptyS
    · subst be
      simp [emptyS]
    · have : ¬ s = qm (qt []) := be
      simp [be, this]
  · by_cases bv : v = (0, (0, (emptyS, (false, ()))))
    · by_cases b1 : op = 1
      · subst b1
        cases hnm : nameOk s <;> cases hmw : inL s wordsL <;> simp [bv]
      · by_cases b2 : op = 2
        · subst b2
          cases hmf : inL s fieldsL <;> simp [bv]
        · by_cases be : s = emptyS
          · have : s = qm (qt []) := be
            simp [b0, b1, b2, bv, be, emptyS]
          · have : ¬ s = qm (qt []) := be
            simp [b0, b1, b2, bv, be, this]
    · simp [b0, bv]
end Go.Proofs.YtdfgfjnpllncdaaGreatDoor.I

namespace Go.Proofs.YtdfgfjnpllncdaaGreatDoor.I
open Go.RowKit
set_option linter.unusedVariables false
set_option linter.constructorNameAsVariable false
def toI (l : List UInt8) : List Int := l.map fun b => (b.toNat : Int)
theorem mkStr_toI (l : List UInt8) : mkStr (toI l) = ⟨l.toArray⟩ := by
  unfold mkStr toI
  congr 2
  rw [List.map_map]
  conv => rhs; rw [← List.map_id l]
  refine List.map_congr_left (fun b _ => ?_)
  simp
theorem size_mk (l : List UInt8) : (ByteArray.mk l.toArray).size = l.length := by rw [bytes_len]
theorem fits16 {k : Nat} (h : k ≤ 1000000000) : fits k 16 = true := by unfold fits; simp; omega
def ofS (s : ByteArray) : List UInt8 := s.data.toList
theorem ofS_len (s : ByteArray) : (ofS s).length = s.size := bytes_len.symm
theorem ba_app (a b : List UInt8) : (⟨a.toArray⟩ : ByteArray) ++ (⟨b.toArray⟩ : ByteArray) = ⟨(a ++ b).toArray⟩ := by
  apply ByteArray.ext
  rw [ByteArray.data_append]
  exact List.append_toArray a b
theorem wf_in {x : Int} (h : (Lit.int .i64 x).wf = true) : -9223372036854775808 ≤ x ∧ x ≤ 9223372036854775807 := bounds_i64 h
def In64 (x : Int) : Prop := -9223372036854775808 ≤ x ∧ x ≤ 9223372036854775807
end Go.Proofs.YtdfgfjnpllncdaaGreatDoor.I

namespace Go.Proofs.YtdfgfjnpllncdaaGreatDoor.I
open Go.RowKit
open _root_.Decidable renaming decide → qd
open _root_.Option renaming bind → qb, some → qs, none → qn
open _root_.Unit renaming unit → qu
open IntKind renaming wrap → qw, i64 → q6
open _root_.HAdd renaming hAdd → qa
open _root_.Nat renaming cast → qc
open _root_.ByteArray renaming extract → qx, size → qz, mk → qm
open _root_.List renaming length → ql, cons → qk, nil → qe, toArray → qt
open _root_.HAppend renaming hAppend → qp
open _root_.Bool renaming not → qo, and → qj, true → q1, false → q0
open _root_.Int renaming toNat → qi
open _root_.UInt8 renaming toNat → qv
open _root_.Sum renaming inl → qf, inr → qr
open _root_.GetElem? renaming getElem? → qg
open _root_.LE renaming le → qq
open _root_.LT renaming lt → qy
set_option linter.unusedVariables false
set_option linter.unusedSimpArgs false
set_option linter.constructorNameAsVariable false
mutual
def sz : DExp → Nat
  | .node v ks => szL ks + 1
def szL : List DExp → Nat
  | [] => 0
  | t :: ts => sz t + szL ts
end
theorem sz_node (t : DExp) : sz t = szL (Tree.kids t) + 1 := by
  cases t
  simp only [sz, Tree.kids]
theorem szL_mem : ∀ {ks : List DExp} {t : DExp}, t ∈ ks → sz t ≤ szL ks
  | k :: ks, t, h => by
    simp only [szL]
    rcases List.mem_cons.1 h with rfl | h
    · omega
    · have := szL_mem h
      omega
mutual
/-- The nodes with their depths, in the order of a walk; behind a depth of 20 none. -/
def pre (d : Nat) : DExp → List (DExp × Nat)
  | .node v ks => (.node v ks, d) :: (if 20 < d then [] else preL (d + 1) ks)
def preL (d : Nat) : List DExp → List (DExp × Nat)
  | [] => []
  | t :: ts => pre d t ++ preL d ts
end
theorem pre_node (d : Nat) (t : DExp) : pre d t = (t, d) :: (if 20 < d then [] else preL (d + 1) (Tree.kids t)) := by
  cases t
  simp only [pre, Tree.kids]
theorem preL_app (d : Nat) : ∀ (a b : List DExp), preL d (a ++ b) = preL d a ++ preL d b
  | [], b => rfl
  | t :: a, b => by simp only [List.cons_append, preL, preL_app d a b, List.append_assoc]
theorem preL_one (d : Nat) (t : DExp) : preL d [t] = pre d t := by simp only [preL, List.append_nil]
noncomputable def nodeE (i : Nat) (p : DExp × Nat) : Int := if 100 ≤ i ∨ 20 < p.2 then 2 else oneE (Tree.val p.1) (Tree.kids p.1).length
noncomputable def firstE : Nat → List (DExp × Nat) → Int
  | _, [] => 0
  | i, p :: l => if nodeE i p ≠ 0 then nodeE i p else firstE (i + 1) l
theorem firstE_app : ∀ (a b : List (DExp × Nat)) (i : Nat), firstE i (a ++ b) = if firstE i a ≠ 0 then firstE i a else firstE (i + a.length) b
  | [], b, i => by simp [firstE]
  | p :: a, b, i => by
    simp only [List.cons_append, firstE, firstE_app a b (i + 1), List.length_cons]
    by_cases h : nodeE i p = 0
    · simp only [h, ne_eq, not_true_eq_false, if_false]
      rw [show i + (a.length + 1) = i + 1 + a.length by omega]
    · simp only [h, ne_eq, not_false_eq_true, if_true]
@[reducible] def embCW (i : Int) (s : Int) : (Int × Int × Unit) × Unit := ((i, (s, ())), ())
set_option maxHeartbeats 2000000 in
theorem walk_eq : ∀ (n : Nat) (t : DExp) (d i : Nat), sz t ≤ n → i ≤ 100 → small kExp t → ∃ c' : Int, r35 n (t, ((d : Int), ())) ((i : Int), ()) = some ((firstE i (pre d t), ()), (c', ())) ∧ (firstE i (pre d t) = 0 → c' = ((i + (pre d t).length : Nat) : Int) ∧ i + (pre d t).length ≤ 100)
  | 0, t, d, i, hn, _, _ => by rw [sz_node] at hn; omega
  | n + 1, t, d, i, hn, hi, hs => by
    have w1 : qw .i64 ((i : Int) + 1) = ((i + 1 : Nat) : Int) := by rw [wrap64 (by omega) (by omega)]; omega
    rw [r35_succ]
    unfold r35B
    simp only [w1]
    rw [pre_node]
    simp only [firstE]
    by_cases h100 : i = 100
    · have e1 : decide ((100 : Int) < ((i + 1 : Nat) : Int)) = true := decide_eq_true (by omega)
      have e2 : nodeE i (t, d) = 2 := by unfold nodeE; rw [if_pos (.inl (by omega))]
      rw [e1, cond_true, e2]
      exact ⟨_, rfl, fun h => by simp at h⟩
    have e1 : decide ((100 : Int) < ((i + 1 : Nat) : Int)) = false := decide_eq_false (by omega)
    rw [e1, cond_false]
    by_cases hd : 20 < d
    · have e2 : nodeE i (t, d) = 2 := by unfold nodeE; rw [if_pos (.inr hd)]
      have e3 : decide ((20 : Int) < (d : Int)) = true := decide_eq_true (by omega)
      rw [e3, cond_true, e2]
      exact ⟨_, rfl, fun h => by simp at h⟩
    have e3 : decide ((20 : Int) < (d : Int)) = false := decide_eq_false (by omega)
    have e2 : nodeE i (t, d) = oneE (Tree.val t) (Tree.kids t).length := by unfold nodeE; rw [if_neg (by simp; omega)]
    rw [e3, cond_false, t_eta, one_eq t hs, e2, if_neg hd]
    simp only [Option.bind_some]
    by_cases he : oneE (Tree.val t) (Tree.kids t).length = 0
    rotate_left
    · rw [decide_eq_false he]
      simp only [Bool.not_false, cond_true]
      exact ⟨_, by rw [if_pos he], fun h => by rw [if_pos he] at h; exact absurd h he⟩
    rw [decide_eq_true he]
    simp only [Bool.not_true, cond_false, he, ne_eq, not_true_eq_false, if_false]
    have hsk := (exp_small hs).2.2.2.2
    have hlk := (exp_small hs).2.2.2.1
    have hszk : ∀ k ∈ Tree.kids t, sz k ≤ n := fun k hk => by
      have := szL_mem hk
      rw [sz_node] at hn
      omega
    have hd1 : qw .i64 ((d : Int) + 1) = ((d + 1 : Nat) : Int) := by rw [wrap64 (by omega) (by omega)]; omega
    generalize Tree.kids t = ks at hsk hlk hszk
    refine bind_loopQ (fun r => ∃ c' : Int, r = some ((firstE (i + 1) (preL (d + 1) ks), ()), (c', ())) ∧ (firstE (i + 1) (preL (d + 1) ks) = 0 → c' = ((i + ((t, d) :: preL (d + 1) ks).length : Nat) : Int) ∧ i + ((t, d) :: preL (d + 1) ks).length ≤ 100))
      (loop_up embCW ks.length (fun j s => s = ((i + 1 + (preL (d + 1) (ks.take j)).length : Nat) : Int) ∧ firstE (i + 1) (preL (d + 1) (ks.take j)) = 0 ∧ i + 1 + (preL (d + 1) (ks.take j)).length ≤ 100)
        (fun o => (∃ e c' : Int, o = qf ((e, (c', ())), ()) ∧ e ≠ 0 ∧ firstE (i + 1) (preL (d + 1) ks) = e) ∨ (∃ c' : Int, o = qr (qf ((c', ()), ())) ∧ firstE (i + 1) (preL (d + 1) ks) = 0 ∧ c' = ((i + 1 + (preL (d + 1) ks).length : Nat) : Int) ∧ i + 1 + (preL (d + 1) ks).length ≤ 100))
        (fun j s hj hI => ?_) (fun s hI => ?_) 0 _ (Nat.zero_le _) ⟨by simp [preL], by simp [preL, firstE], by simp [preL]; omega⟩) (fun o ho => ?_)
    · obtain ⟨rfl, h1, h2⟩ := hI
      obtain ⟨k, hk⟩ := get_lt hj
      have hkm := List.mem_of_getElem? hk
      obtain ⟨c', g1, g2⟩ := walk_eq n k (d + 1) (i + 1 + (preL (d + 1) (ks.take j)).length) (hszk k hkm) h2 (hsk k hkm)
      simp only [embCW, dec_lt hj, inB_lt hj, Int.toNat_natCast, hk, cond_true, Option.bind_some, t_eta, hd1, g1]
      have hsplit : preL (d + 1) (ks.take (j + 1)) = preL (d + 1) (ks.take j) ++ pre (d + 1) k := by rw [take_succ hk, preL_app, preL_one]
      have hall : ks = ks.take (j + 1) ++ ks.drop (j + 1) := (List.take_append_drop _ _).symm
      by_cases hz : firstE (i + 1 + (preL (d + 1) (ks.take j)).length) (pre (d + 1) k) = 0
      · obtain ⟨rfl, g3⟩ := g2 hz
        refine .inl ⟨_, by rw [decide_eq_true hz]; simp only [Bool.not_true, cond_false]; rw [wrapS hj (by omega)], ?_, ?_, ?_⟩
        · rw [hsplit, List.length_append]; congr 1; omega
        · rw [hsplit, firstE_app, h1]
          simpa using hz
        · rw [hsplit, List.length_append]; omega
      · refine .inr ⟨_, by rw [decide_eq_false hz]; simp only [Bool.not_false, cond_true], .inl ⟨_, c', rfl, hz, ?_⟩⟩
        have e5 : firstE (i + 1) (preL (d + 1) (ks.take (j + 1))) = firstE (i + 1 + (preL (d + 1) (ks.take j)).length) (pre (d + 1) k) := by
          rw [hsplit, firstE_app, h1]
          simp
        have hf := congrArg (fun l => firstE (i + 1) (preL (d + 1) l)) hall
        rw [show firstE (i + 1) (preL (d + 1) ks) = firstE (i + 1) (preL (d + 1) (ks.take (j + 1) ++ ks.drop (j + 1))) from hf, preL_app, firstE_app, e5, if_pos hz]
    · obtain ⟨rfl, h1, h2⟩ := hI
      rw [List.take_length] at h1 h2 ⊢
      exact ⟨_, by simp only [embCW, dec_nlt, cond_false], .inr ⟨_, rfl, h1, rfl, h2⟩⟩
    · rcases ho with ⟨e, c', rfl, h1, h2⟩ | ⟨c', rfl, h1, rfl, h2⟩
      · exact ⟨c', by rw [h2]; rfl, fun h => absurd (h2 ▸ h) h1⟩
      · refine ⟨((i + 1 + (preL (d + 1) ks).length : Nat) : Int), by rw [h1]; rfl, fun _ => ⟨?_, ?_⟩⟩
        · rw [List.length_cons]; congr 1; omega
        · rw [List.length_cons]; omega
/-- What an expression's fault is. -/
noncomputable def expE (t : DExp) : Int := firstE 0 (pre 1 t)
theorem check_eq (n : Nat) (t : DExp) (hn : sz t ≤ n) (hs : small kExp t) : r14 n (t, ()) = some (expE t, ()) := by
  obtain ⟨c', h1, _⟩ := walk_eq n t 1 0 hn (by omega) hs
  have h1 : r35 n (t, ((1 : Int), qu)) ((0 : Int), qu) = some ((expE t, ()), (c', ())) := h1
  unfold r14
  rw [t_eta, h1]
  rfl
end Go.Proofs.YtdfgfjnpllncdaaGreatDoor.I

namespace Go.Proofs.YtdfgfjnpllncdaaGreatDoor.I
open Go.RowKit
open _root_.Decidable renaming decide → qd
open _root_.Option renaming bind → qb, some → qs, none → qn
open _root_.Unit renaming unit → qu
open IntKind renaming wrap → qw, i64 → q6
open _root_.HAdd renaming hAdd → qa
open _root_.Nat renaming cast → qc
open _root_.ByteArray renaming extract → qx, size → qz, mk → qm
open _root_.List renaming length → ql, cons → qk, nil → qe, toArray → qt
open _root_.HAppend renaming hAppend → qp
open _root_.Bool renaming not → qo, and → qj, true → q1, false → q0
open _root_.Int renaming toNat → qi
open _root_.UInt8 renaming toNat → qv
open _root_.Sum renaming inl → qf, inr → qr
open _root_.GetElem? renaming getElem? → qg
open _root_.LE renaming le → qq
open _root_.LT renaming lt → qy
set_option linter.unusedVariables false
set_option linter.unusedSimpArgs false
set_option linter.constructorNameAsVariable false
theorem take_app_take {α : Type} (X Y : List α) (m : Nat) : (X.take m ++ Y).take m = (X ++ Y).take m := by
  rcases Nat.le_total m X.length with h | h
  · rw [List.take_append_of_le_length (by rw [List.length_take]; omega), List.take_append_of_le_length h, List.take_take, Nat.min_self]
  · rw [List.take_of_length_le h]
def rows (B : List (DExp × Nat)) : List DExp × List Int × Unit := (B.map (·.1), (B.map (fun p => ((p.2 : Nat) : Int)), ()))
@[reducible] def embFl (i : Int) (s : List DExp × List Int × Unit) : (List DExp × List Int × Int × Unit) × Unit := ((s.1, (s.2.1, (i, ()))), ())
theorem rows_app (A : List (DExp × Nat)) (t : DExp) (d : Nat) : (A.map (·.1) ++ [t], (A.map (fun p => ((p.2 : Nat) : Int)) ++ [(d : Int)], ())) = rows (A ++ [(t, d)]) := by
  unfold rows
  simp
set_option maxHeartbeats 2000000 in
theorem flat_eq : ∀ (n : Nat) (t : DExp) (d : Nat) (A : List (DExp × Nat)), sz t ≤ n → A.length ≤ 101 → d ≤ 21 → small kExp t → r22 n (t, ((d : Int), ((101 : Int), ()))) (rows A) = some (rows ((A ++ pre d t).take 101))
  | 0, t, d, A, hn, _, _, _ => by rw [sz_node] at hn; omega
  | n + 1, t, d, A, hn, hA, hd, hs => by
    rw [r22_succ]
    unfold r22B
    simp only [t_eta]
    have hl1 : (rows A).1.length = A.length := by simp [rows]
    have hl2 : (rows A).2.1.length = A.length := by simp [rows]
    rw [hl1, hl2]
    by_cases h101 : A.length = 101
    · have e1 : decide ((101 : Int) ≤ ((A.length : Nat) : Int)) = true := decide_eq_true (by omega)
      rw [e1, cond_true, List.take_append_of_le_length (by omega), List.take_of_length_le (by omega)]
    have e1 : decide ((101 : Int) ≤ ((A.length : Nat) : Int)) = false := decide_eq_false (by omega)
    have e2 : fits (A.length + [t].length) 88 = true := by unfold fits; simp; omega
    have e3 : fits (A.length + [(d : Int)].length) 8 = true := by unfold fits; simp; omega
    rw [e1, cond_false, e2, cond_true, e3, cond_true]
    by_cases hd2 : 20 < d
    · have e4 : decide ((20 : Int) < (d : Int)) = true := decide_eq_true (by omega)
      rw [e4, cond_true, pre_node, if_pos hd2, List.take_of_length_le (by simp; omega)]
      exact congrArg some (rows_app A t d)
    have e4 : decide ((20 : Int) < (d : Int)) = false := decide_eq_false (by omega)
    rw [e4, cond_false, pre_node, if_neg hd2]
    have hsk := (exp_small hs).2.2.2.2
    have hlk := (exp_small hs).2.2.2.1
    have hszk : ∀ k ∈ Tree.kids t, sz k ≤ n := fun k hk => by
      have := szL_mem hk
      rw [sz_node] at hn
      omega
    have hd1 : qw .i64 ((d : Int) + 1) = ((d + 1 : Nat) : Int) := by rw [wrap64 (by omega) (by omega)]; omega
    generalize Tree.kids t = ks at hsk hlk hszk
    rw [show (((rows A).1 ++ [t]), ((rows A).2.1 ++ [(d : Int)], ((0 : Int), qu))) = (((rows (A ++ [(t, d)])).1), ((rows (A ++ [(t, d)])).2.1, ((0 : Int), qu))) by unfold rows; simp]
    refine loop_is (y := rows ((A ++ (t, d) :: preL (d + 1) ks).take 101)) embFl ks.length (fun j => rows ((A ++ (t, d) :: preL (d + 1) (ks.take j)).take 101)) (fun s => qf ((s.1, (s.2.1, ())), ())) (fun j hj => ?_) ?_ ?_ _ ?_
    · obtain ⟨k, hk⟩ := get_lt hj
      have hkm := List.mem_of_getElem? hk
      have ih := flat_eq n k (d + 1) ((A ++ (t, d) :: preL (d + 1) (ks.take j)).take 101) (hszk k hkm) (by rw [List.length_take]; omega) (by omega) (hsk k hkm)
      have hsplit : preL (d + 1) (ks.take (j + 1)) = preL (d + 1) (ks.take j) ++ pre (d + 1) k := by rw [take_succ hk, preL_app, preL_one]
      have ih : r22 n (k, (((d + 1 : Nat) : Int), ((101 : Int), qu))) ((rows ((A ++ (t, d) :: preL (d + 1) (ks.take j)).take 101)).1, ((rows ((A ++ (t, d) :: preL (d + 1) (ks.take j)).take 101)).2.1, qu)) = _ := ih
      simp only [embFl, dec_lt hj, inB_lt hj, Int.toNat_natCast, hk, cond_true, Option.bind_some, t_eta, hd1, ih]
      rw [wrapS hj (by omega), take_app_take, hsplit]
      simp only [List.append_assoc, List.cons_append]
    · simp only [embFl, dec_nlt, cond_false]
    · rw [List.take_length]
      rfl
    · rw [List.take_zero, preL, List.take_of_length_le (by simp; omega)]
mutual
theorem pre_small : ∀ (t : DExp) (d : Nat), small kExp t → ∀ p ∈ pre d t, small kExp p.1
  | .node v ks, d, h, p, hp => by
    simp only [pre] at hp
    rcases List.mem_cons.1 hp with rfl | hp
    · exact h
    · split at hp
      · cases hp
      · exact preL_small ks (d + 1) (smallTs_iff.1 h.2.2) p hp
theorem preL_small : ∀ (ks : List DExp) (d : Nat), (∀ k ∈ ks, small kExp k) → ∀ p ∈ preL d ks, small kExp p.1
  | [], _, _, p, hp => by cases hp
  | k :: ks, d, h, p, hp => by
    simp only [preL] at hp
    rcases List.mem_append.1 hp with hp | hp
    · exact pre_small k d (h k (by simp)) p hp
    · exact preL_small ks d (fun x hx => h x (by simp [hx])) p hp
end
theorem firstE_take : ∀ (l : List (DExp × Nat)) (i : Nat), i ≤ 100 → firstE i (l.take (101 - i)) = firstE i l
  | [], i, _ => by simp
  | p :: l, i, hi => by
    rw [show 101 - i = (101 - (i + 1)) + 1 by omega, List.take_succ_cons]
    simp only [firstE]
    by_cases h : nodeE i p = 0
    · simp only [h, ne_eq, not_true_eq_false, if_false]
      have : i < 100 := by
        rcases Nat.lt_or_ge i 100 with h1 | h1
        · exact h1
        · unfold nodeE at h
          rw [if_pos (.inl h1)] at h
          cases h
      exact firstE_take l (i + 1) (by omega)
    · simp only [h, ne_eq, not_false_eq_true, if_true]
noncomputable def operL : List Int := ((r23 ()).getD ([], ())).1
theorem oper_eq : r23 () = some (operL, ()) := rfl
theorem oper_at (op : Int) (h0 : 0 ≤ op) (h1 : op ≤ 21) : inB op operL.length = true ∧ operL[op.toNat]? = some (kidsN op) := by
  have key : ∀ n : Fin 22, inB ((n : Nat) : Int) operL.length = true ∧ operL[(n : Nat)]? = some (kidsN ((n : Nat) : Int)) := by decide +kernel
  have := key ⟨op.toNat, by omega⟩
  simp only at this
  rwa [show ((op.toNat : Nat) : Int) = op by omega] at this
theorem kids_in {op : Int} (h0 : 0 ≤ op) (h1 : op ≤ 21) : ¬ kidsN op < 0 := by
  have key : ∀ n : Fin 22, ¬ kidsN ((n : Nat) : Int) < 0 := by decide
  have := key ⟨op.toNat, by omega⟩
  simp only at this
  rwa [show ((op.toNat : Nat) : Int) = op by omega] at this
theorem kids_out {op : Int} (h : op < 0 ∨ 21 < op) : kidsN op < 0 := by
  unfold kidsN
  rw [if_neg (by omega), if_neg (by omega), if_neg (by omega), if_neg (by omega)]
  omega
theorem reserved_eq : r27 () = some (wordsL, ()) := by kernel_rfl
theorem rfields_eq : r28 () = some (fieldsL, ()) := by kernel_rfl
end Go.Proofs.YtdfgfjnpllncdaaGreatDoor.I

namespace Go.Proofs.YtdfgfjnpllncdaaGreatDoor.I
open Go.RowKit
set_option linter.unusedVariables false
set_option linter.unusedSimpArgs false
set_option linter.constructorNameAsVariable false
theorem rname_eq (s : ByteArray) (h : s.size ≤ 9223372036854775807) : r25 (s, ()) = some (nameOk s, ()) := by
  unfold r25
  have : decide (s.size ≤ 9223372036854775807) = true := decide_eq_true h
  simp only [this, cond_true]
@[reducible] def exX (e : Int) : (IU) ⊕ (((Int × Unit) × Unit) ⊕ ((Unit × Unit) ⊕ Empty)) := Sum.inr (Sum.inl ((e, ()), ()))
set_option maxHeartbeats 8000000 in
theorem exprErr_eq (n : Nat) (t : DExp) (hn : sz t ≤ n) (hs : small kExp t) : r8 n (t, ()) = some (expE t, ()) := by
  unfold r8
  have h1 := flat_eq n t 1 [] hn (by simp) (by omega) hs
  have h1 : r22 n (t, ((1 : Int), ((101 : Int), Unit.unit))) (List.nil, (List.nil, Unit.unit)) = some (rows ((pre 1 t).take 101)) := h1
  rw [t_eta, h1]
  simp only [Option.bind_some]
  have hsm : ∀ p ∈ (pre 1 t).take 101, small kExp p.1 := fun p hp => pre_small t 1 hs p (List.mem_of_mem_take hp)
  have hl : ((pre 1 t).take 101).length ≤ 101 := by rw [List.length_take]; omega
  have hfin : firstE 0 ((pre 1 t).take 101) = expE t := firstE_take (pre 1 t) 0 (by omega)
  rw [← hfin]
  generalize (pre 1 t).take 101 = B at hsm hl
  have hl1 : (rows B).1.length = B.length := by simp [rows]
  have hl2 : (rows B).2.1.length = B.length := by simp [rows]
  refine bind_loop (Post := fun o => (∃ e : Int, o = Sum.inl ((e, ()), ()) ∧ firstE 0 B = e) ∨ (o = Sum.inr (Sum.inl ((), ())) ∧ firstE 0 B = 0)) (loop_up embI B.length (fun j _ => firstE 0 (B.take j) = 0) _ (fun j u hj hI => ?_) (fun u hI => ?_) 0 () (Nat.zero_le _) (by simp [firstE])) (fun o ho => ?_)
  · obtain ⟨p, hp⟩ := get_lt hj
    have hps := hsm p (List.mem_of_getElem? hp)
    have ea : (rows B).1[j]? = some p.1 := by simp [rows, hp]
    have eb : (rows B).2.1[j]? = some ((p.2 : Nat) : Int) := by simp [rows, hp]
    have hsplit : B.take (j + 1) = B.take j ++ [p] := take_succ hp
    have hj2 : (B.take j).length = j := by rw [List.length_take]; omega
    have hone : firstE 0 (B.take (j + 1)) = nodeE j p := by
      rw [hsplit, firstE_app, hI, hj2, if_neg (by simp), Nat.zero_add]
      simp only [firstE]
      by_cases hz : nodeE j p = 0
      · rw [hz]; simp
      · rw [if_pos hz]
    have hall : B = B.take (j + 1) ++ B.drop (j + 1) := (List.take_append_drop _ _).symm
    have hbad : nodeE j p ≠ 0 → firstE 0 B = nodeE j p := fun hne => by
      have hf := congrArg (fun l => firstE 0 l) hall
      rw [show firstE 0 B = firstE 0 (B.take (j + 1) ++ B.drop (j + 1)) from hf, firstE_app, hone, if_pos hne]
    simp only [embI, hl1, hl2, dec_lt hj, inB_lt hj, Int.toNat_natCast, ea, eb, cond_true, Option.bind_some]
    suffices hstep : ∀ r : Option (IU ⊕ (((Int × Unit) × Unit) ⊕ ((Unit × Unit) ⊕ Empty))), r = (if nodeE j p = 0 then some (Sum.inl ((((j : Int) + 1, ()), ()))) else some (exX (nodeE j p))) → ((∃ s' : Unit, r = some (Sum.inl (((((j : Int) + 1), ()), ()))) ∧ firstE 0 (B.take (j + 1)) = 0) ∨ ∃ o, r = some (Sum.inr o) ∧ ((∃ e : Int, o = Sum.inl ((e, ()), ()) ∧ firstE 0 B = e) ∨ (o = Sum.inr (Sum.inl ((), ())) ∧ firstE 0 B = 0))) by
      refine hstep _ ?_
      obtain ⟨t', d'⟩ := p
      obtain ⟨k1, k2, k3, k4, k5⟩ := exp_small hps
      simp only
      have hv := r29_eq (Tree.val t').2.1 k2.2.2.1
      have hv' : r24 (((Tree.val t').2.1.1, ((Tree.val t').2.1.2.1, ((Tree.val t').2.1.2.2.1, ((Tree.val t').2.1.2.2.2.1, Unit.unit)))), Unit.unit) = some (checkV (Tree.val t').2.1, ()) := hv
      have hnm := rname_eq (Tree.val t').2.2.1 k3
      have hw := contains_str wordsL (Tree.val t').2.2.1 (by rw [words_len]; omega)
      have hf := contains_str fieldsL (Tree.val t').2.2.1 (by rw [fields_len]; omega)
      rw [wrapS hj (by omega)]
      have hNE : nodeE j (t', d') = if 100 ≤ j ∨ 20 < d' then 2 else oneE (Tree.val t') (Tree.kids t').length := rfl
      rw [hNE]
      by_cases h100 : j = 100
      · have e1 : decide ((j : Int) = 100) = true := decide_eq_true (by omega)
        rw [e1, cond_true, if_pos (show 100 ≤ j ∨ 20 < d' from .inl (by omega))]
        rfl
      have e1 : decide ((j : Int) = 100) = false := decide_eq_false (by omega)
      rw [e1, cond_false]
      by_cases hd : 20 < d'
      · have e2 : decide ((20 : Int) < (d' : Int)) = true := decide_eq_true (by omega)
        rw [e2, cond_true, if_pos (show 100 ≤ j ∨ 20 < d' from .inr hd)]
        rfl
      have e2 : decide ((20 : Int) < (d' : Int)) = false := decide_eq_false (by omega)
      rw [e2, cond_false, if_neg (show ¬ (100 ≤ j ∨ 20 < d') by omega)]
      by_cases ho1 : (Tree.val t').1 < 0
      · rw [decide_eq_true ho1, cond_true]
        have : oneE (Tree.val t') (Tree.kids t').length = 8 := by unfold oneE; rw [if_pos (kids_out (.inl ho1))]
        rw [this]
        rfl
      rw [decide_eq_false ho1, cond_false]
      by_cases ho2 : 21 < (Tree.val t').1
      · rw [decide_eq_true ho2, cond_true]
        have : oneE (Tree.val t') (Tree.kids t').length = 8 := by unfold oneE; rw [if_pos (kids_out (.inr ho2))]
        rw [this]
        rfl
      rw [decide_eq_false ho2, cond_false]
      obtain ⟨q1, q2⟩ := oper_at (Tree.val t').1 (by omega) (by omega)
      have q3 := kids_in (op := (Tree.val t').1) (by omega) (by omega)
      simp only [oper_eq, q1, q2, cond_true, Option.bind_some, hv', hnm, hw, hf, reserved_eq, rfields_eq, val_nil]
      unfold oneE
      rw [if_neg q3]
      generalize (Tree.kids t').length = k
      generalize (Tree.val t').2.1 = v
      generalize (Tree.val t').2.2.1 = s
      generalize (Tree.val t').1 = op at *
      clear hv hv' hnm hw hf q1 q2
      by_cases z1 : (k : Int) = kidsN op
      rotate_left
      · rw [if_pos (Or.inl z1 : ¬ (k : Int) = kidsN op ∨ _), decide_eq_false z1]
        rfl
      rw [decide_eq_true z1]
      simp only [z1, Bool.not_true, cond_false, not_true_eq_false, false_or]
      by_cases b0 : op = 0
      · subst b0
        by_cases be : s = emptyS
        · subst be
          by_cases hc : checkV v = 0 <;> simp [emptyS, hc]
        · have : ¬ s = ByteArray.mk (List.toArray []) := be
          simp [be, this]
      · by_cases bv : v = (0, (0, (emptyS, (false, ()))))
        · by_cases b1 : op = 1
          · subst b1
            cases hnm : nameOk s <;> cases hmw : inL s wordsL <;> simp [bv]
          · by_cases b2 : op = 2
            · subst b2
              cases hmf : inL s fieldsL <;> simp [bv]
            · by_cases be : s = emptyS
              · have : s = ByteArray.mk (List.toArray []) := be
                simp [b0, b1, b2, bv, be, emptyS]
              · have : ¬ s = ByteArray.mk (List.toArray []) := be
                simp [b0, b1, b2, bv, be, this]
        · simp [b0, bv]
    intro r hr
    by_cases hz : nodeE j p = 0
    · rw [if_pos hz] at hr
      exact .inl ⟨(), hr, by rw [hone, hz]⟩
    · rw [if_neg hz] at hr
      exact .inr ⟨_, hr, .inl ⟨_, rfl, hbad hz⟩⟩
  · rw [List.take_length] at hI
    exact ⟨_, by simp only [embI, hl1, dec_nlt, cond_false], .inr ⟨rfl, hI⟩⟩
  · rcases ho with ⟨e, rfl, h⟩ | ⟨rfl, h⟩
    · rw [h]; rfl
    · rw [h]; rfl
end Go.Proofs.YtdfgfjnpllncdaaGreatDoor.I

namespace Go.Proofs.YtdfgfjnpllncdaaGreatDoor.I
open Go.RowKit
set_option linter.unusedVariables false
set_option linter.unusedSimpArgs false
set_option linter.constructorNameAsVariable false
theorem oneE_kids {nd : DNode} {k : Nat} (h : oneE nd k = 0) : 0 ≤ nd.1 ∧ nd.1 ≤ 21 ∧ (k : Int) = kidsN nd.1 := by
  unfold oneE at h
  split at h
  · cases h
  · rename_i h1
    split at h
    · cases h
    · rename_i h2
      have h3 : (k : Int) = kidsN nd.1 := Classical.byContradiction (fun hc => h2 (.inl hc))
      refine ⟨?_, ?_, h3⟩
      · rcases Int.lt_or_le nd.1 0 with h4 | h4
        · exact absurd (kids_out (.inl h4)) h1
        · exact h4
      · rcases Int.lt_or_le 21 nd.1 with h4 | h4
        · exact absurd (kids_out (.inr h4)) h1
        · exact h4
mutual
def VE : DExp → Prop
  | .node nd ks => oneE nd ks.length = 0 ∧ VEL ks
def VEL : List DExp → Prop
  | [] => True
  | t :: ts => VE t ∧ VEL ts
end
theorem VEL_iff : ∀ {ks : List DExp}, VEL ks ↔ ∀ k ∈ ks, VE k
  | [] => by simp [VEL]
  | t :: ts => by simp [VEL, VEL_iff (ks := ts)]
theorem VE_node (t : DExp) : VE t ↔ oneE (Tree.val t) (Tree.kids t).length = 0 ∧ ∀ k ∈ Tree.kids t, VE k := by
  cases t
  simp only [VE, Tree.val, Tree.kids, VEL_iff]
mutual
theorem ve_of : ∀ (t : DExp) (d i : Nat), firstE i (pre d t) = 0 → VE t
  | .node nd ks, d, i, h => by
    simp only [pre, firstE] at h
    by_cases h1 : nodeE i (.node nd ks, d) = 0
    · simp only [h1, ne_eq, not_true_eq_false, if_false] at h
      unfold nodeE at h1
      split at h1
      · cases h1
      · rename_i hd
        rw [if_neg (fun h => hd (.inr h))] at h
        simp only [VE]
        exact ⟨h1, vel_of ks (d + 1) (i + 1) h⟩
    · simp only [h1, ne_eq, not_false_eq_true, if_true] at h
theorem vel_of : ∀ (ks : List DExp) (d i : Nat), firstE i (preL d ks) = 0 → VEL ks
  | [], _, _, _ => by simp only [VEL]
  | t :: ts, d, i, h => by
    simp only [preL] at h
    rw [firstE_app] at h
    by_cases h1 : firstE i (pre d t) = 0
    · simp only [h1, ne_eq, not_true_eq_false, if_false] at h
      simp only [VEL]
      exact ⟨ve_of t d i h1, vel_of ts d _ h⟩
    · simp only [h1, ne_eq, not_false_eq_true, if_true] at h
end
end Go.Proofs.YtdfgfjnpllncdaaGreatDoor.I

namespace Go.Proofs.YtdfgfjnpllncdaaGreatDoor.I
open Go.RowKit
set_option linter.unusedVariables false
set_option linter.unusedSimpArgs false
set_option linter.constructorNameAsVariable false
def boolV (b : Bool) : DVal := (3, (0, (emptyS, (b, ()))))
def numV (n : Int) : DVal := (1, (n, (emptyS, (false, ()))))
def zeroV0 : DVal := (0, (0, (emptyS, (false, ()))))
end Go.Proofs.YtdfgfjnpllncdaaGreatDoor.I

namespace Go.Proofs.YtdfgfjnpllncdaaGreatDoor.I
open Go.RowKit
open _root_.Decidable renaming decide → qd
open _root_.Option renaming bind → qb, some → qs, none → qn
open _root_.Unit renaming unit → qu
open IntKind renaming wrap → qw, i64 → q6
open _root_.HAdd renaming hAdd → qa
open _root_.Nat renaming cast → qc
open _root_.ByteArray renaming extract → qx, size → qz, mk → qm
open _root_.List renaming length → ql, cons → qk, nil → qe, toArray → qt
open _root_.HAppend renaming hAppend → qp
open _root_.Bool renaming not → qo, and → qj, true → q1, false → q0
open _root_.Int renaming toNat → qi
open _root_.UInt8 renaming toNat → qv
open _root_.Sum renaming inl → qf, inr → qr
open _root_.GetElem? renaming getElem? → qg
open _root_.LE renaming le → qq
open _root_.LT renaming lt → qy
set_option linter.unusedVariables false
set_option linter.unusedSimpArgs false
set_option linter.constructorNameAsVariable false
def bs (l : List UInt8) : ByteArray := ⟨l.toArray⟩
def tNot : ByteArray := bs [110, 111, 116]
def tMinus : ByteArray := bs [45]
def tOpen : ByteArray := bs [40]
def tClose : ByteArray := bs [41]
def tComma : ByteArray := bs [44]
def tDot : ByteArray := bs [46]
def tNil : ByteArray := bs [110, 105, 108]
def tTrue : ByteArray := bs [116, 114, 117, 101]
def tFalse : ByteArray := bs [102, 97, 108, 115, 101]
/-- The operators with two operands. -/
def signL : List (Nat × ByteArray) := [(3, bs [111, 114]), (4, bs [97, 110, 100]), (6, bs [61]), (7, bs [33, 61]), (8, bs [60]), (9, bs [60, 61]), (10, bs [62]), (11, bs [62, 61]), (12, bs [43]), (13, bs [45]), (14, bs [42]), (15, bs [47]), (16, bs [37])]
def opOf (s : ByteArray) : Option Nat := (signL.find? fun p => decide (s = p.2)).map (·.1)
/-- How strongly an operator binds. -/
def lev (op : Nat) : Nat := if op = 3 then 1 else if op = 4 then 2 else if op ≤ 11 then 4 else if op ≤ 13 then 5 else 6
def opAt (n : Nat) : List ByteArray → Option Nat
  | [] => none
  | s :: _ => match opOf s with
    | some op => if lev op = n then some op else none
    | none => none
def fnL : List (Int × ByteArray) := [(18, bs [105, 102]), (19, bs [108, 101, 110]), (20, bs [109, 105, 110]), (21, bs [109, 97, 120])]
def fnOf (s : ByteArray) : Option Int := (fnL.find? fun p => decide (s = p.2)).map (·.1)
/-- The kind of a token, by its first byte. -/
def kindB (s : ByteArray) : Int := match s.data.toList with
  | [] => 0
  | c :: _ => if 97 ≤ c.toNat ∧ c.toNat ≤ 122 then 119 else if 48 ≤ c.toNat ∧ c.toNat ≤ 57 then 110 else if c.toNat = 34 then 116 else 115
def textV (s : ByteArray) : DVal := (2, (0, (s, (false, ()))))
/-- The value that a text shows, before it is checked. -/
def preV (s : ByteArray) : Option DVal :=
  if s = tNil then some zeroV0
  else if s = tTrue ∨ s = tFalse then some (boolV (decide (s = tTrue)))
  else if 2 ≤ s.size ∧ s.data.toList.head? = some 34 ∧ s.data.toList.getLast? = some 34 then some (textV (s.extract 1 (s.size - 1)))
  else match Lib.atoiAll s.data.toList with
    | .ok n => if bs (Lib.itoa n) = s then some (numV n) else none
    | _ => none
noncomputable def vread (s : ByteArray) : DVal × Int := match preV s with
  | none => (zeroV0, 15)
  | some v => if checkV v = 0 then (v, 0) else (zeroV0, checkV v)
def nodeL (v : DVal) : DExp := .node (0, (v, (emptyS, ()))) []
def nodeO (op : Int) (l : List DExp) : DExp := .node (op, (zeroV0, (emptyS, ()))) l
def nodeN (op : Int) (s : ByteArray) : DExp := .node (op, (zeroV0, (s, ()))) []
theorem nd_eta (e : DExp) : Tree.node ((Tree.val e).1, (((Tree.val e).2.1.1, ((Tree.val e).2.1.2.1, ((Tree.val e).2.1.2.2.1, ((Tree.val e).2.1.2.2.2.1, ())))), ((Tree.val e).2.2.1, ()))) (Tree.kids e) = e := t_eta e
theorem nd_eta2 (e : DExp) : Tree.node (Tree.val e) (Tree.kids e) = e := by cases e; rfl
abbrev Toks := List ByteArray
/-- What begins an expression and needs no further one. -/
noncomputable def leafOf : Toks → Option (Option (DExp × Toks))
  | [] => some none
  | s :: l =>
    if s = tOpen then none
    else if s = tDot then some (match l with
      | [] => none
      | f :: l2 => if inL f fieldsL = true then some (nodeN 2 f, l2) else none)
    else if kindB s = 110 then some (if (vread s).2 = 0 then some (nodeL (vread s).1, l) else none)
    else if ¬ (kindB s = 119 ∨ kindB s = 116) then some none
    else if (vread s).2 = 0 then some (some (nodeL (vread s).1, l))
    else match fnOf s with
      | some _ => none
      | none => if kindB s = 119 ∧ nameOk s = true ∧ inL s wordsL = false then some (some (nodeN 1 s, l)) else some none
inductive Req where
  | at (n : Nat)
  | chain (n : Nat) (e : DExp)
  | args (op : Int) (k : Nat) (acc : List DExp)
def BinL (n : Nat) : Prop := n = 1 ∨ n = 2 ∨ n = 4 ∨ n = 5 ∨ n = 6
def numHead : Toks → Bool
  | [] => false
  | s :: _ => decide (kindB s = 110)
inductive Ps : Req → Toks → Option (DExp × Toks) → Prop
  | bin {n l e l1 r} : BinL n → Ps (.at (n + 1)) l (some (e, l1)) → Ps (.chain n e) l1 r → Ps (.at n) l r
  | binBad {n l} : BinL n → Ps (.at (n + 1)) l none → Ps (.at n) l none
  | stop {n e l} : opAt n l = none → Ps (.chain n e) l (some (e, l))
  | go {n e s l op e2 l2 r} : BinL n → opAt n (s :: l) = some op → n ≠ 4 → Ps (.at (n + 1)) l (some (e2, l2)) → Ps (.chain n (nodeO (op : Int) [e, e2])) l2 r → Ps (.chain n e) (s :: l) r
  | go4 {e s l op e2 l2} : opAt 4 (s :: l) = some op → Ps (.at 5) l (some (e2, l2)) → Ps (.chain 4 e) (s :: l) (some (nodeO (op : Int) [e, e2], l2))
  | goBad {n e s l op} : BinL n → opAt n (s :: l) = some op → Ps (.at (n + 1)) l none → Ps (.chain n e) (s :: l) none
  | notY {l e l1} : Ps (.at 3) l (some (e, l1)) → Ps (.at 3) (tNot :: l) (some (nodeO 5 [e], l1))
  | notBad {l} : Ps (.at 3) l none → Ps (.at 3) (tNot :: l) none
  | nonot {l r} : l.head? ≠ some tNot → Ps (.at 4) l r → Ps (.at 3) l r
  | neg {l e l1} : numHead l = false → Ps (.at 7) l (some (e, l1)) → Ps (.at 7) (tMinus :: l) (some (nodeO 17 [e], l1))
  | negBad {l} : numHead l = false → Ps (.at 7) l none → Ps (.at 7) (tMinus :: l) none
  | negNum {d l} : kindB d = 110 → (vread (tMinus ++ d)).2 = 0 → Ps (.at 7) (tMinus :: d :: l) (some (nodeL (vread (tMinus ++ d)).1, l))
  | negNumBad {d l} : kindB d = 110 → (vread (tMinus ++ d)).2 ≠ 0 → Ps (.at 7) (tMinus :: d :: l) none
  | prim {l r} : l.head? ≠ some tMinus → Ps (.at 8) l r → Ps (.at 7) l r
  | par {l e l1} : Ps (.at 1) l (some (e, tClose :: l1)) → Ps (.at 8) (tOpen :: l) (some (e, l1))
  | parBad {l} : Ps (.at 1) l none → Ps (.at 8) (tOpen :: l) none
  | parNo {l e l1} : Ps (.at 1) l (some (e, l1)) → l1.head? ≠ some tClose → Ps (.at 8) (tOpen :: l) none
  | leaf {l r} : leafOf l = some r → Ps (.at 8) l r
  | fnY {s l op r} : leafOf (s :: tOpen :: l) = none → fnOf s = some op → Ps (.args op (kidsN op).toNat []) l r → Ps (.at 8) (s :: tOpen :: l) r
  | fnNo {s l op} : leafOf (s :: l) = none → fnOf s = some op → l.head? ≠ some tOpen → Ps (.at 8) (s :: l) none
  | argsEnd {op acc l} : Ps (.args op 0 acc) (tClose :: l) (some (nodeO op acc, l))
  | argsNo {op acc l} : l.head? ≠ some tClose → Ps (.args op 0 acc) l none
  | argOne {op k l e l1 r} : Ps (.at 1) l (some (e, l1)) → Ps (.args op k [e]) l1 r → Ps (.args op (k + 1) []) l r
  | argOneBad {op k l} : Ps (.at 1) l none → Ps (.args op (k + 1) []) l none
  | argMore {op k acc l e l1 r} : acc ≠ [] → Ps (.at 1) l (some (e, l1)) → Ps (.args op k (acc ++ [e])) l1 r → Ps (.args op (k + 1) acc) (tComma :: l) r
  | argMoreBad {op k acc l} : acc ≠ [] → Ps (.at 1) l none → Ps (.args op (k + 1) acc) (tComma :: l) none
  | argNo {op k acc l} : acc ≠ [] → l.head? ≠ some tComma → Ps (.args op (k + 1) acc) l none
/-- What is left is shorter. -/
theorem ps_len {q : Req} {l : Toks} {r : Option (DExp × Toks)} (h : Ps q l r) : ∀ {e l1}, r = some (e, l1) → match q with
    | .at _ => l1.length < l.length
    | .chain _ _ => l1.length ≤ l.length
    | .args _ _ _ => l1.length < l.length := by
  induction h with
  | bin _ _ _ ih1 ih2 => intro e l1 hr; have := ih1 rfl; have := ih2 hr; simp only at *; omega
  | stop h => intro e l1 hr; injection hr with hr; injection hr with h1 h2; subst h2; exact Nat.le_refl _
  | go _ _ _ _ _ ih1 ih2 => intro e l1 hr; have := ih1 rfl; have := ih2 hr; simp only [List.length_cons] at *; omega
  | go4 _ _ ih1 => intro e l1 hr; injection hr with hr; injection hr with h1 h2; subst h2; have := ih1 rfl; simp only [List.length_cons] at *; omega
  | notY _ ih1 => intro e l1 hr; injection hr with hr; injection hr with h1 h2; subst h2; have := ih1 rfl; simp only [List.length_cons] at *; omega
  | nonot _ _ ih1 => intro e l1 hr; have := ih1 hr; simp only at *; omega
  | neg _ _ ih1 => intro e l1 hr; injection hr with hr; injection hr with h1 h2; subst h2; have := ih1 rfl; simp only [List.length_cons] at *; omega
  | negNum _ _ => intro e l1 hr; injection hr with hr; injection hr with h1 h2; subst h2; simp only [List.length_cons]; omega
  | prim _ _ ih1 => intro e l1 hr; have := ih1 hr; simp only at *; omega
  | par _ ih1 => intro e l1 hr; injection hr with hr; injection hr with h1 h2; subst h2; have := ih1 rfl; simp only [List.length_cons] at *; omega
  | leaf hl =>
    rename_i l r
    intro e l1 hr
    subst hr
    show l1.length < l.length
    cases l with
    | nil => cases hl
    | cons s l =>
      simp only [leafOf] at hl
      simp only [List.length_cons]
      repeat' split at hl
      all_goals first
        | (cases hl; done)
        | (obtain ⟨_, rfl⟩ := Prod.mk.inj hl
           first | (simp only [List.length_cons]; omega) | omega)
        | (obtain ⟨_, rfl⟩ := Prod.mk.inj (Option.some.inj hl)
           first | (simp only [List.length_cons]; omega) | omega)
        | (obtain ⟨_, rfl⟩ := Prod.mk.inj (Option.some.inj (Option.some.inj hl))
           first | (simp only [List.length_cons]; omega) | omega)
  | fnY _ _ _ ih1 => intro e l1 hr; have := ih1 hr; simp only [List.length_cons] at *; omega
  | argsEnd => intro e l1 hr; injection hr with hr; injection hr with h1 h2; subst h2; simp only [List.length_cons]; omega
  | argOne _ _ ih1 ih2 => intro e l1 hr; have := ih1 rfl; have := ih2 hr; simp only at *; omega
  | argMore _ _ _ ih1 ih2 => intro e l1 hr; have := ih1 rfl; have := ih2 hr; simp only [List.length_cons] at *; omega
  | _ => intro e l1 hr; cases hr
theorem chain_total {n : Nat} (hb : BinL n) (m : Nat) (H : ∀ l : Toks, l.length < m → ∃ r, Ps (.at (n + 1)) l r) : ∀ (k : Nat) (l : Toks) (e : DExp), l.length ≤ k → l.length ≤ m → ∃ r, Ps (.chain n e) l r
  | k, [], e, _, _ => ⟨_, .stop rfl⟩
  | 0, s :: l, e, h, _ => by simp at h
  | k + 1, s :: l, e, h, hm => by
    simp only [List.length_cons] at h hm
    cases ho : opAt n (s :: l) with
    | none => exact ⟨_, .stop ho⟩
    | some op =>
      obtain ⟨r, h1⟩ := H l (by omega)
      cases r with
      | none => exact ⟨_, .goBad hb ho h1⟩
      | some p =>
        obtain ⟨e2, l2⟩ := p
        have hl := ps_len h1 rfl
        simp only at hl
        by_cases h4 : n = 4
        · subst h4
          exact ⟨_, .go4 ho h1⟩
        · obtain ⟨r, h2⟩ := chain_total hb m H k l2 (nodeO (op : Int) [e, e2]) (by omega) (by omega)
          exact ⟨r, .go hb ho h4 h1 h2⟩
theorem args_total (m : Nat) (op : Int) (H : ∀ l : Toks, l.length ≤ m → ∃ r, Ps (.at 1) l r) : ∀ (k : Nat) (acc : List DExp) (l : Toks), l.length ≤ m → ∃ r, Ps (.args op k acc) l r
  | 0, acc, l, h => by
    cases l with
    | nil => exact ⟨_, .argsNo (by simp)⟩
    | cons s l =>
      by_cases hs : s = tClose
      · subst hs; exact ⟨_, .argsEnd⟩
      · exact ⟨_, .argsNo (by simpa using hs)⟩
  | k + 1, acc, l, h => by
    cases acc with
    | nil =>
      obtain ⟨r, h1⟩ := H l h
      cases r with
      | none => exact ⟨_, .argOneBad h1⟩
      | some p =>
        obtain ⟨e, l1⟩ := p
        have hl := ps_len h1 rfl
        simp only at hl
        obtain ⟨r, h2⟩ := args_total m op H k [e] l1 (by omega)
        exact ⟨r, .argOne h1 h2⟩
    | cons a acc =>
      by_cases hs : l.head? = some tComma
      · obtain ⟨l', rfl⟩ : ∃ l', l = tComma :: l' := by
          cases l with
          | nil => cases hs
          | cons s l => simp only [List.head?_cons, Option.some.injEq] at hs; subst hs; exact ⟨l, rfl⟩
        simp only [List.length_cons] at h
        obtain ⟨r, h1⟩ := H l' (by omega)
        cases r with
        | none => exact ⟨_, .argMoreBad (by simp) h1⟩
        | some p =>
          obtain ⟨e, l1⟩ := p
          have hl := ps_len h1 rfl
          simp only at hl
          obtain ⟨r, h2⟩ := args_total m op H k (a :: acc ++ [e]) l1 (by omega)
          exact ⟨r, .argMore (by simp) h1 h2⟩
      · exact ⟨_, .argNo (by simp) hs⟩
theorem leaf_none {s : ByteArray} {l : Toks} (h : leafOf (s :: l) = none) : s = tOpen ∨ ∃ op, fnOf s = some op := by
  simp only [leafOf] at h
  by_cases h1 : s = tOpen
  · exact .inl h1
  rw [if_neg h1] at h
  repeat' split at h
  all_goals first
    | (cases h; done)
    | (rename_i hf; exact .inr ⟨_, hf⟩)
/-- There is always an answer. -/
theorem ps_total : ∀ (m : Nat) (l : Toks), l.length ≤ m → ∀ n, 1 ≤ n → n ≤ 8 → ∃ r, Ps (.at n) l r := by
  intro m
  induction m using Nat.strongRecOn with
  | _ m IH =>
    intro l hm
    have Hs : ∀ l' : Toks, l'.length < l.length → ∀ n, 1 ≤ n → n ≤ 8 → ∃ r, Ps (.at n) l' r := fun l' h n h1 h2 => IH l'.length (by omega) l' (Nat.le_refl _) n h1 h2
    have t8 : ∃ r, Ps (.at 8) l r := by
      cases hl : leafOf l with
      | some r => exact ⟨r, .leaf hl⟩
      | none =>
        cases l with
        | nil => cases hl
        | cons s l =>
          rcases leaf_none hl with rfl | ⟨op, hop⟩
          · obtain ⟨r, h1⟩ := Hs l (by simp) 1 (by omega) (by omega)
            cases r with
            | none => exact ⟨_, .parBad h1⟩
            | some p =>
              obtain ⟨e, l1⟩ := p
              by_cases hc : l1.head? = some tClose
              · cases l1 with
                | nil => cases hc
                | cons c l1 =>
                  simp only [List.head?_cons, Option.some.injEq] at hc
                  subst hc
                  exact ⟨_, .par h1⟩
              · exact ⟨_, .parNo h1 hc⟩
          · by_cases hc : l.head? = some tOpen
            · cases l with
              | nil => cases hc
              | cons c l =>
                simp only [List.head?_cons, Option.some.injEq] at hc
                subst hc
                obtain ⟨r, h1⟩ := args_total l.length op (fun l' h' => Hs l' (by simp only [List.length_cons]; omega) 1 (by omega) (by omega)) (kidsN op).toNat [] l (Nat.le_refl _)
                exact ⟨r, .fnY hl hop h1⟩
            · exact ⟨_, .fnNo hl hop hc⟩
    have t7 : ∃ r, Ps (.at 7) l r := by
      by_cases hc : l.head? = some tMinus
      · cases l with
        | nil => cases hc
        | cons c l =>
          simp only [List.head?_cons, Option.some.injEq] at hc
          subst hc
          cases hn : numHead l with
          | true =>
            cases l with
            | nil => cases hn
            | cons d l =>
              have hk : kindB d = 110 := of_decide_eq_true hn
              by_cases hv : (vread (tMinus ++ d)).2 = 0
              · exact ⟨_, .negNum hk hv⟩
              · exact ⟨_, .negNumBad hk hv⟩
          | false =>
            obtain ⟨r, h1⟩ := Hs l (by simp) 7 (by omega) (by omega)
            cases r with
            | none => exact ⟨_, .negBad hn h1⟩
            | some p => exact ⟨_, .neg hn h1⟩
      · obtain ⟨r, h1⟩ := t8
        exact ⟨r, .prim hc h1⟩
    have bin : ∀ n, BinL n → (∃ r, Ps (.at (n + 1)) l r) → ∃ r, Ps (.at n) l r := by
      rintro n hb ⟨r, h1⟩
      cases r with
      | none => exact ⟨_, .binBad hb h1⟩
      | some p =>
        obtain ⟨e, l1⟩ := p
        have hl := ps_len h1 rfl
        simp only at hl
        have hn : n + 1 ≤ 8 := by unfold BinL at hb; omega
        obtain ⟨r, h2⟩ := chain_total hb l1.length (fun l' h' => Hs l' (by omega) (n + 1) (by omega) hn) l1.length l1 e (Nat.le_refl _) (Nat.le_refl _)
        exact ⟨r, .bin hb h1 h2⟩
    have t6 := bin 6 (by unfold BinL; omega) t7
    have t5 := bin 5 (by unfold BinL; omega) t6
    have t4 := bin 4 (by unfold BinL; omega) t5
    have t3 : ∃ r, Ps (.at 3) l r := by
      by_cases hc : l.head? = some tNot
      · cases l with
        | nil => cases hc
        | cons c l =>
          simp only [List.head?_cons, Option.some.injEq] at hc
          subst hc
          obtain ⟨r, h1⟩ := Hs l (by simp) 3 (by omega) (by omega)
          cases r with
          | none => exact ⟨_, .notBad h1⟩
          | some p => exact ⟨_, .notY h1⟩
      · obtain ⟨r, h1⟩ := t4
        exact ⟨r, .nonot hc h1⟩
    have t2 := bin 2 (by unfold BinL; omega) t3
    have t1 := bin 1 (by unfold BinL; omega) t2
    intro n h1 h8
    have : n = 1 ∨ n = 2 ∨ n = 3 ∨ n = 4 ∨ n = 5 ∨ n = 6 ∨ n = 7 ∨ n = 8 := by omega
    rcases this with rfl | rfl | rfl | rfl | rfl | rfl | rfl | rfl
    all_goals assumption
end Go.Proofs.YtdfgfjnpllncdaaGreatDoor.I

namespace Go.Proofs.YtdfgfjnpllncdaaGreatDoor.I
open Go.RowKit
set_option linter.unusedVariables false
set_option linter.constructorNameAsVariable false
theorem itoa_eq {n : Int} (h : -9223372036854775808 ≤ n ∧ n ≤ 9223372036854775807) : r93 (n, ()) = some (⟨(Lib.itoa n).toArray⟩, ()) := by
  unfold r93 i64B
  rw [decide_eq_true h]
  rfl
theorem fmtInt_eq {n : Int} (h : -9223372036854775808 ≤ n ∧ n ≤ 9223372036854775807) : r56 (n, ((10 : Int), ())) = some (⟨(Lib.itoa n).toArray⟩, ()) := by
  unfold r56 i64B
  rw [decide_eq_true h]
  rfl
end Go.Proofs.YtdfgfjnpllncdaaGreatDoor.I

namespace Go.Proofs.YtdfgfjnpllncdaaGreatDoor.I
open Go.RowKit
set_option linter.unusedVariables false
set_option linter.unusedSimpArgs false
set_option linter.constructorNameAsVariable false
/-- What of an operand is needed: how strongly it binds, whether it is a number, its text. -/
abbrev KidT := Nat × Bool × List UInt8
def paren (l : List UInt8) : List UInt8 := [40] ++ l ++ [41]
def inner (k : KidT) (least : Nat) : List UInt8 := if k.1 < least then paren k.2.2 else k.2.2
end Go.Proofs.YtdfgfjnpllncdaaGreatDoor.I

namespace Go.Proofs.YtdfgfjnpllncdaaGreatDoor.I
open Go.RowKit
open _root_.Decidable renaming decide → qd
open _root_.Option renaming bind → qb, some → qs, none → qn
open _root_.Unit renaming unit → qu
open IntKind renaming wrap → qw, i64 → q6
open _root_.HAdd renaming hAdd → qa
open _root_.Nat renaming cast → qc
open _root_.ByteArray renaming extract → qx, size → qz, mk → qm
open _root_.List renaming length → ql, cons → qk, nil → qe, toArray → qt
open _root_.HAppend renaming hAppend → qp
open _root_.Bool renaming not → qo, and → qj, true → q1, false → q0
open _root_.Int renaming toNat → qi
open _root_.UInt8 renaming toNat → qv
open _root_.Sum renaming inl → qf, inr → qr
open _root_.GetElem? renaming getElem? → qg
open _root_.LE renaming le → qq
open _root_.LT renaming lt → qy
set_option linter.unusedVariables false
set_option linter.unusedSimpArgs false
set_option linter.constructorNameAsVariable false
theorem c_true {α : Type} {b : Bool} {x y : Option α} (h : b = true) : cond b x y = x := by subst h; rfl
theorem c_false {α : Type} {b : Bool} {x y : Option α} (h : b = false) : cond b x y = y := by subst h; rfl
def preN (s : ByteArray) : Option DVal := match Lib.atoiAll s.data.toList with
  | .ok n => if bs (Lib.itoa n) = s then some (numV n) else none
  | _ => none
def quotedS (s : ByteArray) : Prop := 2 ≤ s.size ∧ s.data.toList.head? = some 34 ∧ s.data.toList.getLast? = some 34
instance (s : ByteArray) : Decidable (quotedS s) := by unfold quotedS; exact inferInstance
theorem preV_eq (s : ByteArray) : preV s = if s = tNil then some zeroV0 else if s = tTrue then some (boolV true) else if s = tFalse then some (boolV false) else if quotedS s then some (textV (s.extract 1 (s.size - 1))) else preN s := by
  unfold preV
  by_cases h1 : s = tNil
  · rw [if_pos h1, if_pos h1]
  rw [if_neg h1, if_neg h1]
  by_cases h2 : s = tTrue
  · rw [if_pos (.inl h2), if_pos h2]; simp [h2]
  rw [if_neg h2]
  by_cases h3 : s = tFalse
  · rw [if_pos (.inr h3), if_pos h3]; simp [h2]
  rw [if_neg (by simp [h2, h3]), if_neg h3]
  rfl
/-- From a value to the answer. -/
noncomputable def answV : Option DVal → DVal × Int
  | none => (zeroV0, 15)
  | some v => if checkV v = 0 then (v, 0) else (zeroV0, checkV v)
theorem vread_answ (s : ByteArray) : vread s = answV (preV s) := rfl
theorem str0 (s : ByteArray) : strAt s (0 : Int) = s.data.toList.head? := by
  have := bytes_get (s := s) (i := 0)
  rw [List.head?_eq_getElem?]
  exact this
theorem strLast (s : ByteArray) (h : 2 ≤ s.size) : strAt s ((s.size : Int) - 1) = s.data.toList.getLast? := by
  have := bytes_get (s := s) (i := s.size - 1)
  rw [show ((s.size : Int) - 1) = ((s.size - 1 : Nat) : Int) by omega, this, List.getLast?_eq_getElem?, bytes_len]
theorem head_of {s : ByteArray} (h : 2 ≤ s.size) : ∃ c, s.data.toList.head? = some c := by
  rw [bytes_len] at h
  cases hl : s.data.toList with
  | nil => rw [hl] at h; simp at h
  | cons c l => exact ⟨c, rfl⟩
theorem last_of {s : ByteArray} (h : 2 ≤ s.size) : ∃ c, s.data.toList.getLast? = some c := by
  rw [bytes_len] at h
  exact ⟨_, List.getLast?_eq_some_getLast (by intro hn; rw [hn] at h; simp at h)⟩
theorem atoi_eq (s : ByteArray) (h : s.size ≤ 281474976710656) : r105 (s, ()) = some ((atoiR s).1, ((atoiR s).2, ())) := by
  unfold r105
  exact c_true (decide_eq_true h)
theorem atoiR_ok {s : ByteArray} {n : Int} (h : Lib.atoiAll s.data.toList = .ok n) : atoiR s = (n, false) := by unfold atoiR; rw [h]
theorem atoiR_no {s : ByteArray} (h : ∀ n, Lib.atoiAll s.data.toList ≠ .ok n) : (atoiR s).2 = true ∧ preN s = none := by
  unfold atoiR preN
  cases hh : Lib.atoiAll s.data.toList with
  | ok n => exact absurd hh (h n)
  | _ => exact ⟨rfl, rfl⟩
theorem c34 (c : UInt8) : decide (((c.toNat : Nat) : Int) = 34) = decide (c = 34) := by
  by_cases h : c = 34
  · subst h; rfl
  · rw [decide_eq_false h, decide_eq_false]
    intro hc
    exact h (UInt8.toNat_inj.1 (by show c.toNat = 34; omega))
theorem check_lit (v : DVal) (h : v.2.2.1.size ≤ 9223372036854775807) : r61 (v, ()) = some (checkV v, ()) := r10_eq v h
theorem checkErr_lit (v : DVal) (h : v.2.2.1.size ≤ 9223372036854775807) : r24 (v, ()) = some (checkV v, ()) := r29_eq v h
theorem answ_some (v : DVal) : answV (some v) = if checkV v = 0 then (v, 0) else (zeroV0, checkV v) := rfl
theorem fin_answ (v : DVal) (x : Int) (hx : x = checkV v) : cond (qo (decide (x = (0 : Int)))) (some (zeroV0, (x, ()))) (some (v, ((0 : Int), ()))) = some ((answV (some v)).1, ((answV (some v)).2, ())) := by
  subst hx
  rw [answ_some]
  by_cases h : checkV v = 0
  · rw [if_pos h, decide_eq_true h]; rfl
  · rw [if_neg h, decide_eq_false h]; rfl
theorem mid_size (s : ByteArray) (k : Nat) : (s.extract 1 k).size ≤ s.size := by
  rw [ByteArray.size_extract]; omega
set_option maxHeartbeats 4000000 in
theorem vread_eq (s : ByteArray) (h : s.size ≤ 281474976710656) : r103 (s, ()) = some ((vread s).1, ((vread s).2, ())) := by
  have ha := atoi_eq s h
  have ha : r105 (s, qu) = _ := ha
  have hnum : ∀ (z : Option (DVal × Int × Unit)), z = cond (qj q1 (qo (atoiR s).2)) (qb (r93 ((atoiR s).1, ())) fun x3 => cond (decide (x3.1 = s)) (qb (r106 ((atoiR s).1, ())) fun x4 => qb (r61 x4) fun x5 => cond (qo (decide (x5.1 = (0 : Int)))) (some (zeroV0, x5)) (some (x4.1, ((0 : Int), ())))) (some (zeroV0, ((15 : Int), ())))) (some (zeroV0, ((15 : Int), ()))) → z = some ((answV (preN s)).1, ((answV (preN s)).2, ())) := by
    intro z hz
    rw [hz]
    by_cases hok : ∃ n, Lib.atoiAll s.data.toList = .ok n
    · obtain ⟨n, hn⟩ := hok
      have hb := Lib.atoiAll_bounds hn
      have hi : r93 (n, ()) = some (bs (Lib.itoa n), ()) := itoa_eq hb
      have hc := check_lit (numV n) (by show (0 : Nat) ≤ _; omega)
      rw [atoiR_ok hn]
      simp only [Bool.not_false, Bool.and_true, cond_true, hi, Option.bind_some]
      by_cases he : bs (Lib.itoa n) = s
      · have hp : preN s = some (numV n) := by unfold preN; rw [hn]; exact if_pos he
        rw [hp, decide_eq_true he, cond_true]
        have hv : r106 (n, ()) = some (numV n, ()) := rfl
        rw [hv, Option.bind_some, hc, Option.bind_some]
        exact fin_answ _ _ rfl
      · have hp : preN s = none := by unfold preN; rw [hn]; exact if_neg he
        rw [hp, decide_eq_false he]
        rfl
    · obtain ⟨h1, h2⟩ := atoiR_no (s := s) (fun n hn => hok ⟨n, hn⟩)
      rw [h1, h2]
      rfl
  rw [vread_answ, preV_eq]
  unfold r103
  refine bind_of ha ?_
  by_cases e1 : s = tNil
  · rw [if_pos e1]
    refine (c_true (decide_eq_true e1)).trans ?_
    exact bind_of (check_lit zeroV0 (by show (0 : Nat) ≤ _; omega)) (fin_answ zeroV0 _ rfl)
  rw [if_neg e1]
  refine (c_false (decide_eq_false e1)).trans ?_
  by_cases e2 : s = tTrue
  · rw [if_pos e2]
    refine (c_true (decide_eq_true e2)).trans ?_
    refine bind_of (x := (boolV true, ())) ?_ ?_
    · show r126 (decide (s = tTrue), ()) = _
      rw [decide_eq_true e2]; rfl
    · exact bind_of (check_lit (boolV true) (by show (0 : Nat) ≤ _; omega)) (fin_answ _ _ rfl)
  rw [if_neg e2]
  refine (c_false (decide_eq_false e2)).trans ?_
  by_cases e3 : s = tFalse
  · rw [if_pos e3]
    refine (c_true (decide_eq_true e3)).trans ?_
    refine bind_of (x := (boolV false, ())) ?_ ?_
    · show r126 (decide (s = tTrue), ()) = _
      rw [decide_eq_false e2]; rfl
    · exact bind_of (check_lit (boolV false) (by show (0 : Nat) ≤ _; omega)) (fin_answ _ _ rfl)
  rw [if_neg e3]
  refine (c_false (decide_eq_false e3)).trans ?_
  by_cases h2 : 2 ≤ s.size
  · refine (c_true (decide_eq_true (by show (2 : Int) ≤ (s.size : Int); omega))).trans ?_
    obtain ⟨c, hc⟩ := head_of h2
    obtain ⟨d, hd⟩ := last_of h2
    have w1 : qw .i64 ((s.size : Int) - 1) = (s.size : Int) - 1 := wrap64 (by omega) (by omega)
    have u1 : upTo ((s.size : Int) - 1) (s.size : Int) = true := by unfold upTo; simp; omega
    have u2 : upTo (1 : Int) ((s.size : Int) - 1) = true := by unfold upTo; simp; omega
    refine bind_of (x := c) (by rw [← hc]; exact str0 s) ?_
    by_cases hq : c = 34
    · refine (c_true (by rw [c34]; exact decide_eq_true hq)).trans ?_
      refine bind_of (x := d) (by rw [← hd, ← strLast s h2]; show strAt s (qw .i64 ((s.size : Int) - 1)) = _; rw [w1]) ?_
      by_cases hq2 : d = 34
      · rw [if_pos ⟨h2, by rw [hc, hq], by rw [hd, hq2]⟩]
        refine (c_true (by rw [c34]; exact decide_eq_true hq2)).trans ?_
        refine (c_true (by show upTo (qw .i64 ((s.size : Int) - 1)) (s.size : Int) = true; rw [w1]; exact u1)).trans ?_
        refine (c_true (by show upTo (1 : Int) (qw .i64 ((s.size : Int) - 1)) = true; rw [w1]; exact u2)).trans ?_
        refine bind_of (x := (textV (s.extract 1 (s.size - 1)), ())) ?_ ?_
        · show r127 (s.extract 1 (qi (qw .i64 ((s.size : Int) - 1))), ()) = _
          rw [w1, show qi ((s.size : Int) - 1) = s.size - 1 by omega]
          rfl
        · exact bind_of (check_lit (textV (s.extract 1 (s.size - 1))) (by have := mid_size s (s.size - 1); show (s.extract 1 (s.size - 1)).size ≤ _; omega)) (fin_answ _ _ rfl)
      · rw [if_neg (by rintro ⟨_, _, h3⟩; rw [hd] at h3; exact hq2 (Option.some.inj h3))]
        refine (c_false (by rw [c34]; exact decide_eq_false hq2)).trans ?_
        exact hnum _ rfl
    · rw [if_neg (by rintro ⟨_, h3, _⟩; rw [hc] at h3; exact hq (Option.some.inj h3))]
      refine (c_false (by rw [c34]; exact decide_eq_false hq)).trans ?_
      exact hnum _ rfl
  · rw [if_neg (fun hq => h2 hq.1)]
    refine (c_false (decide_eq_false (by show ¬ (2 : Int) ≤ (s.size : Int); omega))).trans ?_
    exact hnum _ rfl
end Go.Proofs.YtdfgfjnpllncdaaGreatDoor.I

namespace Go.Proofs.YtdfgfjnpllncdaaGreatDoor.I
open Go.RowKit
set_option linter.unusedVariables false
set_option linter.unusedSimpArgs false
set_option linter.constructorNameAsVariable false
abbrev Tk := ByteArray × Int × Unit
abbrev TokS := List Tk
abbrev PM := TokS × Bool × Unit
def toks (l : Toks) : TokS := l.map fun s => (s, (kindB s, ()))
def Ev (P : Nat → Prop) : Prop := ∃ N, ∀ n, N ≤ n → P n
theorem ev_succ {P Q : Nat → Prop} (h : Ev P) (k : ∀ n, P n → Q (n + 1)) : Ev Q := by
  obtain ⟨N, h⟩ := h
  refine ⟨N + 1, fun n hn => ?_⟩
  obtain ⟨m, rfl⟩ : ∃ m, n = m + 1 := ⟨n - 1, by omega⟩
  exact k m (h m (by omega))
theorem ev_mono {P Q : Nat → Prop} (h : Ev P) (k : ∀ n, P n → Q n) : Ev Q := by
  obtain ⟨N, h⟩ := h
  exact ⟨N, fun n hn => k n (h n hn)⟩
theorem ev_and {P Q : Nat → Prop} (h : Ev P) (k : Ev Q) : Ev (fun n => P n ∧ Q n) := by
  obtain ⟨N, h⟩ := h
  obtain ⟨M, k⟩ := k
  exact ⟨max N M, fun n hn => ⟨h n (by omega), k n (by omega)⟩⟩
theorem ev_all {P : Nat → Prop} (k : ∀ n, P n) : Ev P := ⟨0, fun n _ => k n⟩
/-- The answer of a parser. -/
def resP (r : Option (DExp × Toks)) (y : Option ((DExp × Unit) × PM)) : Prop := match r with
  | some (e, l) => y = some ((e, ()), (toks l, (false, ())))
  | none => ∃ e tk, y = some ((e, ()), (tk, (true, ())))
def sgn (op : Nat) : ByteArray := ((signL.find? fun p => decide (p.1 = op)).map (·.2)).getD emptyS
def opsL (n : Nat) : List Int := if n = 1 then [3] else if n = 2 then [4] else if n = 4 then [6, 7, 9, 11, 8, 10] else if n = 5 then [12, 13] else [14, 15, 16]
theorem signL_ok : ∀ p ∈ signL, p.2 = sgn p.1 ∧ (p.1 : Int) ∈ opsL (lev p.1) ∧ (kindB p.2 = 119 ∨ kindB p.2 = 115) := by decide +kernel
theorem opsL_ok : ∀ n ∈ [1, 2, 4, 5, 6], ∀ op ∈ opsL n, 0 ≤ op ∧ opOf (sgn op.toNat) = some op.toNat ∧ lev op.toNat = n ∧ (kindB (sgn op.toNat) = 119 ∨ kindB (sgn op.toNat) = 115) := by decide +kernel
theorem binL_mem {n : Nat} (h : BinL n) : n ∈ [1, 2, 4, 5, 6] := by
  unfold BinL at h
  simp only [List.mem_cons, List.not_mem_nil, or_false]
  omega
theorem opAt_some {n : Nat} {l : Toks} {op : Nat} (h : opAt n l = some op) : l.head? = some (sgn op) ∧ (op : Int) ∈ opsL n := by
  cases l with
  | nil => cases h
  | cons s l =>
    simp only [opAt] at h
    split at h
    · rename_i o ho
      split at h
      · rename_i hl
        injection h with h
        subst h
        unfold opOf at ho
        obtain ⟨p, hp, rfl⟩ := Option.map_eq_some_iff.1 ho
        have hm := List.mem_of_find?_eq_some hp
        have hs := List.find?_some hp
        have hs : s = p.2 := of_decide_eq_true hs
        obtain ⟨h1, h2, _⟩ := signL_ok p hm
        exact ⟨by rw [List.head?_cons, hs, h1], by rw [← hl]; exact h2⟩
      · cases h
    · cases h
theorem opAt_of {n : Nat} {l : Toks} {op : Int} (hb : BinL n) (hm : op ∈ opsL n) (hh : l.head? = some (sgn op.toNat)) : opAt n l = some op.toNat := by
  obtain ⟨h0, h1, h2, _⟩ := opsL_ok n (binL_mem hb) op hm
  cases l with
  | nil => cases hh
  | cons s l =>
    simp only [List.head?_cons, Option.some.injEq] at hh
    subst hh
    simp only [opAt, h1, h2, if_true]
def peekT (tk : TokS) : Tk := tk.headD (emptyS, (0, ()))
theorem peek_eq (d : PM) : r73 () d = some ((peekT d.1, ()), d) := by
  obtain ⟨tk, b, ⟨⟩⟩ := d
  unfold r73
  cases tk with
  | nil => rfl
  | cons t tk =>
    have h1 : decide (((t :: tk).length : Int) = 0) = false := decide_eq_false (by simp only [List.length_cons]; omega)
    have h2 : inB (0 : Int) (t :: tk).length = true := by unfold inB; simp
    simp only [h1, h2, cond_true, cond_false]
    rfl
def isTk (t : Tk) (s : ByteArray) : Prop := t.1 = s ∧ (t.2.1 = 119 ∨ t.2.1 = 115)
instance (t : Tk) (s : ByteArray) : Decidable (isTk t s) := by unfold isTk; exact inferInstance
theorem take_any (s : ByteArray) (d : PM) : r71 (s, ()) d = some (if isTk (peekT d.1) s then ((true, ()), (d.1.drop 1, (d.2.1, ()))) else ((false, ()), d)) := by
  obtain ⟨tk, b, ⟨⟩⟩ := d
  unfold r71
  have hp := peek_eq (tk, (b, ()))
  have hp : r73 Unit.unit (tk, (b, Unit.unit)) = _ := hp
  simp only [hp, Option.bind_some]
  have hu : (peekT tk).2.1 = 119 ∨ (peekT tk).2.1 = 115 → upTo (1 : Int) (tk.length : Int) = true := fun h => by
    cases tk with
    | nil => simp [peekT] at h
    | cons t tk => unfold upTo; simp; omega
  unfold isTk
  by_cases h1 : (peekT tk).1 = s
  · by_cases h2 : (peekT tk).2.1 = 119
    · simp [h1, h2, hu (.inl h2)]
    · by_cases h3 : (peekT tk).2.1 = 115
      · simp [h1, h2, h3, hu (.inr h3)]
      · simp [h1, h2, h3]
  · simp [h1]
theorem peek_toks (l : Toks) : peekT (toks l) = match l with
    | [] => (emptyS, (0, ()))
    | s :: _ => (s, (kindB s, ())) := by
  cases l <;> rfl
theorem take_tok (s : ByteArray) (hs : kindB s = 119 ∨ kindB s = 115) (l : Toks) (b : Bool) : r71 (s, ()) (toks l, (b, ())) = some (if l.head? = some s then ((true, ()), (toks (l.drop 1), (b, ()))) else ((false, ()), (toks l, (b, ())))) := by
  rw [take_any]
  have he : isTk (peekT (toks l)) s ↔ l.head? = some s := by
    cases l with
    | nil =>
      simp only [peek_toks, isTk, List.head?_nil]
      constructor
      · intro h; simp at h
      · intro h; cases h
    | cons t l =>
      simp only [peek_toks, isTk, List.head?_cons, Option.some.injEq]
      constructor
      · exact fun h => h.1
      · intro h; subst h; exact ⟨rfl, hs⟩
  simp only [he]
  have : (toks l).drop 1 = toks (l.drop 1) := by unfold toks; rw [List.map_drop]
  rw [this]
theorem need_any (s : ByteArray) (d : PM) : r102 (s, ()) d = some ((), (if isTk (peekT d.1) s then (d.1.drop 1, (d.2.1, ())) else (d.1, (true, ())))) := by
  unfold r102
  have ht := take_any s d
  have ht : r71 (s, Unit.unit) (d.1, (d.2.1, Unit.unit)) = _ := ht
  simp only [ht, Option.bind_some]
  split <;> rfl
theorem need_tok (s : ByteArray) (hs : kindB s = 119 ∨ kindB s = 115) (l : Toks) (b : Bool) : r102 (s, ()) (toks l, (b, ())) = some ((), (if l.head? = some s then (toks (l.drop 1), (b, ())) else (toks l, (true, ())))) := by
  unfold r102
  have ht := take_tok s hs l b
  have ht : r71 (s, Unit.unit) (toks l, (b, Unit.unit)) = _ := ht
  simp only [ht, Option.bind_some]
  split <;> rfl
theorem need_bad (s : ByteArray) (tk : TokS) : ∃ tk', r102 (s, ()) (tk, (true, ())) = some ((), (tk', (true, ()))) := by
  rw [need_any]
  split
  · exact ⟨_, rfl⟩
  · exact ⟨_, rfl⟩
/-- One operator, taken. -/
theorem bin1_eq {n : Nat} (hb : BinL n) (op : Int) (hm : op ∈ opsL n) (l : Toks) (b : Bool) : r101 (op, ()) (toks l, (b, ())) = some (if l.head? = some (sgn op.toNat) then ((true, ()), (toks (l.drop 1), (b, ()))) else ((false, ()), (toks l, (b, ())))) := by
  obtain ⟨_, _, _, hk⟩ := opsL_ok n (binL_mem hb) op hm
  have ht := take_tok (sgn op.toNat) hk l b
  have key : r101 (op, ()) (toks l, (b, ())) = Option.bind (r71 (sgn op.toNat, ()) (toks l, (b, ()))) (fun x0 => some ((x0.1.1, ()), (x0.2.1, (x0.2.2.1, ())))) := by
    have hall : op ∈ ([3, 4, 6, 7, 8, 9, 10, 11, 12, 13, 14, 15, 16] : List Int) := by
      have : ∀ n ∈ [1, 2, 4, 5, 6], ∀ op ∈ opsL n, op ∈ ([3, 4, 6, 7, 8, 9, 10, 11, 12, 13, 14, 15, 16] : List Int) := by decide +kernel
      exact this n (binL_mem hb) op hm
    simp only [List.mem_cons, List.not_mem_nil, or_false] at hall
    rcases hall with rfl | rfl | rfl | rfl | rfl | rfl | rfl | rfl | rfl | rfl | rfl | rfl | rfl <;> rfl
  rw [key, ht]
  split <;> rfl
@[reducible] def embIx (i : Int) (s : PM) : (Int × TokS × Bool × Unit) × Unit := ((i, (s.1, (s.2.1, ()))), ())
theorem idx_eq {n : Nat} (hb : BinL n) (l : Toks) (b : Bool) :
    (∃ (j : Nat) (op : Int), (opsL n)[j]? = some op ∧ opAt n l = some op.toNat ∧ 0 ≤ op ∧ r100_101 (opsL n, ()) (toks l, (b, ())) = some (((j : Int), ()), (toks (l.drop 1), (b, ())))) ∨
      (opAt n l = none ∧ r100_101 (opsL n, ()) (toks l, (b, ())) = some ((-1, ()), (toks l, (b, ())))) := by
  have hlen : (opsL n).length ≤ 6 := by
    have : ∀ n ∈ [1, 2, 4, 5, 6], (opsL n).length ≤ 6 := by decide
    exact this n (binL_mem hb)
  unfold r100_101
  refine bind_loopQ (fun r => (∃ (j : Nat) (op : Int), (opsL n)[j]? = some op ∧ opAt n l = some op.toNat ∧ 0 ≤ op ∧ r = some (((j : Int), ()), (toks (l.drop 1), (b, ())))) ∨ (opAt n l = none ∧ r = some ((-1, ()), (toks l, (b, ())))))
    (loop_up embIx (opsL n).length (fun j s => s = (toks l, (b, ())) ∧ ∀ op ∈ (opsL n).take j, l.head? ≠ some (sgn op.toNat))
      (fun o => (∃ (j : Nat) (op : Int), (opsL n)[j]? = some op ∧ l.head? = some (sgn op.toNat) ∧ o = Sum.inl (((j : Int), (toks (l.drop 1), (b, ()))), ())) ∨ ((∀ op ∈ opsL n, l.head? ≠ some (sgn op.toNat)) ∧ o = Sum.inr (Sum.inl ((toks l, (b, ())), ()))))
      (fun j s hj hI => ?_) (fun s hI => ?_) 0 _ (Nat.zero_le _) ⟨rfl, by simp⟩) (fun o ho => ?_)
  · obtain ⟨rfl, hI⟩ := hI
    obtain ⟨op, hop⟩ := get_lt hj
    have hm := List.mem_of_getElem? hop
    have h1 := bin1_eq hb op hm l b
    have h1 : r101 (op, Unit.unit) (toks l, (b, Unit.unit)) = _ := h1
    simp only [embIx, dec_lt hj, inB_lt hj, Int.toNat_natCast, hop, cond_true, Option.bind_some, h1]
    by_cases hh : l.head? = some (sgn op.toNat)
    · refine .inr ⟨_, by rw [if_pos hh]; rfl, .inl ⟨j, op, hop, hh, rfl⟩⟩
    · refine .inl ⟨_, by rw [if_neg hh]; simp only [cond_false]; rw [wrapS hj (by omega)], rfl, fun o ho => ?_⟩
      rw [take_succ hop, List.mem_append, List.mem_singleton] at ho
      rcases ho with ho | rfl
      · exact hI o ho
      · exact hh
  · obtain ⟨rfl, hI⟩ := hI
    rw [List.take_length] at hI
    exact ⟨_, by simp only [embIx, dec_nlt, cond_false], .inr ⟨hI, rfl⟩⟩
  · rcases ho with ⟨j, op, h1, h2, rfl⟩ | ⟨h1, rfl⟩
    · have hm := List.mem_of_getElem? h1
      exact .inl ⟨j, op, h1, opAt_of hb hm h2, (opsL_ok n (binL_mem hb) op hm).1, rfl⟩
    · refine .inr ⟨?_, rfl⟩
      cases ho : opAt n l with
      | none => rfl
      | some op =>
        obtain ⟨h2, h3⟩ := opAt_some ho
        exact absurd h2 (by have := h1 _ h3; simpa using this)
end Go.Proofs.YtdfgfjnpllncdaaGreatDoor.I

namespace Go.Proofs.YtdfgfjnpllncdaaGreatDoor.I
open Go.RowKit
open _root_.Decidable renaming decide → qd
open _root_.Option renaming bind → qb, some → qs, none → qn
open _root_.Unit renaming unit → qu
open IntKind renaming wrap → qw, i64 → q6
open _root_.HAdd renaming hAdd → qa
open _root_.Nat renaming cast → qc
open _root_.ByteArray renaming extract → qx, size → qz, mk → qm
open _root_.List renaming length → ql, cons → qk, nil → qe, toArray → qt
open _root_.HAppend renaming hAppend → qp
open _root_.Bool renaming not → qo, and → qj, true → q1, false → q0
open _root_.Int renaming toNat → qi
open _root_.UInt8 renaming toNat → qv
open _root_.Sum renaming inl → qf, inr → qr
open _root_.GetElem? renaming getElem? → qg
open _root_.LE renaming le → qq
open _root_.LT renaming lt → qy
set_option linter.unusedVariables false
set_option linter.unusedSimpArgs false
set_option linter.constructorNameAsVariable false
theorem leaf_sub {l : Toks} {e : DExp} {l1 : Toks} (h : leafOf l = some (some (e, l1))) : ∀ s ∈ l1, s ∈ l := by
  cases l with
  | nil => cases h
  | cons s l =>
    simp only [leafOf] at h
    intro x hx
    repeat' split at h
    all_goals first
      | (cases h; done)
      | (obtain ⟨_, rfl⟩ := Prod.mk.inj h
         simp [hx])
      | (obtain ⟨_, rfl⟩ := Prod.mk.inj (Option.some.inj h)
         simp [hx])
      | (obtain ⟨_, rfl⟩ := Prod.mk.inj (Option.some.inj (Option.some.inj h))
         simp [hx])
/-- What is left was there. -/
theorem ps_sub {q : Req} {l : Toks} {r : Option (DExp × Toks)} (h : Ps q l r) : ∀ {e l1}, r = some (e, l1) → ∀ s ∈ l1, s ∈ l := by
  induction h with
  | bin _ _ _ ih1 ih2 => intro e l1 hr s hs; exact ih1 rfl s (ih2 hr s hs)
  | stop h => intro e l1 hr s hs; injection hr with hr; injection hr with h1 h2; subst h2; exact hs
  | go _ _ _ _ _ ih1 ih2 => intro e l1 hr s hs; exact List.mem_cons_of_mem _ (ih1 rfl s (ih2 hr s hs))
  | go4 _ _ ih1 => intro e l1 hr s hs; injection hr with hr; injection hr with h1 h2; subst h2; exact List.mem_cons_of_mem _ (ih1 rfl s hs)
  | notY _ ih1 => intro e l1 hr s hs; injection hr with hr; injection hr with h1 h2; subst h2; exact List.mem_cons_of_mem _ (ih1 rfl s hs)
  | nonot _ _ ih1 => intro e l1 hr s hs; exact ih1 hr s hs
  | neg _ _ ih1 => intro e l1 hr s hs; injection hr with hr; injection hr with h1 h2; subst h2; exact List.mem_cons_of_mem _ (ih1 rfl s hs)
  | negNum _ _ => intro e l1 hr s hs; injection hr with hr; injection hr with h1 h2; subst h2; exact List.mem_cons_of_mem _ (List.mem_cons_of_mem _ hs)
  | prim _ _ ih1 => intro e l1 hr s hs; exact ih1 hr s hs
  | par _ ih1 => intro e l1 hr s hs; injection hr with hr; injection hr with h1 h2; subst h2; exact List.mem_cons_of_mem _ (ih1 rfl s (List.mem_cons_of_mem _ hs))
  | leaf hl => intro e l1 hr s hs; subst hr; exact leaf_sub hl s hs
  | fnY _ _ _ ih1 => intro e l1 hr s hs; exact List.mem_cons_of_mem _ (List.mem_cons_of_mem _ (ih1 hr s hs))
  | argsEnd => intro e l1 hr s hs; injection hr with hr; injection hr with h1 h2; subst h2; exact List.mem_cons_of_mem _ hs
  | argOne _ _ ih1 ih2 => intro e l1 hr s hs; exact ih1 rfl s (ih2 hr s hs)
  | argMore _ _ _ ih1 ih2 => intro e l1 hr s hs; exact List.mem_cons_of_mem _ (ih1 rfl s (ih2 hr s hs))
  | _ => intro e l1 hr; cases hr
def TokOk (l : Toks) : Prop := ∀ s ∈ l, s.size ≤ 4000
theorem TokOk.sub {q : Req} {l : Toks} {e : DExp} {l1 : Toks} (h : TokOk l) (hp : Ps q l (some (e, l1))) : TokOk l1 := fun s hs => h s (ps_sub hp rfl s hs)
theorem TokOk.tail {s : ByteArray} {l : Toks} (h : TokOk (s :: l)) : TokOk l := fun x hx => h x (List.mem_cons_of_mem _ hx)
theorem kNot : kindB tNot = 119 ∨ kindB tNot = 115 := by decide +kernel
theorem kMinus : kindB tMinus = 119 ∨ kindB tMinus = 115 := by decide +kernel
theorem kOpen : kindB tOpen = 119 ∨ kindB tOpen = 115 := by decide +kernel
theorem kClose : kindB tClose = 119 ∨ kindB tClose = 115 := by decide +kernel
theorem kComma : kindB tComma = 119 ∨ kindB tComma = 115 := by decide +kernel
theorem kDot : kindB tDot = 119 ∨ kindB tDot = 115 := by decide +kernel
def zE : DExp := .node (0, (zeroV0, (emptyS, ()))) []
theorem preV_num {s : ByteArray} {c : UInt8} {l : List UInt8} (h : s.data.toList = c :: l) (hc : c = 45 ∨ (48 ≤ c.toNat ∧ c.toNat ≤ 57)) : preV s = preN s := by
  have ne : ∀ (d : UInt8) (t : List UInt8), d ≠ 45 → ¬ (48 ≤ d.toNat ∧ d.toNat ≤ 57) → s ≠ bs (d :: t) := by
    rintro d t h1 h2 rfl
    have : d :: t = c :: l := h
    injection this with e _
    subst e
    rcases hc with hc | hc
    · exact h1 hc
    · exact h2 hc
  have n1 : s ≠ tNil := ne 110 _ (by decide) (by decide)
  have n2 : s ≠ tTrue := ne 116 _ (by decide) (by decide)
  have n3 : s ≠ tFalse := ne 102 _ (by decide) (by decide)
  rw [preV_eq, if_neg n1, if_neg n2, if_neg n3, if_neg]
  rintro ⟨_, h2, _⟩
  rw [h] at h2
  injection h2 with h2
  subst h2
  rcases hc with hc | hc
  · exact absurd hc (by decide)
  · exact absurd hc (by decide)
theorem kind_digit {d : ByteArray} (h : kindB d = 110) : ∃ c l, d.data.toList = c :: l ∧ 48 ≤ c.toNat ∧ c.toNat ≤ 57 := by
  unfold kindB at h
  split at h
  · cases h
  · rename_i c l hc
    repeat' split at h
    all_goals first
      | (cases h; done)
      | (rename_i h1; exact ⟨c, l, hc, h1⟩)
theorem app_list (a b : ByteArray) : (a ++ b).data.toList = a.data.toList ++ b.data.toList := by
  rw [ByteArray.data_append, Array.toList_append]
/-- A number, with its sign. -/
theorem num_eq (sg d : ByteArray) (l : Toks) (hd : kindB d = 110) (hs : sg = emptyS ∨ sg = tMinus) (hz : d.size ≤ 4000) :
    r74 (sg, ()) (toks (d :: l), (false, ())) = some (if (vread (sg ++ d)).2 = 0 then ((nodeL (vread (sg ++ d)).1, ()), (toks l, (false, ()))) else ((zE, ()), (toks l, (true, ())))) := by
  obtain ⟨c, l0, hc, hc1⟩ := kind_digit hd
  have hpre : preV (sg ++ d) = preN (sg ++ d) := by
    rcases hs with rfl | rfl
    · exact preV_num (c := c) (l := l0) (by rw [app_list, hc]; rfl) (.inr hc1)
    · exact preV_num (c := 45) (l := c :: l0) (by rw [app_list, hc]; rfl) (.inl rfl)
  have hsz : (sg ++ d).size ≤ 4001 := by
    rw [ByteArray.size_append]
    rcases hs with rfl | rfl
    · have : emptyS.size = 0 := rfl
      omega
    · have : tMinus.size = 1 := rfl
      omega
  have hsz2 : decide (9223372036854775807 < sg.size + d.size) = false := by
    rw [ByteArray.size_append] at hsz
    exact decide_eq_false (by omega)
  have hp := peek_eq (toks (d :: l), (false, ()))
  rw [peek_toks] at hp
  have hu : upTo (1 : Int) ((toks (d :: l)).length : Int) = true := by unfold upTo toks; simp; omega
  have ha := atoi_eq (sg ++ d) (by omega)
  have ha : r105 ((sg ++ d), qu) = _ := ha
  unfold r74
  rw [hp, Option.bind_some]
  refine (c_false hsz2).trans ?_
  refine (c_true hu).trans ?_
  show qb (r105 ((sg ++ d), qu)) _ = _
  rw [ha, Option.bind_some]
  have hv : r106 ((atoiR (sg ++ d)).1, qu) = some (numV (atoiR (sg ++ d)).1, ()) := rfl
  rw [hv, Option.bind_some, vread_answ, hpre]
  by_cases hok : ∃ n, Lib.atoiAll (sg ++ d).data.toList = .ok n
  · obtain ⟨n, hn⟩ := hok
    have hb := Lib.atoiAll_bounds hn
    have hi : r93 (n, ()) = some (bs (Lib.itoa n), ()) := itoa_eq hb
    have hck := check_lit (numV n) (by show (0 : Nat) ≤ _; omega)
    rw [atoiR_ok hn]
    refine (c_true rfl).trans ?_
    rw [hi, Option.bind_some]
    by_cases he : bs (Lib.itoa n) = sg ++ d
    · have hpn : preN (sg ++ d) = some (numV n) := by unfold preN; rw [hn]; exact if_pos he
      rw [hpn, answ_some]
      refine (c_true (decide_eq_true he)).trans ?_
      rw [hck, Option.bind_some]
      by_cases h0 : checkV (numV n) = 0
      · refine (c_true (decide_eq_true h0)).trans ?_
        rw [if_pos h0, if_pos rfl]
        rfl
      · refine (c_false (decide_eq_false h0)).trans ?_
        rw [if_neg h0, if_neg h0]
        rfl
    · have hpn : preN (sg ++ d) = none := by unfold preN; rw [hn]; exact if_neg he
      rw [hpn]
      refine (c_false (decide_eq_false he)).trans ?_
      rfl
  · obtain ⟨h1, h2⟩ := atoiR_no (s := sg ++ d) (fun n hn => hok ⟨n, hn⟩)
    rw [h2, h1]
    rfl
abbrev BSt := Int × Int × Int × ByteArray × Bool × ByteArray × List DExp × PM
abbrev OSt := TokS × Bool × Int × Int × Int × ByteArray × Bool × ByteArray × List DExp × Unit
def bst (e : DExp) (d : PM) : BSt × Unit := (((Tree.val e).1, ((Tree.val e).2.1.1, ((Tree.val e).2.1.2.1, ((Tree.val e).2.1.2.2.1, ((Tree.val e).2.1.2.2.2.1, ((Tree.val e).2.2.1, (Tree.kids e, d))))))), ())
def ost (e : DExp) (tk : TokS) (b : Bool) : OSt × Unit := ((tk, (b, ((Tree.val e).1, ((Tree.val e).2.1.1, ((Tree.val e).2.1.2.1, ((Tree.val e).2.1.2.2.1, ((Tree.val e).2.1.2.2.2.1, ((Tree.val e).2.2.1, (Tree.kids e, ()))))))))), ())
noncomputable def stepB (m : Nat) (n : Int) (ops : List Int) : BSt × Unit → Option ((BSt × Unit) ⊕ ((OSt × Unit) ⊕ Empty)) := fun x1 =>
  cond (qo x1.1.2.2.2.2.2.2.2.2.1)
    (qb (r100_101 (ops, ()) x1.1.2.2.2.2.2.2.2) fun x2 =>
      cond (decide (x2.1.1 < (0 : Int))) (some (qr (qf ((x2.2.1, (x2.2.2.1, (x1.1.1, (x1.1.2.1, (x1.1.2.2.1, (x1.1.2.2.2.1, (x1.1.2.2.2.2.1, (x1.1.2.2.2.2.2.1, (x1.1.2.2.2.2.2.2.1, ()))))))))), ()))))
        (cond (inB x2.1.1 ops.length)
          (qb (ops[qi x2.1.1]?) fun x3 => qb (r43 m (qw .i64 (n + 1), ()) x2.2) fun x4 =>
            cond (decide (n = (4 : Int)))
              (some (qr (qf ((x4.2.1, (x4.2.2.1, (x3, ((0 : Int), ((0 : Int), (emptyS, (false, (emptyS, ([Tree.node (x1.1.1, ((x1.1.2.1, (x1.1.2.2.1, (x1.1.2.2.2.1, (x1.1.2.2.2.2.1, ())))), (x1.1.2.2.2.2.2.1, ()))) x1.1.2.2.2.2.2.2.1, Tree.node (Tree.val x4.1.1) (Tree.kids x4.1.1)], ()))))))))), ()))))
              (some (qf ((x3, ((0 : Int), ((0 : Int), (emptyS, (false, (emptyS, ([Tree.node (x1.1.1, ((x1.1.2.1, (x1.1.2.2.1, (x1.1.2.2.2.1, (x1.1.2.2.2.2.1, ())))), (x1.1.2.2.2.2.2.1, ()))) x1.1.2.2.2.2.2.2.1, Tree.node (Tree.val x4.1.1) (Tree.kids x4.1.1)], x4.2))))))), ()))))
          none))
    (some (qr (qf ((x1.1.2.2.2.2.2.2.2.1, (x1.1.2.2.2.2.2.2.2.2.1, (x1.1.1, (x1.1.2.1, (x1.1.2.2.1, (x1.1.2.2.2.1, (x1.1.2.2.2.2.1, (x1.1.2.2.2.2.2.1, (x1.1.2.2.2.2.2.2.1, ()))))))))), ()))))
def finB : ((OSt × Unit) ⊕ Empty) → Option ((DExp × Unit) × PM) := sumE (fun x1 => some ((Tree.node (x1.1.2.2.1, ((x1.1.2.2.2.1, (x1.1.2.2.2.2.1, (x1.1.2.2.2.2.2.1, (x1.1.2.2.2.2.2.2.1, ())))), (x1.1.2.2.2.2.2.2.2.1, ()))) x1.1.2.2.2.2.2.2.2.2.1, ()), (x1.1.1, (x1.1.2.1, ())))) emptyE
theorem binary_eq (m : Nat) (n : Int) (ops : List Int) (d : PM) : r70 (m + 1) (n, (ops, ())) d = qb (r43 m (qw .i64 (n + 1), ()) d) fun x0 => qb (loop (stepB m n ops) (bst x0.1.1 x0.2)) finB := by
  rw [r70_succ]
  rfl
theorem finB_ost (e : DExp) (tk : TokS) (b : Bool) : finB (.inl (ost e tk b)) = some ((e, ()), (tk, (b, ()))) := by
  cases e with
  | node v ks =>
    obtain ⟨v1, ⟨v2, v3, v4, v5, ⟨⟩⟩, v6, ⟨⟩⟩ := v
    rfl
def resC (r : Option (DExp × Toks)) (y : Option ((OSt × Unit) ⊕ Empty)) : Prop := match r with
  | some (e, l) => y = some (.inl (ost e (toks l) false))
  | none => ∃ e tk, y = some (.inl (ost e tk true))
theorem stepB_bad (m : Nat) (n : Int) (ops : List Int) (e : DExp) (tk : TokS) : stepB m n ops (bst e (tk, (true, ()))) = some (.inr (.inl (ost e tk true))) := rfl
theorem stepB_stop {m n : Nat} (hb : BinL n) {l : Toks} (e : DExp) (h : opAt n l = none) : stepB m n (opsL n) (bst e (toks l, (false, ()))) = some (.inr (.inl (ost e (toks l) false))) := by
  rcases idx_eq hb l false with ⟨j, op, h1, h2, _⟩ | ⟨_, h2⟩
  · rw [h] at h2; cases h2
  · have h2 : r100_101 (opsL n, ()) (bst e (toks l, (false, ()))).1.2.2.2.2.2.2.2 = _ := h2
    unfold stepB
    refine (c_true rfl).trans ?_
    rw [h2]
    rfl
theorem stepB_go {m n : Nat} (hb : BinL n) {s : ByteArray} {l : Toks} {op : Nat} (e : DExp) (h : opAt n (s :: l) = some op) {e2 : DExp} {d2 : PM} (hat : r43 m (((n + 1 : Nat) : Int), ()) (toks l, (false, ())) = some ((e2, ()), d2)) :
    stepB m n (opsL n) (bst e (toks (s :: l), (false, ()))) = if n = 4 then some (.inr (.inl (ost (nodeO (op : Int) [e, e2]) d2.1 d2.2.1))) else some (.inl (bst (nodeO (op : Int) [e, e2]) d2)) := by
  rcases idx_eq hb (s :: l) false with ⟨j, o, h1, h2, h0, h3⟩ | ⟨h2, _⟩
  · have ho : (op : Int) = o := by rw [h] at h2; injection h2 with h2; omega
    have h3 : r100_101 (opsL n, ()) (bst e (toks (s :: l), (false, ()))).1.2.2.2.2.2.2.2 = some (((j : Int), ()), (toks l, (false, ()))) := h3
    have hj := lt_of_get h1
    have hw : qw .i64 ((n : Int) + 1) = ((n + 1 : Nat) : Int) := by
      have : n ≤ 6 := by unfold BinL at hb; omega
      rw [wrap64 (by omega) (by omega)]; omega
    unfold stepB
    refine (c_true rfl).trans ?_
    rw [h3, Option.bind_some]
    refine (c_false (decide_eq_false (by simp))).trans ?_
    refine (c_true (inB_lt hj)).trans ?_
    simp only [Int.toNat_natCast, h1, Option.bind_some, hw]
    rw [hat, Option.bind_some, ← ho]
    by_cases h4 : n = 4
    · rw [if_pos h4]
      refine (c_true (decide_eq_true (by omega))).trans ?_
      have e1 := nd_eta e
      have e2' := nd_eta2 e2
      show some (qr (qf ((d2.1, (d2.2.1, ((op : Int), ((0 : Int), ((0 : Int), (emptyS, (false, (emptyS, ([Tree.node ((Tree.val e).1, (((Tree.val e).2.1.1, ((Tree.val e).2.1.2.1, ((Tree.val e).2.1.2.2.1, ((Tree.val e).2.1.2.2.2.1, ())))), ((Tree.val e).2.2.1, ()))) (Tree.kids e), Tree.node (Tree.val e2) (Tree.kids e2)], ()))))))))), ()))) = _
      rw [e1, e2']
      rfl
    · rw [if_neg h4]
      refine (c_false (decide_eq_false (by omega))).trans ?_
      have e1 := nd_eta e
      have e2' := nd_eta2 e2
      show some (qf (((op : Int), ((0 : Int), ((0 : Int), (emptyS, (false, (emptyS, ([Tree.node ((Tree.val e).1, (((Tree.val e).2.1.1, ((Tree.val e).2.1.2.1, ((Tree.val e).2.1.2.2.1, ((Tree.val e).2.1.2.2.2.1, ())))), ((Tree.val e).2.2.1, ()))) (Tree.kids e), Tree.node (Tree.val e2) (Tree.kids e2)], d2))))))), ())) = _
      rw [e1, e2']
      rfl
  · rw [h] at h2; cases h2
end Go.Proofs.YtdfgfjnpllncdaaGreatDoor.I

namespace Go.Proofs.YtdfgfjnpllncdaaGreatDoor.I
open Go.RowKit
open _root_.Decidable renaming decide → qd
open _root_.Option renaming bind → qb, some → qs, none → qn
open _root_.Unit renaming unit → qu
open IntKind renaming wrap → qw, i64 → q6
open _root_.HAdd renaming hAdd → qa
open _root_.Nat renaming cast → qc
open _root_.ByteArray renaming extract → qx, size → qz, mk → qm
open _root_.List renaming length → ql, cons → qk, nil → qe, toArray → qt
open _root_.HAppend renaming hAppend → qp
open _root_.Bool renaming not → qo, and → qj, true → q1, false → q0
open _root_.Int renaming toNat → qi
open _root_.UInt8 renaming toNat → qv
open _root_.Sum renaming inl → qf, inr → qr
open _root_.GetElem? renaming getElem? → qg
open _root_.LE renaming le → qq
open _root_.LT renaming lt → qy
set_option linter.unusedVariables false
set_option linter.unusedSimpArgs false
set_option linter.constructorNameAsVariable false
theorem loop_inl {D O : Type} {step : D → Option (D ⊕ O)} {d d' : D} (h : step d = some (.inl d')) : loop step d = loop step d' := by rw [loop_eq, h]
theorem loop_inr {D O : Type} {step : D → Option (D ⊕ O)} {d : D} {o : O} (h : step d = some (.inr o)) : loop step d = some o := by rw [loop_eq, h]
abbrev ASt := Int × Int × Int × Int × ByteArray × Bool × ByteArray × List DExp × PM
def ast (i op : Int) (acc : List DExp) (d : PM) : ASt × Unit := ((i, (op, ((0 : Int), ((0 : Int), (emptyS, (false, (emptyS, (acc, d)))))))), ())
noncomputable def stepA (m : Nat) (k : Int) : ASt × Unit → Option ((ASt × Unit) ⊕ ((OSt × Unit) ⊕ Empty)) := fun x4 =>
  cond (decide (x4.1.1 < k))
    (cond (decide ((0 : Int) < x4.1.1))
      (qb (r102 (tComma, ()) x4.1.2.2.2.2.2.2.2.2) fun x5 => qb (r43 m ((1 : Int), ()) x5.2) fun x6 =>
        cond (fits (x4.1.2.2.2.2.2.2.2.1.length + [Tree.node (Tree.val x6.1.1) (Tree.kids x6.1.1)].length) 88)
          (some (qf ((qw .i64 (x4.1.1 + 1), (x4.1.2.1, (x4.1.2.2.1, (x4.1.2.2.2.1, (x4.1.2.2.2.2.1, (x4.1.2.2.2.2.2.1, (x4.1.2.2.2.2.2.2.1, (x4.1.2.2.2.2.2.2.2.1 ++ [Tree.node (Tree.val x6.1.1) (Tree.kids x6.1.1)], x6.2)))))))), ()))) none)
      (qb (r43 m ((1 : Int), ()) x4.1.2.2.2.2.2.2.2.2) fun x5 =>
        cond (fits (x4.1.2.2.2.2.2.2.2.1.length + [Tree.node (Tree.val x5.1.1) (Tree.kids x5.1.1)].length) 88)
          (some (qf ((qw .i64 (x4.1.1 + 1), (x4.1.2.1, (x4.1.2.2.1, (x4.1.2.2.2.1, (x4.1.2.2.2.2.1, (x4.1.2.2.2.2.2.1, (x4.1.2.2.2.2.2.2.1, (x4.1.2.2.2.2.2.2.2.1 ++ [Tree.node (Tree.val x5.1.1) (Tree.kids x5.1.1)], x5.2)))))))), ()))) none))
    (some (qr (qf ((x4.1.2.2.2.2.2.2.2.2.1, (x4.1.2.2.2.2.2.2.2.2.2.1, (x4.1.2.1, (x4.1.2.2.1, (x4.1.2.2.2.1, (x4.1.2.2.2.2.1, (x4.1.2.2.2.2.2.1, (x4.1.2.2.2.2.2.2.1, (x4.1.2.2.2.2.2.2.2.1, ()))))))))), ()))))
abbrev NO := (OSt × Unit) ⊕ ((Unit × Unit) ⊕ Empty)
abbrev ND := (Int × Unit) × Unit
/-- A function's name, and what is behind it. -/
noncomputable def armF (m : Nat) (op : Int) (d : PM) : Option (ND ⊕ NO) :=
  qb (r102 (tOpen, ()) d) fun x2 => qb (r60 (op, ())) fun x3 =>
    qb (loop (stepA m x3.1) (ast 0 op [] x2.2)) (sumE (fun x4 => qb (r102 (tClose, ()) (x4.1.1, (x4.1.2.1, ()))) fun x5 => some (qr (qf ((x5.2.1, (x5.2.2.1, x4.1.2.2)), ())))) emptyE)
theorem fnOf_some {s : ByteArray} {op : Int} (h : fnOf s = some op) : (op = 18 ∧ s = bs [105, 102]) ∨ (op = 19 ∧ s = bs [108, 101, 110]) ∨ (op = 20 ∧ s = bs [109, 105, 110]) ∨ (op = 21 ∧ s = bs [109, 97, 120]) := by
  unfold fnOf at h
  obtain ⟨p, hp, rfl⟩ := Option.map_eq_some_iff.1 h
  have hm := List.mem_of_find?_eq_some hp
  have hs := List.find?_some hp
  have hs : s = p.2 := of_decide_eq_true hs
  subst hs
  simp only [fnL, List.mem_cons, List.not_mem_nil, or_false] at hm
  rcases hm with rfl | rfl | rfl | rfl
  · exact .inl ⟨rfl, rfl⟩
  · exact .inr (.inl ⟨rfl, rfl⟩)
  · exact .inr (.inr (.inl ⟨rfl, rfl⟩))
  · exact .inr (.inr (.inr ⟨rfl, rfl⟩))
theorem fnOf_none {s : ByteArray} (h : fnOf s = none) : s ≠ bs [105, 102] ∧ s ≠ bs [108, 101, 110] ∧ s ≠ bs [109, 105, 110] ∧ s ≠ bs [109, 97, 120] := by
  unfold fnOf at h
  have h := List.find?_eq_none.1 (Option.map_eq_none_iff.1 h)
  exact ⟨fun e => h (18, bs [105, 102]) (by simp [fnL]) (decide_eq_true e), fun e => h (19, bs [108, 101, 110]) (by simp [fnL]) (decide_eq_true e), fun e => h (20, bs [109, 105, 110]) (by simp [fnL]) (decide_eq_true e), fun e => h (21, bs [109, 97, 120]) (by simp [fnL]) (decide_eq_true e)⟩
def finN (k : Int) (w : OSt × Unit) : Option ((DExp × Unit) × PM) := some ((Tree.node (w.1.2.2.1, ((w.1.2.2.2.1, (w.1.2.2.2.2.1, (w.1.2.2.2.2.2.1, (w.1.2.2.2.2.2.2.1, ())))), (w.1.2.2.2.2.2.2.2.1, ()))) w.1.2.2.2.2.2.2.2.2.1, ()), (w.1.1, (w.1.2.1, ())))
theorem finN_ost (k : Int) (e : DExp) (tk : TokS) (b : Bool) : finN k (ost e tk b) = some ((e, ()), (tk, (b, ()))) := finB_ost e tk b
theorem named_fn {m : Nat} {s : ByteArray} {op : Int} (h : fnOf s = some op) (k : Int) (d : PM) {w : OSt × Unit} (hw : armF m op d = some (.inr (.inl w))) :
    r104 (m + 1) ((s, (k, ())), ()) d = finN k w := by
  rw [r104_succ]
  unfold r104B
  rcases fnOf_some h with ⟨rfl, rfl⟩ | ⟨rfl, rfl⟩ | ⟨rfl, rfl⟩ | ⟨rfl, rfl⟩
  · refine bind_of (loop_inr (Eq.trans ?_ hw)) ?_
    · refine (c_true rfl).trans ?_
      refine (c_true rfl).trans ?_
      rfl
    · rfl
  · refine bind_of ((loop_inl (d' := (((1 : Int), ()), ())) ?_).trans (loop_inr (Eq.trans ?_ hw))) ?_
    · rfl
    · refine (c_true rfl).trans ?_
      refine (c_true rfl).trans ?_
      rfl
    · rfl
  · refine bind_of ((loop_inl (d' := (((1 : Int), ()), ())) ?_).trans ((loop_inl (d' := (((2 : Int), ()), ())) ?_).trans (loop_inr (Eq.trans ?_ hw)))) ?_
    · rfl
    · rfl
    · refine (c_true rfl).trans ?_
      refine (c_true rfl).trans ?_
      rfl
    · rfl
  · refine bind_of ((loop_inl (d' := (((1 : Int), ()), ())) ?_).trans ((loop_inl (d' := (((2 : Int), ()), ())) ?_).trans ((loop_inl (d' := (((3 : Int), ()), ())) ?_).trans (loop_inr (Eq.trans ?_ hw))))) ?_
    · rfl
    · rfl
    · rfl
    · refine (c_true rfl).trans ?_
      refine (c_true rfl).trans ?_
      rfl
    · rfl
theorem named_key {m : Nat} {s : ByteArray} (h : fnOf s = none) (hz : s.size ≤ 4000) (k : Int) (d : PM) :
    r104 (m + 1) ((s, (k, ())), ()) d = some ((nodeN 1 s, ()), (d.1, ((if k = 119 ∧ nameOk s = true ∧ inL s wordsL = false then d.2.1 else true), ()))) := by
  obtain ⟨n1, n2, n3, n4⟩ := fnOf_none h
  rw [r104_succ]
  unfold r104B
  have d1 : (qo (decide (s = bs [105, 102]))) = true := by rw [decide_eq_false n1]; rfl
  have d2 : (qo (decide (s = bs [108, 101, 110]))) = true := by rw [decide_eq_false n2]; rfl
  have d3 : (qo (decide (s = bs [109, 105, 110]))) = true := by rw [decide_eq_false n3]; rfl
  have d4 : (qo (decide (s = bs [109, 97, 120]))) = true := by rw [decide_eq_false n4]; rfl
  refine bind_of ((loop_inl (d' := (((1 : Int), ()), ())) ?_).trans ((loop_inl (d' := (((2 : Int), ()), ())) ?_).trans ((loop_inl (d' := (((3 : Int), ()), ())) ?_).trans ((loop_inl (d' := (((4 : Int), ()), ())) ?_).trans (loop_inr (o := .inr (.inl ((), ()))) ?_))))) ?_
  · exact (c_true d1).trans rfl
  · exact (c_true d2).trans rfl
  · exact (c_true d3).trans rfl
  · exact (c_true d4).trans rfl
  · rfl
  · have hn := name_eq s (by omega)
    have hn : r62 (s, qu) = _ := hn
    have hw := contains_str wordsL s (by rw [words_len]; omega)
    have hw : r26 (wordsL, (s, qu)) = _ := hw
    show cond (qo (decide (k = (119 : Int)))) _ _ = _
    by_cases hk : k = 119
    · refine (c_false (by rw [decide_eq_true hk]; rfl)).trans ?_
      rw [hn, Option.bind_some]
      cases hnm : nameOk s
      · rw [if_neg (by simp)]
        exact (c_true rfl).trans rfl
      · refine (c_false rfl).trans ?_
        rw [words_eq, Option.bind_some, hw, Option.bind_some]
        cases hl : inL s wordsL
        · rw [if_pos ⟨hk, rfl, rfl⟩]
          exact (c_false rfl).trans rfl
        · rw [if_neg (by simp)]
          exact (c_true rfl).trans rfl
    · rw [if_neg (fun hh => hk hh.1)]
      exact (c_true (by rw [decide_eq_false hk]; rfl)).trans rfl
theorem take_hd (s : ByteArray) (hs : kindB s = 119 ∨ kindB s = 115) (l : Toks) (b : Bool) : r71 (s, ()) (toks (s :: l), (b, ())) = some ((true, ()), (toks l, (b, ()))) := by
  rw [take_tok s hs, if_pos (show (s :: l).head? = some s from rfl)]; rfl
theorem take_no (s : ByteArray) (hs : kindB s = 119 ∨ kindB s = 115) (l : Toks) (b : Bool) (h : l.head? ≠ some s) : r71 (s, ()) (toks l, (b, ())) = some ((false, ()), (toks l, (b, ()))) := by
  rw [take_tok s hs, if_neg h]
theorem emp_app (s : ByteArray) : emptyS ++ s = s := by
  have : emptyS = ByteArray.empty := rfl
  rw [this, ByteArray.empty_append]
theorem prim_open (m : Nat) (l : Toks) : r72 (m + 1) () (toks (tOpen :: l), (false, ())) = qb (r43 m ((1 : Int), ()) (toks l, (false, ()))) fun x2 => qb (r102 (tClose, ()) x2.2) fun x3 => some ((Tree.node (Tree.val x2.1.1) (Tree.kids x2.1.1), ()), x3.2) := by
  rw [r72_succ]
  unfold r72B
  have hp := peek_eq (toks (tOpen :: l), (false, ()))
  have ht := take_hd tOpen kOpen l false
  have ht : r71 (tOpen, qu) (toks (tOpen :: l), (false, qu)) = _ := ht
  rw [hp, Option.bind_some, peek_toks]
  refine (c_false (decide_eq_false (by show ¬ kindB tOpen = 110; decide +kernel))).trans ?_
  show qb (r71 (tOpen, qu) (toks (tOpen :: l), (false, qu))) _ = _
  rw [ht, Option.bind_some]
  exact (c_true rfl).trans rfl
theorem vread_at (s : ByteArray) (h : s.size ≤ 4000) : r103 (s, ()) = some ((vread s).1, ((vread s).2, ())) := vread_eq s (by omega)
theorem prim_num (m : Nat) (s : ByteArray) (l : Toks) (hz : s.size ≤ 4000) (hk : kindB s = 110) : resP (if (vread s).2 = 0 then some (nodeL (vread s).1, l) else none) (r72 (m + 1) () (toks (s :: l), (false, ()))) := by
  rw [r72_succ]
  unfold r72B
  have hp := peek_eq (toks (s :: l), (false, ()))
  rw [hp, Option.bind_some, peek_toks]
  have hn := num_eq emptyS s l hk (.inl rfl) hz
  rw [emp_app] at hn
  have hn : r74 (emptyS, qu) (toks (s :: l), (false, qu)) = _ := hn
  rw [c_true (decide_eq_true (show kindB s = 110 from hk))]
  have hn : r74 ((qm (qt [])), qu) (toks (s :: l), (false, qu)) = _ := hn
  rw [hn, Option.bind_some]
  by_cases h0 : (vread s).2 = 0
  · rw [if_pos h0, if_pos h0]
    show some _ = some _
    rw [nd_eta2]
  · rw [if_neg h0, if_neg h0]
    exact ⟨_, _, rfl⟩
theorem prim_dot (m : Nat) (l : Toks) : resP (match l with
    | [] => none
    | f :: l2 => if inL f fieldsL = true then some (nodeN 2 f, l2) else none) (r72 (m + 1) () (toks (tDot :: l), (false, ()))) := by
  rw [r72_succ]
  unfold r72B
  have hp := peek_eq (toks (tDot :: l), (false, ()))
  have hne : tDot ≠ tOpen := by decide +kernel
  have ht := take_no tOpen kOpen (tDot :: l) false (by simpa using hne)
  have ht : r71 (tOpen, qu) (toks (tDot :: l), (false, qu)) = _ := ht
  have ht2 := take_hd tDot kDot l false
  have ht2 : r71 (tDot, qu) (toks (tDot :: l), (false, qu)) = _ := ht2
  rw [hp, Option.bind_some, peek_toks, c_false (decide_eq_false (by show ¬ kindB tDot = 110; decide +kernel))]
  have ht : r71 ((qm (qt [40])), qu) (toks (tDot :: l), (false, qu)) = _ := ht
  rw [ht, Option.bind_some, c_false rfl]
  have ht2 : r71 ((qm (qt [46])), qu) (toks (tDot :: l), (false, qu)) = _ := ht2
  rw [ht2, Option.bind_some, c_true rfl]
  have hp2 := peek_eq (toks l, (false, ()))
  rw [show ((true, qu), (toks l, (false, qu))).2 = (toks l, (false, ())) from rfl, hp2, Option.bind_some, fields_eq, Option.bind_some]
  have hf := contains_str fieldsL (peekT (toks l)).1 (by rw [fields_len]; omega)
  have hf : r26 (fieldsL, ((peekT (toks l)).1, qu)) = _ := hf
  rw [hf, Option.bind_some]
  cases l with
  | nil =>
    rw [c_true (by show (qo (inL emptyS fieldsL)) = true; decide +kernel)]
    exact ⟨_, _, rfl⟩
  | cons f l2 =>
    cases hin : inL f fieldsL
    · rw [c_true (by show (qo (inL f fieldsL)) = true; rw [hin]; rfl)]
      show resP (if inL f fieldsL = true then _ else none) _
      rw [if_neg (by rw [hin]; simp)]
      exact ⟨_, _, rfl⟩
    · rw [c_false (by show (qo (inL f fieldsL)) = false; rw [hin]; rfl)]
      show resP (if inL f fieldsL = true then _ else none) _
      rw [if_pos hin]
      have hk : kindB f = 119 := by
        have : ∀ g ∈ fieldsL, kindB g = 119 := by decide +kernel
        exact this f (inL_iff.1 hin)
      rw [hp2, Option.bind_some, c_false (by show (qo (decide (kindB f = 119))) = false; rw [decide_eq_true hk]; rfl), c_true (by unfold upTo toks; simp; omega)]
      rfl
theorem resP_eta {r : Option (DExp × Toks)} {y : Option ((DExp × Unit) × PM)} (h : resP r y) : resP r (qb y fun x4 => some ((Tree.node (Tree.val x4.1.1) (Tree.kids x4.1.1), ()), x4.2)) := by
  cases r with
  | none =>
    obtain ⟨e, tk, rfl⟩ := h
    exact ⟨_, _, rfl⟩
  | some p =>
    obtain ⟨e, l⟩ := p
    have h : y = _ := h
    subst h
    show some _ = some _
    rw [nd_eta2]
/-- A word or a text. -/
theorem prim_word (m : Nat) (s : ByteArray) (l : Toks) (hz : s.size ≤ 4000) (hk : kindB s = 119 ∨ kindB s = 116) (r : Option (DExp × Toks))
    (h : resP r (if (vread s).2 = 0 then some ((nodeL (vread s).1, ()), (toks l, (false, ()))) else r104 m ((s, (kindB s, ())), ()) (toks l, (false, ())))) : resP r (r72 (m + 1) () (toks (s :: l), (false, ()))) := by
  have hno : s ≠ tOpen := by rintro rfl; rcases hk with h | h <;> exact absurd h (by decide +kernel)
  have hnd : s ≠ tDot := by rintro rfl; rcases hk with h | h <;> exact absurd h (by decide +kernel)
  rw [r72_succ]
  unfold r72B
  have hp := peek_eq (toks (s :: l), (false, ()))
  have ht := take_no tOpen kOpen (s :: l) false (by simpa using hno)
  have ht : r71 ((qm (qt [40])), qu) (toks (s :: l), (false, qu)) = _ := ht
  have ht2 := take_no tDot kDot (s :: l) false (by simpa using hnd)
  have ht2 : r71 ((qm (qt [46])), qu) (toks (s :: l), (false, qu)) = _ := ht2
  have hv := vread_at s hz
  have hv : r103 (s, qu) = _ := hv
  have hu : upTo (1 : Int) ((toks (s :: l)).length : Int) = true := by unfold upTo toks; simp; omega
  rw [hp, Option.bind_some, peek_toks, c_false (decide_eq_false (by show ¬ kindB s = 110; rcases hk with h | h <;> rw [h] <;> decide)), ht, Option.bind_some, c_false rfl, ht2, Option.bind_some, c_false rfl]
  have fin : resP r (qb (r103 (s, qu)) fun x3 => cond (decide (x3.2.1 = (0 : Int))) (some ((Tree.node ((0 : Int), (x3.1, (emptyS, ()))) [], ()), (List.drop 1 (toks (s :: l)), (false, ())))) (qb (r104 m ((s, (kindB s, ())), ()) (List.drop 1 (toks (s :: l)), (false, ()))) fun x4 => some ((Tree.node (Tree.val x4.1.1) (Tree.kids x4.1.1), ()), x4.2))) := by
    rw [hv, Option.bind_some]
    by_cases h0 : (vread s).2 = 0
    · rw [if_pos h0] at h
      rw [c_true (decide_eq_true h0)]
      exact h
    · rw [if_neg h0] at h
      rw [c_false (decide_eq_false h0)]
      exact resP_eta h
  by_cases h9 : kindB s = 119
  · rw [c_false (by show (qo (decide (kindB s = 119))) = false; rw [decide_eq_true h9]; rfl), c_true hu]
    exact fin
  · have h6 : kindB s = 116 := by rcases hk with h | h; exact absurd h h9; exact h
    rw [c_true (by show (qo (decide (kindB s = 119))) = true; rw [decide_eq_false h9]; rfl), c_false (by show (qo (decide (kindB s = 116))) = false; rw [decide_eq_true h6]; rfl), c_true hu]
    exact fin
theorem prim_bad (m : Nat) (l : Toks) (h : ∀ s, l.head? = some s → s ≠ tOpen ∧ s ≠ tDot ∧ kindB s ≠ 110 ∧ kindB s ≠ 119 ∧ kindB s ≠ 116) : resP none (r72 (m + 1) () (toks l, (false, ()))) := by
  rw [r72_succ]
  unfold r72B
  have hp := peek_eq (toks l, (false, ()))
  have ht := take_no tOpen kOpen l false (fun hh => (h _ hh).1 rfl)
  have ht : r71 ((qm (qt [40])), qu) (toks l, (false, qu)) = _ := ht
  have ht2 := take_no tDot kDot l false (fun hh => (h _ hh).2.1 rfl)
  have ht2 : r71 ((qm (qt [46])), qu) (toks l, (false, qu)) = _ := ht2
  have hk : (peekT (toks l)).2.1 ≠ 110 ∧ (peekT (toks l)).2.1 ≠ 119 ∧ (peekT (toks l)).2.1 ≠ 116 := by
    rw [peek_toks]
    cases l with
    | nil => exact ⟨by decide, by decide, by decide⟩
    | cons s l => have := h s rfl; exact ⟨this.2.2.1, this.2.2.2.1, this.2.2.2.2⟩
  rw [hp, Option.bind_some, c_false (decide_eq_false hk.1), ht, Option.bind_some, c_false rfl, ht2, Option.bind_some, c_false rfl]
  rw [c_true (by show (qo (decide ((peekT (toks l)).2.1 = 119))) = true; rw [decide_eq_false hk.2.1]; rfl), c_true (by show (qo (decide ((peekT (toks l)).2.1 = 116))) = true; rw [decide_eq_false hk.2.2]; rfl)]
  exact ⟨_, _, rfl⟩
end Go.Proofs.YtdfgfjnpllncdaaGreatDoor.I

namespace Go.Proofs.YtdfgfjnpllncdaaGreatDoor.I
open Go.RowKit
open _root_.Decidable renaming decide → qd
open _root_.Option renaming bind → qb, some → qs, none → qn
open _root_.Unit renaming unit → qu
open IntKind renaming wrap → qw, i64 → q6
open _root_.HAdd renaming hAdd → qa
open _root_.Nat renaming cast → qc
open _root_.ByteArray renaming extract → qx, size → qz, mk → qm
open _root_.List renaming length → ql, cons → qk, nil → qe, toArray → qt
open _root_.HAppend renaming hAppend → qp
open _root_.Bool renaming not → qo, and → qj, true → q1, false → q0
open _root_.Int renaming toNat → qi
open _root_.UInt8 renaming toNat → qv
open _root_.Sum renaming inl → qf, inr → qr
open _root_.GetElem? renaming getElem? → qg
open _root_.LE renaming le → qq
open _root_.LT renaming lt → qy
set_option linter.unusedVariables false
set_option linter.unusedSimpArgs false
set_option linter.constructorNameAsVariable false
theorem at_bad (m : Nat) (n : Int) (tk : TokS) : r43 (m + 1) (n, ()) (tk, (true, ())) = some ((zE, ()), (tk, (true, ()))) := by
  rw [r43_succ]; rfl
abbrev etaP (x : (DExp × Unit) × PM) : Option ((DExp × Unit) × PM) := some ((Tree.node (Tree.val x.1.1) (Tree.kids x.1.1), ()), x.2)
theorem at_bin (m : Nat) {n : Nat} (hb : BinL n) (tk : TokS) : r43 (m + 1) ((n : Int), ()) (tk, (false, ())) = qb (r70 m ((n : Int), (opsL n, ())) (tk, (false, ()))) etaP := by
  rw [r43_succ]
  rcases hb with rfl | rfl | rfl | rfl | rfl <;> rfl
theorem at3_not (m : Nat) (l : Toks) : r43 (m + 1) ((3 : Int), ()) (toks (tNot :: l), (false, ())) = qb (r43 m ((3 : Int), ()) (toks l, (false, ()))) fun x => some ((nodeO 5 [Tree.node (Tree.val x.1.1) (Tree.kids x.1.1)], ()), x.2) := by
  rw [r43_succ]
  unfold r43B
  have ht := take_hd tNot kNot l false
  have ht : r71 ((qm (qt [110, 111, 116])), qu) (toks (tNot :: l), (false, qu)) = _ := ht
  rw [c_false rfl, c_false (by rfl), c_false (by rfl), c_true (by rfl), ht]
  rfl
theorem at3_non (m : Nat) (l : Toks) (h : l.head? ≠ some tNot) : r43 (m + 1) ((3 : Int), ()) (toks l, (false, ())) = qb (r43 m ((4 : Int), ()) (toks l, (false, ()))) etaP := by
  rw [r43_succ]
  unfold r43B
  have ht := take_tok tNot kNot l false
  rw [if_neg h] at ht
  have ht : r71 ((qm (qt [110, 111, 116])), qu) (toks l, (false, qu)) = _ := ht
  rw [c_false rfl, c_false (by rfl), c_false (by rfl), c_true (by rfl), ht]
  rfl
theorem at7_prim (m : Nat) (l : Toks) (h : l.head? ≠ some tMinus) : r43 (m + 1) ((7 : Int), ()) (toks l, (false, ())) = qb (r72 m () (toks l, (false, ()))) etaP := by
  rw [r43_succ]
  unfold r43B
  have ht := take_tok tMinus kMinus l false
  rw [if_neg h] at ht
  have ht : r71 ((qm (qt [45])), qu) (toks l, (false, qu)) = _ := ht
  rw [c_false rfl, c_false (by rfl), c_false (by rfl), c_false (by rfl), c_false (by rfl), c_false (by rfl), c_false (by rfl), c_true (by rfl), ht]
  rfl
theorem at7_minus (m : Nat) (l : Toks) : r43 (m + 1) ((7 : Int), ()) (toks (tMinus :: l), (false, ())) = if numHead l = true then qb (r74 (tMinus, ()) (toks l, (false, ()))) etaP else qb (r43 m ((7 : Int), ()) (toks l, (false, ()))) fun x => some ((nodeO 17 [Tree.node (Tree.val x.1.1) (Tree.kids x.1.1)], ()), x.2) := by
  rw [r43_succ]
  unfold r43B
  have ht := take_hd tMinus kMinus l false
  have ht : r71 ((qm (qt [45])), qu) (toks (tMinus :: l), (false, qu)) = _ := ht
  have hp := peek_eq (toks l, (false, ()))
  rw [c_false rfl, c_false (by rfl), c_false (by rfl), c_false (by rfl), c_false (by rfl), c_false (by rfl), c_false (by rfl), c_true (by rfl), ht, Option.bind_some, c_false (show (qo true) = false from rfl)]
  rw [show ((true, qu), (toks l, (false, qu))).2 = (toks l, (false, ())) from rfl, hp, Option.bind_some]
  have hk : decide ((peekT (toks l)).2.1 = 110) = numHead l := by cases l <;> rfl
  rw [show (((peekT (toks l), ()), (toks l, false, ())) : (Tk × Unit) × PM).1.1.2.1 = (peekT (toks l)).2.1 from rfl, hk]
  cases numHead l
  · rfl
  · rfl
noncomputable def closeF : ((OSt × Unit) ⊕ Empty) → Option (ND ⊕ NO) := sumE (fun x4 => qb (r102 (tClose, ()) (x4.1.1, (x4.1.2.1, ()))) fun x5 => some (qr (qf ((x5.2.1, (x5.2.2.1, x4.1.2.2)), ())))) emptyE
def resW (r : Option (DExp × Toks)) (y : Option (ND ⊕ NO)) : Prop := match r with
  | some (e, l) => y = some (.inr (.inl (ost e (toks l) false)))
  | none => ∃ e tk, y = some (.inr (.inl (ost e tk true)))
theorem fits88 {k : Nat} (h : k ≤ 100) : fits k 88 = true := by unfold fits; simp; omega
theorem stepA_end (m : Nat) (k : Nat) (op : Int) (acc : List DExp) (d : PM) : stepA m k (ast (k : Int) op acc d) = some (.inr (.inl (ost (nodeO op acc) d.1 d.2.1))) := by
  unfold stepA
  refine (c_false (decide_eq_false (by show ¬ (k : Int) < (k : Int); omega))).trans ?_
  rfl
theorem stepA_one {m : Nat} {k : Nat} (hk : 0 < k) (op : Int) (d : PM) {e : DExp} {d2 : PM} (hat : r43 m ((1 : Int), ()) d = some ((e, ()), d2)) : stepA m k (ast ((0 : Nat) : Int) op [] d) = some (.inl (ast ((1 : Nat) : Int) op [e] d2)) := by
  unfold stepA
  refine (c_true (decide_eq_true (by show ((0 : Nat) : Int) < (k : Int); omega))).trans ?_
  refine (c_false rfl).trans ?_
  show qb (r43 m ((1 : Int), ()) d) _ = _
  rw [hat, Option.bind_some]
  refine (c_true (fits88 (by show 0 + 1 ≤ 100; omega))).trans ?_
  have hw : qw .i64 (((0 : Nat) : Int) + 1) = ((1 : Nat) : Int) := by rw [wrap64 (by omega) (by omega)]; rfl
  show some (qf ((qw .i64 (((0 : Nat) : Int) + 1), (op, ((0 : Int), ((0 : Int), (emptyS, (false, (emptyS, ([] ++ [Tree.node (Tree.val e) (Tree.kids e)], d2)))))))), ())) = _
  rw [hw, nd_eta2]
  rfl
theorem stepA_more {m : Nat} {i k : Nat} (h0 : 0 < i) (hk : i < k) (h9 : k ≤ 9) (op : Int) (acc : List DExp) (hacc : acc.length = i) (d : PM) {d1 : PM} (hn : r102 (tComma, ()) d = some ((), d1)) {e : DExp} {d2 : PM} (hat : r43 m ((1 : Int), ()) d1 = some ((e, ()), d2)) : stepA m k (ast (i : Int) op acc d) = some (.inl (ast ((i + 1 : Nat) : Int) op (acc ++ [e]) d2)) := by
  unfold stepA
  refine (c_true (decide_eq_true (by show (i : Int) < (k : Int); omega))).trans ?_
  refine (c_true (decide_eq_true (by show (0 : Int) < (i : Int); omega))).trans ?_
  show qb (r102 (tComma, ()) d) _ = _
  rw [hn, Option.bind_some]
  show qb (r43 m ((1 : Int), ()) d1) _ = _
  rw [hat, Option.bind_some]
  refine (c_true (fits88 (by show acc.length + 1 ≤ 100; omega))).trans ?_
  have hw : qw .i64 ((i : Int) + 1) = ((i + 1 : Nat) : Int) := by rw [wrap64 (by omega) (by omega)]; rfl
  show some (qf ((qw .i64 ((i : Int) + 1), (op, ((0 : Int), ((0 : Int), (emptyS, (false, (emptyS, (acc ++ [Tree.node (Tree.val e) (Tree.kids e)], d2)))))))), ())) = _
  rw [hw, nd_eta2]
  rfl
theorem close_bad (e : DExp) (tk : TokS) : ∃ tk', closeF (.inl (ost e tk true)) = some (.inr (.inl (ost e tk' true))) := by
  obtain ⟨tk', h⟩ := need_bad tClose tk
  refine ⟨tk', ?_⟩
  show qb (r102 (tClose, ()) (tk, (true, ()))) _ = _
  rw [h]
  rfl
theorem args_bad (m : Nat) (op : Int) (k : Nat) (hk : k ≤ 9) : ∀ (j i : Nat) (acc : List DExp) (tk : TokS), i + j = k → acc.length = i → resW none (qb (loop (stepA (m + 1) k) (ast (i : Int) op acc (tk, (true, ())))) closeF)
  | 0, i, acc, tk, h, ha => by
    have hi : i = k := by omega
    subst hi
    rw [loop_inr (stepA_end _ _ _ _ _), Option.bind_some]
    obtain ⟨tk', h⟩ := close_bad (nodeO op acc) tk
    exact ⟨_, tk', h⟩
  | j + 1, i, acc, tk, h, ha => by
    by_cases hi : i = 0
    · subst hi
      obtain rfl : acc = [] := List.length_eq_zero_iff.1 ha
      rw [loop_inl (stepA_one (by omega) op _ (at_bad m 1 tk))]
      exact args_bad m op k hk j 1 [zE] tk (by omega) rfl
    · obtain ⟨tk', hn⟩ := need_bad tComma tk
      rw [loop_inl (stepA_more (by omega) (by omega) hk op acc ha _ hn (at_bad m 1 tk'))]
      exact args_bad m op k hk j (i + 1) (acc ++ [zE]) tk' (by omega) (by simp [ha])
noncomputable def FolP : Req → Toks → Option (DExp × Toks) → Prop
  | .at n, l, r => TokOk l → Ev fun m => resP r (if n = 8 then r72 m () (toks l, (false, ())) else r43 m ((n : Int), ()) (toks l, (false, ())))
  | .chain n e, l, r => TokOk l → BinL n → Ev fun m => resC r (loop (stepB m n (opsL n)) (bst e (toks l, (false, ()))))
  | .args op k acc, l, r => TokOk l → acc.length + k ≤ 9 → Ev fun m => resW r (qb (loop (stepA m ((acc.length + k : Nat) : Int)) (ast (acc.length : Int) op acc (toks l, (false, ())))) closeF)

theorem at_lt {n : Nat} (hb : BinL n) : n + 1 ≠ 8 := by unfold BinL at hb; omega
theorem bin_lt {n : Nat} (hb : BinL n) : n ≠ 8 := by unfold BinL at hb; omega
theorem wrapN {n : Nat} (hb : BinL n) : qw .i64 ((n : Int) + 1) = ((n + 1 : Nat) : Int) := by
  have : n ≤ 6 := by unfold BinL at hb; omega
  rw [wrap64 (by omega) (by omega)]; omega
theorem resP_of_resC {r : Option (DExp × Toks)} {y : Option ((OSt × Unit) ⊕ Empty)} (h : resC r y) : resP r (qb y finB) := by
  cases r with
  | none =>
    obtain ⟨e, tk, rfl⟩ := h
    exact ⟨e, tk, finB_ost e tk true⟩
  | some p =>
    obtain ⟨e, l⟩ := p
    have h : y = _ := h
    subst h
    exact finB_ost e (toks l) false
theorem args_close (m : Nat) (k : Nat) (op : Int) (acc : List DExp) (l : Toks) : qb (loop (stepA m (k : Int)) (ast (k : Int) op acc (toks l, (false, ())))) closeF = some (.inr (.inl (if l.head? = some tClose then ost (nodeO op acc) (toks (l.drop 1)) false else ost (nodeO op acc) (toks l) true))) := by
  rw [loop_inr (stepA_end _ _ _ _ _), Option.bind_some]
  show qb (r102 (tClose, ()) (toks l, (false, ()))) _ = _
  rw [need_tok tClose kClose]
  by_cases h : l.head? = some tClose
  · rw [if_pos h, if_pos h]; rfl
  · rw [if_neg h, if_neg h]; rfl
theorem fnOf_kids {s : ByteArray} {op : Int} (h : fnOf s = some op) : (kidsN op).toNat ≤ 3 ∧ ((kidsN op).toNat : Int) = kidsN op := by
  rcases fnOf_some h with ⟨rfl, _⟩ | ⟨rfl, _⟩ | ⟨rfl, _⟩ | ⟨rfl, _⟩
  all_goals exact ⟨by decide, by decide⟩
theorem fn_kind {s : ByteArray} {op : Int} (h : fnOf s = some op) : kindB s = 119 := by
  rcases fnOf_some h with ⟨_, rfl⟩ | ⟨_, rfl⟩ | ⟨_, rfl⟩ | ⟨_, rfl⟩
  all_goals decide +kernel
theorem leaf_fn {s : ByteArray} {l : Toks} {op : Int} (h : fnOf s = some op) (hl : leafOf (s :: l) = none) : (vread s).2 ≠ 0 := by
  intro h0
  have hk := fn_kind h
  have h1 : s ≠ tOpen := by rintro rfl; exact absurd hk (by decide +kernel)
  have h2 : s ≠ tDot := by rintro rfl; exact absurd hk (by decide +kernel)
  simp only [leafOf] at hl
  rw [if_neg h1, if_neg h2, if_neg (by rw [hk]; decide), if_neg (by simp [hk]), if_pos h0] at hl
  cases hl
set_option maxHeartbeats 4000000 in
theorem folP {q : Req} {l : Toks} {r : Option (DExp × Toks)} (h : Ps q l r) : FolP q l r := by
  induction h with
  | @bin n l e l1 r hb h1 h2 ih1 ih2 =>
    intro hok
    have i1 := ih1 hok
    have i2 := ih2 (hok.sub h1) hb
    refine ev_succ (P := fun m => resP r (r70 m ((n : Int), (opsL n, ())) (toks l, (false, ())))) (ev_succ (ev_and i1 i2) fun m ⟨j1, j2⟩ => ?_) fun m j => ?_
    · rw [if_neg (at_lt hb)] at j1
      rw [binary_eq, wrapN hb]
      have j1 : r43 m (((n + 1 : Nat) : Int), ()) (toks l, (false, ())) = some ((e, ()), (toks l1, (false, ()))) := j1
      rw [j1, Option.bind_some]
      exact resP_of_resC j2
    · rw [if_neg (bin_lt hb), at_bin m hb]
      exact resP_eta j
  | @binBad n l hb h1 ih1 =>
    intro hok
    refine ev_succ (P := fun m => resP none (r70 m ((n : Int), (opsL n, ())) (toks l, (false, ())))) (ev_succ (ih1 hok) fun m j1 => ?_) fun m j => ?_
    · rw [if_neg (at_lt hb)] at j1
      rw [binary_eq, wrapN hb]
      obtain ⟨e, tk, j1⟩ := j1
      have j1 : r43 m (((n + 1 : Nat) : Int), ()) (toks l, (false, ())) = some ((e, ()), (tk, (true, ()))) := j1
      rw [j1, Option.bind_some, loop_inr (stepB_bad _ _ _ _ _)]
      exact ⟨_, _, finB_ost e tk true⟩
    · rw [if_neg (bin_lt hb), at_bin m hb]
      exact resP_eta j
  | @stop n e l h =>
    intro hok hb
    exact ev_all fun m => loop_inr (stepB_stop hb e h)
  | @go n e s l op e2 l2 r hb ho h4 h1 h2 ih1 ih2 =>
    intro hok _
    refine ev_mono (ev_and (ih1 hok.tail) (ih2 (hok.tail.sub h1) hb)) fun m ⟨j1, j2⟩ => ?_
    rw [if_neg (at_lt hb)] at j1
    have hst := stepB_go hb e ho (e2 := e2) (d2 := (toks l2, (false, ()))) j1
    rw [if_neg h4] at hst
    rw [loop_inl hst]
    exact j2
  | @go4 e s l op e2 l2 ho h1 ih1 =>
    intro hok hb
    refine ev_mono (ih1 hok.tail) fun m j1 => ?_
    rw [if_neg (by decide)] at j1
    have hst := stepB_go hb e ho (e2 := e2) (d2 := (toks l2, (false, ()))) j1
    rw [if_pos rfl] at hst
    exact loop_inr hst
  | @goBad n e s l op hb ho h1 ih1 =>
    intro hok _
    refine ev_mono (ih1 hok.tail) fun m j1 => ?_
    rw [if_neg (at_lt hb)] at j1
    obtain ⟨e2, tk, j1⟩ := j1
    have hst := stepB_go hb e ho (e2 := e2) (d2 := (tk, (true, ()))) j1
    by_cases h4 : n = 4
    · rw [if_pos h4] at hst
      exact ⟨_, _, loop_inr hst⟩
    · rw [if_neg h4] at hst
      exact ⟨_, _, (loop_inl hst).trans (loop_inr (stepB_bad _ _ _ _ _))⟩
  | @notY l e l1 h1 ih1 =>
    intro hok
    refine ev_succ (ih1 hok.tail) fun m j1 => ?_
    rw [if_neg (by decide)] at j1 ⊢
    have j1 : r43 m ((3 : Int), ()) (toks l, (false, ())) = some ((e, ()), (toks l1, (false, ()))) := j1
    show r43 (m + 1) ((3 : Int), ()) (toks (tNot :: l), (false, ())) = _
    rw [at3_not, j1, Option.bind_some, nd_eta2]
  | @notBad l h1 ih1 =>
    intro hok
    refine ev_succ (ih1 hok.tail) fun m j1 => ?_
    rw [if_neg (by decide)] at j1 ⊢
    obtain ⟨e, tk, j1⟩ := j1
    have j1 : r43 m ((3 : Int), ()) (toks l, (false, ())) = some ((e, ()), (tk, (true, ()))) := j1
    show resP none (r43 (m + 1) ((3 : Int), ()) (toks (tNot :: l), (false, ())))
    rw [at3_not, j1, Option.bind_some]
    exact ⟨_, _, rfl⟩
  | @nonot l r hn h1 ih1 =>
    intro hok
    refine ev_succ (ih1 hok) fun m j1 => ?_
    rw [if_neg (by decide)] at j1 ⊢
    show resP r (r43 (m + 1) ((3 : Int), ()) (toks l, (false, ())))
    rw [at3_non m l hn]
    exact resP_eta j1
  | @neg l e l1 hn h1 ih1 =>
    intro hok
    refine ev_succ (ih1 hok.tail) fun m j1 => ?_
    rw [if_neg (by decide)] at j1 ⊢
    have j1 : r43 m ((7 : Int), ()) (toks l, (false, ())) = some ((e, ()), (toks l1, (false, ()))) := j1
    show r43 (m + 1) ((7 : Int), ()) (toks (tMinus :: l), (false, ())) = _
    rw [at7_minus, hn, if_neg (by simp), j1, Option.bind_some, nd_eta2]
  | @negBad l hn h1 ih1 =>
    intro hok
    refine ev_succ (ih1 hok.tail) fun m j1 => ?_
    rw [if_neg (by decide)] at j1 ⊢
    obtain ⟨e, tk, j1⟩ := j1
    have j1 : r43 m ((7 : Int), ()) (toks l, (false, ())) = some ((e, ()), (tk, (true, ()))) := j1
    show resP none (r43 (m + 1) ((7 : Int), ()) (toks (tMinus :: l), (false, ())))
    rw [at7_minus, hn, if_neg (by simp), j1, Option.bind_some]
    exact ⟨_, _, rfl⟩
  | @negNum d l hk hv =>
    intro hok
    refine ⟨1, fun n hn => ?_⟩
    obtain ⟨m, rfl⟩ : ∃ m, n = m + 1 := ⟨n - 1, by omega⟩
    rw [if_neg (by decide)]
    show r43 (m + 1) ((7 : Int), ()) (toks (tMinus :: d :: l), (false, ())) = _
    rw [at7_minus, if_pos (show numHead (d :: l) = true from decide_eq_true hk), num_eq tMinus d l hk (.inr rfl) (hok d (by simp)), if_pos hv, Option.bind_some]
    show some _ = some _
    rw [nd_eta2]
  | @negNumBad d l hk hv =>
    intro hok
    refine ⟨1, fun n hn => ?_⟩
    obtain ⟨m, rfl⟩ : ∃ m, n = m + 1 := ⟨n - 1, by omega⟩
    rw [if_neg (by decide)]
    show resP none (r43 (m + 1) ((7 : Int), ()) (toks (tMinus :: d :: l), (false, ())))
    rw [at7_minus, if_pos (show numHead (d :: l) = true from decide_eq_true hk), num_eq tMinus d l hk (.inr rfl) (hok d (by simp)), if_neg hv, Option.bind_some]
    exact ⟨_, _, rfl⟩
  | @prim l r hn h1 ih1 =>
    intro hok
    refine ev_succ (ih1 hok) fun m j1 => ?_
    rw [if_pos rfl] at j1
    rw [if_neg (by decide)]
    show resP r (r43 (m + 1) ((7 : Int), ()) (toks l, (false, ())))
    rw [at7_prim m l hn]
    exact resP_eta j1
  | @par l e l1 h1 ih1 =>
    intro hok
    refine ev_succ (ih1 hok.tail) fun m j1 => ?_
    rw [if_neg (by decide)] at j1
    rw [if_pos rfl, prim_open]
    have j1 : r43 m ((1 : Int), ()) (toks l, (false, ())) = some ((e, ()), (toks (tClose :: l1), (false, ()))) := j1
    rw [j1, Option.bind_some]
    show qb (r102 (tClose, ()) (toks (tClose :: l1), (false, ()))) _ = _
    rw [need_tok tClose kClose, if_pos (show (tClose :: l1).head? = some tClose from rfl), Option.bind_some, nd_eta2]
    rfl
  | @parBad l h1 ih1 =>
    intro hok
    refine ev_succ (ih1 hok.tail) fun m j1 => ?_
    rw [if_neg (by decide)] at j1
    rw [if_pos rfl, prim_open]
    obtain ⟨e, tk, j1⟩ := j1
    have j1 : r43 m ((1 : Int), ()) (toks l, (false, ())) = some ((e, ()), (tk, (true, ()))) := j1
    rw [j1, Option.bind_some]
    obtain ⟨tk', hn⟩ := need_bad tClose tk
    refine ⟨e, tk', ?_⟩
    show qb (r102 (tClose, ()) (tk, (true, ()))) _ = _
    rw [hn, Option.bind_some, nd_eta2]
  | @parNo l e l1 h1 hc ih1 =>
    intro hok
    refine ev_succ (ih1 hok.tail) fun m j1 => ?_
    rw [if_neg (by decide)] at j1
    rw [if_pos rfl, prim_open]
    have j1 : r43 m ((1 : Int), ()) (toks l, (false, ())) = some ((e, ()), (toks l1, (false, ()))) := j1
    rw [j1, Option.bind_some]
    refine ⟨e, toks l1, ?_⟩
    show qb (r102 (tClose, ()) (toks l1, (false, ()))) _ = _
    rw [need_tok tClose kClose, if_neg hc, Option.bind_some, nd_eta2]
  | @leaf l r hl =>
    intro hok
    refine ⟨2, fun n hn => ?_⟩
    obtain ⟨m, rfl⟩ : ∃ m, n = m + 1 + 1 := ⟨n - 2, by omega⟩
    rw [if_pos rfl]
    cases l with
    | nil =>
      simp only [leafOf, Option.some.injEq] at hl
      subst hl
      exact prim_bad _ [] (fun s hs => by cases hs)
    | cons s l =>
      have hz := hok s (by simp)
      simp only [leafOf] at hl
      by_cases e1 : s = tOpen
      · rw [if_pos e1] at hl; cases hl
      rw [if_neg e1] at hl
      by_cases e2 : s = tDot
      · rw [if_pos e2] at hl
        subst e2
        have := prim_dot (m + 1) l
        injection hl with hl
        rw [← hl]
        exact this
      rw [if_neg e2] at hl
      by_cases e3 : kindB s = 110
      · rw [if_pos e3] at hl
        injection hl with hl
        rw [← hl]
        exact prim_num (m + 1) s l hz e3
      rw [if_neg e3] at hl
      by_cases e4 : kindB s = 119 ∨ kindB s = 116
      · rw [if_neg (not_not_intro e4)] at hl
        refine prim_word (m + 1) s l hz e4 r ?_
        by_cases h0 : (vread s).2 = 0
        · rw [if_pos h0] at hl ⊢
          injection hl with hl
          rw [← hl]
          rfl
        · rw [if_neg h0] at hl ⊢
          cases hf : fnOf s with
          | some op => rw [hf] at hl; cases hl
          | none =>
            rw [hf] at hl
            simp only at hl
            rw [named_key hf hz]
            by_cases hc : kindB s = 119 ∧ nameOk s = true ∧ inL s wordsL = false
            · rw [if_pos hc] at hl ⊢
              injection hl with hl
              rw [← hl]
              rfl
            · rw [if_neg hc] at hl ⊢
              injection hl with hl
              rw [← hl]
              exact ⟨_, _, rfl⟩
      · rw [if_pos e4] at hl
        injection hl with hl
        rw [← hl]
        refine prim_bad _ (s :: l) (fun t ht => ?_)
        simp only [List.head?_cons, Option.some.injEq] at ht
        subst ht
        exact ⟨e1, e2, e3, fun h => e4 (.inl h), fun h => e4 (.inr h)⟩
  | @fnY s l op r hl hf h1 ih1 =>
    intro hok
    obtain ⟨k3, kk⟩ := fnOf_kids hf
    refine ev_succ (P := fun m => resP r (r104 m ((s, (kindB s, ())), ()) (toks (tOpen :: l), (false, ())))) (ev_succ (ih1 hok.tail.tail (by simp; omega)) fun m j1 => ?_) fun m j => ?_
    · simp only [List.length_nil, Nat.zero_add] at j1
      rw [kk] at j1
      have harm : armF m op (toks (tOpen :: l), (false, ())) = qb (loop (stepA m (kidsN op)) (ast ((0 : Nat) : Int) op [] (toks l, (false, ())))) closeF := by
        unfold armF
        rw [need_tok tOpen kOpen, if_pos (show (tOpen :: l).head? = some tOpen from rfl), Option.bind_some, kids_eq, Option.bind_some]
        rfl
      cases r with
      | none =>
        obtain ⟨e, tk, j1⟩ := j1
        exact ⟨e, tk, (named_fn hf (kindB s) _ (harm.trans j1)).trans (finN_ost _ e tk true)⟩
      | some p =>
        obtain ⟨e, l1⟩ := p
        exact (named_fn hf (kindB s) _ (harm.trans j1)).trans (finN_ost _ e (toks l1) false)
    · rw [if_pos rfl]
      refine prim_word m s (tOpen :: l) (hok s (by simp)) (.inl (fn_kind hf)) r ?_
      rw [if_neg (leaf_fn hf hl)]
      exact j
  | @fnNo s l op hl hf hc =>
    intro hok
    obtain ⟨k3, kk⟩ := fnOf_kids hf
    refine ⟨3, fun n hn => ?_⟩
    obtain ⟨m, rfl⟩ : ∃ m, n = m + 1 + 1 + 1 := ⟨n - 3, by omega⟩
    rw [if_pos rfl]
    refine prim_word (m + 1 + 1) s l (hok s (by simp)) (.inl (fn_kind hf)) none ?_
    rw [if_neg (leaf_fn hf hl)]
    have hb := args_bad m op (kidsN op).toNat (by omega) (kidsN op).toNat 0 [] (toks l) (by omega) rfl
    rw [kk] at hb
    obtain ⟨e, tk, hb⟩ := hb
    have harm : armF (m + 1) op (toks l, (false, ())) = qb (loop (stepA (m + 1) (kidsN op)) (ast ((0 : Nat) : Int) op [] (toks l, (true, ())))) closeF := by
      unfold armF
      rw [need_tok tOpen kOpen, if_neg hc, Option.bind_some, kids_eq, Option.bind_some]
      rfl
    exact ⟨e, tk, (named_fn hf (kindB s) _ (harm.trans hb)).trans (finN_ost _ e tk true)⟩
  | @argsEnd op acc l =>
    intro hok h9
    refine ev_all fun m => ?_
    simp only [Nat.add_zero]
    rw [args_close, if_pos (show (tClose :: l).head? = some tClose from rfl)]
    rfl
  | @argsNo op acc l hc =>
    intro hok h9
    refine ev_all fun m => ?_
    simp only [Nat.add_zero]
    rw [args_close, if_neg hc]
    exact ⟨_, _, rfl⟩
  | @argOne op k l e l1 r h1 h2 ih1 ih2 =>
    intro hok h9
    simp only [List.length_nil, Nat.zero_add] at h9
    refine ev_mono (ev_and (ih1 hok) (ih2 (hok.sub h1) (by simp; omega))) fun m ⟨j1, j2⟩ => ?_
    rw [if_neg (by decide)] at j1
    have j1 : r43 m ((1 : Int), ()) (toks l, (false, ())) = some ((e, ()), (toks l1, (false, ()))) := j1
    simp only [List.length_nil, Nat.zero_add, List.length_cons] at j2 ⊢
    rw [loop_inl (stepA_one (by omega) op _ j1)]
    rw [Nat.add_comm 1 k] at j2
    exact j2
  | @argOneBad op k l h1 ih1 =>
    intro hok h9
    simp only [List.length_nil, Nat.zero_add] at h9
    refine ev_succ (P := fun m => resP none (r43 (m + 1) ((1 : Int), ()) (toks l, (false, ())))) ?_ fun m j1 => ?_
    · obtain ⟨N, hN⟩ := ih1 hok
      exact ⟨N, fun n hn => hN (n + 1) (by omega)⟩
    · obtain ⟨e, tk, j1⟩ := j1
      simp only [List.length_nil, Nat.zero_add]
      rw [loop_inl (stepA_one (by omega) op _ j1)]
      exact args_bad m op (k + 1) (by omega) k 1 [e] tk (by omega) rfl
  | @argMore op k acc l e l1 r hne h1 h2 ih1 ih2 =>
    intro hok h9
    have hpos : 0 < acc.length := List.length_pos_iff.2 hne
    refine ev_mono (ev_and (ih1 hok.tail) (ih2 (hok.tail.sub h1) (by simp; omega))) fun m ⟨j1, j2⟩ => ?_
    rw [if_neg (by decide)] at j1
    have j1 : r43 m ((1 : Int), ()) (toks l, (false, ())) = some ((e, ()), (toks l1, (false, ()))) := j1
    have hn := need_tok tComma kComma (tComma :: l) false
    rw [if_pos (show (tComma :: l).head? = some tComma from rfl)] at hn
    rw [loop_inl (stepA_more hpos (by omega) h9 op acc rfl _ hn j1)]
    simp only [List.length_append, List.length_cons, List.length_nil, Nat.zero_add] at j2
    rw [show acc.length + 1 + k = acc.length + (k + 1) by omega] at j2
    exact j2
  | @argMoreBad op k acc l hne h1 ih1 =>
    intro hok h9
    have hpos : 0 < acc.length := List.length_pos_iff.2 hne
    refine ev_succ (P := fun m => resP none (r43 (m + 1) ((1 : Int), ()) (toks l, (false, ())))) ?_ fun m j1 => ?_
    · obtain ⟨N, hN⟩ := ih1 hok.tail
      exact ⟨N, fun n hn => hN (n + 1) (by omega)⟩
    · obtain ⟨e, tk, j1⟩ := j1
      have hn := need_tok tComma kComma (tComma :: l) false
      rw [if_pos (show (tComma :: l).head? = some tComma from rfl)] at hn
      rw [loop_inl (stepA_more hpos (by omega) h9 op acc rfl _ hn j1)]
      exact args_bad m op (acc.length + (k + 1)) h9 k (acc.length + 1) (acc ++ [e]) tk (by omega) (by simp)
  | @argNo op k acc l hne hc =>
    intro hok h9
    have hpos : 0 < acc.length := List.length_pos_iff.2 hne
    refine ⟨1, fun n hn => ?_⟩
    obtain ⟨m, rfl⟩ : ∃ m, n = m + 1 := ⟨n - 1, by omega⟩
    have hn := need_tok tComma kComma l false
    rw [if_neg hc] at hn
    rw [loop_inl (stepA_more hpos (by omega) h9 op acc rfl _ hn (at_bad m 1 (toks l)))]
    exact args_bad m op (acc.length + (k + 1)) h9 k (acc.length + 1) (acc ++ [zE]) (toks l) (by omega) (by simp)
end Go.Proofs.YtdfgfjnpllncdaaGreatDoor.I

namespace Go.Proofs.YtdfgfjnpllncdaaGreatDoor.I
open Go.RowKit
set_option linter.unusedVariables false
set_option linter.unusedSimpArgs false
set_option linter.constructorNameAsVariable false
abbrev RMem := Toks × Bool × Unit
def resR (r : Option (DExp × Toks)) (y : Option ((DExp × Unit) × RMem)) : Prop := match r with
  | some (e, l) => y = some ((e, ()), (l, (false, ())))
  | none => ∃ e l, y = some ((e, ()), (l, (true, ())))
abbrev etaR (x : (DExp × Unit) × RMem) : Option ((DExp × Unit) × RMem) := some ((Tree.node (Tree.val x.1.1) (Tree.kids x.1.1), ()), x.2)
theorem resR_eta {r : Option (DExp × Toks)} {y : Option ((DExp × Unit) × RMem)} (h : resR r y) : resR r (Option.bind y etaR) := by
  cases r with
  | none =>
    obtain ⟨e, tk, rfl⟩ := h
    exact ⟨_, _, rfl⟩
  | some p =>
    obtain ⟨e, l⟩ := p
    have h : y = _ := h
    subst h
    show some _ = some _
    rw [nd_eta2]
theorem check_small {v : DVal} (h : v.2.2.1.size ≤ 9223372036854775807) : r24 (v, ()) = some (checkV v, ()) := checkErr_lit v h
theorem whole_eq (s : ByteArray) (h : s.size ≤ 281474976710656) : ∃ n b, r134 (s, ()) = some (n, (b, ())) ∧ preN s = (if b = true then some (numV n) else none) := by
  have hp : r152 (s, ((10 : Int), ((64 : Int), ()))) = some ((parseR s).1, ((parseR s).2, ())) := by
    unfold r152
    exact c_true (decide_eq_true ⟨h, rfl, rfl⟩)
  unfold r134
  by_cases hok : ∃ n, Lib.atoiAll s.data.toList = .ok n
  · obtain ⟨n, hn⟩ := hok
    have hb := Lib.atoiAll_bounds hn
    have hpr : parseR s = (n, false) := by unfold parseR; rw [parseI_eq, hn]
    have hf : r56 (n, ((10 : Int), ())) = some (bs (Lib.itoa n), ()) := fmtInt_eq hb
    refine ⟨n, decide (bs (Lib.itoa n) = s), ?_, ?_⟩
    · refine bind_of hp ?_
      rw [hpr]
      refine (c_true rfl).trans ?_
      exact bind_of hf rfl
    · unfold preN
      rw [hn]
      by_cases he : bs (Lib.itoa n) = s
      · simp [he]
      · simp [he]
  · obtain ⟨h1, h2⟩ := atoiR_no (s := s) (fun n hn => hok ⟨n, hn⟩)
    have hpr : (parseR s).2 = true := by
      unfold parseR
      rw [parseI_eq]
      cases hh : Lib.atoiAll s.data.toList with
      | ok n => exact absurd ⟨n, hh⟩ hok
      | _ => rfl
    refine ⟨(parseR s).1, false, ?_, by rw [h2]; rfl⟩
    refine bind_of hp ?_
    refine (c_false ?_).trans rfl
    show (Bool.and true (Bool.not (parseR s).2)) = false
    rw [hpr]; rfl
theorem hasPre_eq (s : ByteArray) : Lib.hasPrefix s.data.toList [34] = decide (s.data.toList.head? = some 34) := by
  unfold Lib.hasPrefix
  cases s.data.toList with
  | nil => rfl
  | cons c l =>
    show (34 == c && [].isPrefixOf l) = _
    simp only [List.isPrefixOf, Bool.and_true, List.head?_cons, Option.some.injEq]
    by_cases h : c = 34
    · subst h; rfl
    · rw [decide_eq_false h]
      simp [Ne.symm h]
theorem hasSuf_eq (s : ByteArray) (h2 : 2 ≤ s.size) (h : s.size ≤ 281474976710656) : r133 (s, (bs [34], ())) = some (decide (s.data.toList.getLast? = some 34), ()) := by
  unfold r133 r151
  have w1 : IntKind.wrap .i64 ((s.size : Int) - 1) = ((s.size - 1 : Nat) : Int) := by rw [wrap64 (by omega) (by omega)]; omega
  have u1 : upTo ((s.size - 1 : Nat) : Int) (s.size : Int) = true := by unfold upTo; simp
  refine bind_of (x := (decide (s.data.toList.getLast? = some 34), ())) ?_ rfl
  refine (c_true (decide_eq_true (by show ((1 : Nat) : Int) ≤ (s.size : Int); omega))).trans ?_
  refine (c_true (by show upTo (IntKind.wrap .i64 ((s.size : Int) - 1)) (s.size : Int) = true; rw [w1]; exact u1)).trans ?_
  show some (decide (s.extract (Int.toNat (IntKind.wrap .i64 ((s.size : Int) - 1))) s.size = bs [34]), ()) = _
  rw [w1, Int.toNat_natCast]
  have he : (s.extract (s.size - 1) s.size).data.toList = s.data.toList.drop (s.size - 1) := by
    rw [ByteArray.data_extract, Array.toList_extract]
    simp only [List.extract_eq_take_drop]
    rw [List.take_of_length_le]
    rw [List.length_drop, Array.length_toList]
    have : s.data.size = s.size := rfl
    omega
  have hl : s.data.toList ≠ [] := fun hn => by
    have hb := bytes_len (s := s)
    rw [hn, List.length_nil] at hb
    omega
  have hd : s.data.toList.drop (s.size - 1) = [s.data.toList.getLast hl] := by
    rw [bytes_len]
    generalize s.data.toList = q at hl
    have h3 : List.drop (q.length - 1) (q.dropLast ++ [q.getLast hl]) = [q.getLast hl] := List.drop_left' (by simp)
    rwa [List.dropLast_concat_getLast hl] at h3
  congr 2
  rw [decide_eq_decide]
  constructor
  · intro h0
    have h1 : (s.extract (s.size - 1) s.size).data.toList = [34] := by rw [h0]; rfl
    rw [he, hd] at h1
    rw [List.getLast?_eq_some_getLast hl]
    injection h1 with h1 _
    rw [h1]
  · intro h0
    rw [List.getLast?_eq_some_getLast hl] at h0
    injection h0 with h0
    have h1 : (s.extract (s.size - 1) s.size).data.toList = [34] := by rw [he, hd, h0]
    have : (s.extract (s.size - 1) s.size) = bs (s.extract (s.size - 1) s.size).data.toList := rfl
    rw [this, h1]
set_option maxHeartbeats 4000000 in
theorem rvalue_eq (s : ByteArray) (h : s.size ≤ 281474976710656) : r109 (s, ()) = some ((vread s).1, ((vread s).2, ())) := by
  obtain ⟨n, b, hw, hn⟩ := whole_eq s h
  have hnum : Option.bind (r134 (s, ())) (fun x2 => cond (Bool.not x2.2.1) (some (zeroV0, ((15 : Int), ()))) (Option.bind (r24 (((1 : Int), (x2.1, (emptyS, (false, ())))), ())) fun x3 => cond (Bool.not (decide (x3.1 = (0 : Int)))) (some (zeroV0, x3)) (some (((1 : Int), (x2.1, (emptyS, (false, ())))), ((0 : Int), ()))))) = some ((answV (preN s)).1, ((answV (preN s)).2, ())) := by
    refine bind_of hw ?_
    rw [hn]
    cases b
    · rfl
    · refine (c_false rfl).trans ?_
      exact bind_of (check_small (v := numV n) (by show (0 : Nat) ≤ _; omega)) (fin_answ (numV n) _ rfl)
  rw [vread_answ, preV_eq]
  unfold r109
  by_cases e1 : s = tNil
  · rw [if_pos e1]
    refine (c_true (decide_eq_true e1)).trans ?_
    exact bind_of (check_small (v := zeroV0) (by show (0 : Nat) ≤ _; omega)) (fin_answ zeroV0 _ rfl)
  rw [if_neg e1]
  refine (c_false (decide_eq_false e1)).trans ?_
  by_cases e2 : s = tTrue
  · rw [if_pos e2]
    refine (c_true (decide_eq_true e2)).trans ?_
    exact bind_of (check_small (v := boolV true) (by show (0 : Nat) ≤ _; omega)) (fin_answ (boolV true) _ rfl)
  rw [if_neg e2]
  refine (c_false (decide_eq_false e2)).trans ?_
  by_cases e3 : s = tFalse
  · rw [if_pos e3]
    refine (c_true (decide_eq_true e3)).trans ?_
    exact bind_of (check_small (v := boolV false) (by show (0 : Nat) ≤ _; omega)) (fin_answ (boolV false) _ rfl)
  rw [if_neg e3]
  refine (c_false (decide_eq_false e3)).trans ?_
  by_cases h2 : 2 ≤ s.size
  · refine (c_true (decide_eq_true (by show (1 : Int) < (s.size : Int); omega))).trans ?_
    have hp : r76 (s, (bs [34], ())) = some (Lib.hasPrefix s.data.toList [34], ()) := rfl
    refine bind_of hp ?_
    have w1 : IntKind.wrap .i64 ((s.size : Int) - 1) = (s.size : Int) - 1 := wrap64 (by omega) (by omega)
    have u1 : upTo ((s.size : Int) - 1) (s.size : Int) = true := by unfold upTo; simp; omega
    have u2 : upTo (1 : Int) ((s.size : Int) - 1) = true := by unfold upTo; simp; omega
    by_cases hq : s.data.toList.head? = some 34
    · refine (c_true (by rw [hasPre_eq]; exact decide_eq_true hq)).trans ?_
      refine bind_of (hasSuf_eq s h2 h) ?_
      by_cases hq2 : s.data.toList.getLast? = some 34
      · rw [if_pos ⟨h2, hq, hq2⟩]
        refine (c_true (decide_eq_true hq2)).trans ?_
        refine (c_true (by show upTo (IntKind.wrap .i64 ((s.size : Int) - 1)) (s.size : Int) = true; rw [w1]; exact u1)).trans ?_
        refine (c_true (by show upTo (1 : Int) (IntKind.wrap .i64 ((s.size : Int) - 1)) = true; rw [w1]; exact u2)).trans ?_
        have hz : Int.toNat (IntKind.wrap .i64 ((s.size : Int) - 1)) = s.size - 1 := by rw [w1]; omega
        have hsz := mid_size s (s.size - 1)
        have hck := check_small (v := textV (s.extract 1 (s.size - 1))) (by show (s.extract 1 (s.size - 1)).size ≤ _; omega)
        refine bind_of (x := (checkV (textV (s.extract 1 (s.size - 1))), ())) ?_ ?_
        · show r24 (textV (s.extract 1 (Int.toNat (IntKind.wrap .i64 ((s.size : Int) - 1)))), ()) = _
          rw [hz]; exact hck
        · show cond _ _ (some (textV (s.extract 1 (Int.toNat (IntKind.wrap .i64 ((s.size : Int) - 1)))), ((0 : Int), ()))) = _
          rw [hz]
          exact fin_answ _ _ rfl
      · rw [if_neg (fun hh => hq2 hh.2.2)]
        exact (c_false (decide_eq_false hq2)).trans hnum
    · rw [if_neg (fun hh => hq hh.2.1)]
      exact (c_false (by rw [hasPre_eq]; exact decide_eq_false hq)).trans hnum
  · rw [if_neg (fun hq => h2 hq.1)]
    exact (c_false (decide_eq_false (by show ¬ (1 : Int) < (s.size : Int); omega))).trans hnum
theorem literal_eq (s : ByteArray) (h : s.size ≤ 281474976710656) (l : Toks) (b : Bool) : r81 (s, ()) (l, (b, ())) = some ((nodeL (vread s).1, ()), (l, ((if (vread s).2 = 0 then b else true), ()))) := by
  unfold r81
  refine bind_of (rvalue_eq s h) ?_
  by_cases h0 : (vread s).2 = 0
  · rw [if_pos h0]
    exact (c_false (by rw [decide_eq_true h0]; rfl)).trans rfl
  · rw [if_neg h0]
    exact (c_true (by rw [decide_eq_false h0]; rfl)).trans rfl
def peekS (l : Toks) : ByteArray := l.headD emptyS
theorem rpeek_eq (l : Toks) (b : Bool) : r78 () (l, (b, ())) = some ((peekS l, ()), (l, (b, ()))) := by
  unfold r78
  cases l with
  | nil => rfl
  | cons s l =>
    have h1 : decide (((s :: l).length : Int) = 0) = false := decide_eq_false (by simp only [List.length_cons]; omega)
    have h2 : inB (0 : Int) (s :: l).length = true := by unfold inB; simp
    exact (c_false h1).trans ((c_true h2).trans rfl)
theorem rnext_nil (b : Bool) : r79 () ([], (b, ())) = some ((emptyS, ()), ([], (true, ()))) := rfl
theorem rnext_cons (s : ByteArray) (l : Toks) (b : Bool) : r79 () (s :: l, (b, ())) = some ((s, ()), (l, (b, ()))) := by
  unfold r79
  refine bind_of (rpeek_eq (s :: l) b) ?_
  have h1 : decide (((s :: l).length : Int) = 0) = false := decide_eq_false (by simp only [List.length_cons]; omega)
  have h2 : upTo (1 : Int) ((s :: l).length : Int) = true := by unfold upTo; simp; omega
  exact (c_false h1).trans ((c_true h2).trans rfl)
theorem want_hd (s : ByteArray) (l : Toks) (b : Bool) : r110 (s, ()) (s :: l, (b, ())) = some ((), (l, (b, ()))) := by
  unfold r110
  refine bind_of (rnext_cons s l b) ?_
  exact (c_false (by show (Bool.not (decide (s = s))) = false; rw [decide_eq_true rfl]; rfl)).trans rfl
theorem want_no (s : ByteArray) (hs : s ≠ emptyS) (l : Toks) (b : Bool) (h : l.head? ≠ some s) : ∃ l', r110 (s, ()) (l, (b, ())) = some ((), (l', (true, ()))) := by
  unfold r110
  cases l with
  | nil =>
    refine ⟨[], bind_of (rnext_nil b) ?_⟩
    exact (c_true (by show (Bool.not (decide (emptyS = s))) = true; rw [decide_eq_false (Ne.symm hs)]; rfl)).trans rfl
  | cons t l =>
    refine ⟨l, bind_of (rnext_cons t l b) ?_⟩
    have : t ≠ s := by simpa using h
    exact (c_true (by show (Bool.not (decide (t = s))) = true; rw [decide_eq_false this]; rfl)).trans rfl
theorem want_bad (s : ByteArray) (l : Toks) : ∃ l', r110 (s, ()) (l, (true, ())) = some ((), (l', (true, ()))) := by
  unfold r110
  cases l with
  | nil =>
    refine ⟨[], bind_of (rnext_nil true) ?_⟩
    cases hd : decide (emptyS = s)
    · exact (c_true (by first | rfl | (show (Bool.not (decide (emptyS = s))) = true; rw [hd]; rfl))).trans rfl
    · exact (c_false (by first | rfl | (show (Bool.not (decide (emptyS = s))) = false; rw [hd]; rfl))).trans rfl
  | cons t l =>
    refine ⟨l, bind_of (rnext_cons t l true) ?_⟩
    cases hd : decide (t = s)
    · exact (c_true (by first | rfl | (show (Bool.not (decide (t = s))) = true; rw [hd]; rfl))).trans rfl
    · exact (c_false (by first | rfl | (show (Bool.not (decide (t = s))) = false; rw [hd]; rfl))).trans rfl
end Go.Proofs.YtdfgfjnpllncdaaGreatDoor.I
