/- LinearKnown: closed calls, each run by itself; no statement. -/
import Derived.Test.YthdgoefjkfafkaaGreatDoorLt1
set_option linter.unusedVariables false
set_option maxRecDepth 1000000
namespace Go.Proofs.YthdgoefjkfafkaaGreatDoor
open Go Go.Eng

abbrev rEv : CT := .pair cI (.pair cU (.pair .bool (.pair rOp (.pair rRes .unit))))
def h1L : List rEv.den := [
  (((0 : Int), (1 : Int), true, (((1 : Int), ByteArray.mk #[114], ByteArray.mk #[120], ByteArray.mk #[118], false, ByteArray.mk #[], ()) : rOp.den), (((0 : Int), false, ByteArray.mk #[], ByteArray.mk #[], (0 : Int), ()) : rRes.den), ()) : rEv.den),
  (((1 : Int), (1 : Int), true, (((2 : Int), ByteArray.mk #[114], ByteArray.mk #[120], ByteArray.mk #[], false, ByteArray.mk #[], ()) : rOp.den), (((0 : Int), false, ByteArray.mk #[], ByteArray.mk #[], (0 : Int), ()) : rRes.den), ()) : rEv.den),
  (((1 : Int), (1 : Int), false, (((2 : Int), ByteArray.mk #[114], ByteArray.mk #[120], ByteArray.mk #[], false, ByteArray.mk #[], ()) : rOp.den), (((0 : Int), true, ByteArray.mk #[], ByteArray.mk #[118], (1 : Int), ()) : rRes.den), ()) : rEv.den),
  (((0 : Int), (1 : Int), false, (((1 : Int), ByteArray.mk #[114], ByteArray.mk #[120], ByteArray.mk #[118], false, ByteArray.mk #[], ()) : rOp.den), (((0 : Int), false, ByteArray.mk #[], ByteArray.mk #[], (1 : Int), ()) : rRes.den), ()) : rEv.den)]
def h1A : AV := .one (.sl rEv h1L .shared)
def h2L : List rEv.den := [
  (((0 : Int), (1 : Int), true, (((1 : Int), ByteArray.mk #[114], ByteArray.mk #[120], ByteArray.mk #[118], false, ByteArray.mk #[], ()) : rOp.den), (((0 : Int), false, ByteArray.mk #[], ByteArray.mk #[], (0 : Int), ()) : rRes.den), ()) : rEv.den),
  (((1 : Int), (1 : Int), true, (((2 : Int), ByteArray.mk #[114], ByteArray.mk #[120], ByteArray.mk #[], false, ByteArray.mk #[], ()) : rOp.den), (((0 : Int), false, ByteArray.mk #[], ByteArray.mk #[], (0 : Int), ()) : rRes.den), ()) : rEv.den),
  (((1 : Int), (1 : Int), false, (((2 : Int), ByteArray.mk #[114], ByteArray.mk #[120], ByteArray.mk #[], false, ByteArray.mk #[], ()) : rOp.den), (((0 : Int), false, ByteArray.mk #[], ByteArray.mk #[], (0 : Int), ()) : rRes.den), ()) : rEv.den),
  (((0 : Int), (1 : Int), false, (((1 : Int), ByteArray.mk #[114], ByteArray.mk #[120], ByteArray.mk #[118], false, ByteArray.mk #[], ()) : rOp.den), (((0 : Int), false, ByteArray.mk #[], ByteArray.mk #[], (1 : Int), ()) : rRes.den), ()) : rEv.den)]
def h2A : AV := .one (.sl rEv h2L .shared)
def h3L : List rEv.den := [
  (((0 : Int), (1 : Int), true, (((1 : Int), ByteArray.mk #[114], ByteArray.mk #[120], ByteArray.mk #[118], false, ByteArray.mk #[], ()) : rOp.den), (((0 : Int), false, ByteArray.mk #[], ByteArray.mk #[], (0 : Int), ()) : rRes.den), ()) : rEv.den),
  (((0 : Int), (1 : Int), false, (((1 : Int), ByteArray.mk #[114], ByteArray.mk #[120], ByteArray.mk #[118], false, ByteArray.mk #[], ()) : rOp.den), (((13 : Int), false, ByteArray.mk #[], ByteArray.mk #[], (0 : Int), ()) : rRes.den), ()) : rEv.den),
  (((1 : Int), (1 : Int), true, (((2 : Int), ByteArray.mk #[114], ByteArray.mk #[120], ByteArray.mk #[], false, ByteArray.mk #[], ()) : rOp.den), (((0 : Int), false, ByteArray.mk #[], ByteArray.mk #[], (0 : Int), ()) : rRes.den), ()) : rEv.den),
  (((1 : Int), (1 : Int), false, (((2 : Int), ByteArray.mk #[114], ByteArray.mk #[120], ByteArray.mk #[], false, ByteArray.mk #[], ()) : rOp.den), (((0 : Int), false, ByteArray.mk #[], ByteArray.mk #[], (0 : Int), ()) : rRes.den), ()) : rEv.den),
  (((1 : Int), (2 : Int), true, (((2 : Int), ByteArray.mk #[114], ByteArray.mk #[120], ByteArray.mk #[], false, ByteArray.mk #[], ()) : rOp.den), (((0 : Int), false, ByteArray.mk #[], ByteArray.mk #[], (0 : Int), ()) : rRes.den), ()) : rEv.den),
  (((1 : Int), (2 : Int), false, (((2 : Int), ByteArray.mk #[114], ByteArray.mk #[120], ByteArray.mk #[], false, ByteArray.mk #[], ()) : rOp.den), (((0 : Int), true, ByteArray.mk #[], ByteArray.mk #[118], (1 : Int), ()) : rRes.den), ()) : rEv.den)]
def h3A : AV := .one (.sl rEv h3L .shared)
def h4L : List rEv.den := [
  (((0 : Int), (1 : Int), true, (((1 : Int), ByteArray.mk #[114], ByteArray.mk #[120], ByteArray.mk #[118], false, ByteArray.mk #[], ()) : rOp.den), (((0 : Int), false, ByteArray.mk #[], ByteArray.mk #[], (0 : Int), ()) : rRes.den), ()) : rEv.den),
  (((1 : Int), (1 : Int), true, (((2 : Int), ByteArray.mk #[114], ByteArray.mk #[120], ByteArray.mk #[], false, ByteArray.mk #[], ()) : rOp.den), (((0 : Int), false, ByteArray.mk #[], ByteArray.mk #[], (0 : Int), ()) : rRes.den), ()) : rEv.den),
  (((1 : Int), (1 : Int), false, (((2 : Int), ByteArray.mk #[114], ByteArray.mk #[120], ByteArray.mk #[], false, ByteArray.mk #[], ()) : rOp.den), (((0 : Int), true, ByteArray.mk #[], ByteArray.mk #[118], (1 : Int), ()) : rRes.den), ()) : rEv.den)]
def h4A : AV := .one (.sl rEv h4L .shared)
def h5L : List rEv.den := [
  (((0 : Int), (1 : Int), true, (((1 : Int), ByteArray.mk #[114], ByteArray.mk #[120], ByteArray.mk #[118], false, ByteArray.mk #[], ()) : rOp.den), (((0 : Int), false, ByteArray.mk #[], ByteArray.mk #[], (0 : Int), ()) : rRes.den), ()) : rEv.den),
  (((0 : Int), (1 : Int), false, (((1 : Int), ByteArray.mk #[114], ByteArray.mk #[120], ByteArray.mk #[118], false, ByteArray.mk #[], ()) : rOp.den), (((0 : Int), false, ByteArray.mk #[], ByteArray.mk #[], (1 : Int), ()) : rRes.den), ()) : rEv.den),
  (((1 : Int), (1 : Int), true, (((2 : Int), ByteArray.mk #[114], ByteArray.mk #[120], ByteArray.mk #[], false, ByteArray.mk #[], ()) : rOp.den), (((0 : Int), false, ByteArray.mk #[], ByteArray.mk #[], (0 : Int), ()) : rRes.den), ()) : rEv.den),
  (((1 : Int), (1 : Int), false, (((2 : Int), ByteArray.mk #[114], ByteArray.mk #[120], ByteArray.mk #[], false, ByteArray.mk #[], ()) : rOp.den), (((0 : Int), false, ByteArray.mk #[], ByteArray.mk #[], (0 : Int), ()) : rRes.den), ()) : rEv.den)]
def h5A : AV := .one (.sl rEv h5L .shared)
def h6L : List rEv.den := [
  (((0 : Int), (1 : Int), true, (((1 : Int), ByteArray.mk #[114], ByteArray.mk #[120], ByteArray.mk #[118], false, ByteArray.mk #[], ()) : rOp.den), (((0 : Int), false, ByteArray.mk #[], ByteArray.mk #[], (0 : Int), ()) : rRes.den), ()) : rEv.den),
  (((0 : Int), (1 : Int), false, (((1 : Int), ByteArray.mk #[114], ByteArray.mk #[120], ByteArray.mk #[118], false, ByteArray.mk #[], ()) : rOp.den), (((14 : Int), false, ByteArray.mk #[], ByteArray.mk #[], (0 : Int), ()) : rRes.den), ()) : rEv.den),
  (((1 : Int), (1 : Int), true, (((2 : Int), ByteArray.mk #[114], ByteArray.mk #[120], ByteArray.mk #[], false, ByteArray.mk #[], ()) : rOp.den), (((0 : Int), false, ByteArray.mk #[], ByteArray.mk #[], (0 : Int), ()) : rRes.den), ()) : rEv.den),
  (((1 : Int), (1 : Int), false, (((2 : Int), ByteArray.mk #[114], ByteArray.mk #[120], ByteArray.mk #[], false, ByteArray.mk #[], ()) : rOp.den), (((0 : Int), true, ByteArray.mk #[], ByteArray.mk #[118], (1 : Int), ()) : rRes.den), ()) : rEv.den)]
def h6A : AV := .one (.sl rEv h6L .shared)
def h7L : List rEv.den := [
  (((0 : Int), (1 : Int), true, (((1 : Int), ByteArray.mk #[114], ByteArray.mk #[120], ByteArray.mk #[118], false, ByteArray.mk #[], ()) : rOp.den), (((0 : Int), false, ByteArray.mk #[], ByteArray.mk #[], (0 : Int), ()) : rRes.den), ()) : rEv.den),
  (((0 : Int), (1 : Int), false, (((1 : Int), ByteArray.mk #[114], ByteArray.mk #[120], ByteArray.mk #[118], false, ByteArray.mk #[], ()) : rOp.den), (((13 : Int), false, ByteArray.mk #[], ByteArray.mk #[], (0 : Int), ()) : rRes.den), ()) : rEv.den),
  (((1 : Int), (1 : Int), true, (((2 : Int), ByteArray.mk #[114], ByteArray.mk #[120], ByteArray.mk #[], false, ByteArray.mk #[], ()) : rOp.den), (((0 : Int), false, ByteArray.mk #[], ByteArray.mk #[], (0 : Int), ()) : rRes.den), ()) : rEv.den),
  (((1 : Int), (1 : Int), false, (((2 : Int), ByteArray.mk #[114], ByteArray.mk #[120], ByteArray.mk #[], false, ByteArray.mk #[], ()) : rOp.den), (((0 : Int), true, ByteArray.mk #[], ByteArray.mk #[118], (1 : Int), ()) : rRes.den), ()) : rEv.den),
  (((1 : Int), (2 : Int), true, (((2 : Int), ByteArray.mk #[114], ByteArray.mk #[120], ByteArray.mk #[], false, ByteArray.mk #[], ()) : rOp.den), (((0 : Int), false, ByteArray.mk #[], ByteArray.mk #[], (0 : Int), ()) : rRes.den), ()) : rEv.den),
  (((1 : Int), (2 : Int), false, (((2 : Int), ByteArray.mk #[114], ByteArray.mk #[120], ByteArray.mk #[], false, ByteArray.mk #[], ()) : rOp.den), (((0 : Int), false, ByteArray.mk #[], ByteArray.mk #[], (0 : Int), ()) : rRes.den), ()) : rEv.den)]
def h7A : AV := .one (.sl rEv h7L .shared)
def haL : List rEv.den := [
  (((0 : Int), (1 : Int), true, (((1 : Int), ByteArray.mk #[114], ByteArray.mk #[120], ByteArray.mk #[118], false, ByteArray.mk #[], ()) : rOp.den), (((0 : Int), false, ByteArray.mk #[], ByteArray.mk #[], (0 : Int), ()) : rRes.den), ()) : rEv.den),
  (((0 : Int), (1 : Int), false, (((1 : Int), ByteArray.mk #[114], ByteArray.mk #[120], ByteArray.mk #[118], false, ByteArray.mk #[], ()) : rOp.den), (((0 : Int), false, ByteArray.mk #[], ByteArray.mk #[], (1 : Int), ()) : rRes.den), ()) : rEv.den),
  (((1 : Int), (1 : Int), true, (((2 : Int), ByteArray.mk #[114], ByteArray.mk #[120], ByteArray.mk #[], false, ByteArray.mk #[], ()) : rOp.den), (((0 : Int), false, ByteArray.mk #[], ByteArray.mk #[], (0 : Int), ()) : rRes.den), ()) : rEv.den),
  (((1 : Int), (1 : Int), false, (((2 : Int), ByteArray.mk #[114], ByteArray.mk #[120], ByteArray.mk #[], false, ByteArray.mk #[], ()) : rOp.den), (((0 : Int), true, ByteArray.mk #[], ByteArray.mk #[118], (1 : Int), ()) : rRes.den), ()) : rEv.den)]
def haA : AV := .one (.sl rEv haL .shared)
def bA (b : Bool) : Bool × List AC := (false, [.bool b])
def eA (n : Int) : Bool × List AC := (false, [.int .i64 n])
def iA (n : Int) : AV := .one (.int .i64 n)
theorem row_h1 : cameP (ELt.pureRun 10 [h1A, .one (.str (ByteArray.mk #[114]))] []) h1A = true := by kernel_rfl
theorem row_h2 : cameP (ELt.pureRun 10 [h2A, .one (.str (ByteArray.mk #[114]))] []) h2A = true := by kernel_rfl
theorem row_h3 : cameP (ELt.pureRun 10 [h3A, .one (.str (ByteArray.mk #[114]))] []) h3A = true := by kernel_rfl
theorem row_h4 : cameP (ELt.pureRun 10 [h4A, .one (.str (ByteArray.mk #[114]))] []) h4A = true := by kernel_rfl
theorem row_h5 : cameP (ELt.pureRun 10 [h5A, .one (.str (ByteArray.mk #[114]))] []) h5A = true := by kernel_rfl
theorem row_h6 : cameP (ELt.pureRun 10 [h6A, .one (.str (ByteArray.mk #[114]))] []) h6A = true := by kernel_rfl
theorem row_h7 : cameP (ELt.pureRun 10 [h7A, .one (.str (ByteArray.mk #[114]))] []) h7A = true := by kernel_rfl
theorem row_ha : cameP (ELt.pureRun 10 [haA, .one (.str (ByteArray.mk #[114]))] []) haA = true := by kernel_rfl
end Go.Proofs.YthdgoefjkfafkaaGreatDoor
