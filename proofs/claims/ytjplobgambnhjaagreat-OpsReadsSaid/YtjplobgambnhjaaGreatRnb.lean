/- The document's DecodeMsg: what is read, by the number of entries; no statement. -/
import Derived.Test.YtjplobgambnhjaaGreatRna
import Derived.Test.YtjplobgambnhjaaGreatDmg
set_option linter.unusedVariables false
set_option linter.unusedSimpArgs false
set_option maxRecDepth 100000
namespace Go.Proofs.YtjplobgambnhjaaGreat
open Go Go.Eng

def frQ : Nat → Bool → ByteArray → Bool
  | 0, b, _ => b
  | k + 1, b, s => frQ k (qdB (.t 1048576) b s) (fr s)
def qt2 (k : Nat) (s : ByteArray) : ByteArray := frS k (nr (sp1 s))
def qt3 (k : Nat) (s : ByteArray) : ByteArray := rdsS rdL2 (qt2 k s)
def qt4 (k : Nat) (s : ByteArray) : ByteArray := mbS (mqN (qt3 k s)) (nr (qt3 k s))
def qt5 (k : Nat) (s : ByteArray) : ByteArray := rdsS rdL3 (qt4 k s)
def qb1 (s : ByteArray) : Bool := qdB (.n 8) (qdsB rdL1 false s) (sp1 s)
def qb2 (k : Nat) (s : ByteArray) : Bool := frQ k (qb1 s) (nr (sp1 s))
def qb4 (k : Nat) (s : ByteArray) : Bool := mqB (mqN (qt3 k s)) (qdB (.n 5) (qdsB rdL2 (qb2 k s) (qt2 k s)) (qt3 k s)) (nr (qt3 k s))
def qb5 (k : Nat) (s : ByteArray) : Bool := qdsB rdL3 (qb4 k s) (qt4 k s)
def csDM (W : Bool) (d : rMsg.den) : List Bool := [(fun q => !W || q) (id ((!W) == false)), (fun q => !((!W) == false) || q) (id ((!W) == false)), (fun q => !((!W) == false) || q) (decide ((eE d).length ≤ maxLen)), (fun q => !((!W) == false) || q) (nnE (eE d)), (fun q => !((!W) == false) || q) (hR (aP d).2.2.2.1), (fun q => !((!W) == false) || q) (hR (aT d).2.2.2.2.1), (fun q => !((!W) == false) || q) (id ((!W) == false))]
def qW (k : Nat) (s : ByteArray) : Bool := dnB (qb5 k s) (qt5 k s)
abbrev tZm : AV := .tup [(true, cZm), (false, [.int .i64 4])]
end Go.Proofs.YtjplobgambnhjaaGreat
