/-
  Plain mathematics of tallies: what a proposer makes of the records that it reads.
-/
import Init
namespace Go.Proofs.Ytilpcoebpinmfaa

/-- a record of ballots -/
structure Rc where
  inst : Int
  mbal : Int
  bal : Int
  val : ByteArray

/-- a tally -/
structure Ty where
  inst : Int
  mbal : Int
  best : Int
  val : ByteArray
  seen : Int
  ahead : Bool
  lost : Bool

/-- the greater of two, as Go has it -/
def mx (a b : Int) : Int := if a < b then b else a

/-- one's own record -/
def begun (r : Rc) (seen : Int) : Ty := { inst := r.inst, mbal := r.mbal, best := r.bal, val := r.val, seen := mx seen r.mbal, ahead := false, lost := false }

/-- behind a record of the same place -/
def hereT (t : Ty) (r : Rc) : Ty := { t with lost := t.lost || decide (t.mbal < r.mbal), best := if t.best < r.bal then r.bal else t.best, val := if t.best < r.bal then r.val else t.val }

/-- behind a record -/
def oneT (t : Ty) (r : Rc) : Ty :=
  let t1 : Ty := { t with seen := mx t.seen r.mbal }
  if t.inst < r.inst then { t1 with ahead := true } else if r.inst = t.inst then hereT t1 r else t1

def countT (t : Ty) (l : List Rc) : Ty := l.foldl oneT t

end Go.Proofs.Ytilpcoebpinmfaa
