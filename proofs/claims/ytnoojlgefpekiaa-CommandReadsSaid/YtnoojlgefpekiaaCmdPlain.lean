/-
  Plain words for commands.
-/
import Init
namespace Go.Proofs.Ytnoojlgefpekiaa

/-- a command -/
structure Cm where
  kind : Int
  node : Int
  serial : Int
  dead : Int
  was : Int
  lo : Int
  hi : Int
  mode : Int

/-- whether a number is a key -/
def keyB (k : Int) : Bool := decide (16 ≤ k) && decide (k ≤ 1099511627776)
/-- a key's node -/
def ofI (k : Int) : Int := if keyB k then k % 16 else -1
/-- whether a span may be -/
def spanB (c : Cm) : Bool := decide (0 ≤ c.lo) && decide (c.lo ≤ c.hi) && decide (c.hi < 64)
/-- whether it has nothing but what a kind names -/
def onlyB (c : Cm) (span mode dead was : Bool) : Bool :=
  (if span then spanB c else decide (c.lo = 0) && decide (c.hi = 0)) && (if mode then decide (c.mode = 1) || decide (c.mode = 2) else decide (c.mode = 0)) &&
  (if dead then keyB c.dead else decide (c.dead = 0)) && (decide (c.was = 0) || (was && keyB c.was))
/-- whether a command may be -/
def mayC (c : Cm) : Bool :=
  keyB c.node && decide (1 ≤ c.serial) && decide (c.serial ≤ 2147483648) &&
  (if c.kind = 0 ∨ c.kind = 1 then onlyB c false false false false else if c.kind = 2 then onlyB c true true false false else if c.kind = 3 then onlyB c true false false false
   else if c.kind = 4 then onlyB c false false true true else if c.kind = 5 then onlyB c false false true false else false)

end Go.Proofs.Ytnoojlgefpekiaa
