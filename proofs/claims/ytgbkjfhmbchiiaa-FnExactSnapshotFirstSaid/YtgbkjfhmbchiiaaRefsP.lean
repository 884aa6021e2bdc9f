/-
  What refs and updates are, in plain Lean: valid refs, valid updates, updates that fit, refs that are set, refs that differ. No program in sight.
-/
import Derived.Test.YtgbkjfhmbchiiaaBase
namespace Go.Proofs.Ytgbkjfhmbchiiaa
set_option linter.unusedVariables false
set_option linter.unusedSimpArgs false
open Go.RowKit

structure Upd where
  ref : Int
  old : Int
  new_ : Int
  deriving DecidableEq

/-- an update's cells -/
def cu (u : Upd) : List Value := [.int .i64 u.ref, .int .i64 u.old, .int .i64 u.new_]
theorem cu_len (u : Upd) : (cu u).length = 3 := rfl

def rid (n : Int) : Bool := inR n (-1) 990
def ridsB (xs : List Int) : Bool := xs.all rid
def refsB (xs : List Int) : Bool := decide (xs.length = 4) && ridsB xs
/-- one update alone -/
def uokB (u : Upd) : Bool := inR u.ref 0 3 && rid u.old && rid u.new_ && !decide (u.old = u.new_)
/-- each update alone, and refs in strict order behind 'prev' -/
def updsGo : Option Int → List Upd → Bool
  | _, [] => true
  | p, u :: us => uokB u && (match p with | none => true | some q => decide (q < u.ref)) && updsGo (some u.ref) us
def updsB (us : List Upd) : Bool := updsGo none us && decide (0 < us.length)
def getR (xs : List Int) (r : Int) : Int := xs.getD r.toNat 0
def fitsR (xs : List Int) (us : List Upd) : Bool := us.all fun u => decide (getR xs u.ref = u.old)
def setR (xs : List Int) (us : List Upd) : List Int := us.foldl (fun r u => r.set u.ref.toNat u.new_) xs
/-- what RefsApply returns: refs, and whether they were turned -/
def applyL (xs : List Int) (us : List Upd) : List Int := if refsB xs = true ∧ updsB us = true then (if fitsR xs us = true then setR xs us else xs) else []
def applyB (xs : List Int) (us : List Upd) : Bool := refsB xs && updsB us && fitsR xs us
def differAt (a b : List Int) (r : Nat) : List Upd := if a.getD r 0 = b.getD r 0 then [] else [⟨r, a.getD r 0, b.getD r 0⟩]
def differL (a b : List Int) : List Upd := if refsB a = true ∧ refsB b = true then (List.range 4).flatMap (differAt a b) else []
def crossB (a b : List Upd) : Bool := updsB a && updsB b && a.any fun u => b.any fun v => decide (u.ref = v.ref)

end Go.Proofs.Ytgbkjfhmbchiiaa
