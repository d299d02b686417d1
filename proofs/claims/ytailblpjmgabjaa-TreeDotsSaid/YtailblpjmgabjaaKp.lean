/- What is proved: plain contexts: a list of (center, from, to). Conditions: none. -/
import Derived.Test.YtailblpjmgabjaaSp
import Derived.Test.YtailblpjmgabjaaTf
import Derived.Test.YtailblpjmgabjaaTh
import Derived.Test.YtailblpjmgabjaaTp
import Derived.Test.YtailblpjmgabjaaLb
namespace Go.Proofs.Ytailblpjmgabjaa
set_option linter.unusedVariables false
set_option linter.unusedSimpArgs false
abbrev Spn := Int × Int × Int
def spE (x : Spn) : List AV := [i64 x.1, i64 x.2.1, i64 x.2.2]
def spn (d : Int) (x : Int × Int) : Spn := (d, x)
/-- the parts of the four centers, one behind the other -/
def whole (p : Int → List (Int × Int)) : List Spn := (p 0).map (spn 0) ++ ((p 1).map (spn 1) ++ ((p 2).map (spn 2) ++ (p 3).map (spn 3)))
end Go.Proofs.Ytailblpjmgabjaa
