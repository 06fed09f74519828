/- Chapter 14's law: its small functions, the chapter's examples. Chapter 14: the chapter's examples, plain. Chapter 14's law: lives. The law PickNames: its walk. -/
import Derived.Test.YtkcohhldmhdcfaaVzVeOa
import Derived.Test.YtkcohhldmhdcfaaVzDrawK
import Derived.Test.YtkcohhldmhdcfaaVzVeX
import Derived.Test.YtkcohhldmhdcfaaVzVeY
import Derived.Test.YtkcohhldmhdcfaaVzVeZa
namespace Go.Proofs.Ytkcohhldmhdcfaa
open Go.RowKit

/-- A file of the law's. -/
def lf (n size : Int) (ks vs : List UInt8) : Fil := ⟨n, size, ks, vs, 1, 1⟩
def lv (zero one : List Fil) : Ver := ⟨[zero, one, [], [], []], 9, 0, 0⟩
end Go.Proofs.Ytkcohhldmhdcfaa

namespace Go.Proofs.Ytkcohhldmhdcfaa
open Go.RowKit

def p1 : Fil := lf 1 9 [97] [99]
def p2 : Fil := lf 2 9 [120] [122]
def p3 : Fil := lf 2 9 [98] [100]
def p4 : Fil := lf 3 9 [100] [101]
def p5 : Fil := lf 1 250 [97] [98]
def p6 : Fil := lf 1 99 [97] [98]
def q1 : Ver := lv [p1, p2] []
def q2 : Ver := lv [p1, p3, p4] []
end Go.Proofs.Ytkcohhldmhdcfaa

namespace Go.Proofs.Ytkcohhldmhdcfaa
open Go.RowKit

end Go.Proofs.Ytkcohhldmhdcfaa

namespace Go.Proofs.Ytkcohhldmhdcfaa
open Go.RowKit

end Go.Proofs.Ytkcohhldmhdcfaa
