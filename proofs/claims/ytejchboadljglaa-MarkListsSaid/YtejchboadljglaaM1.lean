/- The law MarkLists answers true at every input, and leaves its arguments as they were: no condition. -/
import Derived.Test.YtejchboadljglaaZH
import Derived.Test.YtejchboadljglaaZI
namespace Go.Proofs.Ytejchboadljglaa

theorem markLists_holds : Rows.MarkListsSaid := Go.Fw.row3 fun t n1 s => Go.Fw.f3_spec t n1 s []

end Go.Proofs.Ytejchboadljglaa
