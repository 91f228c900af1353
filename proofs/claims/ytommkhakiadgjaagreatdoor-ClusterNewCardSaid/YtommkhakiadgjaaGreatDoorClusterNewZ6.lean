import Derived.Test.YtommkhakiadgjaaGreatDoorClusterNewZ5
import Derived.Test.YtommkhakiadgjaaGreatDoorRows
import Derived.Test.YtommkhakiadgjaaGreatDoorTie
import Derived.SevenTiedAt
import Derived.LaidMore
import Derived.Stop.Joined
set_option maxHeartbeats 40000000
namespace Go.Proofs.YtommkhakiadgjaaGreatDoor.clusterNew
open Go.ChangeShapes Go.WideShapes Go.ChangeAt Go.RowKit
theorem al0{P:Program}(h:P.funcs.any Func.goes=false)(f:FuncId):P.goes f=false:=by
 unfold Program.goes;rw[h,Bool.and_false,Bool.or_false,oP];intro g _ hg;rcases e:P.funcs[g]? with _|fn
 ·rw[e]at hg;cases hg
 ·rw[e]at hg
  obtain⟨bH,e2⟩:=bE.1 e;have:=Array.any_eq_false.1 h g bH;rw[e2]at this;exact this hg
theorem ZQ{c:OpenClaim}{P:Program}(hs:c.start= .entering)(h:P.funcs.any Func.goes=false):false=c.goesBy P:=by
 unfold OpenClaim.goesBy Program.goesAt Program.goesFrom;rw[hs]
 cases P.funcNamed c.func with
 |none=>rfl
 |some f=>simp[al0 h f]
set_option maxRecDepth 100000 in
theorem ah2:Tryz.pinned.checked.prog.funcs.any Func.goes=false:=by as_aux_lemma=>kernel_rfl
set_option maxRecDepth 100000 in
theorem jQ:joinedFacts Tryz.pinned.checked.prog 3 Tryz.f3 Rows.clusterNewSpec Rows.clusterNewRow=true:=by
 unfold joinedFacts;simp only[aB]
 repeat' (refine And.intro ?_ ?_)
 all_goals (as_aux_lemma=>kernel_rfl)
end Go.Proofs.YtommkhakiadgjaaGreatDoor.clusterNew
