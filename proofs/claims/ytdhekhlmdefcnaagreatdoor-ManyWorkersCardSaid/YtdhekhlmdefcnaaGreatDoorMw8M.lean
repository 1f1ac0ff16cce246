/- ManyWorkers: however many workers there are, each text's answers are its own; for all texts, both numbers of workers, all schedules; the listed variables are laid, and tied by the card. -/
import Derived.Test.YtdhekhlmdefcnaaGreatDoorPart12d
import Derived.Test.YtdhekhlmdefcnaaGreatDoorTie
import Derived.Test.YtdhekhlmdefcnaaGreatDoorCards
import Derived.SevenTiedAt
namespace Go.Proofs.YtdhekhlmdefcnaaGreatDoor
open Go.Proofs.Tryz
open Go
theorem Kv (Lk:Looks) {p:Pinned} {s:OpenSpec} {c:OpenClaim} (kinds:List LaidKind) (tests:Bool) (har:Bool×String) (lk:Bool)
 (hc:c.holds p s) (hw:c.wfByText s=true) (htie:c.laidByTextAt Lk p kinds tests)
 (hst:c.start=.entering) (hnb:c.noBlocks=false/\c.again=false) (hm:p.checked.prog.mainIs=some (har.1,har.2.toList)) (hn:(!har.1&&har.2.isEmpty&&!lk)=false)
 (hl:∀f fn,p.checked.prog.funcNamed c.func=some f->p.checked.prog.funcs[f]?=some fn->lk=p.checked.prog.looks []/\∀(j:Nat) t,fn.params[j]?=some t->p.checked.prog.wantsStandIn t=false)
 (hg:true=c.goesBy p.checked.prog):
 Claim7.holds p (.plain s) {stood:={row:=c,standIns:=[],harness:=har,looks:=lk},kinds:=[],alts:=[],goes:=true,laidByText:=true,laidKinds:=kinds,laidTests:=tests,laidLooks:=Lk}:=by
 have h6:∀r:OpenClaim,Claim7.isSixth {stood:={row:=r,standIns:=[],harness:=har,looks:=lk},kinds:=[]}=false:=λr=>by simpa[Claim7.isSixth]using hn
 exact⟨Claim7.tied_new_at Lk kinds tests (Claim7.new_of_sixth hc har lk hst hnb hm (h6 c) hl) hw,(λD hD=>by cases hD),htie,(λh=>by cases h),hg⟩
theorem manyWorkers_card:Rows.ManyWorkersCardSaid:=
 Kv .later [.data,.data,.data,.data,.handle,.sentinel,.sentinel,.pinned] true _ true
  uH kR manyWorkers_row_tie rfl ⟨rfl,rfl⟩ kR rfl
  (λf fn hf hfn=>by
   obtain rfl:f=3:=bJ ((show prog.funcNamed "triumvir/triumvirkeep.ManyWorkers" =some 3 by kernel_rfl).symm.trans hf)|>.symm;obtain rfl:fn=Tryz.f3:=(bJ (func3.symm.trans hfn)).symm;exact⟨kR,λj t ht=>by
    rw[params3]at ht;(have hm:t∈[22,3]:=by simpa using Array.mem_of_getElem? ht);have hall:([22,3].all λu=>!prog.wantsStandIn u)=true:=kR;exact(show prog.wantsStandIn t=false by simpa using bj.1 hall t hm)⟩)
  kR
#print axioms manyWorkers_card
end Go.Proofs.YtdhekhlmdefcnaaGreatDoor
