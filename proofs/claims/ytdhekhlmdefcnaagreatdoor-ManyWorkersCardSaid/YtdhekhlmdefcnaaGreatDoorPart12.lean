/- Part 12 of the proof. -/
import Derived.Test.YtdhekhlmdefcnaaGreatDoorPart11
import Derived.RangeFuncNested
import Derived.RangeFuncBound
import Derived.Shelf.RegionOpen
import Derived.OwnWalkIn
import Derived.LoopNIn
import Derived.LoopIn
import Derived.ProofKit
import Derived.LaidMore
import Derived.OpenShut
import Derived.Deep.Slices
import Derived.Deep.Fields
import Derived.Stop.Joined
import Derived.Stop.LaidErr
import Derived.Lay
import Derived.Conc.Holds
import Derived.Conc.LeavingOf
set_option maxHeartbeats 16000000
set_option maxRecDepth 1000000
namespace Go
section
variable {p:Prop}
theorem zcy(h:p:=by obtain rfl:e=.returned (.string ⟨t.toArray⟩):=he;have q0:=pw.out.aJ 0 _ rfl;have q1:=pw.out.free 0;have q2:=pw.out.lt;go_wp2;refine leaves_cons (f:=45) (args:=#[pT gl 0]) sM (by simp[go_sem]) ?_;refine(sG ⟨gl,0,none⟩ _).mono ?_;rintro e u' w'' ⟨rfl,rfl,rfl⟩;have z0:=(pw.out.set 0 (.string ⟨t.toArray⟩)).aJ 0 (.string ⟨t.toArray⟩) rfl;refine⟨.string ⟨t.toArray⟩,?_,rfl,x',vx,HD4.out.put pw.out 0 _,oU HB3.out HG.out Ue.out (λb hb=>HG.out▸Ud.out b hb) pw.out _⟩;simp[results,Tryz.results18,go_sem,z0]):p:=h
theorem zcz(h:p:=by u_c stepG_seq aO hF;u_reg aO hF;u_op aO hF;u_c stepG_region_end aO hF;u_c stepG_ret' aO hF;refine Goes.stop (λw1 h1 _=>?_);exact hret _ _ w1 sM sM (aO hF h1)):p:=h
theorem zcA(h:p:=by refine .inl ⟨Zj.out,HL2.out,λhx=>?_⟩;have hl0:l≠[]:=λe=>hx (by rw[e];rfl);(have:¬c3=1:=by have:=List.length_pos_iff.2 hl0;omega);rw[if_neg this];exact⟨A2,1,rfl,hbl,λj u hu=>by rw[hh.cell];exact hcs (1+j) u (by rw[Nat.add_comm];exact hu)⟩):p:=h
theorem zcB(h:p:=by rename_i h1;exact Bd h1 (by intro _ h;cases h) (by intro _ _ h;cases h) (by intro h;cases h)):p:=h
theorem zcC(h:p:=by have hm:=mem_listed he;clear hKx ih;simp[go_sem,hld]at hm;exact⟨_,false,hm,hlt2,by rw[Pr.add_block];exact ha2⟩):p:=h
theorem zcD(h:p:=by subst e;unfold Has at hh hs;rw[hs]at hh;injection hh with hh;injection hh with _ e;subst e;cases hn):p:=h
theorem zcE(h:p:=by exact congrArg (λb=>Ending.returned (.string b)) (xq [101,114,114,111,114,32] (Lib.itoa n))):p:=h
theorem zcF(h:p:=by injection e with e;rw[<-e];unfold uj Pr;decide):p:=h
theorem zcG(h:p:=by simp[Act.eval, *]):p:=h
theorem zcH(h:p:=by simp[World.setCell]):p:=h
theorem zcI(h:p:=by obtain⟨t,cs,hh,hm⟩:=hd.sys.mut hk;exact⟨t,cs,hh,by simp[hm]⟩):p:=h
theorem zcJ(h:p:=by rw[<-h.sz];exact hlt):p:=h
theorem zcK(h:p:=by rw[hn];exact List.mem_cons_of_mem _ ht):p:=h
theorem zcL(h:p:=by intro e he;simp at he):p:=h
theorem zcM(h:p:=by simpa using World.var?_cell hg0 hv0 0):p:=h
theorem zcN(h:p:=by simp only[binOp];simp[Op.equal,Op.maxDepth,he 9999]):p:=h
theorem zcO(h:p:=by simp[results,Tryz.results18,go_sem,z0]):p:=h
theorem zcP(h:p:=by u_op aO hF;u_c stepG_region_end aO hF;u_cond true aO hF;exact zcz):p:=h
theorem zcQ(h:p:=by simp[go_sem]):p:=h
end
end Go
namespace Go.Proofs.YtdhekhlmdefcnaaGreatDoor
open Go.Proofs.Tryz Go.RowKit
def dW:Nat->ay->List ay
 |0,s=>[s]
 |n+1,s=>if Lib.indexByte s.data.toList 10<0 then[s]else s.extract 0 (Lib.indexByte s.data.toList 10).toNat::dW n (s.extract ((Lib.indexByte s.data.toList 10).toNat+1) s.size)
def eh(d:Dk)(l:List ay):Dk×By:=l.foldl (λr s=>((dT r.1 s).1,r.2++((dT r.1 s).2++[10]))) (d,[])
def MM:Lay:=⟨4,[3,12,6],2⟩
def dL:Dk:=⟨MM,Sys.new 10⟩
def iD(text:ay):List ay:=dW (⟨(Lib.trimSuffix text.data.toList [10]).toArray⟩:ay).size ⟨(Lib.trimSuffix text.data.toList [10]).toArray⟩
def pk(a n:Int):Int:=(a %18446744073709551616)%n
theorem vA(a n:Int)(h:0<n):0<=pk a n/\pk a n<n:=⟨Int.emod_nonneg _ oM,Int.emod_lt_of_pos _ h⟩
def pW(t:ay):ay:=⟨(eh dL (iD t)).2.toArray⟩
end Go.Proofs.YtdhekhlmdefcnaaGreatDoor
