/- Part 6 of the proof. -/
import Derived.Test.YtdhekhlmdefcnaaGreatDoorPart5
import Derived.Deep.MidRow
import Derived.Orders
import Derived.WalkKit
import Derived.IntWalk
import Derived.Deep.RegionWith
import Derived.Deep.DeepCutAuto
set_option maxHeartbeats 16000000
set_option maxRecDepth 1000000
namespace Go
section
variable {p:Prop}
theorem zeY(h:p:=by obtain⟨s',hs'⟩:∃s',stores[t-1]?=some s':=⟨_,bg oM⟩;rw[aD,hs']at h4;unfold behind at h4;rw[ho]at h4;simp only[cH,br]at h4;rw[Array.any_eq_true]at h4;obtain⟨k,hk,BK⟩:=h4;simp only[aV,decide_eq_true_eq]at BK;have h5:=av o.after[k] (Array.getElem_mem hk) BK.2;rw[BK.1]at h5;have h6:=hst (t-1) s' hs';rw[h5]at h6;(have:t-1<j:=by simpa using h6.symm);omega):p:=h
theorem zeZ(h:p:=by obtain⟨s,hs⟩:∃s,stores[stores.length-1]?=some s:=⟨_,bg oM⟩;have h1:=hst _ s hs;(have h2:s<ops.size:=by simpa using bj.1 hsz s (aR hs));rw[hall s h2]at h1;(have:stores.length-1<j:=by simpa using h1.symm);omega):p:=h
theorem ze0(h:p:=by simp;omega):p:=h
theorem ze1(h:p:=by rw[getD_set_ne false (λe=>hns (by rw[e];exact aR hts))];exact hst t s hts):p:=h
theorem ze2(h:p:=by go_num):p:=h
theorem ze3(h:p:=by simp only[a,b1,if_true,if_false]):p:=h
theorem ze4(h:p:=by subst e;rw[hset];have:t=j:=(List.getElem?_inj (aX.1 hts).1 hnd).1 (hts.trans ht.symm);rw[this];simp):p:=h
theorem ze5(h:p:=by have h1:=hst 0 s rfl;rw[decide_eq_true h]at h1;have h2:=qp he hH.closed h1;rw[hnot]at h2;cases h2):p:=h
theorem ze6(h:p:=by rw[getD_set_ne false e2];exact h1):p:=h
theorem ze7(h:p:=by simp only[a,if_true]):p:=h
theorem ze8(h:p:=by rw[fP];decide):p:=h
theorem ze9(h:p:=by simp only[a,b1,c,d,if_true,if_false]):p:=h
theorem zfa(h:p:=by simp[H8.out]):p:=h
theorem zfb(h:p:=by show((List.range 3).map _).length=3;simp):p:=h
theorem zfc(h:p:=by rw[e',ht]at hts;injection hts with hts;exact e hts.symm):p:=h
theorem zfd(h:p:=by assumption):p:=h
theorem zfe(h:p:=by rw[hl.out];omega):p:=h
theorem zff(h:p:=by rw[HL.out,HN.out];exact k0.drewN _):p:=h
theorem zfg(h:p:=by rw[HL.out,R3.out];exact k0.drewN _):p:=h
theorem zfh(h:p:=by rw[HL.out,HN.out];rfl):p:=h
theorem zfi(h:p:=by rw[HL.out,Ym.out];exact IY k0 H8.out oM hf1 _):p:=h
theorem zfj(h:p:=by rw[e];exact aR hts):p:=h
theorem zfk(h:p:=by rw[Ma.out];rfl):p:=h
theorem zfl(h:p:=by unfold ie;simp[aD,hx0,hx1,hx2]):p:=h
end
end Go
namespace Go.Proofs.YtdhekhlmdefcnaaGreatDoor
open Go.RowKit
abbrev Cm:=Int×Int×Int
def Cm.zero:Cm:=(0,0,0)
def cA(k fr cy:Int)(c:Cm):List Int:=[k,fr,cy,c.1,c.2.1,c.2.2]++List.replicate 17 0
def wN(fr cy:Int)(s:St):List Int:=[5,fr,cy,0,0,0]++((s.set:Int)::(zs s.used++zs s.idle))
def mr(f:List Int):Cm:=(f.getD 3 0,f.getD 4 0,f.getD 5 0)
def jr(f:List Int):List Int:=f.drop 6
def abx(l:List Int):St:=⟨(l.getD 0 0).toNat,((l.drop 1).take 8).map Int.toNat,((l.drop 9).take 8).map Int.toNat⟩
structure Vo where
 trace:List Cm
 bF:List (Cm×Bool)
 out:Nat
 time:Int
 window:Int
 bO:Bool
def BB:List (Cm×Bool):=List.replicate 3 (Cm.zero,false)
def Vo.new(n:Int):Vo:=⟨[],BB,0,n,n,false⟩
def fD(v:Vo):Int:=if v.bO then 0 else match v.trace.getLast? with|some c=>c.2.2|none=>0
def dm(v:Vo)(k:Nat):List Int:=cA 3 3 k (v.trace.getD k Cm.zero)
def eM(v:Vo):Vo:=if v.bO then v else if v.time-1=0 then{v with time:=v.time-1,bO:=true}else{v with time:=v.time-1}
def cE(bF:List (Cm×Bool))(c:Cm)(out:Nat):Nat->Nat
 |0=>out
 |k+1=>let x:=bF.getD k (Cm.zero,false)
  if x.2=true/\x.1.1=c.1/\x.1.2.1=c.2.1/\x.1.2.2≠c.2.2 then cE bF c out k|||1<<<k else cE bF c out k
def iQ(o:Nat):Bool:=decide (o=3)||decide (o=5)||decide (o=6)||decide (o=7)
def cT(v:Vo)(c:Cm):Vo:=
 let o:=cE v.bF c v.out 3
 {v with out:=o,trace:=v.trace++[c],bF:=BB,time:=v.window,bO:=v.bO||iQ o||decide (1000<=v.trace.length+1)}
def alike(bF:List (Cm×Bool))(j:Nat)(c:Cm):Bool:=(List.range 3).any λr=>decide (r≠j)&&(bF.getD r (Cm.zero,false)).2&&decide ((bF.getD r (Cm.zero,false)).1=c)
def fS(v:Vo)(f:List Int):Bool:=
 (decide (f.getD 0 0=2)||decide (f.getD 0 0=4))&&decide (0<=f.getD 1 0)&&decide (f.getD 1 0<3)&&decide (0<=f.getD 2 0)&&!v.out.testBit (f.getD 1 0).toNat
def dR(v:Vo)(f:List Int):Vo×List (List Int)×Bool:=
 if fS v f=false then(v,[],false)else
 if f.getD 2 0=(v.trace.length:Int)-1 then(v,[dm v (f.getD 2 0).toNat],false)else
 if f.getD 2 0<v.trace.length then(v,[dm v (f.getD 2 0).toNat,dm v (v.trace.length-1)],false)else
 if(v.trace.length:Int)<f.getD 2 0\/v.bO=true\/f.getD 0 0=4 then(v,[],false)else
 let v':={v with bF:=v.bF.set (f.getD 1 0).toNat (mr f,true)}
 if alike v'.bF (f.getD 1 0).toNat (mr f)then(cT v' (mr f),[dm (cT v' (mr f)) v.trace.length],true)else(v',[],false)
structure Re where
 id:Nat
 cycle:Nat
 state:St
 field:Int×Int
 seen:List (Nat×Nat)
 some:List Bool
 came:List Nat
 told:List (Nat×St×Bool)
 dr:Nat
 ahead:Nat
def tG:List (Nat×Nat):=List.replicate 3 (0,0)
def Ad:List Bool:=List.replicate 3 false
def wO:List (Nat×St×Bool):=List.replicate 3 (0,St.zero,false)
def Re.new(k:Nat):Re:=⟨k,0,St.zero,(0,0),tG,Ad,List.replicate 3 0,wO,0,0⟩
def fit(L:Lay)(c:Int×Int):Nat×Nat:=(iI c.1 L.secs,iI c.2 L.routes.length)
def dI(r:Re):Nat->(Nat×Nat)×(Nat×Nat)
 |0=>((0,0),(0,0))
 |k+1=>let t:=dI r k
  if r.some.getD k false then
   let s:=r.seen.getD k (0,0)
   ((t.1.1|||(t.2.1&&&s.1),t.1.2|||(t.2.2&&&s.2)),(t.2.1|||s.1,t.2.2|||s.2))
  else t
def fused(r:Re):Nat×Nat:=(dI r 3).1
def pF(l:List Bool):Nat:=(l.filter id).length
def asks(r:Re):List Int:=cA 4 r.id r.cycle Cm.zero
def gi(L:Lay)(r:Re):Re:=
 let t:=r.dr+1
 {r with dr:=t,seen:=r.seen.set r.id (fit L r.field),came:=r.came.set r.id t,some:=((List.range 3).map λi=>r.some.getD i false&&decide (t<r.came.getD i 0+3)).set r.id true}
def ea(L:Lay)(r:Re):Re×List Int×List Int×Bool:=
 let q:=gi L r;let x:=q.seen.getD q.id (0,0);let FW:=cA 1 q.id q.cycle (x.1,x.2,0);let m:=pF q.some
 if m=1/\3<=q.dr then(q,FW,asks q,true)else
 if m=1\/m=2/\q.dr<3 then(q,FW,aQ,false)else
 let i:=fused q
 (q,FW,cA 2 q.id q.cycle (i.1,i.2,((step L i.1 i.2 q.state).2:Nat)),true)
def goes(r:Re)(k:Nat):Re:={r with cycle:=k,seen:=tG,some:=Ad,told:=wO,dr:=0}
def iR(L:Lay)(set:Int)(u d:List Int)(i:Nat):Bool:=
 if L.routes.length<=i\/set.toNat.testBit i=false then decide (u.getD i 0=0)&&decide (d.getD i 0=0)
 else decide (set.toNat&&&conf L.routes i=0)&&decide (0<=u.getD i 0)&&decide (nb (u.getD i 0).toNat (L.routes.getD i 0)=0)&&decide (0<=d.getD i 0)&&decide (d.getD i 0<=1000)&&!(decide (u.getD i 0=0)&&decide ((L.delay:Int)<d.getD i 0))
def gJ(L:Lay)(l:List Int):Bool:=
 decide (0<=l.getD 0 0)&&decide (l.getD 0 0<2^L.routes.length)&&(List.range 8).all (iR L (l.getD 0 0) ((l.drop 1).take 8) ((l.drop 9).take 8))
def nQ(a b:Nat×St×Bool):Bool:=decide (a.1=b.1)&&decide (a.2.1.set=b.2.1.set)&&decide (a.2.1.used=b.2.1.used)&&decide (a.2.1.idle=b.2.1.idle)&&(a.2.2==b.2.2)
def other(r:Re)(f:List Int):Bool:=decide (0<=f.getD 1 0)&&decide (f.getD 1 0<3)&&decide (f.getD 1 0≠r.id)
def iK(told:List (Nat×St×Bool))(j:Nat):Bool:=(List.range 3).any λi=>decide (i≠j)&&nQ (told.getD i (0,St.zero,false)) (told.getD j (0,St.zero,false))
def cZ(L:Lay)(r:Re)(f:List Int):Re×List (List Int):=
 let k:=f.getD 0 0;let j:=(f.getD 1 0).toNat;let cy:=f.getD 2 0
 if k=1/\other r f=true/\cy=r.cycle then
  ({r with seen:=r.seen.set j (fit L (f.getD 3 0,f.getD 4 0)),some:=r.some.set j true,came:=r.came.set j r.dr},[])
 else if k=3/\f.getD 1 0=3/\(r.cycle:Int)<=cy then
  let r1:={r with ahead:=max r.ahead cy.toNat};let r2:=if cy=r.cycle then goes {r1 with state:=(step L (f.getD 3 0) (f.getD 4 0) r.state).1} (r.cycle+1)else r1
  (r2,if r2.cycle<=r2.ahead then[asks r2]else[])
 else if k=4/\other r f=true then(r,[wN r.id r.cycle r.state])
 else if k=5/\other r f=true/\(r.cycle:Int)<cy/\gJ L (jr f)=true then
  let r1:={r with told:=r.told.set j (cy.toNat,abx (jr f),true)}
  (if iK r1.told j then goes {r1 with state:=abx (jr f)} cy.toNat else r1,[])
 else(r,[])
structure ku where
 src:Nat
 dst:Nat
 bytes:List UInt8
structure Sys where
 rs:List Re
 v:Vo
 way:List ku
 lost:Nat
def Sys.new(n:Int):Sys:=⟨[Re.new 0,Re.new 1,Re.new 2],Vo.new n,[],0⟩
def iq(s:Sys)(g:ku):Sys:=if 120<=s.way.length then{s with lost:=s.lost+1}else{s with way:=s.way++[g]}
def di(s:Sys)(a b:Nat)(f:List Int):Sys:=if fC f then iq s ⟨a,b,lu f⟩else s
def others(k:Nat):List Nat:=[0,1,2].filter λx=>decide (x≠k)
def sendAll(s:Sys)(a:Nat)(l:List Nat)(f:List Int):Sys:=l.foldl (λs b=>di s a b f) s
def re(s:Sys)(k:Nat):Re:=s.rs.getD k (Re.new k)
def jI(s:Sys)(k:Nat)(x:Int×Int):Sys:={s with rs:=s.rs.set k {re s k with field:=x}}
def gA(L:Lay)(s:Sys)(k:Nat):Sys:=
 let q:=ea L (re s k);let s1:=sendAll {s with rs:=s.rs.set k q.1} k (others k) q.2.1
 if q.2.2.2 then di s1 k 3 q.2.2.1 else s1
def iT(L:Lay)(s:Sys)(k:Nat):Sys:=if k=3 then{s with v:=eM s.v}else gA L s k
def js(s:Sys)(k:Nat):Sys:=sendAll s k (others k) (asks (re s k))
def gD(s:Sys)(all:Bool)(b:Nat)(x:List Int):Sys:=(List.range 3).foldl (λs k=>if all=true\/k=b then di s 3 k x else s) s
def cO(L:Lay)(s:Sys)(i:Nat):Sys:=
 match s.way[i]? with
 |none=>s
 |some g=>
  let s1:={s with way:=s.way.eraseIdx i}
  if(dec g.bytes).1=0/\(dec g.bytes).2.getD 1 0=g.src then
   if g.dst=3 then
    let t:=dR s1.v (dec g.bytes).2
    t.2.1.foldl (λs x=>gD s t.2.2 g.src x) {s1 with v:=t.1}
   else
    let t:=cZ L (re s1 g.dst) (dec g.bytes).2
    t.2.foldl (λs x=>di s g.dst g.src x) {s1 with rs:=s1.rs.set g.dst t.1}
  else s1
def iU(s:Sys)(i:Nat):Sys:={s with way:=s.way.eraseIdx i}
def eI(s:Sys)(i:Nat):Sys:=match s.way[i]? with|none=>s|some g=>iq s g
def iz(s:Sys)(k:Nat):Sys:={s with rs:=s.rs.set k (Re.new k)}
def pG(s:Sys):Sys:={s with v:={s.v with bO:=true}}
def ey(L:Lay)(s:Sys):Nat->Sys
 |0=>s
 |n+1=>if s.way.length=0 then s else ey L (cO L s 0) n
def gF(L:Lay)(N:Nat)(s:Sys):Sys:=ey L (gA L (gA L (gA L s 0) 1) 2) N
def calm(L:Lay)(N:Nat)(s:Sys):Nat->Sys
 |0=>s
 |n+1=>
  let s3:=gF L N (gF L N (ey L s N))
  calm L N {s3 with v:=eM s3.v} n
def cellsOf(n:Nat)(f:Nat->ae):bw:=((List.range n).map f).toArray
theorem cellsOf_size(n:Nat)(f:Nat->ae):(cellsOf n f).size=n:=by simp[cellsOf]
theorem ql{n:Nat}{f:Nat->ae}{i:Nat}(h:i<n):(cellsOf n f)[i]?=some (f i):=by simp[cellsOf,h]
theorem BC{n:Nat}{f f':Nat->ae}(h:∀j,j<n->f j=f' j):cellsOf n f=cellsOf n f':=by unfold cellsOf;congr 1;exact List.map_congr_left λj hj=>h j (bX.1 hj)
theorem cellsOf_set(n:Nat)(f:Nat->ae)(i:Nat)(v:ae):(cellsOf n f).setIfInBounds i v=cellsOf n (λj=>if j=i then v else f j):=by apply Array.ext_getElem?;intro j;by_cases hj:j<n;rw[ql hj,cx];by_cases e:i=j;subst e;simp[cellsOf_size,hj];rw[if_neg e,ql hj,if_neg (λe'=>e e'.symm)];rw[Array.getElem?_eq_none (by simp[cellsOf_size];omega),Array.getElem?_eq_none (by simp[cellsOf_size];omega)]
section
variable {w:aa}{g n:Nat}{t:aw}{f:Nat->ae}
theorem Has.qm(h:Has w g t (cellsOf n f))(i:Nat)(hi:i<n){v:ae}(hv:f i=v):w.cell? ⟨g,i,none⟩=some v:=by rw[h.cell,ql hi,hv]
theorem Has.rO(h:Has w g t (cellsOf n f))(i:Nat)(v:ae):Has (w.setCell ⟨g,i,none⟩ v) g t (cellsOf n (λj=>if j=i then v else f j)):=by rw[<-cellsOf_set];exact h.set i v
theorem Has.L4{f':Nat->ae}(h:Has w g t (cellsOf n f))(he:∀j,j<n->f j=f' j):Has w g t (cellsOf n f'):=by rw[<-BC he];exact h
def iA(f:Nat->ae)(o:Nat)(cs:List ae)(j:Nat):ae:=if o<=j/\j<o+cs.length then cs.getD (j-o) undef else f j
theorem Has.iA:∀(cs:List ae)(o:Nat){w:aa}{f:Nat->ae},Has w g t (cellsOf n f)->Has (w.setCells g o cs) g t (cellsOf n (iA f o cs))
 |[],o,w,f,h=>h.L4 λj _=>by unfold Go.Proofs.YtdhekhlmdefcnaaGreatDoor.iA;rw[if_neg (by simp only[cX];omega)]
 |v::cs,o,w,f,h=>by refine(Has.iA cs (o+1) (h.rO o v)).L4 λj _=>?_;unfold Go.Proofs.YtdhekhlmdefcnaaGreatDoor.iA;by_cases h1:j=o;subst h1;rw[if_neg oM,if_pos sM,Nat.sub_self];exact if_pos rfl;by_cases h2:o+1<=j/\j<o+1+cs.length;rw[if_pos h2,if_pos ze0];obtain⟨d,rfl⟩:∃d,j=o+1+d:=⟨j-(o+1),oM⟩;rw[show o+1+d-(o+1)=d by omega,show o+1+d-o=d+1 by omega];rfl;rw[if_neg h2,if_neg (c:=o<=j/\j<o+(v::cs).length) (by simp only[bN];omega)];exact if_neg h1
theorem Has.FX(h:Has w g t (cellsOf n f))(o:Nat)(cs:List ae)(hc:∀j v,cs[j]?=some v->o+j<n/\f (o+j)=v):w.rangeAt g o cs:=λj v hv=>by obtain⟨h1,h2⟩:=hc j v hv;exact h.qm (o+j) h1 h2
theorem Has.tH(h:Has w g t (cellsOf n f))(o m:Nat)(hm:o+m<=n):w.there g o m:=λj hj=>by refine⟨?_,h.free _⟩;rw[h.qm (o+j) oM rfl];rfl
end
theorem Turned.setCells{F:cD}{a:aa}{g:Nat}(hp:F g\/a.heap.size<=g):∀(cs:List ae)(o:Nat){w:aa},Turned F a w->Turned F a (w.setCells g o cs)
 |[],_,_,h=>h
 |v::cs,o,_,h=>Turned.setCells hp cs (o+1) (h.setCell ⟨g,o,none⟩ v hp)
def iB:Nat×St×Bool:=(0,St.zero,false)
def ej(k:Nat×St×Bool):List ae:=I k.1::(eV k.2.1++[.bool k.2.2])
def L5(l:List (Nat×Nat))(m:Nat):ae:=if m %2=0 then I (l.getD (m/2) (0,0)).1 else I (l.getD (m/2) (0,0)).2
def dK(r:Re)(gc:Nat)(j:Nat):ae:=
 if j<20 then(if j=0 then I r.id else if j=1 then pT gc 0 else if j=2 then I r.cycle else(eV r.state).getD (j-3) undef)
 else if j<28 then(if j=20 then I r.field.1 else if j=21 then I r.field.2 else L5 r.seen (j-22))
 else if j<34 then(if j<31 then .bool (r.some.getD (j-28) false)else I (r.came.getD (j-31) 0:Nat))
 else if j<91 then(ej (r.told.getD ((j-34)/19) iB)).getD ((j-34)%19) undef
 else if j=91 then I r.dr else I r.ahead
section
variable {r:Re}{gc:Nat}
theorem mW:dK r gc 0=I r.id:=rfl
theorem kx:dK r gc 1=pT gc 0:=rfl
theorem fN:dK r gc 2=I r.cycle:=rfl
theorem zg:dK r gc 20=I r.field.1:=rfl
theorem zh:dK r gc 21=I r.field.2:=rfl
theorem ic:dK r gc 91=I r.dr:=rfl
theorem ju:dK r gc 92=I r.ahead:=rfl
theorem BD{i:Nat}(h:i<17):dK r gc (3+i)=(eV r.state).getD i undef:=by unfold dK;rw[if_pos oM,if_neg oM,if_neg oM,if_neg oM,show 3+i-3=i by omega]
theorem lQ{k:Nat}(h:k<3):dK r gc (22+k*2)=I (r.seen.getD k (0,0)).1:=by unfold dK L5;rw[if_neg oM,if_pos oM,if_neg oM,if_neg oM,if_pos oM,show(22+k*2-22)/2=k by omega]
theorem lR{k:Nat}(h:k<3):dK r gc (22+k*2+1)=I (r.seen.getD k (0,0)).2:=by unfold dK L5;rw[if_neg oM,if_pos oM,if_neg oM,if_neg oM,if_neg oM,show(22+k*2+1-22)/2=k by omega]
theorem fK{k:Nat}(h:k<3):dK r gc (28+k)=.bool (r.some.getD k false):=by unfold dK;rw[if_neg oM,if_neg oM,if_pos oM,if_pos oM,show 28+k-28=k by omega]
theorem pH{k:Nat}(h:k<3):dK r gc (31+k)=I (r.came.getD k 0:Nat):=by unfold dK;rw[if_neg oM,if_neg oM,if_pos oM,if_neg oM,show 31+k-31=k by omega]
theorem pI{k i:Nat}(h:k<3)(hi:i<19):dK r gc (34+k*19+i)=(ej (r.told.getD k iB)).getD i undef:=by unfold dK;rw[if_neg oM,if_neg oM,if_neg oM,if_pos oM,show(34+k*19+i-34)/19=k by omega,show(34+k*19+i-34)%19=i by omega]
end
theorem eZ{α:Type}(l:List α)(k m:Nat)(x d:α)(h:k<l.length):(l.set k x).getD m d=if m=k then x else l.getD m d:=by rw[aD,List.getElem?_set];by_cases e:k=m;subst e;simp[h];rw[if_neg e,if_neg (λe'=>e e'.symm),aD]
theorem rP(r:Re)(gc t:Nat):∀j,j<93->(if j=91 then I (t:Int)else dK r gc j)=dK {r with dr:=t} gc j:=by intro j hj;by_cases e:j=91;subst e;rfl;rw[if_neg e];unfold dK;simp only[e,if_false]
theorem BF(r:Re)(gc t:Nat):∀j,j<93->(if j=92 then I (t:Int)else dK r gc j)=dK {r with ahead:=t} gc j:=by intro j hj;by_cases e:j=92;subst e;rfl;rw[if_neg e];unfold dK;by_cases h1:j<20;simp only[h1,if_true];by_cases h2:j<28;simp only[h1,h2,if_true,if_false];by_cases h3:j<34;simp only[h1,h2,h3,if_true,if_false];by_cases h4:j<91;simp only[h1,h2,h3,h4,if_true,if_false];(have:j=91:=by omega);subst this;rfl
theorem BG(r:Re)(gc t:Nat):∀j,j<93->(if j=2 then I (t:Int)else dK r gc j)=dK {r with cycle:=t} gc j:=by intro j hj;by_cases e:j=2;subst e;rfl;rw[if_neg e];unfold dK;simp only[e,if_false]
theorem pn(r:Re)(gc k:Nat)(b:Bool)(hk:k<3)(hl:r.some.length=3):∀j,j<93->(if j=28+k then .bool b else dK r gc j)=dK {r with some:=r.some.set k b} gc j:=by intro j hj;by_cases h1:28<=j/\j<31;obtain⟨m,rfl⟩:∃m,j=28+m:=⟨j-28,oM⟩;rw[fK (r:={r with some:=r.some.set k b}) oM,fK oM];show _=Value.bool ((r.some.set k b).getD m false);rw[eZ _ _ _ _ _ oM];by_cases e:m=k;subst e;simp;rw[if_neg oM,if_neg e];rw[if_neg oM];unfold dK;by_cases a:j<20;exact ze7;by_cases b1:j<28;exact ze3;by_cases c:j<34;(have d:¬j<31:=by omega);exact ze9;simp only[a,b1,c,if_false]
theorem uy(r:Re)(gc k t:Nat)(hk:k<3)(hl:r.came.length=3):∀j,j<93->(if j=31+k then I (t:Int)else dK r gc j)=dK {r with came:=r.came.set k t} gc j:=by intro j hj;by_cases h1:31<=j/\j<34;obtain⟨m,rfl⟩:∃m,j=31+m:=⟨j-31,oM⟩;rw[pH (r:={r with came:=r.came.set k t}) oM,pH oM];show _=I (((r.came.set k t).getD m 0:Nat):Int);rw[eZ _ _ _ _ _ oM];by_cases e:m=k;subst e;simp;rw[if_neg oM,if_neg e];rw[if_neg oM];unfold dK;by_cases a:j<20;exact ze7;by_cases b1:j<28;exact ze3;by_cases c:j<34;(have d:j<31:=by omega);exact ze9;simp only[a,b1,c,if_false]
theorem uz(r:Re)(gc k x y:Nat)(hk:k<3)(hl:r.seen.length=3):∀j,j<93->(if j=22+k*2+1 then I (y:Int)else if j=22+k*2 then I (x:Int)else dK r gc j)=dK {r with seen:=r.seen.set k (x,y)} gc j:=by
 intro j hj;by_cases h1:22<=j/\j<28;by_cases hp:j %2=0;obtain⟨m,rfl⟩:∃m,j=22+m*2:=⟨(j-22)/2,oM⟩;rw[if_neg oM,lQ (r:={r with seen:=r.seen.set k (x,y)}) oM,lQ oM];show _=I ((((r.seen.set k (x,y)).getD m (0,0)).1:Nat):Int);rw[eZ _ _ _ _ _ oM];by_cases e:m=k;subst e;simp;rw[if_neg oM,if_neg e];obtain⟨m,rfl⟩:∃m,j=22+m*2+1:=⟨(j-22)/2,oM⟩;rw[lR (r:={r with seen:=r.seen.set k (x,y)}) oM,lR oM];show _=I ((((r.seen.set k (x,y)).getD m (0,0)).2:Nat):Int);rw[eZ _ _ _ _ _ oM];by_cases e:m=k;subst e;simp;rw[if_neg oM,if_neg oM,if_neg e]
 ·rw[if_neg oM,if_neg oM];unfold dK;by_cases a:j<20;exact ze7
  ·by_cases b1:j<28;(have hj2:j=20\/j=21:=by omega);rcases hj2 with rfl|rfl<;>rfl
   ·simp only[a,b1,if_false]
theorem BH(r:Re)(gc:Nat)(x y:Int):∀j,j<93->(if j=21 then I y else if j=20 then I x else dK r gc j)=dK {r with field:=(x,y)} gc j:=by intro j hj;by_cases e:j=21;subst e;rfl;by_cases e2:j=20;subst e2;rfl;rw[if_neg e,if_neg e2];unfold dK;simp only[e,e2,if_false]
theorem jv{s:St}(h1:s.used.length=8)(h2:s.idle.length=8):(eV s).length=17:=by simp[eV,ints,zs,h1,h2]
theorem rQ(r:Re)(gc:Nat)(s:St)(hs:(eV s).length=17):∀j,j<93->iA (dK r gc) 3 (eV s) j=dK {r with state:=s} gc j:=by
 intro j hj;unfold iA;rw[hs];by_cases h1:3<=j/\j<3+17;rw[if_pos h1];obtain⟨m,rfl⟩:∃m,j=3+m:=⟨j-3,oM⟩;rw[BD (r:={r with state:=s}) oM,show 3+m-3=m by omega]
 ·rw[if_neg h1];unfold dK;by_cases a:j<20;(have hj2:j=0\/j=1\/j=2:=by omega);rcases hj2 with rfl|rfl|rfl<;>rfl
  ·simp only[a,if_false]
theorem zi{k:Nat×St×Bool}(h:(eV k.2.1).length=17):(ej k).length=19:=by simp[ej,h]
theorem C1(r:Re)(gc k:Nat)(x:Nat×St×Bool)(hk:k<3)(hl:r.told.length=3)(hx:(ej x).length=19):∀j,j<93->iA (dK r gc) (34+k*19) (ej x) j=dK {r with told:=r.told.set k x} gc j:=by intro j hj;unfold iA;rw[hx];by_cases h1:34<=j/\j<91;obtain⟨m,i,hi,rfl⟩:∃m i,i<19/\j=34+m*19+i:=⟨(j-34)/19,(j-34)%19,oM,oM⟩;rw[pI (r:={r with told:=r.told.set k x}) oM hi,pI oM hi];show _=(ej ((r.told.set k x).getD m iB)).getD i undef;rw[eZ _ _ _ _ _ oM];by_cases e:m=k;subst e;rw[if_pos oM,if_pos rfl,show 34+m*19+i-(34+m*19)=i by omega];rw[if_neg oM,if_neg e];rw[if_neg oM];unfold dK;by_cases a:j<20;exact ze7;by_cases b1:j<28;exact ze3;by_cases c:j<34;simp only[a,b1,c,if_true,if_false];(have d:¬j<91:=by omega);simp only[a,b1,c,d,if_false]
def Z6:List ae:=List.replicate 6 (I 0)
def Z3:List ae:=List.replicate 3 (.bool false)
def FY:List ae:=(List.replicate 3 iB).flatMap ej
theorem FZ(r:Re)(gc:Nat):∀j,j<93->iA (dK r gc) 22 Z6 j=dK {r with seen:=tG} gc j:=by
 intro j hj;unfold iA;have hl:Z6.length=6:=rfl;rw[hl];by_cases h1:22<=j/\j<22+6;rw[if_pos h1];have:j=22\/j=23\/j=24\/j=25\/j=26\/j=27:=oM;rcases this with rfl|rfl|rfl|rfl|rfl|rfl<;>rfl
 ·rw[if_neg h1];unfold dK;by_cases a:j<20;exact ze7
  ·by_cases b1:j<28;(have hj2:j=20\/j=21:=by omega);rcases hj2 with rfl|rfl<;>rfl
   ·simp only[a,b1,if_false]
theorem F0(r:Re)(gc:Nat):∀j,j<93->iA (dK r gc) 28 Z3 j=dK {r with some:=Ad} gc j:=by
 intro j hj;unfold iA;have hl:Z3.length=3:=rfl;rw[hl];by_cases h1:28<=j/\j<28+3;rw[if_pos h1];have:j=28\/j=29\/j=30:=oM;rcases this with rfl|rfl|rfl<;>rfl
 ·rw[if_neg h1];unfold dK;by_cases a:j<20;exact ze7;by_cases b1:j<28;exact ze3;by_cases c:j<34;(have d:¬j<31:=by omega);exact ze9;simp only[a,b1,c,if_false]
theorem F2(r:Re)(gc:Nat):∀j,j<93->iA (dK r gc) 34 FY j=dK {r with told:=wO} gc j:=by
 intro j hj;unfold iA;have hl:FY.length=57:=rfl;rw[hl];by_cases h1:34<=j/\j<34+57
 ·rw[if_pos h1];obtain⟨m,i,hi,rfl⟩:∃m i,i<19/\j=34+m*19+i:=⟨(j-34)/19,(j-34)%19,oM,oM⟩;rw[pI oM hi];have hm:m=0\/m=1\/m=2:=oM;have e:34+m*19+i-34=m*19+i:=oM;rw[e];have hk:∀m i:Nat,m<3->i<19->FY.getD (m*19+i) undef=(ej (wO.getD m iB)).getD i undef:=by intro m i hm hi;have hm:m=0\/m=1\/m=2:=oM;have hi:i=0\/i=1\/i=2\/i=3\/i=4\/i=5\/i=6\/i=7\/i=8\/i=9\/i=10\/i=11\/i=12\/i=13\/i=14\/i=15\/i=16\/i=17\/i=18:=oM;rcases hm with rfl|rfl|rfl<;>rcases hi with rfl|rfl|rfl|rfl|rfl|rfl|rfl|rfl|rfl|rfl|rfl|rfl|rfl|rfl|rfl|rfl|rfl|rfl|rfl<;>rfl
  exact hk m i oM hi
 ·rw[if_neg h1];unfold dK;by_cases a:j<20;exact ze7;by_cases b1:j<28;exact ze3;by_cases c:j<34;simp only[a,b1,c,if_true,if_false];(have d:¬j<91:=by omega);simp only[a,b1,c,d,if_false]
end Go.Proofs.YtdhekhlmdefcnaaGreatDoor
namespace Go.Proofs.YtdhekhlmdefcnaaGreatDoor
theorem wP{α:Type}(p q:α->Bool):∀(l:List α),(∀x∈l,q x=true->p x=true)->((l.filter q).length<=(l.filter p).length)/\((∃x∈l,p x=true/\q x=false)->(l.filter q).length<(l.filter p).length)
 |[],_=>⟨aj _,by rintro⟨x,hx,_⟩;cases hx⟩
 |y::l,h=>by
  obtain⟨h1,h2⟩:=wP p q l (λx hx=>h x (List.mem_cons_of_mem _ hx));have hy:=h y (List.mem_cons_self ..);cases hq:q y<;>cases hp:p y<;>simp only[List.filter_cons,hq,hp,if_true,if_false,dA,bN]
  ·refine⟨h1,?_⟩;rintro⟨x,hx,hpx,RL⟩;rcases List.mem_cons.1 hx with rfl|hx;rw[hp]at hpx;cases hpx;exact h2 ⟨x,hx,hpx,RL⟩
  ·exact⟨oM,λ_=>oM⟩
  ·rw[hq]at hy;rw[hy rfl]at hp;cases hp
  ·refine⟨oM,?_⟩;rintro⟨x,hx,hpx,RL⟩;rcases List.mem_cons.1 hx with rfl|hx;rw[hq]at RL;cases RL;have:=h2 ⟨x,hx,hpx,RL⟩;omega
section
variable {P:aF}{ops:Array Oper}{Q:Exit->Act->aa->Prop}{md:Region.Mode}
def left(n:Nat)(listed:Array Bool):Nat:=((List.range n).filter λj=>!listed.getD j true).length
theorem BI(J:Array Bool->Act->aa->Prop)
 (hstep:∀i listed a w,i∈Region.ready md ops listed->J listed a w->wpOp P ops Q i (J (listed.setIfInBounds i true)) a w)
 (hend:∀listed a w,J listed a w->Region.ready md ops listed=[]->Q .normal a w):
 ∀fuel listed a w,J listed a w->left ops.size listed<=fuel->wpAny P md ops Q fuel listed a w
 |0,listed,a,w,hJ,hf=>by
  have hr:Region.ready md ops listed=[]:=by
   cases hh:Region.ready md ops listed with
   |nil=>rfl
   |cons i r=>(have hi:i∈Region.ready md ops listed:=by rw[hh];exact List.mem_cons_self ..);obtain⟨h1,o,h2,_⟩:=mem_ready.1 hi;have hlt:i<ops.size:=(az.1 h2).1;have:i∈(List.range ops.size).filter λj=>!listed.getD j true:=List.mem_filter.2 ⟨bX.2 hlt,by rw[h1];rfl⟩;have:=List.length_pos_of_mem this;unfold left at hf;omega
  exact⟨hr,hend _ _ _ hJ hr⟩
 |fuel+1,listed,a,w,hJ,hf=>by
  refine⟨hend _ _ _ hJ,λi hi=>?_⟩;obtain⟨h1,o,h2,_⟩:=mem_ready.1 hi;have hlt:i<ops.size:=(az.1 h2).1;have hls:i<listed.size:=by rcases cp i listed.size with h|h;exact h;rw[aU,Array.getElem?_eq_none h]at h1;cases h1
  refine wpOp_mono (λa' w' hJ'=>BI J hstep hend fuel _ a' w' hJ' ?_) (hstep i listed a w hi hJ);have hsub:=wP (λj=>!listed.getD j true) (λj=>!(listed.setIfInBounds i true).getD j true) (List.range ops.size) (λj _ hj=>by
   by_cases e:i=j;subst e;simp[hls]at hj
   ·rw[getD_set_ne true e]at hj;exact hj)
  have:=hsub.2 ⟨i,bX.2 hlt,by rw[h1];rfl,by simp[hls]⟩;unfold left at hf⊢;omega
theorem oH{id:Nat}{a:Act}{w:aa}(hm:P.follows .mixedOrders=true)(J:Array Bool->Act->aa->Prop)
 (h0:J (Array.replicate ops.size false) a {w with drawn:=w.drawn+1})
 (hstep:∀i listed a w,i∈Region.ready .any ops listed->J listed a w->wpOp P ops Q i (J (listed.setIfInBounds i true)) a w)
 (hend:∀listed a w,J listed a w->Region.ready .any ops listed=[]->Q .normal a w):(Code.region id ops true).wp P Q a w:=
 wp_region_any hm (BI J hstep hend _ _ _ _ h0 (aS (List.length_filter_le _ _) sM))
theorem oI{md:Region.Mode}{listed:Array Bool}(h:Region.ready md ops listed=[])(hs:listed.size=ops.size)(hb:(List.range ops.size).all (λi=>((ops[i]?).map λo=>o.after.all λe=>!Region.binds md e||decide (e.on<i)).getD true)=true):
 ∀i,i<ops.size->listed.getD i false=true:=by
 intro i
 induction i using Nat.strongRecOn with
 |_ i ih=>
  intro hi;have ho:ops[i]?=some ops[i]:=aZ hi;cases hl:listed.getD i false with
  |true=>rfl
  |false=>exfalso;(have hmem:i∈Region.ready md ops listed:=by rw[mem_ready];refine⟨?_,_,ho,λe he hbd=>?_⟩;rw[aU]at hl⊢;rw[aZ oM]at hl⊢;exact hl;have h1:=bj.1 hb i (bX.2 hi);rw[ho]at h1;simp only[cH,br,Array.all_eq_true_iff_forall_mem,cw,decide_eq_true_eq]at h1;have h2:=(h1 e he).resolve_left (by simp[hbd]);exact ih e.on h2 oM);rw[h]at hmem;cases hmem
end
structure gM(S:List Nat)(a0 a:Act):Prop where
 defers:a.defers=a0.defers
 size:a.tmps.size=a0.tmps.size
 same:∀k,k∉S->a.tmps[k]?=a0.tmps[k]?
theorem gM.refl(S:List Nat)(a:Act):gM S a a:=⟨rfl,rfl,λ_ _=>rfl⟩
theorem gM.put{S:List Nat}{a0 a:Act}(h:gM S a0 a){d:Nat}(hd:d∈S)(v:ae):gM S a0 (a.put (some d) v):=by refine⟨h.defers,by simpa[Act.put]using h.size,λk hk=>?_⟩;have hne:d≠k:=λe=>hk (e▸hd);show(a.tmps.setIfInBounds d v)[k]?=_;rw[cx,if_neg hne];exact h.same k hk
theorem Vp(a:Act)(d:Nat)(v:ae)(h:d<a.tmps.size):(a.put (some d) v).tmps.getD d undef=v:=by show(a.tmps.setIfInBounds d v).getD d undef=v;rw[aU,cx,if_pos rfl,if_pos h];rfl
theorem Vq(a:Act)(d k:Nat)(v:ae)(h:d≠k):(a.put (some d) v).tmps.getD k undef=a.tmps.getD k undef:=by show(a.tmps.setIfInBounds d v).getD k undef=_;rw[aU,cx,if_neg h,aU]
theorem gM.slot{S:List Nat}{a0 a:Act}(h:gM S a0 a){k:Nat}(hk:k∉S):a.tmps.getD k undef=a0.tmps.getD k undef:=by rw[aU,aU,h.same k hk]
theorem BJ(f:Nat->ae):∀(S:List Nat)(t:bw)(k:Nat),(S.foldl (λt d=>t.setIfInBounds d (f d)) t)[k]?=if k∈S then(if k<t.size then some (f k)else none)else t[k]?
 |[],t,k=>sM
 |d::S,t,k=>by rw[bG,BJ f S,Array.size_setIfInBounds,cx];by_cases h1:k∈S;simp[h1];by_cases h2:d=k;subst h2;simp[h1];have h3:k≠d:=λe=>h2 e.symm;simp[h1,h2,h3]
theorem gM.meet{S:List Nat}{a0 a:Act}(h:gM S a0 a):a=⟨S.foldl (λt d=>t.setIfInBounds d (a.tmps.getD d undef)) a0.tmps,a0.defers⟩:=by obtain⟨tmps,defers⟩:=a;obtain⟨h1,h2,h3⟩:=h;have e1:defers=a0.defers:=h1;subst e1;congr 1;apply Array.ext_getElem?;intro k;rw[BJ];by_cases hk:k∈S;rw[if_pos hk];by_cases hs:k<a0.tmps.size;rw[if_pos hs,aU];(have:k<tmps.size:=by have:tmps.size=a0.tmps.size:=h2;omega);rw[aZ this];rfl;rw[if_neg hs,Array.getElem?_eq_none];have:tmps.size=a0.tmps.size:=h2;omega;rw[if_neg hk];exact h3 k hk
section
variable {P:aF}{ops:Array Oper}{Q:Exit->Act->aa->Prop}
def qo(ops:Array Oper)(V:Nat->ae)(li:Array Bool)(a:Act):Prop:=∀(j:Nat)(o:Oper),ops[j]?=some o->li.getD j false=true->∀d,o.dst=some d->a.tmps.getD d undef=V j
def jJ(ops:Array Oper)(S:List Nat)(size:Nat):Bool:=
 (List.range ops.size).all (λj=>((ops[j]?).map λo=>match o.dst with|none=>true|some d=>S.contains d&&decide (d<size)).getD true)&&
 (List.range ops.size).all (λi=>(List.range ops.size).all λj=>i==j||(match(ops[i]?).bind (·.dst),(ops[j]?).bind (·.dst)with|some d,some d'=>d !=d'|_,_=>true))
theorem qo.put{V:Nat->ae}{li:Array Bool}{a:Act}{S:List Nat}{n i:Nat}{o:Oper}(hk:qo ops V li a)(hd:jJ ops S n=true)(hs:a.tmps.size=n)(ho:ops[i]?=some o):qo ops V (li.setIfInBounds i true) (a.put o.dst (V i)):=by
 intro j o' ho' hl d hd';have hi:=(az.1 ho).1;have hj:=(az.1 ho').1;unfold jJ at hd;rw[aV]at hd;by_cases e:i=j;subst e;rw[ho]at ho';injection ho' with ho';subst ho';have h1:=bj.1 hd.1 i (bX.2 hi);rw[ho]at h1;simp only[cH,hd',br,aV,decide_eq_true_eq]at h1;rw[hd',Vp _ _ _ (by rw[hs];exact h1.2)]
 ·rw[getD_set_ne false e]at hl;cases hod:o.dst with
  |none=>exact hk j o' ho' hl d hd'
  |some d0=>have h2:=bj.1 (bj.1 hd.2 i (bX.2 hi)) j (bX.2 hj);rw[ho,ho']at h2;simp only[jc,hod,hd',cw,beq_iff_eq,e,false_or,bne_iff_ne]at h2;rw[Vq _ _ _ _ h2];exact hk j o' ho' hl d hd'
theorem gM.puts{S:List Nat}{a0 a:Act}{n i:Nat}{o:Oper}(h:gM S a0 a)(hd:jJ ops S n=true)(ho:ops[i]?=some o)(v:ae):gM S a0 (a.put o.dst v):=by
 have hi:=(az.1 ho).1;cases hod:o.dst with
 |none=>exact h
 |some d=>unfold jJ at hd;rw[aV]at hd;have h1:=bj.1 hd.1 i (bX.2 hi);rw[ho]at h1;simp only[cH,hod,br,aV,decide_eq_true_eq,List.contains_iff_mem]at h1;exact h.put h1.1 v
end
section
variable {W0 W1 W2 w:aa}{al st:Nat}{li:Array Bool}
end
section
variable {P:aF}{o:Oper}{a:Act}{w:aa}{K:Act->aa->Prop}{Q:Exit->Act->aa->Prop}
end
theorem WV{x:Int}(h1: -9223372036854775808<=x)(h2:x<9223372036854775808):IntKind.i64.wrap x=x:=IntWalk.i64_in x ⟨h1,oM⟩
theorem bP{a:Act}{s:Nat}{v:ae}(h:a.tmps.getD s undef=v):a.tmps[s]?.getD undef=v:=by rw[<-aU];exact h
section
variable {P:aF}{ops:Array Oper}{Q:Exit->Act->aa->Prop}
end
def Closed(ops:Array Oper)(li:Array Bool):Prop:=∀i o,ops[i]?=some o->li.getD i false=true->∀e∈o.after,Region.binds .any e=true->li.getD e.on false=true
structure Here(ops:Array Oper)(V:Nat->ae)(S:List Nat)(a0:Act)(li:Array Bool)(a:Act):Prop where
 size:li.size=ops.size
 cA:gM S a0 a
 known:qo ops V li a
 closed:Closed ops li
 F3:∀d,(∀q o,ops[q]?=some o->o.dst=some d->li.getD q false=false)->a.tmps[d]?=a0.tmps[d]?
section
variable {P:aF}{ops:Array Oper}{Q:Exit->Act->aa->Prop}
def StepA(P:aF)(ops:Array Oper)(Q:Exit->Act->aa->Prop)(V:Nat->ae)(S:List Nat)(a0:Act)(i:Nat)(o:Oper)(M N:aa->Prop):Prop:=
 ∀(li:Array Bool)(a:Act)(w:aa),Here ops V S a0 li a->li.getD i false=false->(∀e∈o.after,Region.binds .any e=true->li.getD e.on false=true)->M w->
  ∀K:Act->aa->Prop,(∀w',N w'->K (a.put o.dst (V i)) w')->if Region.wanted o (yielded ops a.tmps)=true then Oper.wp P o a w K Q else K (a.put o.dst undef) w
variable {V:Nat->ae}{S:List Nat}{a0:Act}{i:Nat}{o:Oper}{M N:aa->Prop}
theorem Here.k{li:Array Bool}{a:Act}(H:Here ops V S a0 li a)(av:∀e∈o.after,Region.binds .any e=true->li.getD e.on false=true)(j d:Nat)(h0:(⟨j,.data⟩:Edge)∈o.after:=by(simp))(h1:(ops[j]?.bind (·.dst))=some d:=by(rfl)):a.tmps[d]?.getD undef=V j:=by obtain⟨oj,h2,h3⟩:=Option.bind_eq_some_iff.1 h1;exact bP (H.known j oj h2 (av _ h0 rfl) d h3)
theorem aM(hg:o.guard=none)
 (h:∀(li:Array Bool)(a:Act)(w:aa),Here ops V S a0 li a->li.getD i false=false->(∀e∈o.after,Region.binds .any e=true->li.getD e.on false=true)->M w->∀K:Act->aa->Prop,(∀w',N w'->K (a.put o.dst (V i)) w')->Oper.wp P o a w K Q):
 StepA P ops Q V S a0 i o M N:=by
 intro li a w hH hn av hM K hk;rw[if_pos (by simp[Region.wanted,hg])];exact h li a w hH hn av hM K hk
theorem jd{j d:Nat}{oj:Oper}{want:Bool}(hg:o.guard=some (j,want))(hj:ops[j]?=some oj)(hd:oj.dst=some d)(hV:V j=.bool want)(he:(⟨j,.guard⟩:Edge)∈o.after)
 (h:∀(li:Array Bool)(a:Act)(w:aa),Here ops V S a0 li a->li.getD i false=false->(∀e∈o.after,Region.binds .any e=true->li.getD e.on false=true)->M w->∀K:Act->aa->Prop,(∀w',N w'->K (a.put o.dst (V i)) w')->Oper.wp P o a w K Q):
 StepA P ops Q V S a0 i o M N:=by
 intro li a w hH hn av hM K hk;have h1:a.tmps[d]?=some (.bool want):=by
  have hv:=(hH.known j oj hj (av _ he rfl) d hd).trans hV;rw[aU]at hv;cases e:a.tmps[d]? with
  |none=>rw[e]at hv;cases hv
  |some v=>rw[e]at hv;rw[<-hv];rfl
 rw[if_pos (by unfold Region.wanted yielded;rw[hg];simp[hj,hd,h1])];exact h li a w hH hn av hM K hk
theorem Vr{j d:Nat}{oj:Oper}{want:Bool}(hg:o.guard=some (j,want))(hj:ops[j]?=some oj)(hd:oj.dst=some d)(hV:V j=.bool (!want))(he:(⟨j,.guard⟩:Edge)∈o.after)(RM:V i=undef)(Yk:∀w,M w->N w):
 StepA P ops Q V S a0 i o M N:=by
 intro li a w hH hn av hM K hk;have h1:a.tmps[d]?=some (.bool (!want)):=by
  have hv:=(hH.known j oj hj (av _ he rfl) d hd).trans hV;rw[aU]at hv;cases e:a.tmps[d]? with
  |none=>rw[e]at hv;cases hv
  |some v=>rw[e]at hv;rw[<-hv];rfl
 rw[if_neg (by unfold Region.wanted yielded;rw[hg];cases want<;>simp[hj,hd,h1])];have:=hk w (Yk w hM);rw[RM]at this;exact this
def behind(ops:Array Oper)(s i:Nat):Bool:=((ops[s]?).map λo=>o.after.any λe=>decide (e.on=i)&&Region.binds .any e).getD false
def rR(ops:Array Oper)(stores:List Nat):Bool:=
 (List.range stores.length).all (λt=>decide (t=0)||behind ops (stores.getD t 0) (stores.getD (t-1) 0))&&decide stores.Nodup&&stores.all (λs=>decide (s<ops.size))
def pJ(ops:Array Oper)(stores:List Nat)(i:Nat):Bool:=match stores with|[]=>true|s::_=>behind ops s i
theorem qp{s i:Nat}(h:behind ops s i=true){li:Array Bool}(hc:Closed ops li)(hs:li.getD s false=true):li.getD i false=true:=by
 unfold behind at h;cases ho:ops[s]? with
 |none=>rw[ho]at h;cases h
 |some o=>rw[ho]at h;simp only[cH,br]at h;rw[Array.any_eq_true]at h;obtain⟨k,hk,he⟩:=h;simp only[aV,decide_eq_true_eq]at he;have h1:=hc s o ho hs o.after[k] (Array.getElem_mem hk) he.2;rw[he.1]at h1;exact h1
def L6(stores:List Nat)(Ms:Nat->aa->Prop)(li:Array Bool)(w:aa):Prop:=∃j,j<=stores.length/\(∀t s,stores[t]?=some s->li.getD s false=decide (t<j))/\Ms j w
def Kind(P:aF)(ops:Array Oper)(Q:Exit->Act->aa->Prop)(V:Nat->ae)(S:List Nat)(stores:List Nat)(Ms:Nat->aa->Prop)(b0:Act)(i:Nat)(o:Oper):Prop:=
 (i∉stores/\∀M:aa->Prop,StepA P ops Q V S b0 i o M M)\/(i∉stores/\pJ ops stores i=true/\StepA P ops Q V S b0 i o (Ms 0) (Ms 0))\/(∃t,stores[t]?=some i/\StepA P ops Q V S b0 i o (Ms t) (Ms (t+1)))\/
 (i∉stores/\∃t s,stores[t]?=some s/\behind ops s i=true/\∀j,j<=t->StepA P ops Q V S b0 i o (Ms j) (Ms j))
theorem IZ{id:Nat}{w:aa}{a0:Act}(hm:P.follows .mixedOrders=true)(F:Act->Prop)(hF:F a0)(n:Nat)(hn:a0.tmps.size=n)(V:Nat->ae)(stores:List Nat)(hc:rR ops stores=true)(Ms:Nat->aa->Prop)(S:List Nat)
 (hd:jJ ops S n=true)(hb:(List.range ops.size).all (λi=>((ops[i]?).map λo=>o.after.all λe=>!Region.binds .any e||decide (e.on<i)).getD true)=true)
 (h0:Ms 0 {w with drawn:=w.drawn+1})
 (hstep:∀b0,F b0->∀i o,ops[i]?=some o->Kind P ops Q V S stores Ms b0 i o)
 (hend:∀a w',gM S a0 a->(∀i o,ops[i]?=some o->∀d,o.dst=some d->a.tmps.getD d undef=V i)->Ms stores.length w'->Q .normal a w'):(Code.region id ops true).wp P Q a0 w:=by
 unfold rR at hc;simp only[aV,decide_eq_true_eq]at hc;obtain⟨⟨hch,hnd⟩,hsz⟩:=hc;have fP:∀j,(Array.replicate ops.size false).getD j false=false:=λj=>by rw[aU,Array.getElem?_replicate];split<;>rfl
 have hd':jJ ops S a0.tmps.size=true:=by rw[hn];exact hd
 refine oH hm (λli a w'=>Here ops V S a0 li a/\L6 stores Ms li w') ⟨⟨sM,gM.refl _ _,(λj o _ hl=>absurd hl ze8),(λj o _ hl=>absurd hl ze8),λ_ _=>rfl⟩,0,bT _,(λt s _=>by rw[fP];simp),h0⟩ ?_ ?_
 ·intro i li a w' hi hJ;obtain⟨hH,j,hj,hst,hM⟩:=hJ;obtain⟨uT,o,ho,av⟩:=mem_ready.1 hi;have hlt:=(az.1 ho).1;have hs:=hH.size;have hnot:li.getD i false=false:=by rw[aU]at uT⊢;rw[aZ oM]at uT⊢;exact uT
  have hset:(li.setIfInBounds i true).getD i false=true:=by simp[hs,hlt]
  have next:∀v,v=V i->Here ops V S a0 (li.setIfInBounds i true) (a.put o.dst v):=by
   rintro v rfl;refine⟨by simpa using hs,hH.cA.puts hd' ho _,hH.known.put hd' hH.cA.size ho,?_,?_⟩;intro q oq hq hl e he hbe;by_cases e1:i=q;subst e1;rw[ho]at hq;injection hq with hq;subst hq;have h1:=av e he hbe;by_cases e2:i=e.on;rw[<-e2,hnot]at h1;cases h1;exact ze6;rw[getD_set_ne false e1]at hl;have h1:=hH.closed q oq hq hl e he hbe;by_cases e2:i=e.on;rw[<-e2];exact hset;exact ze6
   ·intro d rS;have h1:o.dst≠some d:=λe=>by have:=rS i o ho e;rw[hset]at this;cases this
    have h2:(a.put o.dst (V i)).tmps[d]?=a.tmps[d]?:=by
     cases hod:o.dst with
     |none=>rfl
     |some d0=>have hne:d0≠d:=λe=>h1 (by rw[hod,e]);show(a.tmps.setIfInBounds d0 (V i))[d]?=_;rw[bh hne]
    rw[h2];refine hH.F3 d (λq oq hq F4=>?_);have:=rS q oq hq F4;by_cases e1:i=q;subst e1;exact hnot;rw[getD_set_ne false e1]at this;exact this
  refine wpOp_step ho (λK' hK'=>?_);rcases hstep a0 hF i o ho with⟨hns,hp⟩|⟨hns,he,hp⟩|⟨t,ht,hp⟩|⟨hns,t,s,ht,L8,hp⟩
  ·refine hp (Ms j) li a w' hH hnot av hM K' (λw'' hM'=>hK' _ _ ⟨next _ rfl,j,hj,λt s hts=>?_,hM'⟩);rw[getD_set_ne false (λe=>hns zfj)];exact hst t s hts
  ·have hj0:j=0:=by
    rcases Nat.eq_zero_or_pos j with h|h;exact h
    ·cases stores with
     |nil=>simp at hj;exact hj
     |cons s ss=>exact ze5
   subst hj0;refine hp li a w' hH hnot av hM K' (λw'' hM'=>hK' _ _ ⟨next _ rfl,0,hj,λt s hts=>?_,hM'⟩);rw[getD_set_ne false (λe=>hns zfj)];exact hst t s hts
  ·have htl:t<stores.length:=(aX.1 ht).1;(have hjt:j=t:=by have h1:=hst t i ht;rw[hnot]at h1;(have h2:¬t<j:=by simpa using h1.symm);rcases Nat.eq_zero_or_pos t with h|h;omega;have h3:=bj.1 hch t (bX.2 htl);simp only[cw,decide_eq_true_eq]at h3;(have h4:behind ops i (stores.getD (t-1) 0)=true:=by rcases h3 with h3|h3;omega;rw[aD,ht]at h3;exact h3);exact zeY);subst hjt;refine hp li a w' hH hnot av hM K' (λw'' hM'=>hK' _ _ ⟨next _ rfl,j+1,oM,λt s hts=>?_,hM'⟩);by_cases e:s=i;exact ze4;rw[getD_set_ne false (λe'=>e e'.symm),hst t s hts,decide_eq_decide];(have:t≠j:=λe'=>by exact zfc);omega
  ·(have hjt:j<=t:=by rcases cp t j with h|h;have h1:=hst t s ht;rw[decide_eq_true h]at h1;have h2:=qp L8 hH.closed h1;rw[hnot]at h2;cases h2;exact h);refine hp j hjt li a w' hH hnot av hM K' (λw'' hM'=>hK' _ _ ⟨next _ rfl,j,hj,λt s hts=>?_,hM'⟩);rw[getD_set_ne false (λe=>hns zfj)];exact hst t s hts
 ·intro li a w' hJ hr;obtain⟨hH,j,hj,hst,hM⟩:=hJ;have hall:=oI hr hH.size hb;refine hend a w' hH.cA (λi o ho d hd=>hH.known i o ho (hall i (az.1 ho).1) d hd) ?_;have:j=stores.length:=by rcases Nat.eq_zero_or_pos stores.length with h|h;omega;exact zeZ
  subst this;exact hM
end
open Go.Proofs.Tryz Go.RowKit
theorem dZ(f:List Int):(aN f).all (·.oneCell')=true:=by rw[Array.all_eq_true_iff_forall_mem];intro u hu;simp[aN,ints]at hu;obtain⟨x,_,rfl⟩:=hu;rfl
theorem iZ:(prog.info? 214).map (·.size)=some (aN aQ).size:=by rw[cY _ rfl];exact dh
theorem F5(A:Option Addr)(n c:Nat)(w:aa)(h:n<7\/80<n):
 Calls prog 136 #[.slice A n c] w λe w'=>e=.returned (.tuple #[.agg (aN aQ),.iface 31 (I 3)])/\Below w.heap.size w w':=by
 rcases h with h|h;all_goals
  go_enter func136,ntmps136;go_upto_region 1 with(fail);have k2:Has (w.alloc (.cells gK 214)) w.heap.size 214 (aN aQ):=by rw[gy];exact Has.new _ _ _
  have hb:Below w.heap.size w (w.alloc (.cells gK 214)):=(Below.refl _ _).alloc (aj _) _;generalize w.alloc (.cells gK 214)=w1 at*;generalize hG:w.heap.size=g2 at*;have HG:=hI hG;clear hG;go_wp2_with (refine wpList_store_row rfl 214 (.tmp 2) (.tmp 18) rfl g2 (aN aQ) rfl rfl 214 _ k2 iZ rfl (dZ _) ?_)
  exact bodyPost_ret (gh rfl _ _ _ _ (aN aQ) _ rfl (k2.setRow _) underlying214 rfl iZ) rfl ⟨rfl,HG.out▸below_setRow hb (aj _) _⟩
theorem L9(bb oo m c:Nat)(l:List UInt8)(w:aa)(hl:Hid (l.length=m+4))(h1:3<=m)(h2:m<=76)(hc:m+4<=c)(hr:Reads w w.heap.size (some ⟨bb,oo,none⟩) (bytes l)):
 Calls prog 136 #[.slice (some ⟨bb,oo,none⟩) (m+4) c] w λe w'=>e=.returned (.tuple #[.agg (aN (dec l).2),Ee (dec l).1])/\Below w.heap.size w w':=by
 have HR:=hI hr;clear hr;go_enter func136,ntmps136;go_upto_region 1 with(fail);have k2:Has (w.alloc (.cells gK 214)) w.heap.size 214 (aN aQ):=by rw[gy];exact Has.new _ _ _
 have hb:Below w.heap.size w (w.alloc (.cells gK 214)):=(Below.refl _ _).alloc (aj _) _;have HR1:Hid (Reads (w.alloc (.cells gK 214)) w.heap.size (some ⟨bb,oo,none⟩) (bytes l)):=hI (HR.out.below hb);generalize w.alloc (.cells gK 214)=w1 at*;generalize hG:w.heap.size=g2 at*;have HG:=hI hG;have hg2:=k2.lt;clear hG HR;have HD:Hid (dec l=(if¬l.drop m=four (eQ.sum (l.take m))then(15,aQ)else if¬m %3=0 then(3,aQ)else if¬(idx (ie l 0)).length*3=m then(3,aQ)else if fC (jN l)then(0,jN l)else(3,aQ))):=hI (by
  unfold dec;rw[if_neg zfe,hl.out,show m+4-4=m by omega])
 have HT:Hid ((l.take m).length=m):=hI (by rw[List.length_take,hl.out];omega);have HDr:Hid ((l.drop m).length=4):=hI (by rw[List.length_drop,hl.out];omega);have hrt:Reads w1 w1.heap.size (some ⟨bb,oo,none⟩) (bytes (l.take m)):=by rw[IM];exact(HR1.out.take m).more (bA hg2)
 have HRt:=hI hrt;clear hrt;go_wp2_with (go_at_call 167;refine(Ni (some ⟨bb,oo,none⟩) m _ (l.take m) _ HT oM HRt.out).mono ?_;rintro e w2 ⟨rfl,rfl⟩)
 have hr4:Reads (w1.alloc (.cells #[.int .u8 (((eQ.sum (l.take m)).toNat:Int)/16777216),.int .u8 (((eQ.sum (l.take m)).toNat:Int)/65536 %256),.int .u8 (((eQ.sum (l.take m)).toNat:Int)/256 %256),.int .u8 (((eQ.sum (l.take m)).toNat:Int)%256)] 5)) (w1.heap.size+1) (some ⟨w1.heap.size,0,none⟩) (bytes (four (eQ.sum (l.take m)))):=by rw[<-Bl];exact Reads.FJ (Has.new _ _ _) oM
 have hsz:(w1.alloc (.cells #[.int .u8 (((eQ.sum (l.take m)).toNat:Int)/16777216),.int .u8 (((eQ.sum (l.take m)).toNat:Int)/65536 %256),.int .u8 (((eQ.sum (l.take m)).toNat:Int)/256 %256),.int .u8 (((eQ.sum (l.take m)).toNat:Int)%256)] 5)).heap.size=w1.heap.size+1:=sM;have hbx:Below w1.heap.size w1 (w1.alloc (.cells #[.int .u8 (((eQ.sum (l.take m)).toNat:Int)/16777216),.int .u8 (((eQ.sum (l.take m)).toNat:Int)/65536 %256),.int .u8 (((eQ.sum (l.take m)).toNat:Int)/256 %256),.int .u8 (((eQ.sum (l.take m)).toNat:Int)%256)] 5)):=(Below.refl _ _).alloc (aj _) _;rw[<-hsz]at hr4;generalize w1.alloc (.cells #[.int .u8 (((eQ.sum (l.take m)).toNat:Int)/16777216),.int .u8 (((eQ.sum (l.take m)).toNat:Int)/65536 %256),.int .u8 (((eQ.sum (l.take m)).toNat:Int)/256 %256),.int .u8 (((eQ.sum (l.take m)).toNat:Int)%256)] 5)=w3 at*;have k3:=k2.after hbx;have hb3:=hb.trans (hbx.mono (bA hg2));have HR3:Hid (Reads w3 g2 (some ⟨bb,oo,none⟩) (bytes l)):=hI ((HR1.out.more (bA hg2)).below hbx|>.keep (λ_ _ _=>rfl)|>λh=>λhn=>by
  obtain⟨b',o',e,_,hc⟩:=h hn;obtain⟨b2,o2,e',hlt,_⟩:=HR1.out hn;rw[e]at e';injection e' with e';injection e' with e1 e2;exact⟨b',o',e,by rw[e1];exact hlt,hc⟩)
 have hg3:=k3.lt;have hrd:Reads w3 w3.heap.size (some ⟨bb,oo+m,none⟩) (bytes (l.drop m)):=by rw[IP];exact((HR3.out.drop m).more (bA hg3))
 clear hbx hsz k2 hb HR1 HRt;refine(Oy _ _ 4 (c-m) 4 4 (l.drop m) (four (eQ.sum (l.take m))) w3 HDr (hI rfl) dC dC hrd hr4).mono ?_;rintro e w4 ⟨rfl,q,rfl⟩;clear hrd hr4;have k4:=k3.drewN q;have hb4:=below_drewN hb3 q;have HR4:Hid (Reads (w3.drewN q) g2 (some ⟨bb,oo,none⟩) (bytes l)):=HR3;have hg4:=k4.lt;clear k3 hb3 HR3 hg3;generalize w3.drewN q=w4 at*;by_cases he:l.drop m=four (eQ.sum (l.take m))
 ·have hde:decide (l.drop m=four (eQ.sum (l.take m)))=true:=by simpa using he
  have HD1:Hid (dec l=(if¬m %3=0 then(3,aQ)else if¬(idx (ie l 0)).length*3=m then(3,aQ)else if fC (jN l)then(0,jN l)else(3,aQ))):=hI (by rw[HD.out,if_neg (by simpa using he)]);rw[hde];clear hde he HD;go_upto_region 8 with(fail);have k6:Has (w4.alloc (.cells gK 214)) w4.heap.size 214 (aN aQ):=by rw[gy];exact Has.new _ _ _
  have k5:=k4.alloc (.cells gK 214);have hbx:Below w4.heap.size w4 (w4.alloc (.cells gK 214)):=(Below.refl _ _).alloc (aj _) _;have hb5:=hb4.trans (hbx.mono (bA hg4));have RN:Hid (Reads (w4.alloc (.cells gK 214)) g2 (some ⟨bb,oo,none⟩) (bytes l)):=hI (HR4.out.below (hbx.mono (bA hg4)));clear hbx k4 hb4 HR4;generalize w4.alloc (.cells gK 214)=w5 at*;generalize w4.heap.size=g6 at*;have hg5:=k5.lt;have OI:=k6.lt;by_cases OJ:m %3=0
  ·(have hde:((m:Int)%3 !=0)=false:=ze0);have HD2:Hid (dec l=(if¬(idx (ie l 0)).length*3=m then(3,aQ)else if fC (jN l)then(0,jN l)else(3,aQ))):=hI (by rw[HD1.out,if_neg (by simpa using OJ)]);clear OJ HD1;go_upto_region 10 with(fail);obtain⟨x0,hx0⟩:=bY l 0 zfe;obtain⟨x1,hx1⟩:=bY l 1 zfe;obtain⟨x2,hx2⟩:=bY l 2 zfe;have HN:Hid (ie l 0=n3 x0 x1 x2):=hI zfl;(have c0:w5.cell? ⟨bb,oo,none⟩=some (U8 x0):=by obtain⟨_,_,e,_,h⟩:=RN.out.qg hx0;cases e;exact h);(have c1:w5.cell? ⟨bb,oo+1,none⟩=some (U8 x1):=by obtain⟨_,_,e,_,h⟩:=RN.out.qg hx1;cases e;exact h);(have c2:w5.cell? ⟨bb,oo+2,none⟩=some (U8 x2):=by obtain⟨_,_,e,_,h⟩:=RN.out.qg hx2;cases e;exact h);have z0:=k6.aJ 0 (I 0) rfl;have zf:=k6.free 0;have y0:=x0.toNat_lt;have y1:=x1.toNat_lt;have y2:=x2.toNat_lt;clear hx0 hx1 hx2;go_cut [] (λwx=>Hid (wx=w5.drew.setCell ⟨g6,0,none⟩ (I (ie l 0))))
   case first=>
    go_region;all_goals
     go_wp2_with fail;go_meet
     case rel=>exact hI (by rw[HN.out,<-RB];rfl)
   case rest=>
    have hb6:Below g2 w (w5.drew.setCell ⟨g6,0,none⟩ (I (ie l 0))):=(hb5.drew).setCell (bA hg4) _;(have RO:Has (w5.drew.setCell ⟨g6,0,none⟩ (I (ie l 0))) g6 214 (aN (iJ l 0)):=by have h:=k6.drew.set 0 (I (ie l 0));rw[Bg]at h;exact h);have RP:Has (w5.drew.setCell ⟨g6,0,none⟩ (I (ie l 0))) g2 214 (aN aQ):=k5.drew.far ze0 _;have Yl:Hid (Reads (w5.drew.setCell ⟨g6,0,none⟩ (I (ie l 0))) g2 (some ⟨bb,oo,none⟩) (bytes l)):=hI (RN.out.drew.setCell (bA hg4) _);rw[<-hcut.out]at hb6 RO RP Yl;clear hcut c0 c1 c2 z0 zf y0 y1 y2 HN x0 x1 x2 k5 k6 hb5 RN hg5 OI hde;clear w5;have hk3:=LW (l.getD (3*0) 0) (l.getD (3*0+1) 0) (l.getD (3*0+2) 0);have ck:=RO.aJ 0 (I (ie l 0)) (dO _ 0 _ (by simp[iJ,aQ]));have hk4:ie l 0<16777216:=hk3;clear hk3;have HF:Hid (jN l=iJ l (idx (ie l 0)).length):=rfl;have F6:Hid (∀n i,(idx (ie l 0))[n]?=some i->iJ l (n+1)=(iJ l n).set i (ie l n)):=hI (λn i h=>by rw[iJ,aD,h];rfl);generalize hkk:((ie l 0:Nat):Int)=k at*;clear hkk hk4;have Ru:=wG k;go_wp2_with fail;refine(oD g6 _ k _ RO ck).mono ?_;rintro e w7 ⟨⟨A7,n7,rfl,WW⟩,RQ⟩;have k67:=RO.after RQ;have Vs:=RP.after RQ;have HR7:Hid (Reads w7 g2 (some ⟨bb,oo,none⟩) (bytes l)):=hI (Yl.out.below (RQ.mono (bA RP.lt)));have RR:=hb6.trans (RQ.mono (bA RP.lt));have HO7:=hI (iW WW (bT _));clear WW RQ RO RP Yl hb6 ck;by_cases RS:(idx k).length*3=m
    ·(have hde:(((idx k).length:Int)*3 !=(m:Int))=false:=ze0);have HD3:Hid (dec l=(if fC (jN l)then(0,jN l)else(3,aQ))):=hI (by rw[HD2.out,if_neg (by simpa using RS)]);have HE:=hI RS;clear RS HD2;go_wp2_with fail;go_loopw [78] (λi wr=>∃j:Nat,j<=(idx k).length/\i=I j/\Has wr g6 214 (aN (iJ l j))/\Has wr g2 214 (aN aQ)/\Hid (Reads wr g2 (some ⟨bb,oo,none⟩) (bytes l))/\
      Hid (wr.ownsRow 0 250 1 (.slice A7 (idx k).length n7) (idx k).length (ptrs g6 (idx k)))/\Below g2 w wr) (λi _=>(idx k).length-(intOf i).toNat)
     case atStart=>exact⟨0,oM,rfl,k67,Vs,HR7,HO7,RR⟩
     case round=>
      clear k67 Vs HR7 HO7 RR;obtain⟨j,hj,rfl,ka,kb,HR,HO,hbr⟩:=hrel;by_cases hlt:j<(idx k).length
      ·(have hjm:3*j+2<m:=by have:=HE.out;omega);obtain⟨i,hi⟩:=bY (idx k) j hlt;have Ed:i<23:=FL k i (aR hi);obtain⟨y,hy⟩:=bY (iJ l j) i (by rw[mh];exact Ed);obtain⟨x0,hx0⟩:=bY l (3*j) zfe;obtain⟨x1,hx1⟩:=bY l (3*j+1) zfe;obtain⟨x2,hx2⟩:=bY l (3*j+2) zfe;have HN:Hid (ie l j=n3 x0 x1 x2):=hI zfl;(have c0:wr.cell? ⟨bb,oo+3*j,none⟩=some (U8 x0):=by obtain⟨_,_,e,_,h⟩:=HR.out.qg hx0;cases e;exact h);(have c1:wr.cell? ⟨bb,oo+(3*j+1),none⟩=some (U8 x1):=by obtain⟨_,_,e,_,h⟩:=HR.out.qg hx1;cases e;exact h);(have c2:wr.cell? ⟨bb,oo+(3*j+2),none⟩=some (U8 x2):=by obtain⟨_,_,e,_,h⟩:=HR.out.qg hx2;cases e;exact h);obtain⟨hc7,hr7⟩:=nM HO.out;obtain⟨b7,o7,rfl,_,e7⟩:=Aa hr7 hi;have z0:=ka.aJ i _ (dO _ i y hy);have zf:=ka.free i;have y0:=x0.toNat_lt;have y1:=x1.toNat_lt;have y2:=x2.toNat_lt;have HDj:Hid (iJ l (j+1)=(iJ l j).set i (ie l j)):=hI (F6.out j i hi);clear hx0 hx1 hx2 hy hi hr7 hc7;go_wp2_with fail;go_region;all_goals
        go_wp2_with fail;go_roundw
        case rel=>refine⟨j+1,oM,by go_num,?_,kb.drew.far ze0 _,hI (HR.out.drew.setCell (bA hg4) _),hI (ew (w:=wr.drew) HO.out ka dC _ _),hbr.drew.setCell (bA hg4) _⟩;have h:=ka.drew.set i (I (ie l j));rw[Bg,<-HDj.out,HN.out,<-RB]at h;exact h
        case measure=>simp[intOf];omega
      ·(have hjn:j=(idx k).length:=by omega);have HJ:Hid (iJ l j=jN l):=hI (by rw[HF.out,hjn]);have hw:=xW l j;rw[HJ.out]at ka hw;have HW:=hI hw;have hs6:Hid ((prog.info? 214).map (·.size)=some (aN (jN l)).size):=hI (by rw[cY _ hw.1];exact dh);have hs2:Hid ((aN aQ).size=(aN (jN l)).size):=hI (by rw[cY _ hw.1];rfl);clear hw hjn HJ;cases hm:fC (jN l)with
       |true=>
        have HM:=hI hm;have HDD:Hid (dec l=(0,jN l)):=hI (by rw[HD3.out,hm];rfl);clear hm HD3;go_wp2_with (first
         |(refine wpList_load_row rfl 214 (.tmp 6) rfl g6 rfl 214 (aN (jN l)) (0,0) _ zfd underlying214 rfl hs6.out ?_)
         |(go_at_call 170;refine(tj (jN l) HW.out _).mono ?_;rintro e w8 ⟨rfl,I0⟩;rw[HM.out];have ka8:=ka.after I0;have RU:=kb.after I0;have jw:=hbr.trans (I0.mono (bA kb.lt));clear I0)
         |(refine wpList_store_row rfl 214 (.tmp 2) _ rfl g2 (aN (jN l)) rfl rfl 214 _ RU hs6.out hs2.out (dZ _) ?_))
        exact bodyPost_ret (gh rfl _ _ _ _ (aN (jN l)) _ rfl (RU.setRow _) underlying214 rfl hs6.out) rfl ⟨by rw[HDD.out];rfl,HG.out▸below_setRow jw (aj _) _⟩
       |false=>
        have HM:=hI hm;have Ma:Hid (dec l=(3,aQ)):=hI (by rw[HD3.out,hm];rfl);clear hm HD3;go_wp2_with (first
         |(refine wpList_load_row rfl 214 (.tmp 6) rfl g6 rfl 214 (aN (jN l)) (0,0) _ zfd underlying214 rfl hs6.out ?_)
         |(go_at_call 170;refine(tj (jN l) HW.out _).mono ?_;rintro e w8 ⟨rfl,I0⟩;rw[HM.out];have RU:=kb.after I0;have jw:=hbr.trans (I0.mono (bA kb.lt));clear I0)
         |(refine wpList_store_row rfl 214 (.tmp 2) _ rfl g2 (aN aQ) rfl rfl 214 _ RU iZ rfl (dZ _) ?_))
        exact bodyPost_ret (gh rfl _ _ _ _ (aN aQ) _ rfl (RU.setRow _) underlying214 rfl iZ) rfl ⟨zfk,HG.out▸below_setRow jw (aj _) _⟩
    ·(have hde:(((idx k).length:Int)*3 !=(m:Int))=true:=ze0);have Ma:Hid (dec l=(3,aQ)):=hI (by rw[HD2.out,if_pos RS]);clear RS HD2;(go_wp2_with (refine wpList_store_row rfl 214 (.tmp 2) _ rfl g2 (aN aQ) rfl rfl 214 _ Vs iZ rfl (dZ _) ?_));exact bodyPost_ret (gh rfl _ _ _ _ (aN aQ) _ rfl (Vs.setRow _) underlying214 rfl iZ) rfl ⟨zfk,HG.out▸below_setRow RR (aj _) _⟩
  ·(have hde:((m:Int)%3 !=0)=true:=ze0);have Ma:Hid (dec l=(3,aQ)):=hI (by rw[HD1.out,if_pos OJ]);clear OJ HD1;(go_wp2_with (refine wpList_store_row rfl 214 (.tmp 2) _ rfl g2 (aN aQ) rfl rfl 214 _ k5 iZ rfl (dZ _) ?_));exact bodyPost_ret (gh rfl _ _ _ _ (aN aQ) _ rfl (k5.setRow _) underlying214 rfl iZ) rfl ⟨zfk,HG.out▸below_setRow hb5 (aj _) _⟩
 ·have hde:decide (l.drop m=four (eQ.sum (l.take m)))=false:=by simpa using he
  have Ma:Hid (dec l=(15,aQ)):=hI (by rw[HD.out,if_pos he]);rw[hde];clear hde he HD;go_wp2_with (refine wpList_store_row rfl 214 (.tmp 2) _ rfl g2 (aN aQ) rfl rfl 214 _ k4 iZ rfl (dZ _) ?_)
  exact bodyPost_ret (gh rfl _ _ _ _ (aN aQ) _ rfl (k4.setRow _) underlying214 rfl iZ) rfl ⟨zfk,HG.out▸below_setRow hb4 (aj _) _⟩
theorem Mb(A:Option Addr)(n c:Nat)(l:List UInt8)(w:aa)(hl:l.length=n)(hc:n<=c)(hr:Reads w w.heap.size A (bytes l)):
 Calls prog 136 #[.slice A n c] w λe w'=>e=.returned (.tuple #[.agg (aN (dec l).2),Ee (dec l).1])/\Below w.heap.size w w':=by
 by_cases h:n<7\/80<n
 ·have hd:dec l=(3,aQ):=by unfold dec;rw[if_pos (by rw[hl];exact h)]
  rw[hd];exact F5 A n c w h
 ·obtain⟨b,o,rfl,_,_⟩:=hr (by rintro h0;have:=congrArg List.length h0;rw[pd,hl]at this;simp at this;omega);obtain⟨m,rfl⟩:∃m,n=m+4:=⟨n-4,oM⟩;exact L9 b o m c l w hl oM oM hc hr
theorem step_ok(g:Nat)(L:Lay)(s:St)(M:Nat)(a b:Int)(w:aa)(hL:L.Ok)(hM:M<=4000000000000000000)(hs:s.Fits M)(hg:fJ w g L):
 Calls prog 172 #[pT g 0,.agg (cJ s),.agg #[I a,I b]] w λe w'=>
  e=.returned (.tuple #[.agg (cJ (step L a b s).1),I (step L a b s).2])/\Below w.heap.size w w':=by
 obtain⟨vr,vc,hcore,hrow,hcon⟩:=hg;obtain⟨A,c,rfl,hc,-,hrd⟩:=dQ hrow;obtain⟨A2,c2,rfl,hc2,-,Nn⟩:=dQ hcon;have hgl:=hcore.lt;have g0:=hcore.aJ 0 _ rfl;have g1:=hcore.aJ 1 _ rfl;have g2:=hcore.aJ 2 _ rfl;have g3:=hcore.aJ 3 _ rfl;go_enter func172,ntmps172;go_wp2_with fail;have k0:Has (((w.alloc (.cells (cJ s) 168)).alloc (.cells #[I a,I b] 155)).alloc (.cells fg 168)) w.heap.size 168 (cJ s):=
  ((Has.new' w _ _ w.heap.size rfl).alloc _).alloc _
 have k1:Has (((w.alloc (.cells (cJ s) 168)).alloc (.cells #[I a,I b] 155)).alloc (.cells fg 168)) (w.heap.size+1) 155 #[I a,I b]:=
  (Has.new' _ _ _ (w.heap.size+1) sM).alloc _
 have k2:Has (((w.alloc (.cells (cJ s) 168)).alloc (.cells #[I a,I b] 155)).alloc (.cells fg 168)) (w.heap.size+2) 168 fg:=
  Has.new' _ _ _ (w.heap.size+2) sM
 have hb:Below w.heap.size w (((w.alloc (.cells (cJ s) 168)).alloc (.cells #[I a,I b] 155)).alloc (.cells fg 168)):=
  (((Below.refl _ _).alloc (aj _) _).alloc sM _).alloc (by simp<;>omega) _
 generalize (((w.alloc (.cells (cJ s) 168)).alloc (.cells #[I a,I b] 155)).alloc (.cells fg 168))=w1 at*;have Bz:=hL.ja;have hs1:=hL.RG;have hs2:=hL.uQ;have q0:=(hcore.after hb).aJ 0 _ rfl;have q1:=(hcore.after hb).aJ 1 _ rfl;have q2:=(hcore.after hb).aJ 2 _ rfl;have i0:=k1.aJ 0 _ rfl;have i1:=k1.aJ 1 _ rfl;have HF:=hI (λW (hr:Reads W W.heap.size A (ints (zs L.routes)))=>Vk L.secs L.delay A L.routes.length c (zs L.routes) a b W (hI (dw _)) Bz hc hr oM oM (hI (rM hL)));have WX:Reads w1.drew w1.drew.heap.size A (ints (zs L.routes)):=(hrd.below hb).more hb.size;have HR:=hI WX;clear WX g0 g1 g2 g3 hcon hrow;go_cut [] (λwx=>Below w.heap.size w wx/\Has wx w.heap.size 168 (cJ s)/\Has wx (w.heap.size+1) 155 #[I (iI a L.secs),I (iI b L.routes.length)]/\Has wx (w.heap.size+2) 168 fg)
 case first=>
  go_region_with (go_at_call 187;refine(HF.out _ HR.out).mono ?_;rintro e w2 ⟨rfl,hb2⟩;have j0:=(k1.drew.after hb2).aJ 0 _ rfl;have j1:=(k1.drew.after hb2).aJ 1 _ rfl;have f0:=(k1.drew.after hb2).free 0;have f1:=(k1.drew.after hb2).free 1)
  all_goals
   go_wp2_with fail;go_meet;exact⟨(((below_drewN hb 1).trans (hb2.mono (by show w.heap.size<=w1.heap.size;exact hb.size))).setCell (by simp<;>omega) _).setCell (by simp<;>omega) _,((k0.drew.after hb2).far sM _).far sM _,by simpa using(((k1.drew.after hb2).set 0 _).set 1 _),((k2.drew.after hb2).far sM _).far sM _⟩
 case rest=>
  obtain⟨hbc,Vt,RV,Vu⟩:=hcut;clear hb k0 k1 k2 q0 q1 q2 i0 i1 HF HR;have q0:=(hcore.after hbc).aJ 0 _ rfl;have q1:=(hcore.after hbc).aJ 1 _ rfl;have i0:=RV.aJ 0 _ rfl;go_wp2_with fail;have hcl:iI a L.secs<4096:=aT (qi _ _) (cn (n:=2) dC hs2);have Mc:iI b L.routes.length<256:=aT (qi _ _) (cn (n:=2) dC Bz);have HS:Hid (step L a b s=(nP L (iI a L.secs) (iI b L.routes.length) s,ld L.routes (iI a L.secs) (iI b L.routes.length) (nP L (iI a L.secs) (iI b L.routes.length) s) L.routes.length)):=rfl;generalize iI a L.secs=cl at*;generalize iI b L.routes.length=wa at*;go_loopw [34] (λi wr=>∃k:Nat,k<=L.routes.length/\i=I k/\Has wr w.heap.size 168 (cJ (lO L cl wa s k))/\Has wr (w.heap.size+1) 155 #[I cl,I wa]/\
   Has wr (w.heap.size+2) 168 fg/\Below w.heap.size w wr) (λi _=>L.routes.length-(intOf i).toNat)
  case atStart=>exact⟨0,oM,rfl,Vt,RV,Vu,hbc⟩
  case round=>
   clear q0 q1 i0 Vt RV Vu hbc;obtain⟨k,hk,rfl,k0,k1,k2,hbr⟩:=hrel;by_cases hlt:k<L.routes.length
   ·
    obtain⟨r,hx⟩:=bY L.routes k hlt;obtain⟨bb,oo,rfl,hbb,hcell⟩:=(hrd.below hbr).at_ (jR hx);have hr4:r<4096:=hL.small r (aR hx);have HX:=hI hx;clear hx;have hf:=oG (cl:=cl) (wa:=wa) hL hs k oM;have HL:Hid (lO L cl wa s (k+1)=one L.delay cl wa (lO L cl wa s k) k r):=by have h:=gz HX.out;show lO L cl wa s (k+1)=_;rw[lO,h]
    generalize lO L cl wa s k=t at*;obtain⟨hf1,hf2,hf3,RX,RY⟩:=hf;obtain⟨x,hx⟩:=bY t.used k oM;obtain⟨y,hy⟩:=bY t.idle k oM;have hx4:x<4096:=RX x (aR hx);have hyM:y<=M+k:=RY y (aR hy);have s0:=k0.aJ 0 (I t.set) rfl;have s1:=k0.aJ (1+k) (I x) (xY hx);have s9:=k0.aJ (9+k) (I y) (xZ hf2 hy);have i1:=k1.aJ 1 (I wa) rfl;have z1:=k0.free (1+k);have z9:=k0.free (9+k);have z0:=k0.free 0;have H8:=hI hf2;have RZ:=hI hf3;have Hx:=hI hx;have Hy:=hI hy;have H4:=hI RX;have H5:=hI RY;clear hx hy hf2 hf3 RX RY;cases hset:t.set.testBit k with
    |false=>
     (have tb:(bits .and .i64 ((t.set:Int)/2^k) 1==0)=true:=by rw[jS _ _ oM,hset];rfl);have HO:=hI (OE (d:=L.delay) (cl:=cl) (wa:=wa) (r:=r) hset);clear hset;go_wp2_with fail;go_roundw
     case rel=>exact⟨k+1,oM,ze2,by rw[HL.out,HO.out];exact k0,k1,k2,hbr⟩
     case measure=>simp[intOf];omega
    |true=>
     (have tb:(bits .and .i64 ((t.set:Int)/2^k) 1==0)=false:=by rw[jS _ _ oM,hset];rfl);have I1:=hI hset;clear hset;(go_upto_if 60 with fail);(have hle:k<t.used.length:=by rw[H8.out];omega);have E:bits .or .i64 (x:Int) (bits .and .i64 (r:Int) (bits .xor .i64 (-1) (cl:Int)))=((x|||nb r cl:Nat):Int):=by rw[mV r cl oM,jH x _ oM (Bo oM)]
     have hu4:x|||nb r cl<4096:=Nat.or_lt_two_pow (n:=12) hx4 (Bo hr4);have HC:Hid (nb r cl=nb r cl):=rfl;have kA:=k0.set (1+k) (I (x|||nb r cl:Nat));rw[wK _ _ _ hle,<-E]at kA;have kB:=k1.far (p:=⟨w.heap.size,1+k,none⟩) sM (I (bits .or .i64 (x:Int) (bits .and .i64 (r:Int) (bits .xor .i64 (-1) (cl:Int)))));have kC:=k2.far (p:=⟨w.heap.size,1+k,none⟩) sM (I (bits .or .i64 (x:Int) (bits .and .i64 (r:Int) (bits .xor .i64 (-1) (cl:Int)))));have qN:=hbr.setCell (p:=⟨w.heap.size,1+k,none⟩) (aj _) (I (bits .or .i64 (x:Int) (bits .and .i64 (r:Int) (bits .xor .i64 (-1) (cl:Int)))));clear hcell;generalize wr.setCell ⟨w.heap.size,1+k,none⟩ (I (bits .or .i64 (x:Int) (bits .and .i64 (r:Int) (bits .xor .i64 (-1) (cl:Int)))))=wA at*;have HE:=hI E;clear E k0 k1 k2 hbr s0 s1 s9 i1 z1 z9 z0;have s9:=kA.aJ (9+k) (I y) (xZ zfa Hy.out);have z9:=kA.free (9+k);go_cut [] (λwx=>Has wx w.heap.size 168 (cJ ⟨t.set,t.used.set k (x|||nb r cl),t.idle.set k (if wa.testBit k=true then 0 else y+1)⟩)/\Has wx (w.heap.size+1) 155 #[I cl,I wa]/\
      Has wx (w.heap.size+2) 168 fg/\Below w.heap.size w wx)
     case first=>
      go_wp2_with fail
      ·(have hT:(bits .and .i64 ((wa:Int)/2^k) 1==1)=true:=zfd);rw[jS _ _ oM]at hT;have hw1:wa.testBit k=true:=by
        cases h:wa.testBit k with
        |true=>rfl
        |false=>rw[h]at hT;simp at hT
       go_meet;have kA':=kA.set (9+k) (I (0:Nat));rw[qj _ _ _ zfa]at kA';exact⟨by rw[if_pos hw1];exact kA',kB.far sM _,kC.far sM _,qN.setCell (aj _) _⟩
      ·(have hT:(bits .and .i64 ((wa:Int)/2^k) 1==1)=false:=zfd);rw[jS _ _ oM]at hT;(have hw1:¬wa.testBit k=true:=by intro h;rw[h]at hT;simp at hT);go_meet;have kA':=kA.set (9+k) (I (y+1:Nat));rw[qj _ _ _ zfa]at kA';exact⟨by rw[if_neg hw1];exact kA',kB.far sM _,kC.far sM _,qN.setCell (aj _) _⟩
     case rest=>
      clear kA kB kC qN s9 z9;obtain⟨k0,k1,k2,hbr⟩:=hcut;have HK:=λh=>hI (OG (d:=L.delay) (cl:=cl) (wa:=wa) (r:=r) I1.out Hx.out Hy.out h);have HG:=λh=>hI (Vn (d:=L.delay) (cl:=cl) (wa:=wa) (r:=r) I1.out Hx.out Hy.out h);(have hi4:(if wa.testBit k=true then 0 else y+1)<=y+1:=by split<;>omega);have hr1:1<=r:=hL.low r (aR HX.out);have aba:nb r cl<4096:=Bo hr4;generalize (if wa.testBit k=true then 0 else y+1)=i at*;generalize x|||nb r cl=u at*;have c0:=k0.aJ 0 (I t.set) rfl;have c1:=k0.aJ (1+k) (I u) (xY (by rw[List.getElem?_set_self hle]));have c9:=k0.aJ (9+k) (I i) (xZ zfa (by rw[List.getElem?_set_self (by rw[RZ.out];omega)]));have z0:=k0.free 0;have z1:=k0.free (1+k);have z9:=k0.free (9+k);have q2:=(hcore.after hbr).aJ 2 _ rfl;by_cases hA:u=r/\nb r cl=0
      ·(have t1:((u:Int)==(r:Int))=true:=by simp[hA.1]);(have t2:(bits .and .i64 (r:Int) (bits .xor .i64 (-1) (cl:Int))==0)=true:=by rw[mV r cl oM,hA.2];rfl);have Ym:=HG (.inl hA);clear hA HK HG HE;go_wp2_with fail;go_quiet (fail);go_wp2_with fail;go_region;go_wp2_with fail;go_roundw
       case rel=>exact⟨k+1,oM,ze2,zfi,(((k1.drewN _).far sM _).far sM _).far sM _,(((k2.drewN _).far sM _).far sM _).far sM _,(((below_drewN hbr _).setCell (aj _) _).setCell (aj _) _).setCell (aj _) _⟩
       case measure=>simp[intOf];omega
      by_cases hu:u=r
      ·have hv:nb r cl≠0:=λh=>hA ⟨hu,h⟩;(have t1:((u:Int)==(r:Int))=true:=by simp[hu]);(have t2:(bits .and .i64 (r:Int) (bits .xor .i64 (-1) (cl:Int))==0)=false:=by rw[mV r cl oM];simp;omega);(have t3:((u:Int)==0)=false:=ze0);have R3:=HK oM;clear hA HK HG HE hu hv;go_wp2_with fail;go_quiet (fail);go_wp2_with fail;go_roundw
       case rel=>exact⟨k+1,oM,ze2,zfg,k1.drewN _,k2.drewN _,below_drewN hbr _⟩
       case measure=>simp[intOf];omega
      ·(have t1:((u:Int)==(r:Int))=false:=ze0);by_cases hu0:u=0
       ·(have t3:((u:Int)==0)=true:=by simp[hu0]);by_cases hd:L.delay<i
        ·have Ym:=HG (.inr ⟨hu0,hd⟩);(have t4:decide ((L.delay:Int)<(i:Int))=true:=ze0);clear hA HK HG HE hu hu0;go_wp2_with fail;go_quiet (fail);go_wp2_with fail;go_region;go_wp2_with fail;go_roundw
         case rel=>exact⟨k+1,oM,ze2,zfi,(((k1.drewN _).far sM _).far sM _).far sM _,(((k2.drewN _).far sM _).far sM _).far sM _,(((below_drewN hbr _).setCell (aj _) _).setCell (aj _) _).setCell (aj _) _⟩
         case measure=>simp[intOf];omega
        ·have R3:=HK oM;(have t4:decide ((L.delay:Int)<(i:Int))=false:=ze0);clear hA HK HG HE hu hu0;go_wp2_with fail;go_quiet (fail);go_wp2_with fail;go_roundw
         case rel=>exact⟨k+1,oM,ze2,zfg,k1.drewN _,k2.drewN _,below_drewN hbr _⟩
         case measure=>simp[intOf];omega
       ·(have t3:((u:Int)==0)=false:=ze0);have R3:=HK oM;clear hA HK HG HE hu hu0;go_wp2_with fail;go_quiet (fail);go_wp2_with fail;go_roundw
        case rel=>exact⟨k+1,oM,ze2,zfg,k1.drewN _,k2.drewN _,below_drewN hbr _⟩
        case measure=>simp[intOf];omega
   ·(have hkn:k=L.routes.length:=by omega);have hf:=oG (cl:=cl) (wa:=wa) hL hs k oM;(have HT:Hid (nP L cl wa s={lO L cl wa s k with set:=lc L.routes cl wa (lO L cl wa s k).set L.routes.length}):=by rw[hkn];rfl);clear hkn;generalize lO L cl wa s k=t at*;obtain⟨hf1,hf2,hf3,RX,RY⟩:=hf;have H8:=hI hf2;have RZ:=hI hf3;clear hf2 hf3 RX RY;have q0:=(hcore.after hbr).aJ 0 _ rfl;have q1:=(hcore.after hbr).aJ 1 _ rfl;go_wp2_with fail;go_loopw [121] (λi wr2=>∃k:Nat,k<=L.routes.length/\i=I k/\Has wr2 w.heap.size 168 (cJ {t with set:=lc L.routes cl wa t.set k})/\Has wr2 (w.heap.size+1) 155 #[I cl,I wa]/\
     Has wr2 (w.heap.size+2) 168 fg/\Below w.heap.size w wr2) (λi _=>L.routes.length-(intOf i).toNat)
    case atStart=>exact⟨0,oM,rfl,k0,k1,k2,hbr⟩
    case round=>
     clear q0 q1 k0 k1 k2 hbr hlt hk;obtain⟨j,hk,rfl,k0,k1,k2,hbr⟩:=hrel;by_cases hlt:j<L.routes.length
     ·
      obtain⟨r,hx⟩:=bY L.routes j hlt;obtain⟨bb,oo,rfl,hbb,hcell⟩:=(hrd.below hbr).at_ (jR hx);(have hcx:(dp L.routes)[j]?=some (conf L.routes j):=by simp[dp,hlt]);obtain⟨bb2,oo2,rfl,aau,hcell2⟩:=(Nn.below hbr).at_ (jR hcx);have hcf:conf L.routes j<256:=iY _ _ _ oM;have hr4:r<4096:=hL.small r (aR hx);have hst:lc L.routes cl wa t.set j<256:=tz _ _ _ _ hf1 j oM;have HX:=hI hx;clear hx hcx;have HL:Hid (lc L.routes cl wa t.set (j+1)=if Ab L.routes cl wa (lc L.routes cl wa t.set j) j then lc L.routes cl wa t.set j|||1<<<j else lc L.routes cl wa t.set j):=rfl;generalize lc L.routes cl wa t.set j=u at*;have s0:=k0.aJ 0 (I u) rfl;have z0:=k0.free 0;have i1:=k1.aJ 1 (I wa) rfl;have q0:=(hcore.after hbr).aJ 0 _ rfl;have q3:=(hcore.after hbr).aJ 3 _ rfl;have tN:=L3 (cl:=cl) (wa:=wa) (u:=u) HX.out;have tW:=wM wa j oM;cases hw:wa.testBit j with
      |false=>
       rw[hw]at tN tW;have HN:=hI tN;clear tN;go_wp2_with fail;go_quiet (fail);go_wp2_with fail;go_roundw
       case rel=>exact⟨j+1,oM,ze2,zff,k1.drewN _,k2.drewN _,below_drewN hbr _⟩
       case measure=>simp[intOf];omega
      |true=>
       have tU:=RH u j oM;cases hu:u.testBit j with
       |true=>
        rw[hw,hu]at tN;rw[hw]at tW;rw[hu]at tU;have HN:=hI tN;clear tN;go_wp2_with fail;go_quiet (fail);go_wp2_with fail;go_roundw
        case rel=>exact⟨j+1,oM,ze2,zff,k1.drewN _,k2.drewN _,below_drewN hbr _⟩
        case measure=>simp[intOf];omega
       |false=>
        have tC:=RJ u (conf L.routes j) oM oM;cases hc:decide (u&&&conf L.routes j=0)with
        |false=>
         rw[hw,hu,hc]at tN;rw[hw]at tW;rw[hu]at tU;rw[hc]at tC;have HN:=hI tN;clear hc;clear tN;go_wp2_with fail;go_quiet (fail);go_wp2_with fail;go_roundw
         case rel=>exact⟨j+1,oM,ze2,zff,k1.drewN _,k2.drewN _,below_drewN hbr _⟩
         case measure=>simp[intOf];omega
        |true=>
         have tV:=Eh r cl hr4;cases hv:decide (nb r cl=0)with
         |false=>
          rw[hw,hu,hc,hv]at tN;rw[hw]at tW;rw[hu]at tU;rw[hc]at tC;rw[hv]at tV;have HN:=hI tN;clear hc hv;clear tN;go_wp2_with fail;go_quiet (fail);go_wp2_with fail;go_roundw
          case rel=>exact⟨j+1,oM,ze2,zff,k1.drewN _,k2.drewN _,below_drewN hbr _⟩
          case measure=>simp[intOf];omega
         |true=>
          rw[hw,hu,hc,hv]at tN;rw[hw]at tW;rw[hu]at tU;rw[hc]at tC;rw[hv]at tV;have HN:=hI tN;clear hc hv;clear tN;go_wp2_with fail;go_quiet (fail);go_wp2_with fail;go_region;go_wp2_with fail;go_roundw
          case rel=>refine⟨j+1,oM,ze2,?_,(k1.drewN _).far sM _,(k2.drewN _).far sM _,(below_drewN hbr _).setCell (aj _) _⟩;have h:=(k0.drewN (nq+1)).set 0 (I (u|||1<<<j:Nat));rw[ze]at h;rw[HL.out,HN.out,Bv j oM,jH _ _ oM (Bw j oM)];exact h
          case measure=>simp[intOf];omega
     ·(have hjn:j=L.routes.length:=by omega);rw[hjn,<-HT.out]at k0;(have hS1:(nP L cl wa s).set<256:=by rw[HT.out];exact tz _ _ _ _ hf1 _ Bz);have H8:Hid ((nP L cl wa s).used.length=8):=hI (by rw[HT.out];exact H8.out);have RZ:Hid ((nP L cl wa s).idle.length=8):=hI (by rw[HT.out];exact RZ.out);clear hjn HT hf1;have HS2:Hid (step L a b s=(nP L cl wa s,ld L.routes cl wa (nP L cl wa s) L.routes.length)):=HS;clear HS;generalize nP L cl wa s=t at*;have q0:=(hcore.after hbr).aJ 0 _ rfl;have q1:=(hcore.after hbr).aJ 1 _ rfl;go_wp2_with fail;go_loopw [13,172] (λv i wr3=>∃k:Nat,k<=L.routes.length/\i=I k/\v=I (ld L.routes cl wa t k)/\Has wr3 w.heap.size 168 (cJ t)/\
       Has wr3 (w.heap.size+2) 168 fg/\Has wr3 (w.heap.size+1) 155 #[I cl,I wa]/\Below w.heap.size w wr3) (λ_ i _=>L.routes.length-(intOf i).toNat)
      case atStart=>exact⟨0,oM,rfl,rfl,k0,k2,k1,hbr⟩
      case round=>
       clear q0 q1 k0 k1 k2 hbr hlt hk;obtain⟨j,hk,rfl,rfl,k0,k2,k1,hbr⟩:=hrel;by_cases hlt:j<L.routes.length
       ·
        obtain⟨r,hx⟩:=bY L.routes j hlt;obtain⟨bb,oo,rfl,hbb,hcell⟩:=(hrd.below hbr).at_ (jR hx);obtain⟨x,Yn⟩:=bY t.used j (by rw[H8.out];omega);have hr4:r<4096:=hL.small r (aR hx);have ho4:ld L.routes cl wa t j<256:=abI _ _ _ _ j oM;have tN:=OH (cl:=cl) (wa:=wa) hx Yn;clear hx;have HL:Hid (ld L.routes cl wa t (j+1)=if shows L.routes cl wa t j then ld L.routes cl wa t j|||1<<<j else ld L.routes cl wa t j):=rfl;generalize ld L.routes cl wa t j=u at*;have s0:=k0.aJ 0 (I t.set) rfl;have s1:=k0.aJ (1+j) (I x) (xY Yn);clear Yn;have i1:=k1.aJ 1 (I wa) rfl;have tS:=wM t.set j oM;cases hs':t.set.testBit j with
        |false=>
         rw[hs']at tN tS;have HN:=hI tN;clear tN;go_wp2_with fail;go_roundw
         case rel=>exact⟨j+1,oM,ze2,zfh,k0,k2,k1,hbr⟩
         case measure=>simp[intOf];omega
        |true=>
         rw[hs']at tN tS;clear hs';by_cases hx0:x=0
         ·(have tX:((x:Int)==0)=true:=by simp[hx0]);rw[show decide (x=0)=true by simp[hx0]]at tN;clear hx0;have tV:=Eh r cl hr4;cases hv:decide (nb r cl=0)with
          |false=>
           rw[hv]at tV tN;clear hv;have HN:=hI tN;clear tN;go_wp2_with fail;go_roundw
           case rel=>exact⟨j+1,oM,ze2,zfh,k0,k2,k1,hbr⟩
           case measure=>simp[intOf];omega
          |true=>
           rw[hv]at tV tN;clear hv;have tW:=wM wa j oM;cases hw:wa.testBit j with
           |false=>
            rw[hw]at tW tN;clear hw;have HN:=hI tN;clear tN;go_wp2_with fail;go_roundw
            case rel=>exact⟨j+1,oM,ze2,zfh,k0,k2,k1,hbr⟩
            case measure=>simp[intOf];omega
           |true=>
            rw[hw]at tW tN;clear hw;have HN:=hI tN;clear tN;go_wp2_with fail;go_roundw
            case rel=>refine⟨j+1,oM,ze2,?_,k0,k2,k1,hbr⟩;rw[HL.out,HN.out,Bv j oM,jH _ _ oM (Bw j oM)];rfl
            case measure=>simp[intOf];omega
         ·(have tX:((x:Int)==0)=false:=by simp[hx0]);rw[show decide (x=0)=false by simp[hx0]]at tN;clear hx0;have HN:=hI tN;clear tN;go_wp2_with fail;go_roundw
          case rel=>exact⟨j+1,oM,ze2,zfh,k0,k2,k1,hbr⟩
          case measure=>simp[intOf];omega
       ·have hjn:Hid (j=L.routes.length):=hI oM;have hsz:=OC t H8.out RZ.out;have WY:(prog.info? 168).map (·.size)=some 17:=kR;(have hic:(prog.info? 168).map (·.size)=some (cJ t).size:=by rw[hsz];exact WY);have C2:=hI hsz;clear hsz WY;have Yo:=hI hic;clear hic;go_wp2_with (first
         |(refine wpList_load_row rfl 168 _ rfl w.heap.size rfl 168 (cJ t) (0,0) _ k0 underlying168 rfl Yo.out ?_)
         |(refine wpList_store_row rfl 168 _ _ rfl (w.heap.size+2) (cJ t) rfl rfl 168 _ k2 Yo.out (by rw[C2.out];rfl) (rN t) ?_))
        refine bodyPost_ret (gh rfl _ _ _ _ (cJ t) _ rfl (k2.setRow _) underlying168 rfl Yo.out) rfl ⟨?_,below_setRow hbr oM _⟩;rw[HS2.out,hjn.out];rfl
structure cK(w:aa)(g gc:Nat)(L:Lay)(r:Re):Prop where
 has:Has w g 176 (cellsOf 93 (dK r gc))
 core:fJ w gc L
theorem fJ.wQ{w w':aa}{g gc:Nat}{L:Lay}{t:aw}{cs:bw}(h:fJ w gc L)(k:Has w g t cs)(h1:198≠t)(h2:3≠t)(ht:Turned (λb=>b=g) w w'):fJ w' gc L:=by obtain⟨vr,vc,a1,a2,a3⟩:=h;refine⟨vr,vc,a1.turned ht (λe=>a1.ne k h1 e),iF a2 ht (λq hq e=>dz a2 k h2 (e▸hq)),iF a3 ht (λq hq e=>dz a3 k h2 (e▸hq))⟩
theorem cK.after{w w':aa}{g gc:Nat}{L:Lay}{r:Re}(h:cK w g gc L r)(hb:Below w.heap.size w w'):cK w' g gc L r:=⟨h.has.after hb,h.core.after hb⟩
theorem cK.cell{w:aa}{g gc:Nat}{L:Lay}{r:Re}(h:cK w g gc L r)(i:Nat)(hi:i<93){v:ae}(hv:dK r gc i=v):w.cell? ⟨g,i,none⟩=some v:=h.has.qm i hi hv
theorem cK.free{w:aa}{g gc:Nat}{L:Lay}{r:Re}(h:cK w g gc L r)(i:Nat):w.frozen? ⟨g,i,none⟩=false:=h.has.free i
theorem cK.to{w w':aa}{g gc:Nat}{L:Lay}{r r':Re}{f:Nat->ae}(h:cK w g gc L r)(ht:Turned (λb=>b=g) w w')(k:Has w' g 176 (cellsOf 93 f))(he:∀j,j<93->f j=dK r' gc j):cK w' g gc L r':=
 ⟨k.L4 he,h.core.wQ h.has dC dC ht⟩
section
variable {w:aa}{g gc:Nat}{L:Lay}{r:Re}
theorem OL(h:cK w g gc L r):Calls prog 142 #[pT g 0] w λe w'=>e=.returned (I (r.cycle:Int))/\w=w':=by have c2:=h.cell 2 dC fN;clear h;go_enter func142,ntmps142;go_wp2;go_ret;exact⟨rfl,rfl⟩
theorem eW:(prog.info? 168).map (·.size)=some 17:=kR
theorem mX(h:cK w g gc L r)(hs:(eV r.state).length=17):w.rangeAt g 3 (eV r.state):=h.has.FX 3 _ λj v hv=>by
 have hj:j<17:=by rw[<-hs];exact(aX.1 hv).1
 refine⟨oM,?_⟩;rw[BD hj,aD,hv];rfl
theorem OM(h:cK w g gc L r)(hs:(eV r.state).length=17):Calls prog 143 #[pT g 0] w λe w'=>e=.returned (.agg (cJ r.state))/\Below w.heap.size w w':=by
 have hb:Below w.heap.size w (w.alloc (.cells fg 168)):=(Below.refl _ _).alloc (aj _) _;have k0:Has (w.alloc (.cells fg 168)) w.heap.size 168 (cJ St.zero):=Has.new w 168 fg;have hr:=hI (mX (h.after hb) hs);have hi:(prog.info? 168).map (·.size)=some (eV r.state).length:=by rw[hs];exact eW
 have hi2:(prog.info? 168).map (·.size)=some (cJ r.state).size:=by unfold cJ;rw[bR,hs];exact eW
 have hz:(cJ St.zero).size=(cJ r.state).size:=by unfold cJ;rw[bR,bR,hs];rfl
 have h1:(cJ r.state).all (·.oneCell')=true:=by unfold cJ eV;exact all_oneCell_toArray λv hv=>by simp only[List.mem_cons,List.mem_append,ints,List.mem_map]at hv;rcases hv with rfl|⟨x,_,rfl⟩|⟨x,_,rfl⟩<;>rfl
 clear h;go_enter func143,ntmps143;go_upto_region 1 with fail;generalize w.alloc (.cells fg 168)=w1 at*;generalize hG:w.heap.size=g0 at*;have HG:=hI hG;clear hG;go_wp2_with (first
  |(refine wpList_load_mid rfl 168 (.tmp 5) rfl g 3 rfl (eV r.state) _ hr.out underlying168 rfl hi ?_)
  |(refine wpList_store_row rfl 168 (.tmp 2) (.tmp 6) rfl g0 (cJ r.state) rfl rfl 168 _ k0 hi2 hz h1 ?_))
 exact bodyPost_ret (results_cell_row rfl _ _ g0 _ (cJ r.state) _ _ rfl (k0.setRow _) underlying168 rfl hi2) rfl ⟨rfl,by rw[HG.out];exact below_setRow hb (aj _) _⟩
theorem rU(h:cK w g gc L r):Calls prog 133 #[pT g 0] w λe w'=>e=.returned (.agg (aN (asks r)))/\Below w.heap.size w w':=by
 have c0:=h.cell 0 dC mW;have c2:=h.cell 2 dC fN;have hgl:=h.has.lt;have HE:Hid (asks r=[4,(r.id:Int),(r.cycle:Int),0,0,0]++List.replicate 17 0):=hI rfl;obtain⟨fr,hfr⟩:∃fr,asks r=fr:=⟨_,rfl⟩;rw[hfr]at HE⊢;clear h hfr;generalize r.id=id at*;generalize r.cycle=cy at*;go_enter func133,ntmps133;go_upto_region 1 with(fail);have k2:Has (w.alloc (.cells gK 214)) w.heap.size 214 (aN aQ):=by rw[gy];exact Has.new _ _ _
 have hb:Below w.heap.size w (w.alloc (.cells gK 214)):=(Below.refl _ _).alloc (aj _) _;have d0:=(hb.cell (p:=⟨g,0,none⟩) hgl).trans c0;have d1:=(hb.cell (p:=⟨g,2,none⟩) hgl).trans c2;clear c0 c2;generalize w.alloc (.cells gK 214)=w1 at*;generalize hG:w.heap.size=g4 at*;have HG:=hI hG;clear hG;go_still_tail 9,kR
 change wpList _ _ _ _ _ w1.drew;have hs1:(prog.info? 214).map (·.size)=some (aN fr).size:=by rw[HE.out];exact dh
 have hs2:(aN aQ).size=(aN fr).size:=by rw[HE.out];rfl
 have k3:=k2.drew;refine wpList_store_row rfl 214 (.tmp 2) (.tmp 11) rfl g4 (aN fr) rfl (by rw[HE.out];rfl) 214 _ k3 hs1 hs2 (dZ _) ?_;have hb5:=below_setRow (hb.drew) (aj _) (aN fr);have k4:=k3.setRow (aN fr);clear k3 k2 hb;generalize (w1.drew.setRow g4 (aN fr))=w2 at*;go_wp2;exact bodyPost_ret (results_cell_row rfl _ _ g4 _ (aN fr) _ _ rfl k4 underlying214 rfl hs1) rfl ⟨rfl,HG.out▸hb5⟩
theorem Vv(h:cK w g gc L r)(x y:Int):Calls prog 144 #[pT g 0,.agg #[I x,I y]] w λe w'=>e=.returned (.tuple #[])/\cK w' g gc L {r with field:=(x,y)}/\Turned (λb=>b=g) w w':=by have hb:Below w.heap.size w (w.alloc (.cells #[I x,I y] 155)):=(Below.refl _ _).alloc (aj _) _;have h1:=h.after hb;have ht:Turned (λb=>b=g) w (w.alloc (.cells #[I x,I y] 155)):=Turned.of_below hb _;have e0:=h1.cell 20 dC zg;have e1:=h1.cell 21 dC zh;have f0:=h1.free 20;have f1:=h1.free 21;have k:=(h1.has.rO 20 (I x)).rO 21 (I y);have kt:Turned (λb=>b=g) w (((w.alloc (.cells #[I x,I y] 155)).setCell ⟨g,20,none⟩ (I x)).setCell ⟨g,21,none⟩ (I y)):=(ht.setCell ⟨g,20,none⟩ _ (.inl rfl)).setCell ⟨g,21,none⟩ _ (.inl rfl);have kt1:Turned (λb=>b=g) (w.alloc (.cells #[I x,I y] 155)) (((w.alloc (.cells #[I x,I y] 155)).setCell ⟨g,20,none⟩ (I x)).setCell ⟨g,21,none⟩ (I y)):=((Turned.refl (λb=>b=g) _).setCell ⟨g,20,none⟩ _ (.inl rfl)).setCell ⟨g,21,none⟩ _ (.inl rfl);have KR:=hI (h1.to kt1 k (BH r gc x y));have KT:=hI kt;clear h h1 k kt kt1 ht hb;go_enter func144,ntmps144;go_wp2;go_end0;exact⟨rfl,KR.out,KT.out⟩
theorem F7{g:Nat}(h:fJ w g L)(h8:L.routes.length<=8):Calls prog 186 #[pT g 0] w λe w'=>
 (∃A c,e=.returned (.agg #[I L.secs,.slice A L.routes.length c,I L.delay])/\Reads w' w'.heap.size A (ints (zs L.routes)))/\Below w.heap.size w w':=by
 obtain⟨i0,hi0,hz0,hz1,hz2⟩:=info_parts rL;obtain⟨vr,vc,hcore,hrow,hcon⟩:=h;obtain⟨A,c,rfl,hc,hln,hrd⟩:=dQ hrow;have Yp:Hid (A=none->L.routes.length=0/\c=0):=hI (by
  rintro rfl;rcases hrow.2 with⟨h1,h2⟩|⟨g',cap,cur,h1,_⟩;injection h1 with _ h3 h4;exact⟨oM,h4⟩
  ·injection h1 with h1;cases h1)
 have C3:=hI hln;clear hrow hcon hln;generalize L.routes.length=n at*;have hb1:Below w.heap.size w (w.alloc (.cells #[I 0,.slice none 0 0,I 0] 51)):=(Below.refl _ _).alloc (aj _) _;have c0:=hcore.aJ 0 _ rfl;have c1:=hcore.aJ 1 _ rfl;have c2:=hcore.aJ 2 _ rfl;have hgl:=hcore.lt;go_enter func186,ntmps186;go_upto_region 2 with fail;have hb2:Below w.heap.size w ((w.alloc (.cells #[I 0,.slice none 0 0,I 0] 51)).alloc (.cells #[I L.secs,.slice A n c,I L.delay] 51)):=hb1.alloc sM _;have k1:=(Has.new w 51 #[I 0,.slice none 0 0,I 0]).alloc (.cells #[I L.secs,.slice A n c,I L.delay] 51);have k2:=Has.new' (w.alloc (.cells #[I 0,.slice none 0 0,I 0] 51)) 51 #[I L.secs,.slice A n c,I L.delay] (w.heap.size+1) sM;have hr2:=hrd.below hb2;clear hb1 hrd c0 c1 c2 hcore;generalize (w.alloc (.cells #[I 0,.slice none 0 0,I 0] 51)).alloc (.cells #[I L.secs,.slice A n c,I L.delay] 51)=w2 at*;have hl2:=k2.lt;generalize hG:w.heap.size=g0 at*;have HG:=hI hG;clear hG;have c1:=k2.aJ 1 _ rfl;have kb:Has (w2.alloc (.cells #[] 3)) (g0+1) 51 #[I L.secs,.slice A n c,I L.delay]:=k2.alloc _;go_wp2_with (at_builtin;refine il rfl (.tmp 8) (.tmp 10) 49 rfl w2.heap.size 3 i0 (.int .i64 0) 1 8 underlying49 hi0 hz0 hz1 hz2 rfl dC _ _ _ rfl (World.ownsRow_lit w2 #[] 0 (aj _) (bT _) rfl) g0 A n c (ints (zs L.routes)) rfl Yp.out ?c1 ?c2 ?c3 ?c4 ?c5 ?c6 ?_)
 case c1=>rw[dG,dw];have:=C3.out;rw[dG,dw]at this;omega
 case c2=>exact hr2.alloc oM _
 case c3=>intro u hu;simp only[ints,List.mem_map]at hu;obtain⟨x,_,rfl⟩:=hu;rfl
 case c4=>unfold maxLen;omega
 case c5=>omega
 case c6=>simp
 intro v' w3 hown3 hg3;have hbg:Below w2.heap.size w2 w3:=((Below.refl _ _).alloc (aj _) _).grown hg3 sM (λq hq=>by simp[Value.ownBlock]at hq;omega);have k13:=k1.after hbg;have k23:=k2.after hbg;obtain⟨A3,d3,rfl,_,-,hr3⟩:=dQ hown3;have hb3:Below g0 w w3:=hb2.trans (hbg.mono oM);have e1:=k23.aJ 1 _ rfl;have f1:=k23.free 1;have e0:=k23.aJ 0 _ rfl;have e2:=k23.aJ 2 _ rfl;have d0:=k13.aJ 0 _ rfl;have d1:=k13.aJ 1 _ rfl;have d2:=k13.aJ 2 _ rfl;have fd0:=k13.free 0;have fd1:=k13.free 1;have fd2:=k13.free 2;clear hg3 kb c1;go_wp2_with fail;have hne:g0≠g0+1:=oM;have o1:=ew hown3 k23 dC 1 (.slice A3 n d3);have k14:=k13.far (p:=⟨g0+1,1,none⟩) hne (.slice A3 n d3);have o2:=ew o1 k14 dC 0 (I L.secs);have k15:=k14.set 0 (I L.secs);have o3:=ew o2 k15 dC 1 (.slice A3 n d3);have k16:=k15.set 1 (.slice A3 n d3);have o4:=ew o3 k16 dC 2 (I L.delay);have k17:=k16.set 2 (I L.delay);have jw:Below g0 w _:=(((hb3.setCell (p:=⟨g0+1,1,none⟩) (Nat.le_succ _) (.slice A3 n d3)).setCell (p:=⟨g0,0,none⟩) (aj _) (I L.secs)).setCell (p:=⟨g0,1,none⟩) (aj _) (.slice A3 n d3)).setCell (p:=⟨g0,2,none⟩) (aj _) (I L.delay);exact bodyPost_ret (results_cell_row rfl _ _ g0 _ #[I L.secs,.slice A3 n d3,I L.delay] _ _ rfl k17 underlying51 rfl kR) rfl ⟨⟨_,_,rfl,(nM o4).2⟩,HG.out▸jw⟩
theorem Np(h:cK w g gc L r)(hL:L.Ok)(x y:Int):Calls prog 171 #[pT g 0,.agg #[I x,I y]] w λe w'=>e=.returned (.agg #[I (fit L (x,y)).1,I (fit L (x,y)).2])/\Below w.heap.size w w':=by
 have hs:=hL.uQ;have hn:=hL.ja;have HA:Hid (bits .and .i64 x (wrap64 (wrap64 (2^L.secs)-1))=iI x L.secs):=hI (by rw[tv _ oM,wI x _ oM]);have HB:Hid (bits .and .i64 y (wrap64 (wrap64 (2^L.routes.length)-1))=iI y L.routes.length):=hI (by rw[tv _ oM,wI y _ oM]);have HF:Hid (fit L (x,y)=(iI x L.secs,iI y L.routes.length)):=hI rfl;have hb1:Below w.heap.size w ((w.alloc (.cells #[I x,I y] 155)).alloc (.cells #[I 0,I 0] 155)):=((Below.refl _ _).alloc (aj _) _).alloc sM _;have k0:=(Has.new w 155 #[I x,I y]).alloc (.cells #[I 0,I 0] 155);have k1:=Has.new' (w.alloc (.cells #[I x,I y] 155)) 155 #[I 0,I 0] (w.heap.size+1) sM;have h1:=hI (h.after hb1);clear h;go_enter func171,ntmps171;go_upto_region 1 with fail;generalize (w.alloc (.cells #[I x,I y] 155)).alloc (.cells #[I 0,I 0] 155)=w1 at*;have hl:=k1.lt;generalize hG:w.heap.size=g0 at*;have HG:=hI hG;clear hG;have c1:=h1.out.cell 1 dC kx;have HC:Hid (Calls prog 186 #[pT gc 0] w1 λe w'=>(∃A c,e=.returned (.agg #[I L.secs,.slice A L.routes.length c,I L.delay])/\Reads w' w'.heap.size A (ints (zs L.routes)))/\Below w1.heap.size w1 w'):=hI (F7 h1.out.core hn);clear h1;generalize L.routes.length=n at*;generalize L.secs=sc at*;go_upto_region 2 with(go_at_call 186;refine HC.out.mono ?_;rintro e w2 ⟨⟨A,c,rfl,-⟩,hb2⟩)
 have k3:=Has.new w2 51 #[I sc,.slice A n c,I L.delay];have hb3:Below w2.heap.size w2 (w2.alloc (.cells #[I sc,.slice A n c,I L.delay] 51)):=(Below.refl _ _).alloc (aj _) _;have k02:=(k0.after hb2).after hb3;have k12:=(k1.after hb2).after hb3;have jw:=(hb1.trans (hb2.mono oM)).trans (hb3.mono (aS oM hb2.size));clear hb1 hb2 hb3 k0 k1 c1 HC;generalize w2.alloc (.cells #[I sc,.slice A n c,I L.delay] 51)=w3 at*;have d0:=k02.aJ 0 _ rfl;have d1:=k02.aJ 1 _ rfl;have e0:=k3.aJ 0 _ rfl;have e1:=k3.aJ 1 _ rfl;go_still_tail 16,kR
 change wpList _ _ _ _ _ w3.drew;have k13:=k12.drew;have r0:=k13.aJ 0 _ rfl;have r1:=k13.aJ 1 _ rfl;have f0:=k13.free 0;have f1:=k13.free 1;generalize hw4:w3.drew=w4 at*;have aav:Below g0 w w4:=hw4▸jw.drew;clear hw4;go_wp2;have hA:=HA.out;have hB:=HB.out;rw[hA,hB];have aaw:Below g0 w _:=(aav.setCell (p:=⟨g0+1,0,none⟩) (Nat.le_succ _) (I (iI x sc:Nat))).setCell (p:=⟨g0+1,1,none⟩) (Nat.le_succ _) (I (iI y n:Nat));exact bodyPost_ret (results_cell_row rfl _ _ (g0+1) _ #[I (iI x sc:Nat),I (iI y n:Nat)] _ _ rfl ((k13.set 0 _).set 1 _) underlying155 rfl kR) rfl ⟨by rw[HF.out],HG.out▸aaw⟩
theorem Vw:Z6.toArray.all (·.oneCell')=true:=kR
theorem R4:FY.toArray.all (·.oneCell')=true:=kR
theorem Yq:(prog.info? 169).map (·.size)=some 6:=kR
theorem Nq:(prog.info? 174).map (·.size)=some 57:=kR
theorem I2(h:cK w g gc L r)(k:Nat):Calls prog 173 #[pT g 0,I (k:Int)] w λe w'=>e=.returned (.tuple #[])/\cK w' g gc L (goes r k)/\Turned (λb=>b=g) w w':=by
 have e2:=h.cell 2 dC fN;have f2:=h.free 2;have k1:=(h.has.rO 2 (I k)).L4 (BG r gc k);have t1:Turned (λb=>b=g) w (w.setCell ⟨g,2,none⟩ (I k)):=(Turned.refl (λb=>b=g) _).setCell ⟨g,2,none⟩ _ (.inl rfl);have HH:=hI h;clear h;go_enter func173,ntmps173;go_upto_region 1 with fail;clear e2 f2;generalize w.setCell ⟨g,2,none⟩ (I k)=w1 at*;have th1:=hI (k1.tH 22 6 dC);have K2:=hI ((k1.iA Z6 22).L4 (FZ _ gc));have T2:=hI (Turned.setCells (F:=λb=>b=g) (g:=g) (.inl rfl) Z6 22 t1);have th2:=hI (K2.out.tH 28 3 dC);have K3:=hI ((K2.out.iA Z3 28).L4 (F0 _ gc));have T3:=hI (Turned.setCells (F:=λb=>b=g) (g:=g) (.inl rfl) Z3 28 T2.out);clear k1 t1;go_upto_region 2 with(refine wpList_store_mid rfl 169 (.tmp 13) (.tmp 10) rfl g 22 Z6.toArray rfl rfl th1.out Yq Vw ?_;change wpList _ _ _ _ _ (w1.setCells g 22 Z6);generalize w1.setCells g 22 Z6=w2 at*;clear th1;have e28:=K2.out.qm 28 dC (fK (k:=0) dC);have e29:=K2.out.qm 29 dC (fK (k:=1) dC);have e30:=K2.out.qm 30 dC (fK (k:=2) dC);have f28:=K2.out.free 28;have f29:=K2.out.free 29;have f30:=K2.out.free 30)
 change Code.wp _ _ _ _ (w2.setCells g 28 Z3);clear e28 e29 e30 f28 f29 f30;generalize w2.setCells g 28 Z3=w3 at*;have th3:=hI (K3.out.tH 34 57 dC);have K4:=hI ((K3.out.iA FY 34).L4 (F2 _ gc));have T4:=hI (Turned.setCells (F:=λb=>b=g) (g:=g) (.inl rfl) FY 34 T3.out);clear K2 T2 th2;have HR:=hI (rP ({r with cycle:=k,seen:=tG,some:=Ad,told:=wO}:Re) gc 0);go_wp2_with (refine wpList_store_mid rfl 174 (.tmp 20) (.tmp 18) rfl g 34 FY.toArray rfl rfl th3.out Nq R4 ?_;change wpList _ _ _ _ _ (w3.setCells g 34 FY);generalize w3.setCells g 34 FY=w4 at*;have e9:=K4.out.qm 91 dC ic;have f9:=K4.out.free 91)
 go_end0;exact⟨rfl,HH.out.to (T4.out.setCell ⟨g,91,none⟩ _ (.inl rfl)) (K4.out.rO 91 (I 0)) HR.out,T4.out.setCell ⟨g,91,none⟩ _ (.inl rfl)⟩
end
theorem qq(r:Re)(k:Nat):dI r (k+1)=if r.some.getD k false then
 (((dI r k).1.1|||((dI r k).2.1&&&(r.seen.getD k (0,0)).1),(dI r k).1.2|||((dI r k).2.2&&&(r.seen.getD k (0,0)).2)),((dI r k).2.1|||(r.seen.getD k (0,0)).1,(dI r k).2.2|||(r.seen.getD k (0,0)).2))else dI r k:=rfl
def lf(p:Nat×Nat):Prop:=p.1<4096/\p.2<4096
theorem po{r:Re}(h:∀k,lf (r.seen.getD k (0,0))):∀k,lf (dI r k).1/\lf (dI r k).2
 |0=>⟨⟨(by show 0<4096;decide),(by show 0<4096;decide)⟩,(by show 0<4096;decide),(by show 0<4096;decide)⟩
 |k+1=>by obtain⟨⟨a1,a2⟩,b1,b2⟩:=po h k;obtain⟨s1,s2⟩:=h k;rw[qq];split;exact⟨⟨Nat.or_lt_two_pow (n:=12) a1 (Nat.and_lt_two_pow _ s1),Nat.or_lt_two_pow (n:=12) a2 (Nat.and_lt_two_pow _ s2)⟩,Nat.or_lt_two_pow (n:=12) b1 s1,Nat.or_lt_two_pow (n:=12) b2 s2⟩;exact⟨⟨a1,a2⟩,b1,b2⟩
theorem ix0(x0 x1 x2:ae)(w:aa):(Instr.index 170 (.agg #[x0,x1,x2]) (I 0)).run prog w=.ok x0 w:=kR
theorem ix1(x0 x1 x2:ae)(w:aa):(Instr.index 170 (.agg #[x0,x1,x2]) (I 1)).run prog w=.ok x1 w:=kR
theorem ix2(x0 x1 x2:ae)(w:aa):(Instr.index 170 (.agg #[x0,x1,x2]) (I 2)).run prog w=.ok x2 w:=kR
def wR(w:aa)(g0:Nat)(r:Re)(k:Nat)(wr:aa):Prop:=
 Has wr (g0+1) 155 #[I (dI r k).2.1,I (dI r k).2.2]/\Has wr (g0+2) 155 #[I (dI r k).1.1,I (dI r k).1.2]/\Has wr g0 155 #[I 0,I 0]/\Below g0 w wr
section
variable {w:aa}{g gc:Nat}{L:Lay}{r:Re}
theorem OO(h:cK w g gc L r)(hs:Hid (∀k,lf (r.seen.getD k (0,0)))):Calls prog 181 #[pT g 0] w λe w'=>e=.returned (.agg #[I (fused r).1,I (fused r).2])/\Below w.heap.size w w':=by
 have hb1:Below w.heap.size w (((w.alloc (.cells #[I 0,I 0] 155)).alloc (.cells #[I 0,I 0] 155)).alloc (.cells #[I 0,I 0] 155)):=(((Below.refl _ _).alloc (aj _) _).alloc sM _).alloc ze0 _;have k0:=((Has.new w 155 #[I 0,I 0]).alloc (.cells #[I 0,I 0] 155)).alloc (.cells #[I 0,I 0] 155);have k1:=(Has.new' (w.alloc (.cells #[I 0,I 0] 155)) 155 #[I 0,I 0] (w.heap.size+1) sM).alloc (.cells #[I 0,I 0] 155);have k2:=Has.new' ((w.alloc (.cells #[I 0,I 0] 155)).alloc (.cells #[I 0,I 0] 155)) 155 #[I 0,I 0] (w.heap.size+2) sM;have HR:=hI h;have hgl:=h.has.lt;have h1:=h.after hb1;have c0:=h1.cell 28 dC (fK (k:=0) dC);have c1:=h1.cell 29 dC (fK (k:=1) dC);have c2:=h1.cell 30 dC (fK (k:=2) dC);obtain⟨s0,hs0⟩:∃s,r.some.getD 0 false=s:=⟨_,rfl⟩;obtain⟨s1,hs1⟩:∃s,r.some.getD 1 false=s:=⟨_,rfl⟩;obtain⟨s2,hs2⟩:∃s,r.some.getD 2 false=s:=⟨_,rfl⟩;rw[hs0]at c0;rw[hs1]at c1;rw[hs2]at c2;have C4:=hI hs0;have eE:=hI hs1;have HS2:=hI hs2;clear h h1 hs0 hs1 hs2;go_enter func181,ntmps181;go_upto_region 2 with fail;generalize (((w.alloc (.cells #[I 0,I 0] 155)).alloc (.cells #[I 0,I 0] 155)).alloc (.cells #[I 0,I 0] 155))=w1 at*;have hl:=k2.lt;generalize hG:w.heap.size=g0 at*;have HG:=hI hG;clear hG;go_wp2_with fail;clear c0 c1 c2;go_loopw [12] (λi wr=>∃k:Nat,k<=3/\i=I k/\Hid (wR w g0 r k wr)) (λi _=>3-(intOf i).toNat)
 case atStart=>exact⟨0,oM,rfl,hI ⟨k1,k2,k0,hb1⟩⟩
 case round=>
  clear k0 k1 k2 hb1;obtain⟨k,hk,rfl,HL⟩:=hrel;by_cases hlt:k<3
  ·obtain⟨sk,hsk,hix⟩:∃sk,r.some.getD k false=sk/\∀wx,(Instr.index 170 (.agg #[.bool s0,.bool s1,.bool s2]) (I (k:Int))).run prog wx=.ok (.bool sk) wx:=by have:k=0\/k=1\/k=2:=oM;rcases this with rfl|rfl|rfl;exact⟨s0,C4.out,λwx=>ix0 _ _ _ _⟩;exact⟨s1,eE.out,λwx=>ix1 _ _ _ _⟩;exact⟨s2,HS2.out,λwx=>ix2 _ _ _ _⟩
   have I3:=hix wr;have OP:=hI hsk;have hki:(k:Int)<3:=oM;clear hsk hix;cases sk with
   |false=>
    have HN:Hid (dI r (k+1)=dI r k):=hI (by rw[qq,OP.out];rfl);go_wp2_with fail;go_roundw
    case rel=>exact⟨k+1,oM,ze2,hI (by unfold wR;rw[HN.out];exact HL.out)⟩
    case measure=>simp[intOf];omega
   |true=>
    have HN:=hI (qq r k);rw[OP.out,if_pos rfl]at HN;obtain⟨⟨a1,a2⟩,b1,b2⟩:=po hs.out k;obtain⟨t1,t2⟩:=hs.out k;obtain⟨m1,m2,m0,hbr⟩:=HL.out;have hR:=HR.out.has.below hbr oM;have e1:=hR.qm (22+k*2) oM (lQ hlt);have e2:=hR.qm (22+k*2+1) oM (lR hlt);have I4:=hI (show∀wx,wR w g0 r (k+1) wx↔(Has wx (g0+1) 155 #[I (((dI r k).2.1|||(r.seen.getD k (0,0)).1:Nat)),I (((dI r k).2.2|||(r.seen.getD k (0,0)).2:Nat))]/\
     Has wx (g0+2) 155 #[I (((dI r k).1.1|||((dI r k).2.1&&&(r.seen.getD k (0,0)).1):Nat)),I (((dI r k).1.2|||((dI r k).2.2&&&(r.seen.getD k (0,0)).2):Nat))]/\Has wx g0 155 #[I 0,I 0]/\Below g0 w wx)from λwx=>by unfold wR;rw[HN.out])
    clear HL HN hR;generalize (dI r k).1.1=p1 at*;generalize (dI r k).1.2=p2 at*;generalize (dI r k).2.1=q1 at*;generalize (dI r k).2.2=q2 at*;generalize (r.seen.getD k (0,0)).1=x at*;generalize (r.seen.getD k (0,0)).2=y at*;have hx1:q1&&&x<4096:=Nat.and_lt_two_pow (n:=12) _ t1;have hx2:q2&&&y<4096:=Nat.and_lt_two_pow (n:=12) _ t2;have HA1:=hI (kY q1 x oM oM);have HA2:=hI (kY q2 y oM oM);have rG:=hI (jH p1 (q1&&&x) oM oM);have gq:=hI (jH p2 (q2&&&y) oM oM);have lL:=hI (jH q1 x oM oM);have FT:=hI (jH q2 y oM oM);generalize q1&&&x=z1 at*;generalize q2&&&y=z2 at*;generalize p1|||z1=r1 at*;generalize p2|||z2=r2 at*;generalize q1|||x=r3 at*;generalize q2|||y=r4 at*;have hba:Below wr.heap.size wr (wr.alloc (.cells #[I (x:Int),I (y:Int)] 155)):=(Below.refl _ _).alloc (aj _) _;have k7:=Has.new wr 155 #[I (x:Int),I (y:Int)];have n1:=m1.after hba;have n2:=m2.after hba;have n0:=m0.after hba;have hbs:=hbr.size;have abb:=m0.lt;have abc:=m1.lt;have abd:=m2.lt;have qN:=hbr.trans (hba.mono oM);go_upto_region 7 with fail;clear I3 e1 e2 m1 m2 m0 hbr hba;generalize wr.alloc (.cells #[I (x:Int),I (y:Int)] 155)=wa at*;generalize wr.heap.size=g7 at*;have c7:=k7.aJ 0 _ rfl;have d7:=k7.aJ 1 _ rfl;have c2:=n2.aJ 0 _ rfl;have d2:=n2.aJ 1 _ rfl;have c1:=n1.aJ 0 _ rfl;have d1:=n1.aJ 1 _ rfl;have f2:=n2.free 0;have f2':=n2.free 1;have f1:=n1.free 0;have f1':=n1.free 1;have v1:=HA1.out;have v2:=HA2.out;have v3:=rG.out;have v4:=gq.out;have v5:=lL.out;have v6:=FT.out;have hne:g7≠g0+1:=oM;have hne2:g7≠g0+2:=oM;go_wp2_with fail;have N2:=(n2.set 0 (I (r1:Int))).set 1 (I (r2:Int));have N1:=((n1.far (p:=⟨g0+2,0,none⟩) (show g0+1≠g0+2 by omega) (I (r1:Int))).far (p:=⟨g0+2,1,none⟩) (show g0+1≠g0+2 by omega) (I (r2:Int)));have N0:=((n0.far (p:=⟨g0+2,0,none⟩) (show g0≠g0+2 by omega) (I (r1:Int))).far (p:=⟨g0+2,1,none⟩) (show g0≠g0+2 by omega) (I (r2:Int)));have N1':=(N1.set 0 (I (r3:Int))).set 1 (I (r4:Int));have N2':=((N2.far (p:=⟨g0+1,0,none⟩) (show g0+2≠g0+1 by omega) (I (r3:Int))).far (p:=⟨g0+1,1,none⟩) (show g0+2≠g0+1 by omega) (I (r4:Int)));have N0':=((N0.far (p:=⟨g0+1,0,none⟩) (show g0≠g0+1 by omega) (I (r3:Int))).far (p:=⟨g0+1,1,none⟩) (show g0≠g0+1 by omega) (I (r4:Int)));have NB:Below g0 w _:=(((qN.setCell (p:=⟨g0+2,0,none⟩) (Nat.le_add_right _ _) (I (r1:Int))).setCell (p:=⟨g0+2,1,none⟩) (Nat.le_add_right _ _) (I (r2:Int))).setCell (p:=⟨g0+1,0,none⟩) (Nat.le_add_right _ _) (I (r3:Int))).setCell (p:=⟨g0+1,1,none⟩) (Nat.le_add_right _ _) (I (r4:Int));go_roundw
    case rel=>exact⟨k+1,oM,ze2,hI ((I4.out _).2 ⟨N1',N2',N0',NB⟩)⟩
    case measure=>simp[intOf];omega
  ·(have hk3:k=3:=by omega);subst hk3;obtain⟨m1,m2,m0,hbr⟩:=HL.out;have e0:=m2.aJ 0 _ rfl;have e1:=m2.aJ 1 _ rfl;have f0:=m0.free 0;have f1:=m0.free 1;have d0:=m0.aJ 0 _ rfl;have d1:=m0.aJ 1 _ rfl;have HFU:Hid (fused r=(dI r 3).1):=hI rfl;go_wp2_with fail;have jw:Below g0 w _:=(hbr.setCell (p:=⟨g0,0,none⟩) (aj _) (I (dI r 3).1.1)).setCell (p:=⟨g0,1,none⟩) (aj _) (I (dI r 3).1.2);exact bodyPost_ret (results_cell_row rfl _ _ g0 _ #[I (dI r 3).1.1,I (dI r 3).1.2] _ _ rfl ((m0.set 0 _).set 1 _) underlying155 rfl kR) rfl ⟨by rw[HFU.out],HG.out▸jw⟩
end
end Go.Proofs.YtdhekhlmdefcnaaGreatDoor
namespace Go.Proofs.YtdhekhlmdefcnaaGreatDoor
open Go.RowKit
structure Re.Fits(r:Re)(T:Nat):Prop where
 id:r.id<3
 mD:r.seen.length=3
 qs:r.some.length=3
 lS:r.came.length=3
 mF:r.told.length=3
 seen:∀k,lf (r.seen.getD k (0,0))
 came:∀k,r.came.getD k 0<=T
 dr:r.dr<=T
 cycle:r.cycle<=2000000
 ahead:r.ahead<=2000000
 state:r.state.Fits (2000+T)
 told:∀k,(r.told.getD k iB).2.1.Fits 2000/\(r.told.getD k iB).1<=2000000
 field:(-9223372036854775808<=r.field.1/\r.field.1<9223372036854775808)/\-9223372036854775808<=r.field.2/\r.field.2<9223372036854775808
def ek(r:Re)(t k:Nat):Re:={r with dr:=t,some:=(List.range 3).map λi=>if i<k then r.some.getD i false&&decide (t<r.came.getD i 0+3)else r.some.getD i false}
theorem F8{r:Re}{t:Nat}(h:r.some.length=3):ek r t 0={r with dr:=t}:=by
 unfold ek;have:(List.range 3).map (λi=>if i<0 then r.some.getD i false&&decide (t<r.came.getD i 0+3)else r.some.getD i false)=r.some:=by apply List.ext_getElem?;intro i;by_cases hi:i<3;rw[gR,List.getElem?_range hi];simp[bg (show i<r.some.length by omega)];rw[bV ze0,bV oM]
 rw[this]
theorem rV{r:Re}{t k i:Nat}(hi:i<3):(ek r t k).some.getD i false=if i<k then r.some.getD i false&&decide (t<r.came.getD i 0+3)else r.some.getD i false:=by unfold ek;rw[aD,gR,List.getElem?_range hi];rfl
theorem F9{r:Re}{t k:Nat}(hk:k<3):{ek r t k with some:=(ek r t k).some.set k (r.some.getD k false&&decide (t<r.came.getD k 0+3))}=ek r t (k+1):=by
 have e:(ek r t k).some.set k (r.some.getD k false&&decide (t<r.came.getD k 0+3))=(ek r t (k+1)).some:=by apply List.ext_getElem?;intro i;by_cases hi:i<3;(have h1:(ek r t k).some.length=3:=zfb);(have h2:(ek r t (k+1)).some.length=3:=zfb);have a:=rV (r:=r) (t:=t) (k:=k+1) hi;have b:=rV (r:=r) (t:=t) (k:=k) hi;rw[aD,bg oM]at a b;rw[List.getElem?_set,bg oM,bg oM];simp only[br]at a b;by_cases e:k=i;subst e;rw[if_pos rfl,if_pos oM,a,if_pos oM];rw[if_neg e,b,a];by_cases h3:i<k;rw[if_pos h3,if_pos oM];rw[if_neg h3,if_neg oM];rw[bV (by simp[ek];omega),bV (by simp[ek];omega)]
 rw[e];rfl
theorem Ga(L:Lay)(r:Re):gi L r={ek r (r.dr+1) 3 with seen:=r.seen.set r.id (fit L r.field),some:=(ek r (r.dr+1) 3).some.set r.id true,came:=r.came.set r.id (r.dr+1)}:=by unfold gi ek;congr 2
def iL(l:List Bool)(k:Nat):Nat:=pF (l.take k)
theorem C5{l:List Bool}{k:Nat}{b:Bool}(h:l[k]?=some b):iL l (k+1)=iL l k+if b then 1 else 0:=by obtain⟨hk,hx⟩:=aX.1 h;unfold iL pF;rw[List.take_succ_eq_append_getElem hk,hx,List.filter_append,bm];cases b<;>simp
theorem I5(l:List Bool)(k:Nat):iL l k<=k:=by unfold iL pF;exact aS (List.length_filter_le _ _) (List.length_take_le _ _)
theorem Gb{l:List Bool}(h:l.length=3):iL l 3=pF l:=by unfold iL;rw[bZ oM]
end Go.Proofs.YtdhekhlmdefcnaaGreatDoor
namespace Go.Proofs.YtdhekhlmdefcnaaGreatDoor
def Each(p:Nat->Oper->Prop):Nat->List Oper->Prop
 |_,[]=>True
 |i,o::l=>p i o/\Each p (i+1) l
theorem Each.get{p:Nat->Oper->Prop}:∀{l:List Oper}{k:Nat},Each p k l->∀j o,l[j]?=some o->p (k+j) o
 |[],_,_,j,o,h=>by simp at h
 |a::l,k,hE,0,o,h=>by simp only[bf,bq]at h;exact h▸hE.1
 |a::l,k,hE,j+1,o,h=>by rw[aY]at h;have:=hE.2.get j o h;rwa[Nat.add_assoc,Nat.add_comm 1 j]at this
def Facts(a:Act):List (Nat×ae)->Prop
 |[]=>True
 |p::l=>a.tmps[p.1]?.getD undef=p.2/\Facts a l
theorem Ei{a:Act}:∀{l:List (Nat×ae)},(∀p∈l,a.tmps[p.1]?.getD undef=p.2)->Facts a l
 |[],_=>trivial
 |p::l,h=>⟨h p sM,Ei λq hq=>h q (by simp[hq])⟩
theorem Facts.get{a:Act}:∀{l:List (Nat×ae)},Facts a l->∀p∈l,a.tmps[p.1]?.getD undef=p.2
 |[],_,p,h=>by simp at h
 |q::l,hF,p,h=>by rcases List.mem_cons.1 h with rfl|h;exact hF.1;exact hF.2.get p h
theorem gX{a:Act}{s:Nat}{v:ae}(h:a.tmps[s]?.getD undef=v):a.tmps.getD s undef=v:=by rw[aU];exact h
def kn(ops:Array Oper)(V:List ae)(S:List Nat)(fr:List (Nat×ae))(o:Oper):List (Nat×ae):=
 (fr.filter λp=>!S.contains p.1)++o.after.toList.filterMap λe=>match e.ground with
  |.data=>(ops[e.on]?).bind λq=>q.dst.map λd=>(d,V.getD e.on undef)
  |_=>none
section
variable {P:aF}{ops:Array Oper}{Q:Exit->Act->aa->Prop}{V:List ae}{S:List Nat}{b0:Act}{i:Nat}{o:Oper}{stores:List Nat}{Ms:List (aa->Prop)}{fr:List (Nat×ae)}
theorem Here.facts{li:Array Bool}{a:Act}(H:Here ops (λi=>V.getD i undef) S b0 li a)(av:∀e∈o.after,Region.binds .any e=true->li.getD e.on false=true)(hfr:Facts b0 fr):Facts a (kn ops V S fr o):=by refine Ei λp hp=>?_;unfold kn at hp;rcases List.mem_append.1 hp with h|h;obtain⟨h1,h2⟩:=List.mem_filter.1 h;have h3:=hfr.get p h1;rw[<-aU]at h3⊢;rw[H.cA.slot (by simpa using h2)];exact h3;obtain⟨e,he,h1⟩:=List.mem_filterMap.1 h;split at h1;rename_i hg;obtain⟨q,hq,h2⟩:=Option.bind_eq_some_iff.1 h1;obtain⟨d,hd,rfl⟩:=bQ.1 h2;exact bP (H.known e.on q hq (av e (gQ.1 he) (by unfold Region.binds;rw[hg])) d hd);cases h1
abbrev yb(P:aF)(ops:Array Oper)(Q:Exit->Act->aa->Prop)(V:List ae)(S stores:List Nat)(Ms:List (aa->Prop))(b0:Act):=Kind P ops Q (λi=>V.getD i undef) S stores (λj=>Ms.getD j λ_=>True) b0
theorem kP(hns:i∉stores)(hg:o.guard=none)(hfr:Facts b0 fr)(h:∀(ac:Act)(wx:aa),Facts ac (kn ops V S fr o)->∀K:Act->aa->Prop,K (ac.put o.dst (V.getD i undef)) wx->Oper.wp P o ac wx K Q):yb P ops Q V S stores Ms b0 i o:=
 .inl ⟨hns,λ_=>aM hg λ_ ac wx H _ av hM K hk=>h ac wx (H.facts av hfr) K (hk wx hM)⟩
theorem kE(hns:i∉stores)(he:pJ ops stores i=true)(hg:o.guard=none)(hfr:Facts b0 fr)(h:∀(ac:Act)(wx:aa),Facts ac (kn ops V S fr o)->Ms.getD 0 (λ_=>True) wx->∀K:Act->aa->Prop,(∀w',Ms.getD 0 (λ_=>True) w'->K (ac.put o.dst (V.getD i undef)) w')->Oper.wp P o ac wx K Q):yb P ops Q V S stores Ms b0 i o:=
 .inr (.inl ⟨hns,he,aM hg λ_ ac wx H _ av hM K hk=>h ac wx (H.facts av hfr) hM K hk⟩)
theorem Vx{j d:Nat}{oj:Oper}{want:Bool}(hns:i∉stores)(hg:o.guard=some (j,want))(hj:ops[j]?=some oj)(hd:oj.dst=some d)(hV:V.getD j undef=.bool want)(he2:(⟨j,.guard⟩:Edge)∈o.after)(hfr:Facts b0 fr)
 (h:∀(ac:Act)(wx:aa),Facts ac (kn ops V S fr o)->∀K:Act->aa->Prop,K (ac.put o.dst (V.getD i undef)) wx->Oper.wp P o ac wx K Q):yb P ops Q V S stores Ms b0 i o:=
 .inl ⟨hns,λ_=>jd hg hj hd hV he2 λ_ ac wx H _ av hM K hk=>h ac wx (H.facts av hfr) K (hk wx hM)⟩
theorem Vy{j d:Nat}{oj:Oper}{want:Bool}(hns:i∉stores)(he:pJ ops stores i=true)(hg:o.guard=some (j,want))(hj:ops[j]?=some oj)(hd:oj.dst=some d)(hV:V.getD j undef=.bool want)(he2:(⟨j,.guard⟩:Edge)∈o.after)(hfr:Facts b0 fr)
 (h:∀(ac:Act)(wx:aa),Facts ac (kn ops V S fr o)->Ms.getD 0 (λ_=>True) wx->∀K:Act->aa->Prop,(∀w',Ms.getD 0 (λ_=>True) w'->K (ac.put o.dst (V.getD i undef)) w')->Oper.wp P o ac wx K Q):yb P ops Q V S stores Ms b0 i o:=
 .inr (.inl ⟨hns,he,jd hg hj hd hV he2 λ_ ac wx H _ av hM K hk=>h ac wx (H.facts av hfr) hM K hk⟩)
theorem kN{j d:Nat}{oj:Oper}{want:Bool}(hns:i∉stores)(hg:o.guard=some (j,want))(hj:ops[j]?=some oj)(hd:oj.dst=some d)(hV:V.getD j undef=.bool (!want))(he:(⟨j,.guard⟩:Edge)∈o.after)(RM:V.getD i undef=undef):yb P ops Q V S stores Ms b0 i o:=
 .inl ⟨hns,λ_=>Vr hg hj hd hV he RM λ_ h=>h⟩
def R5(ops:Array Oper)(stores S:List Nat)(n:Nat):Bool:=
 rR ops stores&&(jJ ops S n&&(List.range ops.size).all (λi=>((ops[i]?).map λo=>o.after.all λe=>!Region.binds .any e||decide (e.on<i)).getD true))
theorem eo{id:Nat}{w:aa}{a0:Act}(hm:P.follows .mixedOrders=true)(fr:List (Nat×ae))(hF:Facts a0 fr)(n:Nat)(hn:a0.tmps.size=n)(V:List ae)(stores:List Nat)(Ms:List (aa->Prop))(S:List Nat)(hc:R5 ops stores S n=true)
 (h0:Ms.getD 0 (λ_=>True) {w with drawn:=w.drawn+1})
 (hstep:∀b0,Facts b0 fr->Each (yb P ops Q V S stores Ms b0) 0 ops.toList)
 (hend:∀a w',gM S a0 a->(∀i o,ops[i]?=some o->∀d,o.dst=some d->a.tmps.getD d undef=V.getD i undef)->Ms.getD stores.length (λ_=>True) w'->Q .normal a w'):(Code.region id ops true).wp P Q a0 w:=by
 unfold R5 at hc;simp only[aV]at hc;refine IZ hm (λb=>Facts b fr) hF n hn (λi=>V.getD i undef) stores hc.1 (λj=>Ms.getD j λ_=>True) S hc.2.1 hc.2.2 h0 (λb0 hb i o ho=>?_) hend;have:=(hstep b0 hb).get i o (by simpa using ho);rw[cG]at this;exact this
end
open Go.RowKit
section
variable {P:aF}{ops:Array Oper}{Q:Exit->Act->aa->Prop}
def Vz(B:Nat)(stores:List Nat)(ia:Nat)(T:aw)(z:bw)(M0:aa->Prop)(Ms:Nat->Nat->aa->Prop)(γ:Nat)(li:Array Bool)(w:aa):Prop:=
 ∃j,j<=stores.length/\(∀t s,stores[t]?=some s->li.getD s false=decide (t<j))/\((j=0/\M0 w/\(li.getD ia false=true->Has w γ T z/\B<=γ))\/(0<j/\Ms j γ w))
def Yr(B:Nat)(P:aF)(ops:Array Oper)(Q:Exit->Act->aa->Prop)(V:Nat->Nat->ae)(S:List Nat)(stores:List Nat)(ia:Nat)(T:aw)(z:bw)(M0:aa->Prop)(Ms:Nat->Nat->aa->Prop)(b0:Act)(i:Nat)(o:Oper):Prop:=
 (i∉stores/\i≠ia/\∀(γ:Nat)(M:aa->Prop),StepA P ops Q (V γ) S b0 i o M M)\/
 (i∉stores/\i≠ia/\pJ ops stores i=true/\∀γ w0,StepA P ops Q (V γ) S b0 i o (λw=>M0 w/\w0=w) (λw'=>M0 w'/\Below w0.heap.size w0 w'))\/
 (i∉stores/\i=ia/\o.guard=none/\(∀(γ:Nat),V γ ia=pT γ 0)/\(∀w,M0 w->M0 (w.alloc (.cells z T))/\B<=w.heap.size)/\∀(a:Act)(w:aa)(K:Act->aa->Prop),K (a.put o.dst (pT w.heap.size 0)) (w.alloc (.cells z T))->Oper.wp P o a w K Q)\/
 (∃t,stores[t]?=some i/\i≠ia/\∀γ,StepA P ops Q (V γ) S b0 i o (λw=>if t=0 then M0 w/\Has w γ T z/\B<=γ else Ms t γ w) (Ms (t+1) γ))
theorem uA{id:Nat}(B:Nat){w:aa}{a0:Act}(hm:P.follows .mixedOrders=true)(F:Act->Prop)(hF:F a0)(n:Nat)(hn:a0.tmps.size=n)(V:Nat->Nat->ae)(ia:Nat)(T:aw)(z:bw)(stores:List Nat)(hc:rR ops stores=true)(hne:stores≠[])
 (hia:pJ ops stores ia=true)(hV:∀γ γ' j,j≠ia->V γ j=V γ' j)(M0:aa->Prop)(Ms:Nat->Nat->aa->Prop)(S:List Nat)
 (hd:jJ ops S n=true)(hb:(List.range ops.size).all (λi=>((ops[i]?).map λo=>o.after.all λe=>!Region.binds .any e||decide (e.on<i)).getD true)=true)
 (h0:M0 {w with drawn:=w.drawn+1})
 (hstep:∀b0,F b0->∀i o,ops[i]?=some o->Yr B P ops Q V S stores ia T z M0 Ms b0 i o)
 (hend:∀γ a w',gM S a0 a->(∀i o,ops[i]?=some o->∀d,o.dst=some d->a.tmps.getD d undef=V γ i)->Ms stores.length γ w'->Q .normal a w'):(Code.region id ops true).wp P Q a0 w:=by
 unfold rR at hc;simp only[aV,decide_eq_true_eq]at hc;obtain⟨⟨hch,hnd⟩,hsz⟩:=hc;have fP:∀j,(Array.replicate ops.size false).getD j false=false:=λj=>by rw[aU,Array.getElem?_replicate];split<;>rfl
 have hd':jJ ops S a0.tmps.size=true:=by rw[hn];exact hd
 refine oH hm (λli a w'=>∃γ,Here ops (V γ) S a0 li a/\Vz B stores ia T z M0 Ms γ li w') ⟨0,⟨sM,gM.refl _ _,(λj o _ hl=>absurd hl ze8),(λj o _ hl=>absurd hl ze8),λ_ _=>rfl⟩,0,bT _,(λt s _=>by rw[fP];simp),.inl ⟨rfl,h0,λh=>by rw[fP]at h;cases h⟩⟩ ?_ ?_
 ·intro i li a w' hi hJ;obtain⟨γ,hH,j,hj,hst,hM⟩:=hJ;obtain⟨uT,o,ho,av⟩:=mem_ready.1 hi;have hlt:=(az.1 ho).1;have hs:=hH.size;have hnot:li.getD i false=false:=by rw[aU]at uT⊢;rw[aZ oM]at uT⊢;exact uT
  have hset:(li.setIfInBounds i true).getD i false=true:=by simp[hs,hlt]
  have next:∀γ' v,v=V γ' i->qo ops (V γ') li a->Here ops (V γ') S a0 (li.setIfInBounds i true) (a.put o.dst v):=by
   rintro γ' v rfl hkn;refine⟨by simpa using hs,hH.cA.puts hd' ho _,hkn.put hd' hH.cA.size ho,?_,?_⟩;intro q oq hq hl e he hbe;by_cases e1:i=q;subst e1;rw[ho]at hq;injection hq with hq;subst hq;have h1:=av e he hbe;by_cases e2:i=e.on;rw[<-e2,hnot]at h1;cases h1;exact ze6;rw[getD_set_ne false e1]at hl;have h1:=hH.closed q oq hq hl e he hbe;by_cases e2:i=e.on;rw[<-e2];exact hset;exact ze6
   ·intro d rS;have h1:o.dst≠some d:=λe=>by have:=rS i o ho e;rw[hset]at this;cases this
    have h2:(a.put o.dst (V γ' i)).tmps[d]?=a.tmps[d]?:=by
     cases hod:o.dst with
     |none=>rfl
     |some d0=>have hne:d0≠d:=λe=>h1 (by rw[hod,e]);show(a.tmps.setIfInBounds d0 (V γ' i))[d]?=_;rw[bh hne]
    rw[h2];refine hH.F3 d (λq oq hq F4=>?_);have:=rS q oq hq F4;by_cases e1:i=q;subst e1;exact hnot;rw[getD_set_ne false e1]at this;exact this
  have early:pJ ops stores i=true->j=0:=λhe=>by
   rcases Nat.eq_zero_or_pos j with h|h;exact h
   ·cases stores with
    |nil=>simp at hj;exact hj
    |cons s ss=>exact ze5
  refine wpOp_step ho (λK' hK'=>?_);rcases hstep a0 hF i o ho with⟨hns,hni,hp⟩|⟨hns,hni,he,hp⟩|⟨hns,rfl,hg,RM,hMa,hp⟩|⟨t,ht,hni,hp⟩
  ·refine hp γ (λw=>(j=0/\M0 w/\(li.getD ia false=true->Has w γ T z/\B<=γ))\/(0<j/\Ms j γ w)) li a w' hH hnot av hM K' (λw'' hM'=>hK' _ _ ⟨γ,next γ _ rfl hH.known,j,hj,λt s hts=>?_,?_⟩);exact ze1;rw[getD_set_ne false hni];exact hM'
  ·have hj0:=early he;subst hj0;(have hM0:M0 w'/\(li.getD ia false=true->Has w' γ T z/\B<=γ):=by rcases hM with⟨_,h1,h2⟩|⟨h,_⟩;exact⟨h1,h2⟩;omega);refine hp γ w' li a w' hH hnot av ⟨hM0.1,rfl⟩ K' (λw'' hM'=>hK' _ _ ⟨γ,next γ _ rfl hH.known,0,hj,λt s hts=>?_,.inl ⟨rfl,hM'.1,λh=>?_⟩⟩);exact ze1;rw[getD_set_ne false hni]at h;exact⟨(hM0.2 h).1.after hM'.2,(hM0.2 h).2⟩
  ·have hj0:=early hia;subst hj0;(have hM0:M0 w':=by rcases hM with⟨_,h1,_⟩|⟨h,_⟩;exact h1;omega);rw[if_pos (by simp[Region.wanted,hg])];refine hp a w' K' (hK' _ _ ⟨w'.heap.size,next w'.heap.size _ (RM _).symm ?_,0,hj,λt s hts=>?_,.inl ⟨rfl,(hMa _ hM0).1,λ_=>⟨Has.new _ _ _,(hMa _ hM0).2⟩⟩⟩);intro q oq hq hl d rS;rw[hV w'.heap.size γ q (λe=>by rw[e,hnot]at hl;cases hl)];exact hH.known q oq hq hl d rS;exact ze1
  ·have htl:t<stores.length:=(aX.1 ht).1;have hjt:j=t:=by have h1:=hst t i ht;rw[hnot]at h1;(have h2:¬t<j:=by simpa using h1.symm);rcases Nat.eq_zero_or_pos t with h|h;omega;have h3:=bj.1 hch t (bX.2 htl);simp only[cw,decide_eq_true_eq]at h3;(have h4:behind ops i (stores.getD (t-1) 0)=true:=by rcases h3 with h3|h3;omega;rw[aD,ht]at h3;exact h3);exact zeY
   subst hjt;have hMt:if j=0 then M0 w'/\Has w' γ T z/\B<=γ else Ms j γ w':=by
    split
    ·rename_i h;rcases hM with⟨_,h1,h2⟩|⟨h',_⟩
     ·refine⟨h1,h2 ?_⟩;cases hss:stores with
      |nil=>exact absurd hss hne
      |cons s ss=>(have hi0:s=i:=by rw[hss,h]at ht;simpa using ht);rw[hss]at hia;have Ej:behind ops s ia=true:=hia;rw[hi0]at Ej;unfold behind at Ej;rw[ho]at Ej;simp only[cH,br]at Ej;rw[Array.any_eq_true]at Ej;obtain⟨k,hk,BK⟩:=Ej;simp only[aV,decide_eq_true_eq]at BK;have h5:=av o.after[k] (Array.getElem_mem hk) BK.2;rw[BK.1]at h5;exact h5
     ·omega
    ·rename_i h;rcases hM with⟨h',_⟩|⟨_,h1⟩;exact absurd h' h;exact h1
   refine hp γ li a w' hH hnot av hMt K' (λw'' hM'=>hK' _ _ ⟨γ,next γ _ rfl hH.known,j+1,oM,λt s hts=>?_,.inr ⟨oM,hM'⟩⟩);by_cases e:s=i;exact ze4;rw[getD_set_ne false (λe'=>e e'.symm),hst t s hts,decide_eq_decide];(have:t≠j:=λe'=>by exact zfc);omega
 ·intro li a w' hJ hr;obtain⟨γ,hH,j,hj,hst,hM⟩:=hJ;have hall:=oI hr hH.size hb;refine hend γ a w' hH.cA (λi o ho d hd=>hH.known i o ho (hall i (az.1 ho).1) d hd) ?_;have hl:0<stores.length:=List.length_pos_iff.2 hne;have:j=stores.length:=by exact zeZ
  subst this;rcases hM with⟨h,_⟩|⟨_,h⟩;omega;exact h
end
end Go.Proofs.YtdhekhlmdefcnaaGreatDoor
