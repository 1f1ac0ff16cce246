/- Part 8e of the proof. -/
import Derived.Test.YtdhekhlmdefcnaaGreatDoorPart8c
import Derived.Test.YtdhekhlmdefcnaaGreatDoorPart8d
set_option maxHeartbeats 16000000
set_option maxRecDepth 1000000
namespace Go.Proofs.YtdhekhlmdefcnaaGreatDoor
theorem Pd{n:Int}(h1:1<=n)(h2:n<=20):(Vo.new n).Wf:=
 ⟨by show(0:Nat)<8;decide,rfl,by show([]:List Cm).length<=1000;simp,λ_=>⟨by show([]:List Cm).length<1000;simp,h1⟩,h2,by show 0<=n;omega,⟨h1,h2⟩⟩
theorem Mp{v:Vo}(h:v.Wf):(eM v).Wf:=by
 unfold eM;cases hl:v.bO with
 |true=>simpa using h
 |false=>obtain⟨h1,h2⟩:=h.more hl;have ht:=h.time;simp only[dA,if_false];split;exact⟨h.out,h.bF,h.many,λe=>(by cases e),by show v.time-1<=20;omega,by show 0<=v.time-1;omega,h.window⟩;exact⟨h.out,h.bF,h.many,λ_=>⟨h1,by show 1<=v.time-1;omega⟩,by show v.time-1<=20;omega,by show 0<=v.time-1;omega,h.window⟩
theorem Jz{v:Vo}(h:v.Wf):({v with bO:=true}:Vo).Wf:=⟨h.out,h.bF,h.many,λe=>(by cases e),h.time,h.low,h.window⟩
theorem Dg{v:Vo}(h:v.Wf)(hl:v.bO=false)(c:Cm):(cT v c).Wf:=by obtain⟨h1,_⟩:=h.more hl;have hw:=h.window;unfold cT;refine⟨yi v.bF c v.out h.out 3 dC,rfl,?_,?_,hw.2,by have:=hw.1;show 0<=v.window;omega,hw⟩;show(v.trace++[c]).length<=1000;simp;omega;intro e;have e':(v.bO||iQ (cE v.bF c v.out 3)||decide (1000<=v.trace.length+1))=false:=e;rw[Bool.or_eq_false_iff,Bool.or_eq_false_iff,decide_eq_false_iff_not]at e';refine⟨?_,hw.1⟩;show(v.trace++[c]).length<1000;simp;omega
theorem Cb{v:Vo}(h:v.Wf)(f:List Int):(dR v f).1.Wf:=by
 unfold dR;split;exact h;split;exact h;split;exact h;split;exact h
 ·rename_i hn;have hl:v.bO=false:=by
   cases e:v.bO with
   |false=>rfl
   |true=>exact absurd (.inr (.inl e)) hn
  have hv:=En h (f.getD 1 0).toNat (mr f);dsimp only;split;exact Dg hv hl _;exact hv
section
variable {L:Lay}{ℓ:Nat}{σ:List Gg}{t:List Cm}
end
section
variable {L:Lay}{ℓ:Nat}{σ:List Gg}{s:Sys}
end
theorem YO{s s':Sys}(h:s'.rs=s.rs)(k:Nat):re s' k=re s k:=by unfold re;rw[h]
def eu(x:Int):Prop:= -9223372036854775808<=x/\x<=9223372036854775807
def ly(c:Cm):Prop:=eu c.1/\eu c.2.1/\eu c.2.2
structure bL(T:Nat)(s:Sys):Prop where
 n3:s.rs.length=3
 fits:∀k,k<3->(re s k).Fits T
 vo:s.v.Wf
 trace:∀c∈s.v.trace,ly c
 bF:∀y∈s.v.bF,ly y.1
 way:s.way.length<=120
 lost:s.lost<=T
 mJ:∀g∈s.way,g.src<=3/\g.dst<=3/\g.bytes.length<=80
theorem eu.nat{n:Nat}(h:n<=9223372036854775807):eu (n:Int):=⟨oM,oM⟩
theorem qy:ly Cm.zero:=⟨⟨dC,dC⟩,⟨dC,dC⟩,dC,dC⟩
theorem Ae{k fr cy:Int}{c:Cm}(hk:eu k)(hf:eu fr)(hy:eu cy)(hc:ly c):Wf (cA k fr cy c):=by
 refine⟨rfl,λx hx=>?_⟩;obtain⟨h1,h2,h3⟩:=hc;unfold cA at hx;rcases List.mem_append.1 hx with hx|hx;simp at hx;rcases hx with rfl|rfl|rfl|rfl|rfl|rfl<;>assumption
 ·rw[List.eq_of_mem_replicate hx];exact⟨dC,dC⟩
theorem pP:Wf aQ:=⟨rfl,dC⟩
theorem SZ{fr cy:Int}{s:St}{M:Nat}(hf:eu fr)(hy:eu cy)(hs:s.Fits M)(hM:M<=1000000000000):Wf (wN fr cy s):=by
 have h8:=hs.lM;have h9:=hs.lN;refine⟨by unfold wN;simp[zs,h8,h9],λx hx=>?_⟩;unfold wN at hx;rcases List.mem_append.1 hx with hx|hx;simp at hx;rcases hx with rfl|rfl|rfl|rfl;exact⟨dC,dC⟩;exact hf;exact hy;exact⟨dC,dC⟩
 ·rcases List.mem_cons.1 hx with rfl|hx;have:=hs.set;exact⟨oM,oM⟩
  ·rcases List.mem_append.1 hx with hx|hx;obtain⟨n,hn,rfl⟩:=List.mem_map.1 hx;have:=hs.used n hn;constructor<;>omega
   ·obtain⟨n,hn,rfl⟩:=List.mem_map.1 hx;have:=hs.idle n hn;constructor<;>omega
theorem Cc{f:List Int}(h:Wf f)(i:Nat):eu (f.getD i 0):=by
 rw[aD];cases e:f[i]? with
 |none=>exact⟨dC,dC⟩
 |some x=>exact h.2 x (aR e)
theorem VS{f:List Int}(h:fC f=true):Wf f:=by have h2:=h;unfold fC at h2;simp only[aV,decide_eq_true_eq]at h2;obtain⟨⟨hh,ha⟩,he⟩:=h2;refine⟨by rw[he];exact kX _ _,λx hx=>?_⟩;rw[he]at hx;have:=Nt h _ x hx;omega
theorem xd{r:Re}{T:Nat}(h:r.Fits T):Wf (asks r):=by have h1:=h.id;have h2:=h.cycle;exact Ae ⟨dC,dC⟩ (eu.nat oM) (eu.nat oM) qy
theorem S4{L:Lay}(hL:L.Ok){r:Re}{T:Nat}(h:r.Fits T):Wf (ea L r).2.1/\Wf (ea L r).2.2.1:=by
 have hq:=uZ hL h;rw[Js]at hq;have h1:=hq.id;have h2:=hq.cycle;have h3:=hq.seen (gi L r).id;have h4:=(po hq.seen 3).1;have hs:Wf (cA 1 (gi L r).id (gi L r).cycle ((((gi L r).seen.getD (gi L r).id (0,0)).1:Nat),(((gi L r).seen.getD (gi L r).id (0,0)).2:Nat),0)):=
  Ae ⟨dC,dC⟩ (eu.nat oM) (eu.nat oM) ⟨eu.nat (aS (bA h3.1) dC),eu.nat (aS (bA h3.2) dC),(show eu (0:Int)from⟨dC,dC⟩)⟩
 unfold ea;dsimp only;split;exact⟨hs,xd hq⟩;split;exact⟨hs,pP⟩;refine⟨hs,Ae ⟨dC,dC⟩ (eu.nat oM) (eu.nat oM) ⟨eu.nat ?_,eu.nat ?_,eu.nat ?_⟩⟩;exact aS (bA h4.1) dC;exact aS (bA h4.2) dC;exact aS (bA (abI _ _ _ _ _ hL.ja)) dC
theorem S5{L:Lay}(hL:L.Ok){r:Re}{T:Nat}(hT:T<=10000000000)(h:r.Fits T){f:List Int}(hm:fC f=true):∀y∈(cZ L r f).2,Wf y:=by have ht:=aby hL h hm;unfold cZ at ht⊢;dsimp only at ht⊢;intro y hy;by_cases c1:f.getD 0 0=1/\other r f=true/\f.getD 2 0=(r.cycle:Int);rw[if_pos c1]at hy;cases hy;rw[if_neg c1]at hy ht;by_cases c2:f.getD 0 0=3/\f.getD 1 0=3/\(r.cycle:Int)<=f.getD 2 0;rw[if_pos c2]at hy ht;generalize (if f.getD 2 0=(r.cycle:Int)then goes {r with ahead:=max r.ahead (f.getD 2 0).toNat,state:=(step L (f.getD 3 0) (f.getD 4 0) r.state).1} (r.cycle+1)else{r with ahead:=max r.ahead (f.getD 2 0).toNat})=r2 at hy ht;change y∈(if r2.cycle<=r2.ahead then[asks r2]else[])at hy;split at hy;rw[bW.1 hy];exact xd ht;cases hy;rw[if_neg c2]at hy ht;by_cases c3:f.getD 0 0=4/\other r f=true;rw[if_pos c3]at hy;rw[bW.1 hy];have h1:=h.id;have h2:=h.cycle;exact SZ (eu.nat oM) (eu.nat oM) h.state oM;rw[if_neg c3]at hy;split at hy;cases hy;cases hy
theorem xe{v:Vo}(h:∀c∈v.trace,ly c){k:Nat}(hk:k<=1000000):Wf (dm v k):=by
 refine Ae ⟨dC,dC⟩ ⟨dC,dC⟩ (eu.nat oM) ?_;rw[aD];cases e:v.trace[k]? with
 |none=>exact qy
 |some c=>exact h c (aR e)
theorem ND{f:List Int}(hf:Wf f):ly (mr f):=⟨Cc hf 3,Cc hf 4,Cc hf 5⟩
theorem JA{v:Vo}(h1:∀c∈v.trace,ly c){c:Cm}(hc:ly c):(∀c'∈(cT v c).trace,ly c')/\∀y∈(cT v c).bF,ly y.1:=by refine⟨λc' h=>?_,λy h=>?_⟩;rcases List.mem_append.1 h with h|h;exact h1 c' h;rw[bW.1 h];exact hc;have e:y=(Cm.zero,false):=List.eq_of_mem_replicate (n:=3) h;rw[e];exact qy
theorem Ce{v:Vo}(hv:v.Wf)(h1:∀c∈v.trace,ly c)(h2:∀y∈v.bF,ly y.1){f:List Int}(hf:Wf f):
 (∀c∈(dR v f).1.trace,ly c)/\(∀y∈(dR v f).1.bF,ly y.1)/\∀y∈(dR v f).2.1,Wf y:=by
 have hn:=hv.many;unfold dR;split;exact⟨h1,h2,λy hy=>by cases hy⟩;split;refine⟨h1,h2,λy hy=>?_⟩;rw[bW.1 hy];exact xe h1 oM;split;refine⟨h1,h2,λy hy=>?_⟩;rcases List.mem_cons.1 hy with rfl|hy;exact xe h1 oM;rw[bW.1 hy];exact xe h1 oM;split;exact⟨h1,h2,λy hy=>by cases hy⟩
 ·dsimp only;have h3:∀y∈v.bF.set (f.getD 1 0).toNat (mr f,true),ly y.1:=λy hy=>by rcases List.mem_or_eq_of_mem_set hy with h|rfl;exact h2 y h;exact ND hf
  split;have hc:=JA (v:={v with bF:=v.bF.set (f.getD 1 0).toNat (mr f,true)}) h1 (ND hf);refine⟨hc.1,hc.2,λy hy=>?_⟩;rw[bW.1 hy];exact xe hc.1 oM;exact⟨h1,h3,λy hy=>by cases hy⟩
section
variable {T:Nat}{s:Sys}{L:Lay}
theorem bL.mono{U:Nat}(h:bL T s)(Jr:T<=U):bL U s:=⟨h.n3,λk hk=>(h.fits k hk).mono Jr,h.vo,h.trace,h.bF,h.way,aS h.lost Jr,h.mJ⟩
theorem bL.put(h:bL T s){g:ku}(hg:g.src<=3/\g.dst<=3/\g.bytes.length<=80):bL (T+1) (iq s g):=by have h1:=h.mono (show T<=T+1 by omega);unfold iq;split;exact⟨h1.n3,h1.fits,h1.vo,h1.trace,h1.bF,h1.way,by have:=h.lost;show s.lost+1<=_;omega,h1.mJ⟩;refine⟨h1.n3,h1.fits,h1.vo,h1.trace,h1.bF,by rw[bm];simp;omega,h1.lost,λg' hg'=>?_⟩;rcases List.mem_append.1 hg' with h|h;exact h1.mJ g' h;rw[bW.1 h];exact hg
theorem VU{f:List Int}(_hm:fC f=true):(lu f).length<=80:=by have:=RF (f:=f);have:=wG (f.getD 0 0);omega
theorem bL.send(h:bL T s){a b:Nat}(f:List Int)(ha:a<=3)(hb:b<=3):bL (T+1) (di s a b f):=by unfold di;split;rename_i hm;exact h.put ⟨ha,hb,VU hm⟩;exact h.mono oM
theorem bL.yt(h:bL T s){k U:Nat}(hk:k<3){r:Re}(hr:r.Fits U)(Jr:T<=U):bL U {s with rs:=s.rs.set k r}:=by refine⟨by show(s.rs.set k r).length=3;rw[List.length_set];exact h.n3,λj hj=>?_,h.vo,h.trace,h.bF,h.way,aS h.lost Jr,h.mJ⟩;rw[VQ (by rw[h.n3];exact hk)];split;exact hr;exact(h.fits j hj).mono Jr
theorem bL.sendAll{a:Nat}(f:List Int)(ha:a<=3):∀(l:List Nat){T:Nat}{s:Sys},(∀b∈l,b<=3)->bL T s->bL (T+l.length) (sendAll s a l f)
 |[],_,_,_,h=>h
 |b::l,T,s,hl,h=>by have:=bL.sendAll f ha l (λb' hb'=>hl b' (List.mem_cons_of_mem _ hb')) (h.send f ha (hl b (List.mem_cons_self ..)) (b:=b));exact zgD
theorem oO(k:Nat):(∀b∈others k,b<=3)/\(others k).length<=3:=by refine⟨λb hb=>?_,aS (List.length_filter_le _ _) dC⟩;have:=(List.mem_filter.1 hb).1;simp at this;omega
theorem bL.gA(h:bL T s)(hL:L.Ok){k:Nat}(hk:k<3):bL (T+5) (gA L s k):=by unfold Go.Proofs.YtdhekhlmdefcnaaGreatDoor.gA;dsimp only;have h1:=h.yt hk (uZ hL (h.fits k hk)) oM;have h2:=bL.sendAll (ea L (re s k)).2.1 (show k<=3 by omega) (others k) (oO k).1 h1;have h3:=h2.mono (show _<=T+4 by have:=(oO k).2;omega);split;exact h3.send _ oM oM;exact h3.mono oM
theorem bL.eM(h:bL T s):bL T {s with v:=eM s.v}:=by
 refine⟨h.n3,h.fits,Mp h.vo,?_,?_,h.way,h.lost,h.mJ⟩;show∀c∈(Go.Proofs.YtdhekhlmdefcnaaGreatDoor.eM s.v).trace,_;unfold Go.Proofs.YtdhekhlmdefcnaaGreatDoor.eM;split;exact h.trace;split<;>exact h.trace
 ·show∀c∈(Go.Proofs.YtdhekhlmdefcnaaGreatDoor.eM s.v).bF,_;unfold Go.Proofs.YtdhekhlmdefcnaaGreatDoor.eM;split;exact h.bF;split<;>exact h.bF
theorem bL.tick(h:bL T s)(hL:L.Ok){k:Nat}(hk:k<=3):bL (T+5) (iT L s k):=by unfold iT;split;exact h.eM.mono oM;exact h.gA hL oM
theorem bL.asks(h:bL T s){k:Nat}(hk:k<3):bL (T+3) (js s k):=
 (bL.sendAll _ (show k<=3 by omega) (others k) (oO k).1 h).mono (by have:=(oO k).2;omega)
theorem bL.see(h:bL T s){k:Nat}(hk:k<3){y:Int×Int}(hy:eu y.1/\eu y.2):bL T (jI s k y):=by obtain⟨⟨a1,a2⟩,a3,a4⟩:=hy;have hr:=h.fits k hk;exact h.yt hk ⟨hr.id,hr.mD,hr.qs,hr.lS,hr.mF,hr.seen,hr.came,hr.dr,hr.cycle,hr.ahead,hr.state,hr.told,⟨⟨a1,Int.lt_of_le_of_lt a2 dC⟩,a3,Int.lt_of_le_of_lt a4 dC⟩⟩ (aj _)
theorem bL.pp(h:bL T s){k:Nat}(hk:k<3):bL T (iz s k):=h.yt hk ((nu hk).mono (bT _)) (aj _)
theorem bL.erase(h:bL T s)(i:Nat):bL T {s with way:=s.way.eraseIdx i}:=
 ⟨h.n3,h.fits,h.vo,h.trace,h.bF,aS (List.length_eraseIdx_le _ _) h.way,h.lost,λg hg=>h.mJ g (List.mem_of_mem_eraseIdx hg)⟩
theorem bL.lose(h:bL T s)(i:Nat):bL T (iU s i):=h.erase i
theorem bL.twice(h:bL T s)(i:Nat):bL (T+1) (eI s i):=by unfold eI;split;exact h.mono oM;rename_i g hg;exact h.put (h.mJ g (aR hg))
theorem bL.su(h:bL T s):bL T (pG s):=⟨h.n3,h.fits,Jz h.vo,h.trace,h.bF,h.way,h.lost,h.mJ⟩
theorem bL.sends{a b:Nat}(ha:a<=3)(hb:b<=3):∀(l:List (List Int)){T:Nat}{s:Sys},bL T s->bL (T+l.length) (l.foldl (λs x=>di s a b x) s)
 |[],_,_,h=>h
 |f::l,T,s,h=>by have:=bL.sends ha hb l (h.send f ha hb);exact zgD
theorem bL.gD(h:bL T s)(all:Bool)(b:Nat)(f:List Int):bL (T+3) (gD s all b f):=by
 have one:∀{U:Nat}{s:Sys}(k:Nat),k<=3->bL U s->bL (U+1) (if all=true\/k=b then di s 3 k f else s):=λk hk h=>by split;exact h.send f dC hk;exact h.mono oM
 unfold Go.Proofs.YtdhekhlmdefcnaaGreatDoor.gD;exact one 2 dC (one 1 dC (one 0 dC h))
theorem bL.Gk(all:Bool)(b:Nat):∀(l:List (List Int)){T:Nat}{s:Sys},bL T s->bL (T+l.length*3) (l.foldl (λs x=>Go.Proofs.YtdhekhlmdefcnaaGreatDoor.gD s all b x) s)
 |[],_,_,h=>by simpa using h
 |f::l,T,s,h=>by have:=bL.Gk all b l (h.gD all b f);rw[bN,show T+(l.length+1)*3=T+3+l.length*3 by omega];exact this
theorem zn(L:Lay)(r:Re)(f:List Int):(cZ L r f).2.length<=2:=by
 have two:∀(c:Prop)[Decidable c](y:List Int),(if c then[y]else[]).length<=2:=λc _ y=>by split;exact Nat.le_succ 1;exact bT 2
 unfold cZ;dsimp only;by_cases c1:f.getD 0 0=1/\other r f=true/\f.getD 2 0=(r.cycle:Int);rw[if_pos c1];exact bT 2;rw[if_neg c1];by_cases c2:f.getD 0 0=3/\f.getD 1 0=3/\(r.cycle:Int)<=f.getD 2 0;rw[if_pos c2];exact two _ _;rw[if_neg c2];by_cases c3:f.getD 0 0=4/\other r f=true;rw[if_pos c3];exact Nat.le_succ 1;rw[if_neg c3];split;exact bT 2;exact bT 2
theorem zo(v:Vo)(f:List Int):(dR v f).2.1.length<=2:=by unfold dR;split;simp;split;simp;split;simp;split;simp;dsimp only;split<;>simp
theorem JB{l:List UInt8}(h:(dec l).1=0):fC (dec l).2=true:=by unfold dec at h⊢;split;rename_i hc;rw[if_pos hc]at h;cases h;rename_i hc;rw[if_neg hc]at h;split;rename_i hd;rw[if_pos hd]at h;cases h;rename_i hd;rw[if_neg hd]at h;split;rename_i he;rw[if_pos he]at h;cases h;rename_i he;rw[if_neg he]at h;split;rename_i hf;rw[if_pos hf]at h;cases h;rename_i hf;rw[if_neg hf]at h;split;assumption;rename_i hm;rw[if_neg hm]at h;cases h
theorem bL.cO(h:bL T s)(hL:L.Ok)(i:Nat):bL (T+14) (cO L s i):=by unfold Go.Proofs.YtdhekhlmdefcnaaGreatDoor.cO;split;exact h.mono oM;rename_i g hg;have hgr:=h.mJ g (aR hg);dsimp only;split;rename_i hc;have hm:=JB hc.1;split;have hf:=VS hm;have h64:=Ce h.vo h.trace h.bF hf;have h1:bL T ({s with way:=s.way.eraseIdx i,v:=(dR s.v (dec g.bytes).2).1}:Sys):=⟨h.n3,h.fits,Cb h.vo _,h64.1,h64.2.1,(h.erase i).way,h.lost,(h.erase i).mJ⟩;exact(bL.Gk _ _ _ h1).mono (by have:=zo s.v (dec g.bytes).2;omega);rename_i hd;have hd3:g.dst<3:=oM;have h1:=(h.erase i).yt hd3 (aby hL (h.fits g.dst hd3) hm) oM;exact(bL.sends hgr.2.1 hgr.1 _ h1).mono (by have:=zn L (re s g.dst) (dec g.bytes).2;simp only[Nat.add_assoc];show T+(8+(cZ L (re s g.dst) (dec g.bytes).2).2.length)<=_;omega);exact(h.erase i).mono oM
theorem bL.ey(hL:L.Ok):∀(n:Nat){T:Nat}{s:Sys},bL T s->bL (T+14*n) (ey L s n)
 |0,_,_,h=>h
 |n+1,T,s,h=>by rw[Go.Proofs.YtdhekhlmdefcnaaGreatDoor.ey];split;exact h.mono oM;exact(bL.ey hL n (h.cO hL 0)).mono oM
theorem bL.half(h:bL T s)(hL:L.Ok)(N:Nat):bL (T+15+14*N) (gF L N s):=bL.ey hL N (((h.gA hL (k:=0) dC).gA hL (k:=1) dC).gA hL (k:=2) dC)
theorem bL.calm(hL:L.Ok)(N:Nat):∀(n:Nat){T:Nat}{s:Sys},bL T s->bL (T+(30+42*N)*n) (calm L N s n)
 |0,_,_,h=>h
 |n+1,T,s,h=>by rw[Go.Proofs.YtdhekhlmdefcnaaGreatDoor.calm];have h1:=(((bL.ey hL N h).half hL N).half hL N).eM;refine(bL.calm hL N n h1).mono ?_;rw[Nat.mul_add,Nat.mul_one];omega
end
end Go.Proofs.YtdhekhlmdefcnaaGreatDoor
