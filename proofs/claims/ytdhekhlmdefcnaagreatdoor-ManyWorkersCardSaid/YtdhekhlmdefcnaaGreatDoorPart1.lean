/- Part 1 of the proof. -/
import Derived.Test.YtdhekhlmdefcnaaGreatDoorPart0
import GoSem.Machine.Start
import GoSem.Dispatch
import Derived.Control
import GoSem.Core.Race
import Derived.Laws.Sem
set_option maxHeartbeats 16000000
set_option maxRecDepth 1000000
namespace Go
section
variable {p:Prop}
theorem zaa(h:p:=by refine g1 T λi hi=>?_;have:=hT (i+1) oM;dsimp only at this;rw[if_neg oM,Nat.add_sub_cancel]at this;show T (w.drawn+1+i)=_;rw[<-this];congr 1;omega):p:=h
theorem zab(h:p:=by exact⟨m,ts,res,λT hT=>h1 T hT,h2,h3⟩):p:=h
theorem zac(h:p:=by have:w1.drawn=w.drawn+1+m:=g2;show w1.drawn=_;omega):p:=h
theorem zad(h:p:=by simp only[Sem.runT,kI,hv];show(match(on w T).farLoad P a false with|.ok (v,touched)=>_|.error h=>_)=_;rw[hl'];rfl):p:=h
theorem zae(h:p:=by unfold World.farStore;have hv':(on w T).heap[a.block]?=some (.view at_ u):=hv;rw[hv'];dsimp only;rw[ul,hl];rfl):p:=h
theorem zaf(h:p:=by subst he;exact cQ rfl (aB rfl) (aB rfl)):p:=h
theorem zag(h:p:=by rw[e];refine⟨m,ts,res,λT hT=>?_,h2,h3⟩;have:=h1 T hT;simp only[Sem.runT,kI,hv];exact this):p:=h
theorem zah(h:p:=by refine dY Iff.rfl (λ_=>bK hP hK _) λ_=>?_;cases op<;>first|exact aB (.int _ _)|exact aC):p:=h
theorem zai(h:p:=by show(w.heap.modify a.block _)[z]?=_;rw[Array.getElem?_modify,if_neg (λe=>h e.symm)]):p:=h
theorem zaj(h:p:=by repeat' first|(refine Flat.bind (Q:=Any) ?_ λ_ _=>?_)|exact sP _ _ _ _|exact .any _):p:=h
theorem zak(h:p:=by unfold Rn.D;rw[l.dn];exact hd):p:=h
theorem zal(h:p:=by have:(on w T).heap[r']?=some (.cells c e1 (0,n)):=k1;simp only[Sem.runT,this];rfl):p:=h
theorem zam(h:p:=by exact .bind (.any _) λr _=>jp r):p:=h
theorem zan(h:p:=by have:(on w T).heap[r]?=some (.cells c e fr):=h1;simp only[Sem.runT,this];rfl):p:=h
theorem zao(h:p:=by exact aB (.inl ⟨rfl,rfl⟩)):p:=h
theorem zap(h:p:=by have e:s=s':=e;subst e;obtain⟨s1,s2⟩:=s;cases s1<;>exact aB rfl):p:=h
theorem zaq(h:p:=by obtain⟨c,e,c',e',k1,_⟩:=(h.dead _ hd).row;rw[hv]at k1;cases k1):p:=h
theorem zar(h:p:=by obtain⟨c,e,n,k1,_⟩:=(h.low _ hk hd).row;rw[hv]at k1;cases k1):p:=h
theorem zas(h:p:=by unfold World.farLoad;rw[hv];dsimp only;rw[hl]):p:=h
theorem zat(h:p:=by simp[World.setCell]):p:=h
theorem zau(h:p:=by unfold Rn.D;rw[l.dn];exact ShR.xH hk hs):p:=h
theorem zav(h:p:=by cases hb):p:=h
theorem zaw(h:p:=by exact(show u.drawn=w1.drawn+m from g).trans (by rw[h])):p:=h
theorem zax(h:p:=by exact jg (.iface _ (.string _))):p:=h
theorem zay(h:p:=by rw[<-k2,aZ l2]):p:=h
theorem zaz(h:p:=by exact⟨hh,es1,h1,λT=>h2 T⟩):p:=h
theorem zaA(h:p:=by rw[<-k1,aZ l1]):p:=h
end
end Go
namespace Go.Pr
open Go
structure Rn where
 B:Nat
 K:Nat->Prop
 r:Nat->Nat->Prop
 kb:∀{x},K x->x<B
 dn:Nat->Nat
 dk:∀{x},0<dn x->K x
 ok:Nat->Prop
 nm:String->Prop
 cd:Nat->Code->Prop
 sp:Nat->Prop
 T:Nat->Prop
 tb:∀{x},T x->x<B
 lo:∀{x y},r x y->B<=x/\B<=y
 fn:∀{x y z},r x y->r x z->y=z
 inj:∀{x y z},r x z->r y z->x=y
def Rn.D(ρ:Rn)(x:Nat):Prop:=0<ρ.dn x
def Rn.b(ρ:Rn)(x y:Nat):Prop:=(ρ.K x/\y=x)\/ρ.r x y
theorem Rn.ZC{ρ:Rn}{x y z:Nat}(h:ρ.b x y)(h':ρ.b x z):y=z:=by
 rcases h with⟨h1,rfl⟩|h1<;>rcases h' with⟨h2,rfl⟩|h2
 ·rfl
 ·have:=(ρ.lo h2).1;have:=ρ.kb h1;omega
 ·have:=(ρ.lo h1).1;have:=ρ.kb h2;omega
 ·exact ρ.fn h1 h2
theorem Rn.Xq{ρ:Rn}{x y z:Nat}(h:ρ.b x z)(h':ρ.b y z):x=y:=by
 rcases h with⟨h1,rfl⟩|h1<;>rcases h' with⟨h2,h3⟩|h2
 ·exact h3
 ·have:=(ρ.lo h2).2;have:=ρ.kb h1;omega
 ·have:=(ρ.lo h1).2;have:=ρ.kb h2;omega
 ·exact ρ.inj h1 h2
theorem Rn.b_eq{ρ:Rn}{x x' y y':Nat}(h:ρ.b x x')(h':ρ.b y y'):x=y↔x'=y':=
 ⟨λe=>by subst e;exact Rn.ZC h h',λe=>by subst e;exact Rn.Xq h h'⟩
structure Rn.Le(ρ σ:Rn):Prop where
 B:σ.B=ρ.B
 K:σ.K=ρ.K
 ok:σ.ok=ρ.ok
 r:∀{x y},ρ.r x y->σ.r x y
 nm:σ.nm=ρ.nm
 T:σ.T=ρ.T
 cd:σ.cd=ρ.cd
 sp:σ.sp=ρ.sp
 dn:σ.dn=ρ.dn
theorem Rn.Le.refl(ρ:Rn):ρ.Le ρ:=⟨rfl,rfl,rfl,λh=>h,rfl,rfl,rfl,rfl,rfl⟩
theorem Rn.Le.trans{ρ σ τ:Rn}(h:ρ.Le σ)(h':σ.Le τ):ρ.Le τ:=⟨h'.B.trans h.B,h'.K.trans h.K,h'.ok.trans h.ok,λx=>h'.r (h.r x),h'.nm.trans h.nm,h'.T.trans h.T,h'.cd.trans h.cd,h'.sp.trans h.sp,h'.dn.trans h.dn⟩
theorem Rn.Le.b{ρ σ:Rn}(h:ρ.Le σ){x y:Nat}(hb:ρ.b x y):σ.b x y:=hb.elim (λk=>.inl ⟨by rw[h.K];exact k.1,k.2⟩) λk=>.inr (h.r k)
def Rn.add(ρ:Rn)(x y:Nat)(hx:ρ.B<=x)(hy:ρ.B<=y)(nx:∀z,¬ρ.r x z)(ny:∀z,¬ρ.r z y):Rn where
 B:=ρ.B
 K:=ρ.K
 kb:=ρ.kb
 dn:=ρ.dn
 dk:=ρ.dk
 r a b:=ρ.r a b\/(a=x/\b=y)
 ok:=ρ.ok
 nm:=ρ.nm
 T:=ρ.T
 cd:=ρ.cd
 sp:=ρ.sp
 tb:=ρ.tb
 lo h:=h.elim ρ.lo λ⟨h1,h2⟩=>⟨oM,oM⟩
 fn:=by
  rintro a b c (h|⟨rfl,rfl⟩) (h'|⟨h1,rfl⟩)
  ·exact ρ.fn h h'
  ·subst h1;exact absurd h (nx _)
  ·exact absurd h' (nx _)
  ·rfl
 inj:=by
  rintro a b c (h|⟨rfl,rfl⟩) (h'|⟨rfl,h2⟩)
  ·exact ρ.inj h h'
  ·subst h2;exact absurd h (ny _)
  ·exact absurd h' (ny _)
  ·rfl
theorem Rn.zY{ρ:Rn}{x y:Nat}{hx hy nx ny}:ρ.Le (ρ.add x y hx hy nx ny):=⟨rfl,rfl,rfl,λh=>.inl h,rfl,rfl,rfl,rfl,rfl⟩
structure bI(ρ:Rn)(a a':Addr):Prop where
 b:ρ.b a.block a'.block
 off:a'.off=a.off
 spot:a'.spot=a.spot
inductive zH(ρ:Rn):Fn->Fn->Prop
 |func {f:FuncId}:ρ.ok f->zH ρ (.func f) (.func f)
 |method {n:String}:ρ.nm n->zH ρ (.method n) (.method n)
 |methodOf (t:aw) {n:String}:ρ.nm n->zH ρ (.methodOf t n) (.methodOf t n)
 |via {t:aw} {p:Array FieldStep} {f:FuncId} {q:Bool}:ρ.ok f->zH ρ (.via t p f q) (.via t p f q)
 |yield {l l':Nat}:ρ.r l l'->zH ρ (.yield l) (.yield l')
mutual
inductive VR(ρ:Rn):ae->ae->Prop
 |bool (b:Bool):VR ρ (.bool b) (.bool b)
 |int (k:IntKind) (n:Int):VR ρ (.int k n) (.int k n)
 |float (k:FloatKind) (n:Nat):VR ρ (.float k n) (.float k n)
 |complex (k:FloatKind) (n m:Nat):VR ρ (.complex k n m) (.complex k n m)
 |string (s:ay):VR ρ (.string s) (.string s)
 |iP:VR ρ (.pointer none) (.pointer none)
 |ptr {a a':Addr}:bI ρ a a'->VR ρ (.pointer (some a)) (.pointer (some a'))
 |iG (n c:Nat):VR ρ (.slice none n c) (.slice none n c)
 |slice {a a':Addr} (n c:Nat):bI ρ a a'->VR ρ (.slice (some a) n c) (.slice (some a') n c)
 |Du:VR ρ (.map none) (.map none)
 |map {r r':Nat}:ρ.r r r'->VR ρ (.map (some r)) (.map (some r'))
 |Qg:VR ρ (.chan none) (.chan none)
 |func {fn fn':Fn} {xs xs' ys ys':bw}:zH ρ fn fn'->LR ρ xs.toList xs'.toList->LR ρ ys.toList ys'.toList->VR ρ (.func fn xs ys) (.func fn' xs' ys')
 |nilFunc:VR ρ .nilFunc .nilFunc
 |iface {v v':ae} (t:aw):VR ρ v v'->VR ρ (.iface t v) (.iface t v')
 |nilIface:VR ρ .nilIface .nilIface
 |agg {xs xs':bw}:LR ρ xs.toList xs'.toList->VR ρ (.agg xs) (.agg xs')
 |tuple {xs xs':bw}:LR ρ xs.toList xs'.toList->VR ρ (.tuple xs) (.tuple xs')
inductive LR(ρ:Rn):List ae->List ae->Prop
 |nil:LR ρ [] []
 |cons {v v':ae} {l l':List ae}:VR ρ v v'->LR ρ l l'->LR ρ (v::l) (v'::l')
end
theorem bI.mono{ρ σ:Rn}(h:ρ.Le σ){a a':Addr}(x:bI ρ a a'):bI σ a a':=⟨h.b x.b,x.off,x.spot⟩
theorem zH.mono{ρ σ:Rn}(h:ρ.Le σ){a a':Fn}(x:zH ρ a a'):zH σ a a':=by
 cases x with
 |func k=>exact .func (by rw[h.ok];exact k)
 |method k=>exact .method (by rw[h.nm];exact k)
 |methodOf t k=>exact .methodOf t (by rw[h.nm];exact k)
 |via k=>exact .via (by rw[h.ok];exact k)
 |yield k=>exact .yield (h.r k)
theorem VR.mono{ρ σ:Rn}(h:ρ.Le σ){v v':ae}(x:VR ρ v v'):VR σ v v':=
 VR.rec (motive_1:=λv v' _=>VR σ v v') (motive_2:=λl l' _=>LR σ l l')
  (λb=>.bool b) (λk n=>.int k n) (λk n=>.float k n) (λk n m=>.complex k n m) (λs=>.string s) .iP (λa=>.ptr (a.mono h)) (λn c=>.iG n c) (λn c a=>.slice n c (a.mono h)) .Du (λr=>.map (h.r r)) .Qg
  (λf _ _ i1 i2=>.func (f.mono h) i1 i2) .nilFunc (λt _ i=>.iface t i) .nilIface (λ_ i=>.agg i) (λ_ i=>.tuple i) .nil (λ_ _ i1 i2=>.cons i1 i2) x
theorem LR.mono{ρ σ:Rn}(h:ρ.Le σ):∀{l l':List ae},LR ρ l l'->LR σ l l'
 |_,_,.nil=>.nil
 |_,_,.cons x y=>.cons (x.mono h) (y.mono h)
theorem LR.length{ρ:Rn}:∀{l l':List ae},LR ρ l l'->l'.length=l.length
 |_,_,.nil=>rfl
 |_,_,.cons _ y=>by simp[y.length]
theorem LR.get{ρ:Rn}:∀{l l':List ae},LR ρ l l'->∀i:Nat,(l[i]?=none/\l'[i]?=none)\/∃v v',l[i]?=some v/\l'[i]?=some v'/\VR ρ v v'
 |_,_,.nil,i=>.inl ⟨sM,sM⟩
 |_,_,.cons x y,0=>.inr ⟨_,_,rfl,rfl,x⟩
 |_,_,.cons x y,i+1=>by simpa using y.get i
theorem LR.append{ρ:Rn}:∀{l l' m m':List ae},LR ρ l l'->LR ρ m m'->LR ρ (l++m) (l'++m')
 |_,_,_,_,.nil,h=>h
 |_,_,_,_,.cons x y,h=>.cons x (y.append h)
theorem LR.take{ρ:Rn}:∀{l l':List ae},LR ρ l l'->∀n,LR ρ (l.take n) (l'.take n)
 |_,_,.nil,n=>by simpa using LR.nil
 |_,_,.cons x y,0=>.nil
 |_,_,.cons x y,n+1=>.cons x (y.take n)
theorem LR.drop{ρ:Rn}:∀{l l':List ae},LR ρ l l'->∀n,LR ρ (l.drop n) (l'.drop n)
 |_,_,.nil,n=>by simpa using LR.nil
 |_,_,.cons x y,0=>.cons x y
 |_,_,.cons x y,n+1=>by simpa using y.drop n
theorem LR.set{ρ:Rn}:∀{l l':List ae},LR ρ l l'->∀(n:Nat){v v':ae},VR ρ v v'->LR ρ (l.set n v) (l'.set n v')
 |_,_,.nil,n,_,_,_=>by simpa using LR.nil
 |_,_,.cons x y,0,_,_,h=>.cons h y
 |_,_,.cons x y,n+1,_,_,h=>.cons x (y.set n h)
theorem LR.fP{ρ:Rn}{v v':ae}(h:VR ρ v v'):∀n,LR ρ (List.replicate n v) (List.replicate n v')
 |0=>.nil
 |n+1=>.cons h (LR.fP h n)
def AR(ρ:Rn)(xs xs':bw):Prop:=LR ρ xs.toList xs'.toList
theorem AR.mono{ρ σ:Rn}(h:ρ.Le σ){xs xs':bw}(x:AR ρ xs xs'):AR σ xs xs':=LR.mono h x
theorem AR.size{ρ:Rn}{xs xs':bw}(h:AR ρ xs xs'):xs'.size=xs.size:=by simpa using LR.length h
theorem AR.get{ρ:Rn}{xs xs':bw}(h:AR ρ xs xs')(i:Nat):(xs[i]?=none/\xs'[i]?=none)\/∃v v',xs[i]?=some v/\xs'[i]?=some v'/\VR ρ v v':=by simpa using LR.get h i
theorem AR.push{ρ:Rn}{xs xs':bw}(h:AR ρ xs xs'){v v':ae}(hv:VR ρ v v'):AR ρ (xs.push v) (xs'.push v'):=by unfold AR;rw[bH,bH];exact LR.append h (.cons hv .nil)
theorem AR.append{ρ:Rn}{xs xs' ys ys':bw}(h:AR ρ xs xs')(k:AR ρ ys ys'):AR ρ (xs++ys) (xs'++ys'):=by unfold AR;rw[cV,cV];exact LR.append h k
theorem AR.set{ρ:Rn}{xs xs':bw}(h:AR ρ xs xs')(n:Nat){v v':ae}(hv:VR ρ v v'):AR ρ (xs.setIfInBounds n v) (xs'.setIfInBounds n v'):=by unfold AR;rw[Array.toList_setIfInBounds,Array.toList_setIfInBounds];exact LR.set h n hv
theorem AR.getD{ρ:Rn}{xs xs':bw}(h:AR ρ xs xs')(n:Nat){v v':ae}(hv:VR ρ v v'):VR ρ (xs.getD n v) (xs'.getD n v'):=by rw[aU,aU];rcases h.get n with⟨h1,h2⟩|⟨u,u',h1,h2,hu⟩;rw[h1,h2];exact hv;rw[h1,h2];exact hu
theorem AR.extract{ρ:Rn}{xs xs':bw}(h:AR ρ xs xs')(i j:Nat):AR ρ (xs.extract i j) (xs'.extract i j):=by unfold AR;rw[Array.toList_extract,Array.toList_extract];exact(LR.drop h i).take _
theorem VR.cells{ρ:Rn}{v v':ae}(h:VR ρ v v'):AR ρ v.cells v'.cells:=by cases h<;>first|assumption|exact .cons (by constructor<;>assumption) .nil|exact .cons (by constructor) .nil
inductive GR(ρ:Rn):Target->Target->Prop
 |fn {f f':Fn} {xs xs':bw}:zH ρ f f'->AR ρ xs xs'->GR ρ (.fn f xs) (.fn f' xs')
 |nil:GR ρ .nil .nil
 |collected {r r':Nat}:ρ.r r r'->GR ρ (.collected r) (.collected r')
structure GS(ρ:Rn)(d d':Deferred):Prop where
 target:GR ρ d.target d'.target
 args:AR ρ d.args d'.args
inductive qK(ρ:Rn):List Deferred->List Deferred->Prop
 |nil:qK ρ [] []
 |cons {d d':Deferred} {l l':List Deferred}:GS ρ d d'->qK ρ l l'->qK ρ (d::l) (d'::l')
structure GU(ρ:Rn)(e e':MapEntry):Prop where
 key:VR ρ e.key e'.key
 val:VR ρ e.val e'.val
 born:e'.born=e.born
inductive lC(ρ:Rn):List MapEntry->List MapEntry->Prop
 |nil:lC ρ [] []
 |cons {d d':MapEntry} {l l':List MapEntry}:GU ρ d d'->lC ρ l l'->lC ρ (d::l) (d'::l')
def GV:Code->Prop
 |.ret|.exit _|.goto _=>True
 |_=>False
structure Qh(ρ:Rn)(l l':Loop):Prop where
 state:l'.state=l.state
 pending:l'.pending=l.pending
 fn:l'.fn=l.fn
 tmps:AR ρ l.tmps l'.tmps
 params:l'.params=l.params
 assign:l'.assign=l.assign
 body:l'.body=l.body
 defers:ρ.r l.defers l'.defers
 ok:ρ.ok l.fn/\ρ.cd l.fn l.assign/\ρ.cd l.fn l.body
 pend:∀c,l.pending=some c->GV c
inductive jf(ρ:Rn):Obj->Obj->Prop
 |cells {c c':bw} (e:aw) (fr:Nat×Nat):AR ρ c c'->jf ρ (.cells c e fr) (.cells c' e fr)
 |map {es es':Array MapEntry} (k:Nat):lC ρ es.toList es'.toList->jf ρ (.map es k) (.map es' k)
 |iter (s:ay) (p:Nat):jf ρ (.stringIter s p) (.stringIter s p)
 |loop {l l':Loop}:Qh ρ l l'->jf ρ (.loop l) (.loop l')
 |number {a a':Addr} (b:Bool):bI ρ a a'->jf ρ (.number a b) (.number a' b)
 |view {a a':Addr} (t:aw):bI ρ a a'->jf ρ (.view a t) (.view a' t)
 |GW:jf ρ (.deferred none) (.deferred none)
 |Dv {l l':List Deferred}:qK ρ l l'->jf ρ (.deferred (some l)) (.deferred (some l'))
theorem GR.mono{ρ σ:Rn}(h:ρ.Le σ){a a':Target}(x:GR ρ a a'):GR σ a a':=by
 cases x with
 |fn f a=>exact .fn (f.mono h) (a.mono h)
 |nil=>exact .nil
 |collected r=>exact .collected (h.r r)
theorem GS.mono{ρ σ:Rn}(h:ρ.Le σ){a a':Deferred}(x:GS ρ a a'):GS σ a a':=⟨x.target.mono h,x.args.mono h⟩
theorem qK.mono{ρ σ:Rn}(h:ρ.Le σ):∀{a a':List Deferred},qK ρ a a'->qK σ a a'
 |_,_,.nil=>.nil
 |_,_,.cons x y=>.cons (x.mono h) (y.mono h)
theorem qK.append{ρ:Rn}:∀{a a' b b':List Deferred},qK ρ a a'->qK ρ b b'->qK ρ (a++b) (a'++b')
 |_,_,_,_,.nil,h=>h
 |_,_,_,_,.cons x y,h=>.cons x (y.append h)
theorem GU.mono{ρ σ:Rn}(h:ρ.Le σ){a a':MapEntry}(x:GU ρ a a'):GU σ a a':=⟨x.key.mono h,x.val.mono h,x.born⟩
theorem lC.mono{ρ σ:Rn}(h:ρ.Le σ):∀{a a':List MapEntry},lC ρ a a'->lC σ a a'
 |_,_,.nil=>.nil
 |_,_,.cons x y=>.cons (x.mono h) (y.mono h)
theorem Qh.mono{ρ σ:Rn}(h:ρ.Le σ){a a':Loop}(x:Qh ρ a a'):Qh σ a a':=⟨x.state,x.pending,x.fn,x.tmps.mono h,x.params,x.assign,x.body,h.r x.defers,by rw[h.ok,h.cd];exact x.ok,x.pend⟩
theorem jf.mono{ρ σ:Rn}(h:ρ.Le σ){a a':Obj}(x:jf ρ a a'):jf σ a a':=by
 cases x with
 |cells e fr c=>exact .cells e fr (c.mono h)
 |map k es=>exact .map k (es.mono h)
 |iter s p=>exact .iter s p
 |loop l=>exact .loop (l.mono h)
 |number b a=>exact .number b (a.mono h)
 |view t a=>exact .view t (a.mono h)
 |GW=>exact .GW
 |Dv l=>exact .Dv (l.mono h)
def bare(P:aF)(e:aw):Prop:=∀k off n u,0<n->P.underlying u=some (.int .u8)->liesAt P P.depth e k off u n=false
structure WE(P:aF)(ρ:Rn)(w w':aa)(x:Nat):Prop where
 row:∃c e n,w.heap[x]?=some (.cells c e (0,n))/\w'.heap[x]?=some (.cells c e (0,0))/\c.size<n/\bare P e/\AR ρ c c
def Pl(v:ae):Prop:=∀ρ:Rn,VR ρ v v
structure ZE(w w':aa)(x:Nat):Prop where
 row:∃c e fr c' e' fr',w.heap[x]?=some (.cells c e fr)/\w'.heap[x]?=some (.cells c' e' fr')/\∀(i:Nat) v,c[i]?=some v->c'[i]?=some v/\Pl v
structure Xr(ρ:Rn)(w w':aa)(x:Nat):Prop where
 row:∃c e c' e',w.heap[x]?=some (.pending c e)/\w'.heap[x]?=some (.cells c' e' (0,0))/\c.size=ρ.dn x/\c'.size=ρ.dn x
structure WR(P:aF)(ρ:Rn)(w w':aa):Prop where
 own:∀{x y},ρ.r x y->∃o o',w.heap[x]?=some o/\w'.heap[y]?=some o'/\jf ρ o o'
 low:∀x,ρ.K x->¬ρ.D x->WE P ρ w w' x
 dead:∀x,ρ.D x->Xr ρ w w' x
 tab:∀x,ρ.T x->ZE w w' x
 os:w'.os=w.os
 CC:ρ.B<=w.heap.size
 CE:ρ.B<=w'.heap.size
theorem WR.lt{P:aF}{ρ:Rn}{w w':aa}(h:WR P ρ w w'){x y:Nat}(hr:ρ.r x y):x<w.heap.size/\y<w'.heap.size:=by obtain⟨o,o',h1,h2,_⟩:=h.own hr;exact⟨(az.1 h1).1,(az.1 h2).1⟩
inductive qP(ρ:Rn):Loc->Loc->Prop
 |cell {a a':Addr}:bI ρ a a'->qP ρ (.cell a) (.cell a')
 |tab {a:Addr}:ρ.T a.block->qP ρ (.cell a) (.cell a)
 |obj {r r':Nat}:ρ.r r r'->qP ρ (.obj r) (.obj r')
 |ext (f:FuncId):qP ρ (.mark (.extern f)) (.mark (.extern f))
 |room:qP ρ (.mark .noRoom) (.mark .noRoom)
 |out:qP ρ .output .output
structure GX(ρ:Rn)(e e':Event):Prop where
 loc:qP ρ e.loc e'.loc
 write:e'.write=e.write
 sync:e'.sync=e.sync
 low:∀a,e.loc=.cell a->e.write=true->ρ.r a.block (match e'.loc with|.cell b=>b.block|_=>0)
 flat:e'.loc.isMemory=true->e'.sync=false
theorem qP.mono{ρ σ:Rn}(h:ρ.Le σ){a a':Loc}(x:qP ρ a a'):qP σ a a':=by
 cases x with
 |cell a=>exact .cell (a.mono h)
 |tab a=>exact .tab (by rw[h.T];exact a)
 |obj r=>exact .obj (h.r r)
 |ext f=>exact .ext f
 |room=>exact .room
 |out=>exact .out
theorem GX.mono{ρ σ:Rn}(h:ρ.Le σ){a a':Event}(x:GX ρ a a'):GX σ a a':=⟨x.loc.mono h,x.write,x.sync,λb hb hw=>h.r (x.low b hb hw),x.flat⟩
inductive eG(ρ:Rn):List Event->List Event->Prop
 |nil:eG ρ [] []
 |cons {e e':Event} {l l':List Event}:GX ρ e e'->eG ρ l l'->eG ρ (e::l) (e'::l')
 |left (r:Nat) {l l':List Event}:eG ρ l l'->eG ρ (⟨.obj r,false,false⟩::l) l'
theorem eG.mono{ρ σ:Rn}(h:ρ.Le σ):∀{a a':List Event},eG ρ a a'->eG σ a a'
 |_,_,.nil=>.nil
 |_,_,.cons x y=>.cons (x.mono h) (y.mono h)
 |_,_,.left r y=>.left r (y.mono h)
theorem eG.snoc{ρ:Rn}{e e':Event}(h:GX ρ e e'):∀{a a':List Event},eG ρ a a'->eG ρ (a++[e]) (a'++[e'])
 |_,_,.nil=>.cons h .nil
 |_,_,.cons x y=>.cons x (eG.snoc h y)
 |_,_,.left r y=>.left r (eG.snoc h y)
theorem eG.EM{ρ:Rn}(r:Nat):∀{a a':List Event},eG ρ a a'->eG ρ (a++[⟨.obj r,false,false⟩]) a'
 |_,_,.nil=>.left r .nil
 |_,_,.cons x y=>.cons x (y.EM r)
 |_,_,.left q y=>.left q (y.EM r)
def fQ:Halt->Bool
 |.stuck _|.unsupported _=>true
 |_=>false
inductive Sk{α:Type}(Q:α->Prop):Sem α->Prop
 |pure {a:α}:Q a->Sk Q (.pure a)
 |shape {r:Nat} {k:Option (aw×Nat)->Sem α}:(∀s,Sk Q (k s))->Sk Q (.shape r k)
 |frozen {a:Addr} {k:Bool->Sem α}:(∀s,Sk Q (k s))->Sk Q (.frozen a k)
 |room {k:Sem α}:Sk Q k->Sk Q (.mark .noRoom k)
 |halt {h:Halt}:fQ h=true->Sk Q (.halt h)
theorem Sk.bind{α β:Type}{Q:α->Prop}{Q':β->Prop}{s:Sem α}{f:α->Sem β}(h:Sk Q s)(hf:∀a,Q a->Sk Q' (f a)):Sk Q' (s>>=f):=by
 show Sk Q' (s.bind f)
 induction h with
 |pure ha=>exact hf _ ha
 |shape _ ih=>exact .shape ih
 |frozen _ ih=>exact .frozen ih
 |room _ ih=>exact .room ih
 |halt hd=>exact .halt hd
inductive ShR(P:aF)(ρ:Rn)(r:Nat):Option (aw×Nat)->Option (aw×Nat)->Prop
 |same {s:Option (aw×Nat)}:(ρ.K r->∃t n,s=some (t,n)/\bare P t)->ShR P ρ r s s
 |dead (t:aw):ρ.D r->ShR P ρ r none (some (t,ρ.dn r))
inductive aP(P:aF){α β:Type}(A:Rn->α->β->Prop):Rn->Sem α->Sem β->Prop
 |pure {ρ:Rn} {a:α} {b:β}:A ρ a b->aP P A ρ (.pure a) (.pure b)
 |load {ρ:Rn} {a a':Addr} {k:ae->Sem α} {k':ae->Sem β}:bI ρ a a'->(∀v v',VR ρ v v'->aP P A ρ (k v) (k' v'))->aP P A ρ (.load .plain a k) (.load .plain a' k')
 |loadT {ρ:Rn} {a:Addr} {k:ae->Sem α} {k':ae->Sem β}:ρ.T a.block->(∀v,Pl v->aP P A ρ (k v) (k' v))->aP P A ρ (.load .plain a k) (.load .plain a k')
 |store {ρ:Rn} {a a':Addr} {v v':ae} {k:Sem α} {k':Sem β}:bI ρ a a'->VR ρ v v'->aP P A ρ k k'->aP P A ρ (.store .plain a v k) (.store .plain a' v' k')
 |new {ρ:Rn} {o o':Obj} {k:Nat->Sem α} {k':Nat->Sem β}:jf ρ o o'->(∀σ r r',ρ.Le σ->σ.r r r'->aP P A σ (k r) (k' r'))->aP P A ρ (.new o k) (.new o' k')
 |shape {ρ:Rn} {r r':Nat} {k:Option (aw×Nat)->Sem α} {k':Option (aw×Nat)->Sem β}:ρ.b r r'->
  (∀s s',ShR P ρ r s s'->aP P A ρ (k s) (k' s'))->aP P A ρ (.shape r k) (.shape r' k')
 |zZ {ρ:Rn} {s:Sem α} {r':Nat} {k':Option (aw×Nat)->Sem β}:(∀x,aP P A ρ s (k' x))->aP P A ρ s (.shape r' k')
 |qQ {ρ:Rn} {s:Sem α} {a':Addr} {k':Bool->Sem β}:ρ.K a'.block->aP P A ρ s (k' false)->aP P A ρ s (.frozen a' k')
 |frozen {ρ:Rn} {a a':Addr} {k:Bool->Sem α} {k':Bool->Sem β}:bI ρ a a'->(∀b b',(ρ.r a.block a'.block->b=b')->(ρ.K a.block->b'=false)->aP P A ρ (k b) (k' b'))->aP P A ρ (.frozen a k) (.frozen a' k')
 |freeze {ρ:Rn} {a a':Addr} {n:Nat} {k:Sem α} {k':Sem β}:bI ρ a a'->ρ.r a.block a'.block->aP P A ρ k k'->aP P A ρ (.freeze a n k) (.freeze a' n k')
 |abJ {ρ:Rn} {r:Nat} {k:Option (aw×Nat)->Sem α} {c:Sem β}:ρ.D r->aP P A ρ (k none) c->aP P A ρ (.shape r k) c
 |nz {ρ:Rn} {r:Nat} {k:Obj->Sem α} {c:Sem β}:ρ.D r->(∀x e,x.size=ρ.dn r->aP P A ρ (k (.pending x e)) c)->aP P A ρ (.getObj r k) c
 |getObj {ρ:Rn} {r r':Nat} {k:Obj->Sem α} {k':Obj->Sem β}:ρ.b r r'->¬ρ.D r->(∀o o',jf ρ o o'->aP P A ρ (k o) (k' o'))->aP P A ρ (.getObj r k) (.getObj r' k')
 |setObj {ρ:Rn} {r r':Nat} {o o':Obj} {k:Sem α} {k':Sem β}:ρ.b r r'->¬ρ.D r->jf ρ o o'->aP P A ρ k k'->aP P A ρ (.setObj r o k) (.setObj r' o' k')
 |choose {ρ:Rn} {q:Question} {k:Nat->Sem α} {k':Nat->Sem β}:(∀n,aP P A ρ (k n) (k' n))->aP P A ρ (.choose q k) (.choose q k')
 |vC {ρ:Rn} {q:Question} {k:Nat->Sem α} {c:Sem β} (n:Nat):q.forced=false->(∃t,q.cut t=n)->aP P A ρ (k n) c->aP P A ρ (.choose q k) c
 |program {ρ:Rn} {k:aF->Sem α} {k':aF->Sem β}:aP P A ρ (k P) (k' P)->aP P A ρ (.program k) (.program k')
 |ext {ρ:Rn} {f:FuncId} {k:Sem α} {k':Sem β}:aP P A ρ k k'->aP P A ρ (.mark (.extern f) k) (.mark (.extern f) k')
 |room {ρ:Rn} {k:Sem α} {k':Sem β}:aP P A ρ k k'->aP P A ρ (.mark .noRoom k) (.mark .noRoom k')
 |env {ρ:Rn} {k:SysRet->Sem α} {k':SysRet->Sem β}:(∀r,aP P A ρ (k r) (k' r))->aP P A ρ (.sys .env k) (.sys .env k')
 |dead {ρ:Rn} {s:Sem α} {c:Sem β}:Sk (λ_=>False) s->aP P A ρ s c
 |panic {ρ:Rn} {v v':ae}:VR ρ v v'->aP P A ρ (.halt (.panic v)) (.halt (.panic v'))
 |halt {ρ:Rn} {h:Halt} {c:Sem β}:fQ h=true->aP P A ρ (.halt h) c
theorem aP.bind{P:aF}{α β γ δ:Type}{A:Rn->α->β->Prop}{C:Rn->γ->δ->Prop}{ρ:Rn}{s:Sem α}{s':Sem β}(h:aP P A ρ s s'):
 ∀{f:α->Sem γ}{f':β->Sem δ},(∀σ a b,ρ.Le σ->A σ a b->aP P C σ (f a) (f' b))->aP P C ρ (s.bind f) (s'.bind f'):=by
 induction h with
 |pure ha=>intro f f' hf;exact hf _ _ _ (Rn.Le.refl _) ha
 |load ha _ ih=>intro f f' hf;exact .load ha λv v' hv=>ih v v' hv hf
 |loadT ha _ ih=>intro f f' hf;exact .loadT ha λv hv=>ih v hv hf
 |store ha hv _ ih=>intro f f' hf;exact .store ha hv (ih hf)
 |new ho _ ih=>intro f f' hf;exact .new ho λσ r r' hl hr=>ih σ r r' hl hr λτ a b h1 h2=>hf τ a b (hl.trans h1) h2
 |shape hb _ ih=>intro f f' hf;exact .shape hb λs s' h=>ih s s' h hf
 |zZ _ ih=>intro f f' hf;exact .zZ λx=>ih x hf
 |qQ hk _ ih=>intro f f' hf;exact .qQ hk (ih hf)
 |frozen ha _ ih=>intro f f' hf;exact .frozen ha λb b' h1 h2=>ih b b' h1 h2 hf
 |freeze ha hr _ ih=>intro f f' hf;exact .freeze ha hr (ih hf)
 |abJ hd _ ih=>intro f f' hf;exact .abJ hd (ih hf)
 |nz hd _ ih=>intro f f' hf;exact .nz hd λx e h=>ih x e h hf
 |getObj hb hd _ ih=>intro f f' hf;exact .getObj hb hd λo o' ho=>ih o o' ho hf
 |setObj hb hd ho _ ih=>intro f f' hf;exact .setObj hb hd ho (ih hf)
 |choose _ ih=>intro f f' hf;exact .choose λn=>ih n hf
 |vC n h1 h2 _ ih=>intro f f' hf;exact .vC n h1 h2 (ih hf)
 |program _ ih=>intro f f' hf;exact .program (ih hf)
 |ext _ ih=>intro f f' hf;exact .ext (ih hf)
 |room _ ih=>intro f f' hf;exact .room (ih hf)
 |env _ ih=>intro f f' hf;exact .env λr=>ih r hf
 |dead hd=>intro f f' _;exact .dead (hd.bind λ_ k=>k.elim)
 |panic hv=>intro f f' _;exact .panic hv
 |halt hd=>intro f f' _;exact .halt hd
def on(w:aa)(T:Nat->Question->Nat):aa:={w with tape:=T}
def ZF{α:Type}(T:Nat->Question->Nat):Result α×Array Event->Result α×Array Event
 |(.ok a w,es)=>(.ok a (on w T),es)
 |(.halt h w,es)=>(.halt h (on w T),es)
def Qi{α:Type}(P:aF)(s:Sem α)(w:aa)(es:Array Event)(m:Nat)(ts:Nat->Question->Nat)(res:Result α×Array Event):Prop:=
 ∀T:Nat->Question->Nat,(∀i,i<m->T (w.drawn+i)=ts i)->s.runT P (on w T) es=ZF T res
structure gM(w w1:aa)(Mine:cD):Prop where
 tape:w1.tape=w.tape
 os:w1.os=w.os
 output:w1.output=w.output
 drawn:w.drawn<=w1.drawn
 size:w.heap.size<=w1.heap.size
 heap:∀y,y<w.heap.size->¬Mine y->w1.heap[y]?=w.heap[y]?
theorem gM.refl(w:aa)(M:cD):gM w w M:=⟨rfl,rfl,rfl,aj _,aj _,λ_ _ _=>rfl⟩
theorem gM.trans{a b c:aa}{M M':cD}(h:gM a b M)(h':gM b c M')(hM:∀y,y<a.heap.size->M' y->M y):gM a c M:=
 ⟨h'.tape.trans h.tape,h'.os.trans h.os,h'.output.trans h.output,aS h.drawn h'.drawn,aS h.size h'.size,λy hy hn=>
  (h'.heap y (aT hy h.size) λk=>hn (hM y hy k)).trans (h.heap y hy hn)⟩
structure Grow(ρ σ:Rn)(w' w1':aa):Prop where
 le:ρ.Le σ
 new:∀x y,σ.r x y->ρ.r x y\/(w'.heap.size<=y/\y<w1'.heap.size)
theorem Grow.refl(ρ:Rn)(w:aa):Grow ρ ρ w w:=⟨Rn.Le.refl _,λ_ _ h=>.inl h⟩
theorem Grow.trans{ρ σ τ:Rn}{a b c:aa}(h:Grow ρ σ a b)(h':Grow σ τ b c)(h1:a.heap.size<=b.heap.size)(h2:b.heap.size<=c.heap.size):Grow ρ τ a c:=
 ⟨h.le.trans h'.le,λx y hr=>by
  rcases h'.new x y hr with k|k;rcases h.new x y k with k|k;exact .inl k;exact .inr ⟨k.1,oM⟩
  ·exact .inr ⟨oM,k.2⟩⟩
def Own(ρ:Rn)(y:Nat):Prop:=∃x,ρ.r x y
inductive Af(P:aF){α β:Type}(A:Rn->α->β->Prop)(ρ:Rn)(w':aa):Result α×Array Event->Result β×Array Event->Prop
 |ok {σ:Rn} {a:α} {b:β} {w1 w1':aa} {es1 mi:Array Event}:Grow ρ σ w' w1'->A σ a b->WR P σ w1 w1'->eG σ es1.toList mi.toList->gM w' w1' (Own ρ)->Af P A ρ w' (.ok a w1,es1) (.ok b w1',mi)
 |panic {σ:Rn} {v v':ae} {w1 w1':aa} {es1 mi:Array Event}:Grow ρ σ w' w1'->VR σ v v'->WR P σ w1 w1'->eG σ es1.toList mi.toList->gM w' w1' (Own ρ)->Af P A ρ w' (.halt (.panic v) w1,es1) (.halt (.panic v') w1',mi)
 |fQ {h:Halt} {w1:aa} {es1:Array Event} {res':Result β×Array Event}:fQ h=true->Af P A ρ w' (.halt h w1,es1) res'
def drew{α:Type}(w:aa)(m:Nat):Result α×Array Event->Prop
 |(.ok _ w1,_)=>w1.drawn=w.drawn+m
 |(.halt _ w1,_)=>w1.drawn=w.drawn+m
def RunT(P:aF){α β:Type}(A:Rn->α->β->Prop)(ρ:Rn)(s:Sem α)(w:aa)(es:Array Event)(w':aa)(res':Result β×Array Event):Prop:=
 ∃m ts res,Qi P s w es m ts res/\drew w m res/\Af P A ρ w' res res'
theorem Af.back{P:aF}{α β:Type}{A:Rn->α->β->Prop}{ρ σ:Rn}{w' w1':aa}{res:Result α×Array Event}{res':Result β×Array Event}(h:Af P A σ w1' res res')(hg:Grow ρ σ w' w1')(hf:gM w' w1' (Own ρ)):Af P A ρ w' res res':=by
 have hM:∀y,y<w'.heap.size->Own σ y->Own ρ y:=by rintro y hy ⟨x,hx⟩;rcases hg.new x y hx with k|k;exact⟨x,k⟩;omega
 cases h with
 |ok g a b c d=>exact .ok (hg.trans g hf.size d.size) a b c (hf.trans d hM)
 |panic g a b c d=>exact .panic (hg.trans g hf.size d.size) a b c (hf.trans d hM)
 |fQ h=>exact .fQ h
theorem vD{w:aa}{a:Addr}{what:String}:fQ (w.noCell a what)=true:=by unfold World.noCell;split<;>rfl
theorem WR.cell{P:aF}{ρ:Rn}{w w':aa}(h:WR P ρ w w'){a a':Addr}(ha:bI ρ a a'){v:ae}(hv:w.cell? a=some v):∃v',w'.cell? a'=some v'/\VR ρ v v':=by
 obtain⟨ab,ao,as⟩:=a;obtain⟨ZG,ao',as'⟩:=a';obtain⟨hb,ho,hs⟩:=ha;dsimp only at hb ho hs;subst ho hs;have key:∃c c' e fr fr',w.heap[ab]?=some (.cells c e fr)/\w'.heap[ZG]?=some (.cells c' e fr')/\AR ρ c c':=by
  rcases hb with⟨hk,rfl⟩|hr;by_cases hd:ρ.D ZG;obtain⟨c,e,c',e',h1,_⟩:=(h.dead _ hd).row;unfold World.cell? at hv;rw[h1]at hv;cases hv;obtain⟨c,e,n,h1,h2,_,_,h3⟩:=(h.low _ hk hd).row;exact⟨c,c,e,_,_,h1,h2,h3⟩
  ·obtain⟨o,o',h1,h2,ho⟩:=h.own hr;cases ho with
   |cells e fr hc=>exact⟨_,_,e,fr,fr,h1,h2,hc⟩
   |_=>unfold World.cell? at hv;rw[h1]at hv;cases hv
 obtain⟨c,c',e,fr,fr',h1,h2,hc⟩:=key;unfold World.cell? at hv⊢;dsimp only at hv⊢;rw[h1]at hv;rw[h2];dsimp only at hv⊢;split at hv;cases hv;rename_i hsp;rw[if_neg hsp];rcases hc.get ao' with⟨k,_⟩|⟨u,u',k1,k2,k3⟩;rw[k]at hv;cases hv;rw[k1]at hv;injection hv with hv;subst hv;exact⟨u',k2,k3⟩
theorem WR.turn{P:aF}{ρ:Rn}{w w' w1 w1':aa}(h:WR P ρ w w'){x y:Nat}(hr:ρ.r x y){o o':Obj}(hx:w1.heap[x]?=some o)(hy:w1'.heap[y]?=some o')(ho:jf ρ o o')
 (h1:∀z,z≠x->w1.heap[z]?=w.heap[z]?)(h2:∀z,z≠y->w1'.heap[z]?=w'.heap[z]?)(hs1:w1.heap.size=w.heap.size)(hs2:w1'.heap.size=w'.heap.size)(ho1:w1.os=w.os)(ho2:w1'.os=w'.os):WR P ρ w1 w1' where
 own:=by
  intro a b hab
  by_cases e:a=x
  ·subst e
   obtain rfl:=ρ.fn hab hr
   exact⟨o,o',hx,hy,ho⟩
  ·have e2:b≠y:=λe2=>by subst e2;exact e (ρ.inj hab hr)
   obtain⟨p,p',k1,k2,k3⟩:=h.own hab
   exact⟨p,p',(h1 a e).trans k1,(h2 b e2).trans k2,k3⟩
 low:=by
  intro z hz hd
  have e1:z≠x:=λe=>by subst e;have:=ρ.kb hz;have:=(ρ.lo hr).1;omega
  have e2:z≠y:=λe=>by subst e;have:=ρ.kb hz;have:=(ρ.lo hr).2;omega
  obtain⟨c,e,n,k1,k2,k3⟩:=(h.low z hz hd).row
  exact⟨c,e,n,(h1 z e1).trans k1,(h2 z e2).trans k2,k3⟩
 dead:=by
  intro z hz
  have e1:z≠x:=λe=>by subst e;have:=ρ.kb (ρ.dk hz);have:=(ρ.lo hr).1;omega
  have e2:z≠y:=λe=>by subst e;have:=ρ.kb (ρ.dk hz);have:=(ρ.lo hr).2;omega
  obtain⟨c,e,c',e',k1,k2,k3⟩:=(h.dead z hz).row
  exact⟨c,e,c',e',(h1 z e1).trans k1,(h2 z e2).trans k2,k3⟩
 tab:=by
  intro z hz
  have e1:z≠x:=λe=>by subst e;have:=ρ.tb hz;have:=(ρ.lo hr).1;omega
  have e2:z≠y:=λe=>by subst e;have:=ρ.tb hz;have:=(ρ.lo hr).2;omega
  obtain⟨c,e,fr,c',e',fr',k1,k2,k3⟩:=(h.tab z hz).row
  exact⟨c,e,fr,c',e',fr',(h1 z e1).trans k1,(h2 z e2).trans k2,k3⟩
 os:=ho2.trans (h.os.trans ho1.symm)
 CC:=by rw[hs1];exact h.CC
 CE:=by rw[hs2];exact h.CE
theorem gM.turn{ρ:Rn}{w' w1':aa}{x y:Nat}(hr:ρ.r x y)(ht:w1'.tape=w'.tape)(ho:w1'.os=w'.os)(hp:w1'.output=w'.output)(hd:w1'.drawn=w'.drawn)(hs:w1'.heap.size=w'.heap.size)(h2:∀z,z≠y->w1'.heap[z]?=w'.heap[z]?):gM w' w1' (Own ρ):=
 ⟨ht,ho,hp,oM,oM,λz _ hn=>h2 z λe=>hn ⟨x,e▸hr⟩⟩
theorem pX{w:aa}{a:Addr}{v:ae}{z:Nat}(h:z≠a.block):(w.setCell a v).heap[z]?=w.heap[z]?:=by exact zai
theorem vE{w:aa}{a:Addr}{v:ae}{c:bw}{e:aw}{fr:Nat×Nat}(h:w.heap[a.block]?=some (.cells c e fr)):(w.setCell a v).heap[a.block]?=some (.cells (if a.spot.isSome then c else c.setIfInBounds a.off v) e fr):=by show(w.heap.modify a.block _)[a.block]?=_;rw[Array.getElem?_modify,if_pos rfl,h];rfl
theorem pY{w:aa}{a:Addr}{n:Nat}{z:Nat}(h:z≠a.block):(w.freeze a n).heap[z]?=w.heap[z]?:=by unfold World.freeze;split;rfl;exact zai
theorem vF(w:aa)(a:Addr)(n:Nat):(w.freeze a n).tape=w.tape/\(w.freeze a n).os=w.os/\(w.freeze a n).output=w.output/\(w.freeze a n).drawn=w.drawn/\(w.freeze a n).heap.size=w.heap.size:=by unfold World.freeze;split;exact⟨rfl,rfl,rfl,rfl,rfl⟩;exact⟨rfl,rfl,rfl,rfl,sM⟩
def Uw(a:Addr)(n:Nat):Obj->Obj
 |.cells c elem (lo,hi)=>.cells c elem (if lo==hi then(a.off,a.off+n)else(min lo a.off,max hi (a.off+n)))
 |o=>o
theorem vG{w:aa}{a:Addr}{n:Nat}{o:Obj}(h:w.heap[a.block]?=some o):(w.freeze a n).heap[a.block]?=some (if n=0 then o else Uw a n o):=by unfold World.freeze;split;exact h;show(w.heap.modify a.block _)[a.block]?=_;rw[Array.getElem?_modify,if_pos rfl,h];cases o<;>rfl
theorem Xs{ρ:Rn}{a a':Addr}(ha:a'.off=a.off)(n:Nat){o o':Obj}(h:jf ρ o o'):jf ρ (Uw a n o) (Uw a' n o'):=by
 cases h with
 |cells e fr c=>obtain⟨lo,hi⟩:=fr;unfold Uw;rw[ha];exact .cells _ _ c
 |map k es=>exact .map k es
 |iter s p=>exact .iter s p
 |loop l=>exact .loop l
 |number b a=>exact .number b a
 |view t a=>exact .view t a
 |GW=>exact .GW
 |Dv l=>exact .Dv l
theorem WR.store{P:aF}{ρ:Rn}{w w':aa}(h:WR P ρ w w'){a a':Addr}(ha:bI ρ a a')(hr:ρ.r a.block a'.block){v v':ae}(hv:VR ρ v v'){u:ae}(hu:w.cell? a=some u):WR P ρ (w.setCell a v) (w'.setCell a' v'):=by
 obtain⟨o,o',h1,h2,ho⟩:=h.own hr;have hc:∃c e fr,o=.cells c e fr:=by unfold World.cell? at hu;rw[h1]at hu;cases ho<;>first|exact⟨_,_,_,rfl⟩|cases hu
 obtain⟨c,e,fr,rfl⟩:=hc;cases ho with
 |cells _ _ hcc=>refine h.turn hr (vE h1) (vE h2) ?_ (λz hz=>pX hz) (λz hz=>pX hz) zat zat rfl rfl;rw[ha.spot,ha.off];split;exact .cells _ _ hcc;exact .cells _ _ (hcc.set _ hv)
theorem WR.new{P:aF}{ρ:Rn}{w w':aa}(h:WR P ρ w w'){o o':Obj}(ho:jf ρ o o'):
 ∃σ,Grow ρ σ w' {w' with heap:=w'.heap.push o'}/\σ.r w.heap.size w'.heap.size/\WR P σ {w with heap:=w.heap.push o} {w' with heap:=w'.heap.push o'}:=by
 have nx:∀z,¬ρ.r w.heap.size z:=λz hz=>by have:=(h.lt hz).1;omega
 have ny:∀z,¬ρ.r z w'.heap.size:=λz hz=>by have:=(h.lt hz).2;omega
 refine⟨ρ.add w.heap.size w'.heap.size h.CC h.CE nx ny,⟨Rn.zY,λx y hr=>?_⟩,.inr ⟨rfl,rfl⟩,?_⟩;rcases hr with hr|⟨rfl,rfl⟩;exact .inl hr;exact .inr ⟨aj _,sM⟩;refine⟨λ{x y} hr=>?_,λz hz hd=>?_,λz hz=>?_,λz hz=>?_,h.os,by have:=h.CC;simp;show ρ.B<=_;omega,by have:=h.CE;simp;show ρ.B<=_;omega⟩;rcases hr with hr|⟨rfl,rfl⟩;obtain⟨p,p',k1,k2,k3⟩:=h.own hr;have l:=h.lt hr;exact⟨p,p',(cL l.1).trans (by rw[<-k1,aZ l.1]),(cL l.2).trans (by rw[<-k2,aZ l.2]),k3.mono Rn.zY⟩;exact⟨o,o',sM,sM,ho.mono Rn.zY⟩;have hz':ρ.K z:=hz;obtain⟨c,e,n,k1,k2,k3,k4,k5⟩:=(h.low z hz' hd).row;have l1:=(az.1 k1).1;have l2:=(az.1 k2).1;exact⟨c,e,n,(cL l1).trans zaA,(cL l2).trans zay,k3,k4,k5.mono Rn.zY⟩;have hz':ρ.D z:=hz;obtain⟨c,e,c',e',k1,k2,k3⟩:=(h.dead z hz').row;have l1:=(az.1 k1).1;have l2:=(az.1 k2).1;exact⟨c,e,c',e',(cL l1).trans zaA,(cL l2).trans zay,k3⟩;have hz':ρ.T z:=hz;obtain⟨c,e,fr,c',e',fr',k1,k2,k3⟩:=(h.tab z hz').row;have l1:=(az.1 k1).1;have l2:=(az.1 k2).1;exact⟨c,e,fr,c',e',fr',(cL l1).trans zaA,(cL l2).trans zay,k3⟩
section
variable {P:aF}{ρ:Rn}
theorem VR.bytes{v v':ae}(h:VR ρ v v'):v'.bytes?=v.bytes?:=by cases h<;>rfl
theorem VR.ofBytes{v v':ae}(h:VR ρ v v')(bs:List UInt8):v'.ofBytes bs=v.ofBytes bs:=by cases h<;>rfl
theorem Dw{l v:ae}{bs:List UInt8}(h:l.ofBytes bs=some v):VR ρ v v:=by
 unfold Value.ofBytes at h;split at h;split at h<;>first|(cases h;exact .bool _)|cases h
 ·split at h;cases h;exact .int _ _;cases h
 ·split at h;cases h;exact .float _ _;cases h
 ·split at h;cases h;exact .complex _ _ _;cases h
 ·cases h
theorem vH{c c':bw}(hc:AR ρ c c')(e:aw):∀(f x stop:Nat),seenCells P c' e f x stop=seenCells P c e f x stop
 |0,_,_=>rfl
 |f+1,x,stop=>by unfold seenCells;split;rfl;dsimp only;split;rfl;split;rfl;rename_i i s _;rcases hc.get i with⟨h1,h2⟩|⟨v,v',h1,h2,h3⟩;rw[h1,h2];rw[h1,h2];dsimp only;rw[h3.bytes];split;rfl;rfl;rw[vH hc e f]
structure Kw(ρ:Rn)(w w':aa)(a a':Addr)(c c':bw)(e:aw)(fr fr':Nat×Nat):Prop where
 left:w.heap[a.block]?=some (.cells c e fr)
 right:w'.heap[a'.block]?=some (.cells c' e fr')
 cells:AR ρ c c'
 kind:(ρ.r a.block a'.block/\fr'=fr)\/(ρ.K a.block/\fr.1=0/\c.size<fr.2)
theorem WR.rows{w w':aa}(h:WR P ρ w w'){a a':Addr}(ha:bI ρ a a'){c:bw}{e:aw}{fr:Nat×Nat}(hl:w.heap[a.block]?=some (.cells c e fr)):∃c' fr',Kw ρ w w' a a' c c' e fr fr':=by
 rcases ha.b with⟨hk,e1⟩|hr;by_cases hd:ρ.D a.block;obtain⟨c2,e2,c3,e3,k1,_⟩:=(h.dead _ hd).row;rw[hl]at k1;cases k1;obtain⟨c2,e2,n,k1,k2,k3,_,k5⟩:=(h.low _ hk hd).row;have k1':=k1;rw[hl]at k1;cases k1;exact⟨c,(0,0),hl,by rw[e1];exact k2,k5,.inr ⟨hk,rfl,k3⟩⟩
 ·obtain⟨o,o',h1,h2,ho⟩:=h.own hr;rw[h1]at hl;cases hl;cases ho with
  |cells _ _ hc=>exact⟨_,_,h1,h2,hc,.inl ⟨hr,rfl⟩⟩
theorem GY{α:Type}(s:String):(MonadExcept.throw s:Except String α)=.error s:=rfl
theorem NT{w:aa}{b a:Addr}{u:aw}{q:Bool}{z:bw×aw×(Nat×Nat)×Nat×ae×List (Nat×Nat×List UInt8)}(hs:w.seen P b u a q=.ok z):w.heap[b.block]?=some (.cells z.1 z.2.1 z.2.2.1):=by
 unfold World.seen at hs;simp only[bind,Except.bind,pure,Except.pure,GY]at hs;cases h:w.heap[b.block]? with
 |none=>
  rw[h]at hs;dsimp only at hs;repeat' split at hs
  all_goals cases hs
 |some o=>
  rw[h]at hs;cases o<;>dsimp only at hs<;>repeat' split at hs
  all_goals first|(cases hs;done)|(cases hs;rfl)
theorem M3{w w':aa}(h:WR P ρ w w'){b b' a a':Addr}(hb:bI ρ b b')(ha:bI ρ a a')(u:aw)(q:Bool){c:bw}{e:aw}{fr:Nat×Nat}{first:Nat}{like:ae}{l:List (Nat×Nat×List UInt8)}
 (hs:w.seen P b u a q=.ok (c,e,fr,first,like,l)):∃c' fr',Kw ρ w w' b b' c c' e fr fr'/\w'.seen P b' u a' q=.ok (c',e,fr',first,like,l):=by
 have hl:w.heap[b.block]?=some (.cells c e fr):=NT hs;obtain⟨c',fr',hr⟩:=h.rows hb hl;refine⟨c',fr',hr,?_⟩;unfold World.seen at hs⊢;simp only[bind,Except.bind,pure,Except.pure,GY,hb.spot,ha.spot,hb.off,ha.off,hl,hr.right,vH hr.cells]at hs⊢;repeat' split at hs
 all_goals first|(cases hs;done)|(cases hs;simp only[*];rfl)|(cases hs;simp[*])
inductive xE(ρ:Rn):List Addr->List Addr->Prop
 |nil:xE ρ [] []
 |cons {a a':Addr} {l l':List Addr}:bI ρ a a'->xE ρ l l'->xE ρ (a::l) (a'::l')
theorem Ag{b b':Nat}(h:ρ.b b b'):∀l:List (Nat×Nat×List UInt8),xE ρ (l.map λ(i,_,_)=>{block:=b,off:=i}) (l.map λ(i,_,_)=>{block:=b',off:=i})
 |[]=>.nil
 |_::l=>.cons ⟨h,rfl,rfl⟩ (Ag h l)
theorem GZ{w w':aa}(h:WR P ρ w w'){b b' a a':Addr}(hb:bI ρ b b')(ha:bI ρ a a')(u:aw)(q:Bool){v:ae}{l:List Addr}
 (hs:w.viewLoad P b u a q=.ok (v,l)):∃l',w'.viewLoad P b' u a' q=.ok (v,l')/\VR ρ v v/\xE ρ l l':=by
 unfold World.viewLoad at hs⊢;simp only[bind,Except.bind,pure,Except.pure,GY]at hs⊢;split at hs;cases hs;rename_i z hz;obtain⟨c,e,fr,first,like,m⟩:=z;obtain⟨c',fr',hr,hz'⟩:=M3 h hb ha u q hz;rw[hz'];dsimp only at hs⊢;split at hs;rename_i v2 hv;cases hs;exact⟨_,rfl,Dw hv,Ag hb.b m⟩;cases hs
def pZ(fr:Nat×Nat)(first:Nat)(bytes:List UInt8)(c:bw):Nat×Nat×List UInt8->Except String bw:=λ(i,s,bs)=>do
 if s<first||s+bs.length>first+bytes.length then MonadExcept.throw "memory seen as another type: a part of a cell written"
 if fr.1<=i&&i<fr.2 then MonadExcept.throw "a write to bytes that a string shares"
 let some old:=c[i]?|MonadExcept.throw "memory seen as another type: no such cell"
 let some new:=old.ofBytes ((bytes.drop (s-first)).take bs.length)|MonadExcept.throw "memory seen as another type: a bool from a byte other than 0 or 1"
 pure (c.setIfInBounds i new)
theorem Qj{fr:Nat×Nat}{first:Nat}{bytes:List UInt8}{c c' d:bw}(hc:AR ρ c c'){x:Nat×Nat×List UInt8}(h:pZ fr first bytes c x=.ok d):∃d',pZ fr first bytes c' x=.ok d'/\AR ρ d d':=by
 obtain⟨i,s,bs⟩:=x;unfold pZ at h⊢;simp only[bind,Except.bind,pure,Except.pure,GY]at h⊢;rcases hc.get i with⟨h1,h2⟩|⟨v,v',h1,h2,h3⟩
 ·rw[h1]at h;repeat' split at h
  all_goals first|(cases h;done)|contradiction
 ·rw[h1]at h;rw[h2];dsimp only at h⊢;rw[h3.ofBytes];repeat' split at h
  all_goals first|(cases h;done)|(cases h;simp only[*];exact⟨_,rfl,hc.set _ (Dw ‹_›)⟩)
theorem G0{fr:Nat×Nat}{first:Nat}{bytes:List UInt8}:∀(l:List (Nat×Nat×List UInt8)){c c' d:bw},AR ρ c c'->l.foldlM (pZ fr first bytes) c=.ok d->∃d',l.foldlM (pZ fr first bytes) c'=.ok d'/\AR ρ d d'
 |[],c,c',d,hc,h=>by cases h;exact⟨c',rfl,hc⟩
 |x::l,c,c',d,hc,h=>by rw[List.foldlM_cons]at h⊢;simp only[bind,Except.bind]at h⊢;split at h;cases h;rename_i z hz;obtain⟨z',h1,h2⟩:=Qj hc hz;rw[h1];exact G0 l h2 h
theorem Qk{fr:Nat×Nat}{first:Nat}{bytes:List UInt8}{c d:bw}(h0:fr.1=0)(h1:c.size<fr.2):∀(l:List (Nat×Nat×List UInt8)),l.foldlM (pZ fr first bytes) c=.ok d->l=[]
 |[],_=>rfl
 |(i,s,bs)::l,h=>by rw[List.foldlM_cons]at h;simp only[bind,Except.bind]at h;split at h;cases h;rename_i z hz;exfalso;unfold pZ at hz;simp only[bind,Except.bind,pure,Except.pure,GY]at hz;(repeat' split at hz);(all_goals first|(cases hz;done)|skip);rename_i k1 _ _ k2 _ _ _;have:=(az.1 k2).1;simp at k1;have:=k1 oM;omega
theorem EN{w w':aa}(h:WR P ρ w w'){b b' a a':Addr}(hb:bI ρ b b')(ha:bI ρ a a')(u:aw)(q:Bool){v v':ae}(hv:VR ρ v v'){l:List Addr}{w1:aa}
 (hs:w.viewStore P b u a v q=.ok (w1,l)):∃c d c' d' e fr fr' l',Kw ρ w w' b b' c c' e fr fr'/\AR ρ d d'/\w1={w with heap:=w.heap.setIfInBounds b.block (.cells d e fr)}/\
  w'.viewStore P b' u a' v' q=.ok ({w' with heap:=w'.heap.setIfInBounds b'.block (.cells d' e fr')},l')/\xE ρ l l'/\(ρ.r b.block b'.block\/(l=[]/\d=c/\d'=c')):=by
 unfold World.viewStore at hs⊢;simp only[bind,Except.bind,pure,Except.pure,GY]at hs⊢;split at hs;cases hs
 ·split at hs;cases hs
  ·rename_i ht _ z hz;obtain⟨c,e,fr,first,like,m⟩:=z;obtain⟨c',fr',hr,hz'⟩:=M3 h hb ha u q hz;rw[if_neg ht,hz'];dsimp only at hs⊢;rw[hv.bytes];split at hs
   ·rename_i bytes hby
    split at hs;cases hs;rename_i hn;split at hs;cases hs;rename_i d hd;have hd':m.foldlM (pZ fr first bytes) c=.ok d:=hd;injection hs with hs;simp only[Prod.mk.injEq]at hs;obtain⟨rfl,rfl⟩:=hs;(have hh:∃d',m.foldlM (pZ fr' first bytes) c'=.ok d'/\AR ρ d d'/\(ρ.r b.block b'.block\/(m=[]/\d=c/\d'=c')):=by rcases hr.kind with⟨k1,k2⟩|⟨k1,k2,k3⟩;subst k2;obtain⟨d',h1,h2⟩:=G0 m hr.cells hd';exact⟨d',h1,h2,.inl k1⟩;have hm:=Qk k2 k3 m hd';subst hm;cases hd';exact⟨c',rfl,hr.cells,.inr ⟨rfl,rfl,rfl⟩⟩);obtain⟨d',h1,h2,h3⟩:=hh;refine⟨c,d,c',d',e,fr,fr',_,hr,h2,rfl,?_,Ag hb.b m,h3.imp_right λ⟨x,y,z⟩=>⟨by rw[x];rfl,y,z⟩⟩;rw[if_neg hn];split;rename_i er he;exact absurd (he.symm.trans h1) sM;rename_i d2 he;have:=he.symm.trans h1;injection this with this;rw[this]
   ·cases hs
end
section
variable {P:aF}{α β:Type}{A:Rn->α->β->Prop}{ρ:Rn}
theorem kI(w:aa)(T:Nat->Question->Nat)(a:Addr):(on w T).cell? a=w.cell? a:=rfl
theorem Ah(w:aa)(T:Nat->Question->Nat)(a:Addr):(on w T).frozen? a=w.frozen? a:=rfl
theorem yF{w:aa}{a:Addr}{b:Bool}(h2:∀c e,w.heap[a.block]?≠some (.view c e)):w.farLoad P a b=.error (w.noCell a "load: no such cell"):=by unfold World.farLoad;split;rename_i c e hh;exact absurd hh (h2 c e);rfl
theorem Ky{w w':aa}(h:WR P ρ w w'){a a':Addr}(ha:bI ρ a a'):(∃hh,fQ hh=true/\w.farLoad P a false=.error hh)\/∃v l l',w.farLoad P a false=.ok (v,l)/\w'.farLoad P a' false=.ok (v,l')/\VR ρ v v/\xE ρ l l'/\w'.cell? a'=none:=by
 by_cases hv:∃at_ u,w.heap[a.block]?=some (.view at_ u)
 ·obtain⟨at_,u,hv⟩:=hv;rcases ha.b with⟨hk,_⟩|hr;by_cases hd:ρ.D a.block;exact zaq;exact zar
  ·obtain⟨o,o',h1,h2,ho⟩:=h.own hr;rw[hv]at h1;cases h1;cases ho with
   |view _ hat=>
    cases hl:w.viewLoad P at_ u a false with
    |error e=>exact .inl ⟨.unsupported (.unsafePointer e),rfl,zas⟩
    |ok z=>obtain⟨v,l⟩:=z;obtain⟨l',k1,k2,k3⟩:=GZ h hat ha u false hl;refine .inr ⟨v,l,l',zas,by unfold World.farLoad;rw[h2];dsimp only;rw[k1],k2,k3,?_⟩;unfold World.cell?;rw[h2]
 ·exact .inl ⟨_,vD,yF λc e k=>hv ⟨c,e,k⟩⟩
theorem EO{w:aa}{a:Addr}{v:ae}{b:Bool}(h2:∀c e,w.heap[a.block]?≠some (.view c e)):w.farStore P a v b=.error (w.noCell a "store: no such cell"):=by unfold World.farStore;split;rename_i c e hh;exact absurd hh (h2 c e);rfl
theorem heap_put{w:aa}{x:Nat}{q:Obj}{z:Nat}(hz:z≠x):({w with heap:=w.heap.setIfInBounds x q}:aa).heap[z]?=w.heap[z]?:=by show(w.heap.setIfInBounds x q)[z]?=_;rw[cx,if_neg (λe=>hz e.symm)]
theorem abu{w:aa}{x:Nat}{q:Obj}(hx:x<w.heap.size):({w with heap:=w.heap.setIfInBounds x q}:aa).heap[x]?=some q:=by show(w.heap.setIfInBounds x q)[x]?=_;rw[cx,if_pos rfl,if_pos hx]
theorem nA{w:aa}{x:Nat}{q:Obj}(hx:w.heap[x]?=some q)(z:Nat):({w with heap:=w.heap.setIfInBounds x q}:aa).heap[z]?=w.heap[z]?:=by by_cases e:z=x;subst e;rw[abu (az.1 hx).1,hx];exact heap_put e
theorem WR.same{w w' w1 w1':aa}(h:WR P ρ w w')(h1:∀z:Nat,w1.heap[z]?=w.heap[z]?)(h2:∀z:Nat,w1'.heap[z]?=w'.heap[z]?)(s1:w1.heap.size=w.heap.size)(s2:w1'.heap.size=w'.heap.size)(o1:w1.os=w.os)(o2:w1'.os=w'.os):WR P ρ w1 w1' where
 own hr:=by
  obtain⟨o,o',k1,k2,k3⟩:=h.own hr
  exact⟨o,o',(h1 _).trans k1,(h2 _).trans k2,k3⟩
 low x hx hd:=by
  obtain⟨c,e,n,k1,k2,k3⟩:=(h.low x hx hd).row
  exact⟨c,e,n,(h1 _).trans k1,(h2 _).trans k2,k3⟩
 dead x hx:=by
  obtain⟨c,e,c',e',k1,k2,k3⟩:=(h.dead x hx).row
  exact⟨c,e,c',e',(h1 _).trans k1,(h2 _).trans k2,k3⟩
 tab x hx:=by
  obtain⟨c,e,fr,c',e',fr',k1,k2,k3⟩:=(h.tab x hx).row
  exact⟨c,e,fr,c',e',fr',(h1 _).trans k1,(h2 _).trans k2,k3⟩
 os:=o2.trans (h.os.trans o1.symm)
 CC:=by rw[s1];exact h.CC
 CE:=by rw[s2];exact h.CE
theorem ul(w:aa)(T:Nat->Question->Nat)(b:Addr)(u:aw)(a:Addr)(v:ae)(q:Bool):(on w T).viewStore P b u a v q=(w.viewStore P b u a v q).map λ(w,l)=>(on w T,l):=by
 have e:(on w T).seen P b u a q=w.seen P b u a q:=rfl;unfold World.viewStore;rw[e];simp only[bind,Except.bind,pure,Except.pure,GY];repeat' split
 all_goals rfl
theorem um{w w1:aa}{b a:Addr}{u:aw}{v:ae}{q:Bool}{l:List Addr}(h:w.viewStore P b u a v q=.ok (w1,l)):∀x∈l,x.block=b.block:=by
 unfold World.viewStore at h;simp only[bind,Except.bind,pure,Except.pure,GY]at h;repeat' split at h
 all_goals first|(cases h;done)|(cases h;intro x hx;obtain⟨y,_,rfl⟩:=List.mem_map.1 hx;rfl)
theorem G1{w w':aa}(h:WR P ρ w w'){a a':Addr}(ha:bI ρ a a'){v v':ae}(ub:VR ρ v v'):(∃hh,fQ hh=true/\∀T,(on w T).farStore P a v false=.error hh)\/
 ∃w1 w1' l l',(∀T,(on w T).farStore P a v false=.ok (on w1 T,l))/\w'.farStore P a' v' false=.ok (w1',l')/\xE ρ l l'/\(l=[]\/∃b b':Nat,ρ.r b b'/\(∀x∈l,x.block=b)/\∀x∈l',x.block=b')/\w'.cell? a'=none/\WR P ρ w1 w1'/\gM w' w1' (Own ρ)/\w1.drawn=w.drawn:=by
 by_cases hv:∃at_ u,w.heap[a.block]?=some (.view at_ u)
 ·obtain⟨at_,u,hv⟩:=hv;rcases ha.b with⟨hk,_⟩|hr;by_cases hd:ρ.D a.block;exact zaq;exact zar
  ·obtain⟨o,o',h1,h2,ho⟩:=h.own hr;rw[hv]at h1;cases h1;cases ho with
   |view _ hat=>
    cases hl:w.viewStore P at_ u a v false with
    |error e=>refine .inl ⟨.unsupported (.unsafePointer e),rfl,λT=>?_⟩;exact zae
    |ok z=>obtain⟨w1,l⟩:=z;obtain⟨c,d,c',d',e,fr,fr',l',g1,g2,rfl,g3,g4,g5⟩:=EN h hat ha u false ub hl;have z1:=(az.1 g1.left).1;(have g3':∀z,w'.viewStore P _ u a' v' false=.ok z->w'.farStore P a' v' false=.ok z:=λz k=>by unfold World.farStore;rw[h2];dsimp only;rw[k]);have z2:=(az.1 g1.right).1;refine .inr ⟨{w with heap:=w.heap.setIfInBounds at_.block (.cells d e fr)},{w' with heap:=w'.heap.setIfInBounds _ (.cells d' e fr')},l,l',λT=>?_,g3' _ g3,g4,?_,?_,?_,?_,rfl⟩;exact zae;rcases g5 with g5|g5;exact .inr ⟨_,_,g5,um hl,um g3⟩;exact .inl g5.1;unfold World.cell?;rw[h2];rcases g5 with g5|⟨_,rfl,rfl⟩;(obtain⟨_,rfl⟩:=g1.kind.resolve_right λk=>by have:=ρ.kb k.1;have:=(ρ.lo g5).1;omega);exact h.turn g5 (abu z1) (abu z2) (.cells _ _ g2) (λz hz=>heap_put hz) (λz hz=>heap_put hz) sM sM rfl rfl;exact h.same (nA g1.left) (nA g1.right) sM sM rfl rfl;rcases g5 with g5|⟨_,rfl,rfl⟩;exact gM.turn g5 rfl rfl rfl rfl sM (λz hz=>heap_put hz);exact⟨rfl,rfl,rfl,aj _,sM,λy _ _=>nA g1.right y⟩
 ·exact .inl ⟨_,vD,λT=>EO λc e k=>hv ⟨c,e,k⟩⟩
theorem eG.app{a a' b b':List Event}:eG ρ a a'->eG ρ b b'->eG ρ (a++b) (a'++b')
 |.nil,h=>h
 |.cons x y,h=>.cons x (eG.app y h)
 |.left r y,h=>.left r (eG.app y h)
theorem xE.evs{wr:Bool}:∀{l l':List Addr},xE ρ l l'->(wr=true->∃b b':Nat,ρ.r b b'/\(∀x∈l,x.block=b)/\∀x∈l',x.block=b')->eG ρ (l.map λx=>(⟨.cell x,wr,false⟩:Event)) (l'.map λx=>(⟨.cell x,wr,false⟩:Event))
 |_,_,.nil,_=>.nil
 |_,_,.cons (a:=a) (a':=a') x y,h=>.cons ⟨.cell x,rfl,rfl,λb hb hw=>by
  cases hb;obtain⟨c,c',h1,h2,h3⟩:=h hw;have e1:=h2 a sM;have e2:=h3 a' sM;show ρ.r a.block a'.block;rw[e1,e2];exact h1,λ_=>rfl⟩ (xE.evs y λhw=>by
  obtain⟨c,c',h1,h2,h3⟩:=h hw;exact⟨c,c',h1,λx hx=>h2 x (by simp[hx]),λx hx=>h3 x (by simp[hx])⟩)
theorem eG.arr{es es':Array Event}(h:eG ρ es.toList es'.toList){wr:Bool}{l l':List Addr}(k:xE ρ l l')(hw:wr=true->l=[]\/∃b b':Nat,ρ.r b b'/\(∀x∈l,x.block=b)/\∀x∈l',x.block=b'):
 eG ρ (es++l.toArray.map λx=>(⟨.cell x,wr,false⟩:Event)).toList (es'++l'.toArray.map λx=>(⟨.cell x,wr,false⟩:Event)).toList:=by
 rw[cV,cV,cS,cS];cases k with
 |nil=>exact h.app .nil
 |cons x y=>exact h.app ((xE.cons x y).evs λk=>(hw k).resolve_left sM)
theorem bI.frozen{w w':aa}(h:WR P ρ w w'){a a':Addr}(ha:bI ρ a a')(hr:ρ.r a.block a'.block):w'.frozen? a'=w.frozen? a:=by obtain⟨o,o',h1,h2,ho⟩:=h.own hr;unfold World.frozen?;rw[h1,h2,ha.off];cases ho<;>rfl
theorem bI.G2{w w':aa}(h:WR P ρ w w'){a':Addr}(hk:ρ.K a'.block):w'.frozen? a'=false:=by by_cases hd:ρ.D a'.block;obtain⟨c,e,c',e',k1,k2,k3⟩:=(h.dead _ hd).row;unfold World.frozen?;rw[k2];simp;obtain⟨c,e1,n,k1,k2,k3⟩:=(h.low _ hk hd).row;unfold World.frozen?;rw[k2];simp
theorem WR.Ux{w w':aa}(h:WR P ρ w w'){a:Addr}(hk:ρ.K a.block){u:ae}(hu:w.cell? a=some u):w.frozen? a=true:=by by_cases hd:ρ.D a.block;obtain⟨c,e,c',e',k1,_⟩:=(h.dead _ hd).row;unfold World.cell? at hu;rw[k1]at hu;cases hu;obtain⟨c,e,n,k1,k2,k3,_⟩:=(h.low _ hk hd).row;unfold World.cell? at hu;rw[k1]at hu;dsimp only at hu;split at hu;cases hu;have hj:=(az.1 hu).1;unfold World.frozen?;rw[k1];simp;omega
theorem bI.K{a a':Addr}(h:bI ρ a a')(hk:ρ.K a.block):a'.block=a.block:=by rcases h.b with⟨_,e⟩|hr;exact e;have:=ρ.kb hk;have:=(ρ.lo hr).1;omega
theorem G3{w w1:aa}(h:w1.drawn=w.drawn){m:Nat}{res:Result α×Array Event}(g:drew w1 m res):drew w m res:=by
 cases res with
 |mk r es1=>
  cases r with
  |ok a u=>exact zaw
  |halt hh u=>exact zaw
theorem Ql{s:Sem α}(h:Sk (λ_=>False) s):∀(w:aa)(es:Array Event),∃hh es1,fQ hh=true/\∀T,s.runT P (on w T) es=ZF T (.halt hh w,es1):=by
 induction h with
 |pure k=>exact k.elim
 |shape _ ih=>intro w es;obtain⟨hh,es1,h1,h2⟩:=ih (w.shape? _) w es;exact zaz
 |frozen _ ih=>intro w es;obtain⟨hh,es1,h1,h2⟩:=ih (w.frozen? _) w es;exact zaz
 |room _ ih=>intro w es;obtain⟨hh,es1,h1,h2⟩:=ih w (es.push ⟨.mark .noRoom,false,true⟩);exact zaz
 |halt hd=>intro w es;exact⟨_,es,hd,λT=>rfl⟩
theorem aP.run{s:Sem α}{s':Sem β}(h:aP P A ρ s s'):∀(w w':aa)(es es':Array Event),WR P ρ w w'->eG ρ es.toList es'.toList->RunT P A ρ s w es w' (s'.runT P w' es'):=by
 induction h with
 |pure ha=>intro w w' es es' hw he;exact⟨0,λ_ _=>0,(.ok _ w,es),λT _=>rfl,rfl,.ok (Grow.refl _ _) ha hw he (gM.refl _ _)⟩
 | @load ρ a a' k k' ha _ ih=>
  intro w w' es es' hw he;cases hv:w.cell? a with
  |some v=>obtain⟨v',hv',ub⟩:=hw.cell ha hv;(have hls:eG ρ (es.push ⟨.cell a,false,false⟩).toList (es'.push ⟨.cell a',false,false⟩).toList:=by rw[bH,bH];exact eG.snoc (e:=⟨.cell a,false,false⟩) (e':=⟨.cell a',false,false⟩) ⟨.cell ha,rfl,rfl,λb hb hwr=>(by cases hwr),λ_=>rfl⟩ he);obtain⟨m,ts,res,h1,h2,h3⟩:=ih v v' ub w w' _ _ hw hls;(have e:(Sem.load .plain a' k').runT P w' es'=(k' v').runT P w' (es'.push ⟨.cell a',false,false⟩):=by simp only[Sem.runT,hv'];rfl);exact zag
  |none=>rcases Ky hw ha with⟨hh,hd,hl⟩|⟨v,l,l',h1,h2,h3,h4,h5⟩;refine⟨0,λ_ _=>0,(.halt hh w,es),λT _=>?_,rfl,.fQ hd⟩;have hl':(on w T).farLoad P a false=.error hh:=hl;exact zad;obtain⟨m,ts,res,g1,g2,g3⟩:=ih v v h3 w w' _ _ hw (he.arr (wr:=false) h4 λk=>by cases k);(have e:(Sem.load .plain a' k').runT P w' es'=(k' v).runT P w' (es'++l'.toArray.map λx=>(⟨.cell x,false,false⟩:Event)):=by simp only[Sem.runT,h5];show(match w'.farLoad P a' false with|.ok (v,touched)=>_|.error h=>_)=_;rw[h2];rfl);rw[e];refine⟨m,ts,res,λT hT=>?_,g2,g3⟩;have:=g1 T hT;have hl':(on w T).farLoad P a false=.ok (v,l):=h1;simp only[Sem.runT,kI,hv];show(match(on w T).farLoad P a false with|.ok (v,touched)=>_|.error h=>_)=_;rw[hl'];exact this
 | @loadT ρ a k k' ha _ ih=>
  intro w w' es es' hw he;obtain⟨c,e,fr,c',e',fr',k1,k2,k3⟩:=(hw.tab _ ha).row;cases hv:w.cell? a with
  |some v=>(have hv':w'.cell? a=some v/\Pl v:=by unfold World.cell? at hv⊢;rw[k1]at hv;rw[k2];dsimp only at hv⊢;split at hv;cases hv;rename_i hs;rw[if_neg hs];exact k3 _ _ hv);(have hls:eG ρ (es.push ⟨.cell a,false,false⟩).toList (es'.push ⟨.cell a,false,false⟩).toList:=by rw[bH,bH];exact eG.snoc (e:=⟨.cell a,false,false⟩) (e':=⟨.cell a,false,false⟩) ⟨.tab ha,rfl,rfl,λb hb hwr=>(by cases hwr),λ_=>rfl⟩ he);obtain⟨m,ts,res,h1,h2,h3⟩:=ih v hv'.2 w w' _ _ hw hls;(have e:(Sem.load .plain a k').runT P w' es'=(k' v).runT P w' (es'.push ⟨.cell a,false,false⟩):=by simp only[Sem.runT,hv'.1];rfl);exact zag
  |none=>(have hl:w.farLoad P a false=.error (w.noCell a "load: no such cell"):=yF λc e k=>by rw[k1]at k;cases k);(have hd:fQ (w.noCell a "load: no such cell")=true:=by unfold World.noCell;rw[k1];rfl);refine⟨0,λ_ _=>0,(.halt (w.noCell a "load: no such cell") w,es),λT _=>?_,rfl,.fQ hd⟩;have hl':(on w T).farLoad P a false=.error (w.noCell a "load: no such cell"):=hl;exact zad
 | @store ρ a a' v v' k k' ha ub _ ih=>
  intro w w' es es' hw he;by_cases hag:(∃c,v=.agg c)\/∃c,v=.tuple c;refine⟨0,λ_ _=>0,(.halt (.stuck "store: not the value of one cell") w,es),λT _=>?_,rfl,.fQ rfl⟩;rcases hag with⟨c,rfl⟩|⟨c,rfl⟩<;>rfl
  ·have hag':¬((∃c,v'=.agg c)\/∃c,v'=.tuple c):=by rintro(⟨c,rfl⟩|⟨c,rfl⟩)<;>cases ub<;>first|exact hag (.inl ⟨_,rfl⟩)|exact hag (.inr ⟨_,rfl⟩)
   have hst:∀(W:aa)(E:Array Event),(Sem.store .plain a v k).runT P W E=match W.cell? a with
    |some _=>if W.frozen? a then(.halt (.unsupported (.unsafePointer "a write to bytes that a string shares")) W,E)else k.runT P (W.setCell a v) (E.push ⟨.cell a,true,false⟩)
    |none=>match W.farStore P a v false with
     |.ok (w,touched)=>k.runT P w (E++touched.toArray.map (⟨.cell ·,true,false⟩))
     |.error h=>(.halt h W,E):=by
    intro W E;cases v<;>first|rfl|exact absurd (.inl ⟨_,rfl⟩) hag|exact absurd (.inr ⟨_,rfl⟩) hag
   have hst':∀(W:aa)(E:Array Event),(Sem.store .plain a' v' k').runT P W E=match W.cell? a' with
    |some _=>if W.frozen? a' then(.halt (.unsupported (.unsafePointer "a write to bytes that a string shares")) W,E)else k'.runT P (W.setCell a' v') (E.push ⟨.cell a',true,false⟩)
    |none=>match W.farStore P a' v' false with
     |.ok (w,touched)=>k'.runT P w (E++touched.toArray.map (⟨.cell ·,true,false⟩))
     |.error h=>(.halt h W,E):=by
    intro W E;cases v'<;>first|rfl|exact absurd (.inl ⟨_,rfl⟩) hag'|exact absurd (.inr ⟨_,rfl⟩) hag'
   cases hu:w.cell? a with
   |none=>rcases G1 hw ha ub with⟨hh,hd,hl⟩|⟨w1,w1',l,l',h1,h2,h3,h4,h5,h6,h7,h8⟩;refine⟨0,λ_ _=>0,(.halt hh w,es),λT _=>?_,rfl,.fQ hd⟩;rw[hst,kI,hu,hl];rfl;obtain⟨m,ts,res,g1,g2,g3⟩:=ih w1 w1' _ _ h6 (he.arr (wr:=true) h3 λ_=>h4);rw[hst',h5,h2];refine⟨m,ts,res,λT hT=>?_,G3 h8 g2,g3.back ⟨Rn.Le.refl _,λ_ _ k=>.inl k⟩ h7⟩;rw[hst,kI,hu,h1 T];exact g1 T (λi hi=>by rw[h8];exact hT i hi)
   |some u=>by_cases hf:w.frozen? a=true;refine⟨0,λ_ _=>0,(.halt (.unsupported (.unsafePointer "a write to bytes that a string shares")) w,es),λT _=>?_,rfl,.fQ rfl⟩;rw[hst,kI,hu,Ah,hf];rfl;(have hr:ρ.r a.block a'.block:=by rcases ha.b with⟨hk,_⟩|hr;exact absurd (hw.Ux hk hu) hf;exact hr);obtain⟨u',hu',_⟩:=hw.cell ha hu;(have hf':w'.frozen? a'=false:=by rw[bI.frozen hw ha hr];simpa using hf);(have hls:eG ρ (es.push ⟨.cell a,true,false⟩).toList (es'.push ⟨.cell a',true,false⟩).toList:=by rw[bH,bH];exact eG.snoc (e:=⟨.cell a,true,false⟩) (e':=⟨.cell a',true,false⟩) ⟨.cell ha,rfl,rfl,λb hb _=>(by cases hb;exact hr),λ_=>rfl⟩ he);obtain⟨m,ts,res,h1,h2,h3⟩:=ih (w.setCell a v) (w'.setCell a' v') _ _ (hw.store ha hr ub hu) hls;have hfr:gM w' (w'.setCell a' v') (Own ρ):=gM.turn hr rfl rfl rfl rfl zat (λz hz=>pX hz);(have e:(Sem.store .plain a' v' k').runT P w' es'=k'.runT P (w'.setCell a' v') (es'.push ⟨.cell a',true,false⟩):=by rw[hst',hu',hf'];rfl);rw[e];refine⟨m,ts,res,λT hT=>?_,h2,h3.back ⟨Rn.Le.refl _,λ_ _ k=>.inl k⟩ hfr⟩;rw[hst,kI,hu,Ah];simp only[hf];exact h1 T hT
 | @new ρ o o' k k' ho _ ih=>
  intro w w' es es' hw he;obtain⟨σ,hg,hr,hw2⟩:=hw.new ho;obtain⟨m,ts,res,h1,h2,h3⟩:=ih σ _ _ hg.le hr _ _ _ _ hw2 (he.mono hg.le);refine⟨m,ts,res,λT hT=>h1 T hT,h2,h3.back hg ⟨rfl,rfl,rfl,aj _,sM,λy hy _=>by
   show(w'.heap.push o')[y]?=_;rw[cL hy,<-aZ hy]⟩⟩
 | @shape ρ r r' k k' hb _ ih=>
  intro w w' es es' hw he;have hk1:ShR P ρ r (w.shape? r) (w'.shape? r'):=by rcases hb with⟨hk,rfl⟩|hr;unfold World.shape?;by_cases hd:ρ.D r';obtain⟨c,e,c',e',k1,k2,_,k3⟩:=(hw.dead _ hd).row;rw[k1,k2];dsimp only;rw[k3];exact .dead e' hd;obtain⟨c,e,n,k1,k2,_,k4,_⟩:=(hw.low _ hk hd).row;rw[k1,k2];exact .same λ_=>⟨e,c.size,rfl,k4⟩;obtain⟨o,o',h1,h2,ho⟩:=hw.own hr;(have e:w'.shape? r'=w.shape? r:=by unfold World.shape?;rw[h1,h2];cases ho<;>first|rfl|(rename_i hc;simp[hc.size]));rw[e];exact .same λhk=>by have:=ρ.kb hk;have:=(ρ.lo hr).1;omega
  obtain⟨m,ts,res,h1,h2,h3⟩:=ih _ _ hk1 w w' es es' hw he;exact zab
 |zZ _ ih=>intro w w' es es' hw he;exact ih _ w w' es es' hw he
 | @qQ ρ s a' k' hk _ ih=>intro w w' es es' hw he;have:=ih w w' es es' hw he;simp only[Sem.runT];rw[bI.G2 hw hk];exact this
 | @frozen ρ a a' k k' ha _ ih=>intro w w' es es' hw he;obtain⟨m,ts,res,h1,h2,h3⟩:=ih _ _ (λhr=>(bI.frozen hw ha hr).symm) (λhk=>bI.G2 hw (by rw[ha.K hk];exact hk)) w w' es es' hw he;exact zab
 | @freeze ρ a a' n k k' ha hr _ ih=>
  intro w w' es es' hw he;obtain⟨o,o',h1,h2,ho⟩:=hw.own hr;have f1:=vF w a n;have f2:=vF w' a' n;have hw2:WR P ρ (w.freeze a n) (w'.freeze a' n):=by refine hw.turn hr (vG h1) (vG h2) ?_ (λz hz=>pY hz) (λz hz=>pY hz) f1.2.2.2.2 f2.2.2.2.2 f1.2.1 f2.2.1;split;exact ho;exact Xs ha.off n ho
  obtain⟨m,ts,res,g1,g2,g3⟩:=ih _ _ es es' hw2 he;refine⟨m,ts,res,λT hT=>?_,?_,g3.back ⟨Rn.Le.refl _,λ_ _ k=>.inl k⟩ (gM.turn hr f2.1 f2.2.1 f2.2.2.1 f2.2.2.2.1 f2.2.2.2.2 (λz hz=>pY hz))⟩;(have e:(on w T).freeze a n=on (w.freeze a n) T:=by unfold World.freeze;split<;>rfl);simp only[Sem.runT,e];exact g1 T (λi hi=>by rw[f1.2.2.2.1];exact hT i hi);exact G3 f1.2.2.2.1 g2
 | @abJ ρ r k c hd _ ih=>
  intro w w' es es' hw he;obtain⟨x,e,c',e',k1,_⟩:=(hw.dead _ hd).row;obtain⟨m,ts,res,g1,g2,g3⟩:=ih w w' es es' hw he;refine⟨m,ts,res,λT hT=>?_,g2,g3⟩;have:(on w T).shape? r=none:=by unfold World.shape?;rw[show(on w T).heap[r]?=_ from k1]
  simp only[Sem.runT,this];exact g1 T hT
 | @nz ρ r k c hd _ ih=>
  intro w w' es es' hw he;obtain⟨x,e,c',e',k1,k2,k3,_⟩:=(hw.dead _ hd).row;have hls:eG ρ (es.push ⟨.obj r,false,false⟩).toList es'.toList:=by rw[bH];exact he.EM r
  obtain⟨m,ts,res,g1,g2,g3⟩:=ih x e k3 w w' _ _ hw hls;refine⟨m,ts,res,λT hT=>?_,g2,g3⟩;have:(on w T).heap[r]?=some (.pending x e):=k1;simp only[Sem.runT,this];exact g1 T hT
 | @getObj ρ r r' k k' hb hd _ ih=>intro w w' es es' hw he;rcases hb with⟨hk,rfl⟩|hr;obtain⟨c,e1,n,k1,_⟩:=(hw.low _ hk hd).row;refine⟨0,λ_ _=>0,(.halt (.stuck "getObj: a row of cells") w,es),λT _=>?_,rfl,.fQ rfl⟩;exact zal;obtain⟨o,o',h1,h2,ho⟩:=hw.own hr;by_cases hc:∃c e fr,o=.cells c e fr;obtain⟨c,e,fr,rfl⟩:=hc;refine⟨0,λ_ _=>0,(.halt (.stuck "getObj: a row of cells") w,es),λT _=>?_,rfl,.fQ rfl⟩;exact zan;(have hch:o.isChan=false/\o'.isChan=false:=by cases ho<;>exact⟨rfl,rfl⟩);(have hc':¬∃c e fr,o'=.cells c e fr:=by rintro⟨c,e,fr,rfl⟩;cases ho;exact hc ⟨_,_,_,rfl⟩);(have hL:∀(W:aa)(E:Array Event),W.heap[r]?=some o->(Sem.getObj r k).runT P W E=(k o).runT P W (E.push ⟨.obj r,false,false⟩):=by intro W E hh;simp only[Sem.runT,hh];cases o<;>first|rfl|exact absurd ⟨_,_,_,rfl⟩ hc|cases ho);(have hR:∀(W:aa)(E:Array Event),W.heap[r']?=some o'->(Sem.getObj r' k').runT P W E=(k' o').runT P W (E.push ⟨.obj r',false,false⟩):=by intro W E hh;simp only[Sem.runT,hh];cases o'<;>first|rfl|exact absurd ⟨_,_,_,rfl⟩ hc'|cases ho);(have hls:eG ρ (es.push ⟨.obj r,false,false⟩).toList (es'.push ⟨.obj r',false,false⟩).toList:=by rw[bH,bH];exact eG.snoc (e:=⟨.obj r,false,false⟩) (e':=⟨.obj r',false,false⟩) ⟨.obj hr,rfl,rfl,λb hb _=>zav,λ_=>rfl⟩ he);obtain⟨m,ts,res,g1,g2,g3⟩:=ih o o' ho w w' _ _ hw hls;rw[hR _ _ h2];exact⟨m,ts,res,λT hT=>by rw[hL _ _ (show(on w T).heap[r]?=some o from h1)];exact g1 T hT,g2,g3⟩
 | @setObj ρ r r' o o' k k' hb hd ho _ ih=>
  intro w w' es es' hw he;rcases hb with⟨hk,rfl⟩|hr;obtain⟨c,e1,n,k1,_⟩:=(hw.low _ hk hd).row;refine⟨0,λ_ _=>0,(.halt (.stuck "setObj: a row of cells") w,es),λT _=>?_,rfl,.fQ rfl⟩;exact zal
  ·obtain⟨p,p',h1,h2,hp⟩:=hw.own hr;by_cases hc:∃c e fr,p=.cells c e fr;obtain⟨c,e,fr,rfl⟩:=hc;refine⟨0,λ_ _=>0,(.halt (.stuck "setObj: a row of cells") w,es),λT _=>?_,rfl,.fQ rfl⟩;exact zan
   ·(have hch:o.isChan=false/\o'.isChan=false:=by cases ho<;>exact⟨rfl,rfl⟩);(have hc':¬∃c e fr,p'=.cells c e fr:=by rintro⟨c,e,fr,rfl⟩;cases hp;exact hc ⟨_,_,_,rfl⟩);(have hL:∀(W:aa)(E:Array Event),W.heap[r]?=some p->(Sem.setObj r o k).runT P W E=k.runT P {W with heap:=W.heap.setIfInBounds r o} (E.push ⟨.obj r,true,false⟩):=by intro W E hh;simp only[Sem.runT,hh,hch.1];cases p<;>first|rfl|exact absurd ⟨_,_,_,rfl⟩ hc);(have hR:∀(W:aa)(E:Array Event),W.heap[r']?=some p'->(Sem.setObj r' o' k').runT P W E=k'.runT P {W with heap:=W.heap.setIfInBounds r' o'} (E.push ⟨.obj r',true,false⟩):=by intro W E hh;simp only[Sem.runT,hh,hch.2];cases p'<;>first|rfl|exact absurd ⟨_,_,_,rfl⟩ hc');(have hls:eG ρ (es.push ⟨.obj r,true,false⟩).toList (es'.push ⟨.obj r',true,false⟩).toList:=by rw[bH,bH];exact eG.snoc (e:=⟨.obj r,true,false⟩) (e':=⟨.obj r',true,false⟩) ⟨.obj hr,rfl,rfl,λb hb _=>zav,λ_=>rfl⟩ he);have l:=hw.lt hr;(have hne:∀(W:aa)(x:Nat)(q:Obj)(z:Nat),z≠x->({W with heap:=W.heap.setIfInBounds x q}:aa).heap[z]?=W.heap[z]?:=λW x q z hz=>by show(W.heap.setIfInBounds x q)[z]?=_;rw[cx,if_neg (λe=>hz e.symm)]);have heq:∀(W:aa)(x:Nat)(q:Obj),x<W.heap.size->({W with heap:=W.heap.setIfInBounds x q}:aa).heap[x]?=some q:=λW x q hx=>by show(W.heap.setIfInBounds x q)[x]?=_;rw[cx,if_pos rfl,if_pos hx]
    have hw2:WR P ρ {w with heap:=w.heap.setIfInBounds r o} {w' with heap:=w'.heap.setIfInBounds r' o'}:=
     hw.turn hr (heq _ _ _ l.1) (heq _ _ _ l.2) ho (λz hz=>hne _ _ _ z hz) (λz hz=>hne _ _ _ z hz) sM sM rfl rfl
    obtain⟨m,ts,res,g1,g2,g3⟩:=ih _ _ _ _ hw2 hls;rw[hR _ _ h2];refine⟨m,ts,res,λT hT=>?_,g2,g3.back ⟨Rn.Le.refl _,λ_ _ k=>.inl k⟩ (gM.turn hr rfl rfl rfl rfl sM (λz hz=>hne _ _ _ z hz))⟩;rw[hL _ _ (show(on w T).heap[r]?=some p from h1)];exact g1 T hT
 | @choose ρ q k k' _ ih=>
  intro w w' es es' hw he;cases hq:q.forced with
  |true=>obtain⟨m,ts,res,g1,g2,g3⟩:=ih 0 w w' es es' hw he;refine⟨m,ts,res,λT hT=>?_,g2,?_⟩;simp only[Sem.runT,hq,if_true];exact g1 T hT;simp only[Sem.runT,hq,if_true];exact g3
  |false=>
   have hw2:WR P ρ {w with drawn:=w.drawn+1} {w' with drawn:=w'.drawn+1}:=⟨hw.own,λx hx hd=>⟨(hw.low x hx hd).row⟩,λx hx=>⟨(hw.dead x hx).row⟩,λx hx=>⟨(hw.tab x hx).row⟩,hw.os,hw.CC,hw.CE⟩;obtain⟨m,ts,res,g1,g2,g3⟩:=ih (q.cut (w'.tape w'.drawn q)) _ _ es es' hw2 he;refine⟨m+1,λi=>if i=0 then w'.tape w'.drawn else ts (i-1),res,λT hT=>?_,?_,?_⟩;have h0:=hT 0 oM;rw[Nat.add_zero]at h0;have e:(on w T).tape (on w T).drawn=w'.tape w'.drawn:=h0;simp only[Sem.runT,hq,e];exact zaa
   ·cases res with
    |mk r es1=>
     cases r with
     |ok a w1=>exact zac
     |halt h w1=>exact zac
   ·simp only[Sem.runT,hq];exact g3.back ⟨Rn.Le.refl _,λ_ _ k=>.inl k⟩ ⟨rfl,rfl,rfl,Nat.le_succ _,aj _,λ_ _ _=>rfl⟩
 | @vC ρ q k c n hq hn _ ih=>
  intro w w' es es' hw he;obtain⟨t,ht⟩:=hn;have hw2:WR P ρ {w with drawn:=w.drawn+1} w':=⟨hw.own,λx hx hd=>⟨(hw.low x hx hd).row⟩,λx hx=>⟨(hw.dead x hx).row⟩,λx hx=>⟨(hw.tab x hx).row⟩,hw.os,hw.CC,hw.CE⟩;obtain⟨m,ts,res,g1,g2,g3⟩:=ih _ w' es es' hw2 he;refine⟨m+1,λi=>if i=0 then(λ_=>t)else ts (i-1),res,λT hT=>?_,?_,g3⟩;have h0:=hT 0 oM;rw[Nat.add_zero]at h0;have e:(on w T).tape (on w T).drawn=λ_=>t:=h0;simp only[Sem.runT,hq,e,ht];exact zaa
  ·cases res with
   |mk r es1=>
    cases r with
    |ok a w1=>exact zac
    |halt h w1=>exact zac
 | @program ρ k k' _ ih=>intro w w' es es' hw he;obtain⟨m,ts,res,h1,h2,h3⟩:=ih w w' es es' hw he;exact zab
 | @ext ρ f k k' _ ih=>
  intro w w' es es' hw he;obtain⟨m,ts,res,h1,h2,h3⟩:=ih w w' (es.push ⟨.mark (.extern f),false,true⟩) (es'.push ⟨.mark (.extern f),false,true⟩) hw (by
   rw[bH,bH];exact eG.snoc (e:=⟨.mark (.extern f),false,true⟩) (e':=⟨.mark (.extern f),false,true⟩) ⟨.ext f,rfl,rfl,λb hb _=>zav,λh=>(by cases h)⟩ he)
  exact zab
 | @room ρ k k' _ ih=>
  intro w w' es es' hw he;obtain⟨m,ts,res,h1,h2,h3⟩:=ih w w' (es.push ⟨.mark .noRoom,false,true⟩) (es'.push ⟨.mark .noRoom,false,true⟩) hw (by
   rw[bH,bH];exact eG.snoc (e:=⟨.mark .noRoom,false,true⟩) (e':=⟨.mark .noRoom,false,true⟩) ⟨.room,rfl,rfl,λb hb _=>zav,λh=>(by cases h)⟩ he)
  exact zab
 | @env ρ k k' _ ih=>
  intro w w' es es' hw he;have e:∀W:aa,W.sys .env=(.strings W.os.env,W):=λW=>rfl;obtain⟨m,ts,res,h1,h2,h3⟩:=ih (.strings w.os.env) w w' (es.push ⟨.output,true,false⟩) (es'.push ⟨.output,true,false⟩) hw (by
   rw[bH,bH];exact eG.snoc (e:=⟨.output,true,false⟩) (e':=⟨.output,true,false⟩) ⟨.out,rfl,rfl,λb hb _=>zav,λh=>(by cases h)⟩ he)
  refine⟨m,ts,res,λT hT=>?_,h2,?_⟩;simp only[Sem.runT,e];exact h1 T hT;simp only[Sem.runT,e,hw.os];exact h3
 |dead hd=>intro w w' es es' hw he;obtain⟨h,es1,h1,h2⟩:=Ql (P:=P) hd w es;exact⟨0,λ_ _=>0,(.halt h w,es1),λT _=>h2 T,rfl,.fQ h1⟩
 | @panic ρ v v' hv=>intro w w' es es' hw he;exact⟨0,λ_ _=>0,(.halt (.panic v) w,es),λT _=>rfl,rfl,.panic (Grow.refl _ _) hv hw he (gM.refl _ _)⟩
 | @halt ρ h c hd=>intro w w' es es' hw he;exact⟨0,λ_ _=>0,(.halt h w,es),λT _=>rfl,rfl,.fQ hd⟩
end
structure PF(P:aF):Prop where
 zero:∀ρ t i v,P.info? t=some i->i.zero=some v->VR ρ v v
structure KF(P:aF)(ρ:Rn):Prop where
 handle:ρ.K P.globals.size
 max:∀g,P.globals.findIdx? (·.name== "internal/bytealg.MaxLen")=some g->ρ.K g
theorem KF.mono{P:aF}{ρ σ:Rn}(h:KF P ρ)(l:ρ.Le σ):KF P σ:=⟨by rw[l.K];exact h.handle,λg hg=>by rw[l.K];exact h.max g hg⟩
abbrev fz(α:Type):Rn->α->α->Prop:=λ_ a b=>a=b
abbrev cI:Rn->ae->ae->Prop:=VR
section
variable {P:aF}{α β γ δ:Type}{A:Rn->α->β->Prop}{C:Rn->γ->δ->Prop}{ρ:Rn}
theorem aq{s:Sem α}{s':Sem β}{f:α->Sem γ}{f':β->Sem δ}(h:aP P A ρ s s')(hf:∀σ a b,ρ.Le σ->A σ a b->aP P C σ (f a) (f' b)):aP P C ρ (s>>=f) (s'>>=f'):=aP.bind h hf
theorem EP{C:Rn->α->β->Prop}{s:Sem α}{s':Sem β}(h:aP P A ρ s s')(hc:∀σ a b,ρ.Le σ->A σ a b->C σ a b):aP P C ρ s s':=by
 have e1:s.bind Sem.pure=s:=by
  clear h
  induction s<;>simp_all [Sem.bind]
  funext b;cases b<;>simp_all
 have e2:s'.bind Sem.pure=s':=by
  clear h
  induction s'<;>simp_all [Sem.bind]
  funext b;cases b<;>simp_all
 rw[<-e1,<-e2];exact aP.bind h λσ a b l k=>.pure (hc σ a b l k)
theorem aB{a:α}{b:β}(h:A ρ a b):aP P A ρ (Pure.pure a) (Pure.pure b):=.pure h
theorem aC{why:String}{c:Sem β}:aP P A ρ (stuck why) c:=.halt rfl
theorem bp{u:Unsupported}{c:Sem β}(h:fQ (.unsupported u)=true):aP P A ρ (unsupported u) c:=.halt h
theorem jg{v v':ae}(h:VR ρ v v'):aP P A ρ (goPanic v) (goPanic v'):=.panic h
theorem eA:aP P (λ_ a b=>a=P/\b=P) ρ Go.program Go.program:=.program (.pure ⟨rfl,rfl⟩)
theorem gN(q:Question):aP P (fz Nat) ρ (Go.choose q) (Go.choose q):=.choose λ_=>.pure rfl
theorem cQ{b b':Bool}{x y:Sem α}{x' y':Sem β}(h:b=b')(h1:aP P A ρ x x')(h2:aP P A ρ y y'):aP P A ρ (if b then x else y) (if b' then x' else y'):=by subst h;split;exact h1;exact h2
theorem dY{p p':Prop}[Decidable p][Decidable p']{x y:Sem α}{x' y':Sem β}(h:p↔p')(h1:p->aP P A ρ x x')(h2:¬p->aP P A ρ y y'):aP P A ρ (if p then x else y) (if p' then x' else y'):=by by_cases hp:p;rw[if_pos hp,if_pos (h.1 hp)];exact h1 hp;rw[if_neg hp,if_neg (λk=>hp (h.2 k))];exact h2 hp
theorem eb(t:aw):aP P (λ_ i j=>i=j/\P.info? t=some i) ρ (typeInfo t) (typeInfo t):=by unfold Go.typeInfo;refine aq eA λσ a b _ h=>?_;obtain⟨rfl,rfl⟩:=h;split;rename_i i hi;exact aB ⟨rfl,hi⟩;exact aC
theorem bE(t:aw):aP P (fz TypeDesc) ρ (underlying t) (underlying t):=by unfold Go.underlying;refine aq eA λσ a b _ h=>?_;obtain⟨rfl,rfl⟩:=h;split;exact aB rfl;exact aC
theorem fT(hP:PF P)(t:aw):aP P cI ρ (zeroValue t) (zeroValue t):=by unfold Go.zeroValue;refine aq (eb t) λσ a b _ h=>?_;obtain⟨rfl,hi⟩:=h;split;rename_i v hv;exact aB (hP.zero σ t _ v hi hv);exact bp rfl
theorem dJ(t:aw):aP P (fz Nat) ρ (sizeOf t) (sizeOf t):=by unfold Go.sizeOf;refine aq (eb t) λσ a b _ h=>?_;obtain⟨rfl,hi⟩:=h;exact aB rfl
theorem Ai(t:aw):aP P (fz Bool) ρ (isAgg t) (isAgg t):=by unfold Go.isAgg;refine aq (bE t) λσ a b _ h=>?_;subst h;split<;>exact aB rfl
theorem sK(t:aw):aP P (fz aw) ρ (elemOf t) (elemOf t):=by unfold Go.elemOf;refine aq (bE t) λσ a b _ h=>?_;subst h;split;exact aB rfl;exact aC
theorem vI{a a':Addr}(h:bI ρ a a'):aP P cI ρ (Go.load a) (Go.load a'):=.load h λ_ _ hv=>.pure hv
theorem Qm{a a':Addr}{v v':ae}(h:bI ρ a a')(hv:VR ρ v v'):aP P (λ_ _ _=>True) ρ (Go.store a v) (Go.store a' v'):=.store h hv (.pure trivial)
theorem oX{o o':Obj}(h:jf ρ o o'):aP P (λσ r r'=>σ.r r r') ρ (newObj o) (newObj o'):=.new h λ_ _ _ _ hr=>.pure hr
theorem bI.add{a a':Addr}(h:bI ρ a a')(n:Nat):bI ρ (a.add n) (a'.add n):=by unfold Addr.add;split;exact h;exact⟨h.b,by show a'.off+n=a.off+n;rw[h.off],rfl⟩
theorem py:∀(n i:Nat){ρ:Rn}{a a':Addr}{acc acc':bw},bI ρ a a'->AR ρ acc acc'->aP P AR ρ (loadCellsFrom a i n acc) (loadCellsFrom a' i n acc')
 |0,_,_,_,_,_,_,_,h=>aB h
 |n+1,i,_,_,_,_,_,ha,h=>aq (vI (ha.add i)) λ_ _ _ l hv=>py n (i+1) (ha.mono l) ((h.mono l).push hv)
theorem mM{a a':Addr}(n:Nat)(h:bI ρ a a'):aP P AR ρ (loadCells a n) (loadCells a' n):=py n 0 h LR.nil
theorem jO:∀{l l':List ae}{ρ:Rn}{a a':Addr}(i:Nat),bI ρ a a'->LR ρ l l'->aP P (λ_ _ _=>True) ρ (storeCells a l i) (storeCells a' l' i)
 |_,_,_,_,_,_,_,.nil=>aB trivial
 |_,_,_,_,_,i,ha,.cons x y=>aq (Qm (ha.add i) x) λ_ _ _ l _=>jO (i+1) (ha.mono l) (LR.mono l y)
theorem jZ(t:aw){a a':Addr}(h:bI ρ a a'):aP P cI ρ (loadVar t a) (loadVar t a'):=by unfold Go.loadVar;refine aq (Ai t) λσ b b' l hb=>cQ hb ?_ (vI (h.mono l));refine aq (dJ t) λτ n n' l2 hn=>?_;subst hn;exact aq (mM n ((h.mono l).mono l2)) λ_ _ _ _ hc=>aB (.agg hc)
theorem ou(t:aw){a a':Addr}{v v':ae}(h:bI ρ a a')(hv:VR ρ v v'):aP P (λ_ _ _=>True) ρ (storeVar t a v) (storeVar t a' v'):=by unfold Go.storeVar;refine aq (dJ t) λσ n n' l hn=>?_;subst hn;have hc:=hv.cells;refine dY (by rw[hc.size]) (λ_=>aC) λ_=>?_;exact jO 0 (h.mono l) (LR.mono l hc)
theorem pz(t:aw){c c':bw}(h:AR ρ c c'):aP P bI ρ (newRow t c) (newRow t c'):=by unfold Go.newRow;exact aq (oX (.cells t (0,0) h)) λ_ _ _ _ hr=>aB ⟨.inr hr,rfl,rfl⟩
theorem ni(t:aw){v v':ae}(h:VR ρ v v'):aP P bI ρ (newVar t v) (newVar t v'):=pz t h.cells
theorem jX(t:aw){c c':bw}(n:Nat)(h:AR ρ c c'):aP P cI ρ (part t c n) (part t c' n):=by unfold Go.part;refine aq (Ai t) λσ b b' l hb=>cQ hb ?_ ?_;refine aq (dJ t) λτ m m' l2 hn=>?_;subst hn;exact aB (.agg (((h.mono l).mono l2).extract n (n+m)));rcases(h.mono l).get n with⟨h1,h2⟩|⟨v,v',h1,h2,h3⟩;rw[h1,h2];exact aC;rw[h1,h2];exact aB h3
theorem nB{v v':ae}(h:VR ρ v v'):aP P (fz (IntKind×Int)) ρ (asIntOf v) (asIntOf v'):=by cases h<;>first|exact aC|exact aB rfl|exact bp rfl
theorem kJ{v v':ae}(h:VR ρ v v'):aP P (fz Int) ρ (asInt v) (asInt v'):=by unfold Go.asInt;exact aq (nB h) λ_ _ _ _ e=>aB (by rw[e])
theorem Dx{v v':ae}(h:VR ρ v v'):aP P (fz Bool) ρ (asBool v) (asBool v'):=by cases h<;>first|exact aC|exact aB rfl
theorem Qn{v v':ae}(h:VR ρ v v'):aP P AR ρ (asAgg v) (asAgg v'):=by
 cases h
 case agg a=>exact aB a
 all_goals exact aC
theorem nC(hK:KF P ρ)(t:aw):VR ρ (typeHandle P t) (typeHandle P t):=.ptr ⟨.inl ⟨hK.handle,rfl⟩,rfl,rfl⟩
theorem bK(hP:PF P)(hK:KF P ρ)(e:RuntimeError):aP P A ρ (runtimePanic e) (runtimePanic e):=by
 unfold Go.runtimePanic;refine aq eA λσ p q l h=>?_;obtain⟨rfl,rfl⟩:=h;have hK':=hK.mono l;cases e with
 |bounds x y s c=>exact jg (.iface _ (.agg (.cons (.int _ _) (.cons (.int _ _) (.cons (.bool _) (.cons (.int _ _) .nil))))))
 |error m=>exact zax
 |plain m=>exact zax
 |nilDeref=>exact zax
 |typeAssertion i c a m=>refine aq (sK _) λτ t t' l2 ht=>?_;subst ht;have hK2:=hK'.mono l2;refine aq (ni t (v:=.agg _) (v':=.agg _) (.agg (.cons ?_ (.cons ?_ (.cons (nC hK2 a) (.cons (.string _) .nil)))))) λμ r r' l3 hr=>jg (.iface _ (.ptr hr));cases i;exact .iP;exact nC hK2 _;cases c;exact .iP;exact nC hK2 _
 |panicNil=>refine aq (sK _) λτ t t' l2 ht=>?_;subst ht;exact aq (ni t (v:=.agg _) (v':=.agg _) (.agg .nil)) λμ r r' l3 hr=>jg (.iface _ (.ptr hr))
 |unhashable t=>exact jg (.iface _ (.agg (.cons (nC hK' t) .nil)))
theorem Kz{s:Sem α}{s':Sem β}{f:α->γ}{f':β->δ}(h:aP P A ρ s s')(hf:∀σ a b,A σ a b->C σ (f a) (f' b)):aP P C ρ (f<$>s) (f'<$>s'):=
 aP.bind h λσ a b _ k=>.pure (hf σ a b k)
theorem ir(hP:PF P)(hK:KF P ρ)(k:IntKind)(x y:Int)(c:BoundsCode):aP P A ρ (boundsPanic k x y c) (boundsPanic k x y c):=by unfold Go.boundsPanic;dsimp only;refine cQ rfl ?_ ?_;refine aq (Kz (C:=fz Bool) (gN _) λσ a b e=>by rw[e]) λσ a b l h=>?_;subst h;exact bK hP (hK.mono l) _;exact bK hP hK (.bounds (IntKind.i64.wrap x) y (k !=.u64) c)
theorem sL(hP:PF P)(hK:KF P ρ){v v':ae}(h:VR ρ v v'):aP P bI ρ (asAddr v) (asAddr v'):=by
 cases h
 case iP=>exact bK hP hK .nilDeref
 case ptr a=>exact aB a
 all_goals exact aC
theorem mj{v v':ae}(h:VR ρ v v'):aP P bI ρ (Instr.sureAddr v) (Instr.sureAddr v'):=by
 cases h
 case ptr a=>exact aB a
 all_goals exact aC
end
abbrev vJ(α β:Type):Rn->α->β->Prop:=λ_ _ _=>True
def og(ρ:Rn)(o o':Option ae):Prop:=(o=none/\o'=none)\/∃v v',o=some v/\o'=some v'/\VR ρ v v'
inductive xF(ρ:Rn):List (Nat×ae)->List (Nat×ae)->Prop
 |nil:xF ρ [] []
 |cons {i:Nat} {v v':ae} {l l':List (Nat×ae)}:VR ρ v v'->xF ρ l l'->xF ρ ((i,v)::l) ((i,v')::l')
section
variable {P:aF}{α β γ δ:Type}{A:Rn->α->β->Prop}{C:Rn->γ->δ->Prop}{ρ:Rn}
theorem Qo(hP:PF P)(t:aw):aP P cI ρ (Instr.alloc t true (.tuple #[])) (Instr.alloc t true (.tuple #[])):=by unfold Instr.alloc;refine aq (fT hP t) λσ z z' l hz=>?_;exact aq (ni t hz) λ_ _ _ _ h=>aB (.ptr h)
theorem Xt(t:aw){v v':ae}(h:VR ρ v v'):aP P cI ρ (Instr.box t v) (Instr.box t v'):=by unfold Instr.box;exact aq (ni t h) λ_ _ _ _ h=>aB (.ptr h)
theorem Dy(t:aw){v v':ae}(h:VR ρ v v'):aP P cI ρ (Instr.loadAt t v) (Instr.loadAt t v'):=by unfold Instr.loadAt;exact aq (mj h) λ_ _ _ _ h=>jZ t h
theorem KA(t:aw){v v' x x':ae}(h:VR ρ v v')(hx:VR ρ x x'):aP P (vJ Unit Unit) ρ (Instr.storeAt t v x) (Instr.storeAt t v' x'):=by unfold Instr.storeAt;exact aq (mj h) λ_ _ _ l h=>ou t h (hx.mono l)
theorem gp(t:aw):aP P (λ_ d d'=>d=d'/\P.underlying t=some d) ρ (underlying t) (underlying t):=by unfold Go.underlying;refine aq eA λσ a b _ h=>?_;obtain⟨rfl,rfl⟩:=h;split;rename_i d hd;exact aB ⟨rfl,hd⟩;exact aC
theorem Qp(t:aw)(i:Nat){v v':ae}(h:VR ρ v v'):aP P cI ρ (Instr.field t v i) (Instr.field t v' i):=by unfold Instr.field;refine aq (bE t) λσ d d' l hd=>?_;subst hd;split;split;exact aq (Qn (h.mono l)) λ_ _ _ _ k=>jX _ _ k;exact aC;exact aC
theorem KC{v v':ae}(i:Nat)(h:VR ρ v v'):aP P cI ρ (Instr.extract v i) (Instr.extract v' i):=by
 cases h
 case tuple hh=>show aP P cI ρ (match _ with|some v=>Pure.pure v|none=>_) (match _ with|some v=>Pure.pure v|none=>_);rcases AR.get hh i with⟨h1,h2⟩|⟨v,v',h1,h2,h3⟩;rw[h1,h2];exact aC;rw[h1,h2];exact aB h3
 all_goals exact aC
theorem xG(t:aw){v v':ae}(h:VR ρ v v'):aP P cI ρ (Instr.makeInterface t v) (Instr.makeInterface t v'):=by unfold Instr.makeInterface;refine aq (bE t) λσ d d' l hd=>?_;subst hd;split;exact aC;exact aB (.iface t (h.mono l))
theorem G4{fn fn':Fn}{xs xs' ys ys':bw}(hf:zH ρ fn fn')(hx:AR ρ xs xs')(hy:AR ρ ys ys'):aP P cI ρ (Instr.makeFunc fn xs ys) (Instr.makeFunc fn' xs' ys'):=aB (.func hf hx hy)
theorem KE(t:aw){o o':Option ae}(h:og ρ o o'):aP P cI ρ (Instr.makeMap t o) (Instr.makeMap t o'):=by
 unfold Instr.makeMap;have h0:∀σ,aP P cI σ (do Pure.pure (Value.map (some (<-newObj (.map #[] 0))))) (do Pure.pure (Value.map (some (<-newObj (.map #[] 0))))):=λσ=>
  aq (oX (.map 0 .nil)) λ_ _ _ _ k=>aB (.map k)
 rcases h with⟨rfl,rfl⟩|⟨v,v',rfl,rfl,hv⟩;exact h0 ρ;dsimp only;refine aq (bE t) λσ d d' l hd=>?_;subst hd;split;exact aq (kJ (hv.mono l)) λτ _ _ _ _=>h0 τ;exact aC
theorem G5:VR ρ (default:ae) (default:ae):=.bool _
theorem AR.ZH{z z':bw}(h:AR ρ z z')(i:Nat):VR ρ z[i]! z'[i]!:=by rw[Array.getElem!_eq_getD,Array.getElem!_eq_getD];exact h.getD i G5
theorem AR.Uy(l:Array Nat){f f':Nat->ae}(h:∀i,VR ρ (f i) (f' i)):AR ρ (l.map f) (l.map f'):=by
 unfold AR;rw[cS,cS];generalize l.toList=m
 induction m with
 |nil=>exact .nil
 |cons i l ih=>exact .cons (h i) ih
theorem AR.range{z z':bw}(h:AR ρ z z')(n:Nat):AR ρ ((Array.range n).map (z[·%z.size]!)) ((Array.range n).map (z'[·%z'.size]!)):=
 AR.Uy _ λi=>by rw[h.size];exact h.ZH _
theorem xF.mono{σ:Rn}(h:ρ.Le σ):∀{l l':List (Nat×ae)},xF ρ l l'->xF σ l l'
 |_,_,.nil=>.nil
 |_,_,.cons x y=>.cons (x.mono h) (y.mono h)
theorem LR.M4{off:Nat}:∀{l l':List ae}(k:Nat){cs cs':bw},LR ρ l l'->AR ρ cs cs'->AR ρ ((l.zipIdx k).foldl (λcs (c,j)=>cs.setIfInBounds (off+j) c) cs) ((l'.zipIdx k).foldl (λcs (c,j)=>cs.setIfInBounds (off+j) c) cs')
 |_,_,_,_,_,.nil,h=>h
 |_,_,k,_,_,.cons x y,h=>LR.M4 (k+1) y (h.set _ x)
theorem abK(place:Nat->Option (Nat×Nat)):∀{l l':List (Nat×ae)}{cs cs':bw},xF ρ l l'->AR ρ cs cs'->(Instr.fill place cs l=none/\Instr.fill place cs' l'=none)\/∃c c',Instr.fill place cs l=some c/\Instr.fill place cs' l'=some c'/\AR ρ c c'
 |_,_,cs,cs',.nil,h=>.inr ⟨cs,cs',rfl,rfl,h⟩
 |_,_,cs,cs',.cons (i:=i) (v:=v) (v':=v') (l:=l) (l':=l') x y,h=>by
  unfold Instr.fill;cases place i with
  |none=>exact .inl ⟨rfl,rfl⟩
  |some q=>obtain⟨off,size⟩:=q;dsimp only;have hc:=x.cells;rw[hc.size,h.size];split;exact .inl ⟨rfl,rfl⟩;(have hz:AR ρ (v.cells.zipIdx.foldl (λcs (c,j)=>cs.setIfInBounds (off+j) c) cs) (v'.cells.zipIdx.foldl (λcs (c,j)=>cs.setIfInBounds (off+j) c) cs'):=by rw[<-Array.foldl_toList,<-Array.foldl_toList,Array.toList_zipIdx,Array.toList_zipIdx];exact LR.M4 0 hc h);exact abK place y hz
theorem G6{f:Field->Sem γ}(hf:∀σ x,aP P (fz γ) σ (f x) (f x)):∀(l:List Field)(σ:Rn),aP P (fz (List γ)) σ (l.mapM f) (l.mapM f)
 |[],_=>by rw[List.mapM_nil];exact aB rfl
 |x::l,σ=>by rw[List.mapM_cons];refine aq (hf σ x) λτ a b _ h=>?_;subst h;refine aq (G6 hf l τ) λ_ a b _ h=>?_;subst h;exact aB rfl
theorem Qq(hP:PF P)(t:aw){ps ps':Array (Nat×ae)}(h:xF ρ ps.toList ps'.toList):aP P cI ρ (Instr.build t ps) (Instr.build t ps'):=by unfold Instr.build;refine aq (fT hP t) λσ z z' l hz=>?_;refine aq (bE t) λτ d d' l2 hd=>?_;subst hd;have hc:=(hz.mono l2).cells;have hp:=h.mono (l.trans l2);split;rename_i fs;refine aq (A:=fz (Array (Nat×Nat))) ?_ λμ pl pl' l3 hpl=>?_;rw[Array.mapM_eq_mapM_toList];(refine Kz (G6 (λσ x=>?_) fs.toList τ) λ_ a b e=>by rw[e]);exact aq (dJ _) λ_ a b _ e=>aB (by rw[e]);subst hpl;rcases abK (pl[·]?) (hp.mono l3) (hc.mono l3)with⟨h1,h2⟩|⟨c,c',h1,h2,h3⟩;rw[h1,h2];exact aC;rw[h1,h2];exact aB (.agg h3);refine aq (dJ _) λμ n n' l3 hn=>?_;subst hn;rcases abK (λi=>some (i*n,n)) (hp.mono l3) (hc.mono l3)with⟨h1,h2⟩|⟨c,c',h1,h2,h3⟩;rw[h1,h2];exact aC;rw[h1,h2];exact aB (.agg h3);exact aC
theorem CF(hP:PF P)(t:aw)(n:Nat){ps ps':Array (Nat×ae)}(h:xF ρ ps.toList ps'.toList):aP P cI ρ (Instr.buildSlice t n ps) (Instr.buildSlice t n ps'):=by
 unfold Instr.buildSlice;refine aq (bE t) λσ d d' l hd=>?_;subst hd;split
 ·rename_i e;refine aq (dJ _) λτ m m' l2 hm=>?_;subst hm;refine dY Iff.rfl (λ_=>bp rfl) λ_=>?_;have key:∀(μ:Rn),τ.Le μ->∀z z',AR μ z z'->aP P cI μ (do
   let some cells:=Instr.fill (λi=>some (i*m,m)) ((Array.range (n*m)).map (z[·%z.size]!)) ps.toList|stuck "buildSlice: a part of the wrong size"
   Pure.pure (Value.slice (some (<-newRow e cells)) n n)) (do
   let some cells:=Instr.fill (λi=>some (i*m,m)) ((Array.range (n*m)).map (z'[·%z'.size]!)) ps'.toList|stuck "buildSlice: a part of the wrong size"
   Pure.pure (Value.slice (some (<-newRow e cells)) n n)):=λμ l3 z z' hz=>by
   rcases abK (λi=>some (i*m,m)) (h.mono ((l.trans l2).trans l3)) (hz.range (n*m))with⟨h1,h2⟩|⟨c,c',h1,h2,h3⟩;rw[h1,h2];exact aC;rw[h1,h2];exact aq (pz e h3) λ_ _ _ _ k=>aB (.slice n n k)
  refine dY Iff.rfl (λh0=>?_) (λh0=>?_);exact key τ (Rn.Le.refl _) #[] #[] .nil;refine aq (fT hP e) λμ z z' l3 hz=>?_;exact key μ l3 _ _ hz.cells
 ·exact aC
theorem dt{s:Sem α}{s':Sem β}{f:α->Sem γ}{f':β->Sem δ}(h:aP P (λ_ _ _=>False) ρ s s'):aP P C ρ (s>>=f) (s'>>=f'):=aq h λ_ _ _ _ k=>k.elim
theorem KG(hP:PF P)(hK:KF P ρ)(t:aw){x x' i i':ae}(h:VR ρ x x')(hi:VR ρ i i'):aP P cI ρ (Instr.indexAt t x i) (Instr.indexAt t x' i'):=by
 unfold Instr.indexAt;refine aq (nB hi) λσ k k' l hk=>?_;subst hk;obtain⟨k,n⟩:=k;dsimp only;refine aq (bE t) λτ d d' l2 hd=>?_;subst hd;have hx:=h.mono (l.trans l2);have key:∀(μ:Rn),τ.Le μ->∀(len:Nat)(elem:aw)(o o':Option Addr),((o=none/\o'=none)\/∃a a',o=some a/\o'=some a'/\bI μ a a')->aP P cI μ (do
  let tiny:=len<=1&&(match<-underlying t with|.array .. =>true|_=>false)
  match o with
  |some a=>
   if 0<=n/\n<len then Pure.pure (Value.pointer (some (a.add (n.toNat*(<-sizeOf elem)))))
   else if tiny then unsupported (.noEntry "op/indexAddr.an index out of range at an array of length 0 or 1 (ledger 616)")
   else boundsPanic k n len .index
  |none=>boundsPanic k n 0 .index) (do
  let tiny:=len<=1&&(match<-underlying t with|.array .. =>true|_=>false)
  match o' with
  |some a=>
   if 0<=n/\n<len then Pure.pure (Value.pointer (some (a.add (n.toNat*(<-sizeOf elem)))))
   else if tiny then unsupported (.noEntry "op/indexAddr.an index out of range at an array of length 0 or 1 (ledger 616)")
   else boundsPanic k n len .index
  |none=>boundsPanic k n 0 .index):=λμ l3 len elem o o' ho=>by
  refine aq (bE t) λν d d' l4 hd=>?_;subst hd;have hK':=hK.mono (((l.trans l2).trans l3).trans l4);rcases ho with⟨rfl,rfl⟩|⟨a,a',rfl,rfl,ha⟩;exact ir hP hK' k n 0 .index;dsimp only;refine dY Iff.rfl (λ_=>?_) λ_=>?_;refine aq (dJ _) λξ m m' l5 hm=>?_;subst hm;exact aB (.ptr (((ha.mono l4).mono l5).add _));refine cQ rfl (bp rfl) ?_;exact ir hP hK' k n len .index
 cases d
 case array len elem=>exact aq (mj hx) λμ a a' l3 ha=>key μ l3 len elem (some a) (some a') (.inr ⟨a,a',rfl,rfl,ha⟩)
 case slice elem=>
  cases hx
  case iG n c=>exact key τ (Rn.Le.refl _) n elem none none (.inl ⟨rfl,rfl⟩)
  case slice a a' n c ha=>exact key τ (Rn.Le.refl _) n elem (some a) (some a') (.inr ⟨a,a',rfl,rfl,ha⟩)
  all_goals exact aC
 all_goals exact aC
theorem CG(hP:PF P)(hK:KF P ρ){x x':ae}(h:VR ρ x x')(y:Nat)(c:BoundsCode):aP P (fz Nat) ρ (Instr.sliceBound x y c) (Instr.sliceBound x' y c):=by unfold Instr.sliceBound;refine aq (nB h) λσ k k' l hk=>?_;subst hk;obtain⟨k,n⟩:=k;dsimp only;exact dY Iff.rfl (λ_=>aB rfl) λ_=>ir hP (hK.mono l) k n y c
theorem og.mono{σ:Rn}(l:ρ.Le σ){o o':Option ae}(h:og ρ o o'):og σ o o':=by rcases h with h|⟨v,v',h1,h2,h3⟩;exact .inl h;exact .inr ⟨v,v',h1,h2,h3.mono l⟩
theorem jh(hP:PF P)(hK:KF P ρ)(b:Bool)(n c:Nat){lo lo' hi hi' mx mx':Option ae}(h1:og ρ lo lo')(h2:og ρ hi hi')(h3:og ρ mx mx'):aP P (fz (Nat×Nat×Nat)) ρ (Instr.sliceBounds b n c lo hi mx) (Instr.sliceBounds b n c lo' hi' mx'):=by
 unfold Instr.sliceBounds;have sb:∀(σ:Rn),ρ.Le σ->∀(v v':ae),VR ρ v v'->∀(y:Nat)(k:BoundsCode),aP P (fz Nat) σ (Instr.sliceBound v y k) (Instr.sliceBound v' y k):=λσ l v v' hv y k=>CG hP (hK.mono l) (hv.mono l) y k;rcases h3 with⟨rfl,rfl⟩|⟨u,u',rfl,rfl,hu⟩<;>rcases h2 with⟨rfl,rfl⟩|⟨w,w',rfl,rfl,hw⟩<;>rcases h1 with⟨rfl,rfl⟩|⟨v,v',rfl,rfl,hv⟩<;>(
  refine aq (A:=fz Nat) (by first|exact aB rfl|exact sb ρ (Rn.Le.refl _) _ _ hu _ _) λσ q q' l k=>?_;have k:q=q':=k;subst k;first
  |exact aC
  |refine aq (A:=fz Nat) (by first|exact aB rfl|exact sb σ l _ _ hw _ _) λτ p p' l2 k=>?_
   have k:p=p':=k;subst k;refine aq (A:=fz Nat) (by first|exact aB rfl|exact sb τ (l.trans l2) _ _ hv _ _) λμ r r' l3 k=>?_;have k:r=r':=k;subst k;exact aB rfl)
theorem bI.Qr{a a':Addr}(h:bI ρ a a')(p:Prop)[Decidable p](n:Nat):bI ρ (if p then a else a.add n) (if p then a' else a'.add n):=by split;exact h;exact h.add n
theorem Qs(hP:PF P)(hK:KF P ρ)(t:aw){x x':ae}(h:VR ρ x x'){lo lo' hi hi' mx mx':Option ae}(h1:og ρ lo lo')(h2:og ρ hi hi')(h3:og ρ mx mx'):aP P cI ρ (Instr.slice t x lo hi mx) (Instr.slice t x' lo' hi' mx'):=by
 unfold Instr.slice;refine aq (bE t) λσ d d' l hd=>?_;subst hd;have hx:=h.mono l;have hK':=hK.mono l;have e:mx.isSome=mx'.isSome:=by rcases h3 with⟨rfl,rfl⟩|⟨u,u',rfl,rfl,hu⟩<;>rfl
 cases d
 case string=>
  cases hx
  case string s=>dsimp only;refine cQ e aC ?_;refine aq (jh hP hK' false s.size s.size (h1.mono l) (h2.mono l) (.inl ⟨rfl,rfl⟩)) λτ q q' l2 hq=>?_;subst hq;exact aB (.string _)
  all_goals exact aC
 case slice elem=>
  cases hx
  case iG n c=>dsimp only;refine aq (jh hP hK' true n c (h1.mono l) (h2.mono l) (h3.mono l)) λτ q q' l2 hq=>?_;subst hq;obtain⟨q1,q2,q3⟩:=q;refine aq (dJ _) λμ m m' l3 hm=>?_;subst hm;dsimp only;refine aB ?_;(have:(if q3=q1 then(none:Option Addr)else Option.map (λx:Addr=>x.add (q1*m)) none)=none:=by split<;>rfl);rw[this];exact .iG _ _
  case slice a a' n c ha=>dsimp only;refine aq (jh hP hK' true n c (h1.mono l) (h2.mono l) (h3.mono l)) λτ q q' l2 hq=>?_;subst hq;obtain⟨q1,q2,q3⟩:=q;refine aq (dJ _) λμ m m' l3 hm=>?_;subst hm;dsimp only;refine aB ?_;split;exact .slice _ _ ((ha.mono l2).mono l3);exact .slice _ _ (((ha.mono l2).mono l3).add _)
  all_goals exact aC
 case pointer arr=>dsimp only;refine aq (sL hP hK' hx) λτ a a' l2 ha=>?_;refine aq (bE _) λμ d d' l3 hd=>?_;subst hd;split;refine aq (jh hP ((hK'.mono l2).mono l3) false _ _ (h1.mono ((l.trans l2).trans l3)) (h2.mono ((l.trans l2).trans l3)) (h3.mono ((l.trans l2).trans l3))) λν q q' l4 hq=>?_;subst hq;obtain⟨q1,q2,q3⟩:=q;refine aq (dJ _) λξ m m' l5 hm=>?_;subst hm;dsimp only;exact aB (.slice _ _ ((((ha.mono l3).mono l4).mono l5).Qr _ _));exact aC
 all_goals exact aC
theorem KH(hP:PF P)(hK:KF P ρ)(t:aw){x x':ae}(h:VR ρ x x'){lo lo' hi hi' mx mx':Option ae}(h1:og ρ lo lo')(h2:og ρ hi hi')(h3:og ρ mx mx'):aP P cI ρ (Instr.sliceAt t x lo hi mx) (Instr.sliceAt t x' lo' hi' mx'):=by unfold Instr.sliceAt;refine aq (bE t) λσ d d' l hd=>?_;subst hd;split;refine aq (mj (h.mono l)) λτ a a' l2 ha=>?_;refine aq (jh hP (hK.mono (l.trans l2)) false _ _ (h1.mono (l.trans l2)) (h2.mono (l.trans l2)) (h3.mono (l.trans l2))) λν q q' l4 hq=>?_;subst hq;obtain⟨q1,q2,q3⟩:=q;refine aq (dJ _) λξ m m' l5 hm=>?_;subst hm;exact aB (.slice _ _ (((ha.mono l4).mono l5).Qr _ _));exact Qs hP (hK.mono l) t (h.mono l) (h1.mono l) (h2.mono l) (h3.mono l)
theorem Qt(hP:PF P)(hK:KF P ρ)(t:aw){x x' i i':ae}(h:VR ρ x x')(hi:VR ρ i i'):aP P cI ρ (Instr.index t x i) (Instr.index t x' i'):=by
 unfold Instr.index;refine aq (nB hi) λσ k k' l hk=>?_;subst hk;obtain⟨k,n⟩:=k;dsimp only;refine aq (bE t) λτ d d' l2 hd=>?_;subst hd;have hx:=h.mono (l.trans l2);have hK':=hK.mono (l.trans l2);cases d
 case array len elem=>
  cases hx
  case agg hc=>refine dY Iff.rfl (λ_=>?_) λ_=>ir hP hK' k n len .index;refine aq (dJ _) λμ m m' l3 hm=>?_;subst hm;exact jX _ _ (AR.mono l3 hc)
  all_goals exact aC
 case string=>
  cases hx
  case string s=>dsimp only;split;exact aB (.int _ _);exact ir hP hK' k n s.size .index
  all_goals exact aC
 all_goals exact aC
theorem EQ(hP:PF P)(hK:KF P ρ)(t:aw){x x' y y':ae}(h:VR ρ x x')(hy:VR ρ y y'):aP P cI ρ (Instr.makeSlice t x y) (Instr.makeSlice t x' y'):=by
 unfold Instr.makeSlice;refine aq (bE t) λσ d d' l hd=>?_;subst hd;split
 ·rename_i elem;refine aq (kJ (h.mono l)) λτ n n' l2 hn=>?_;subst hn;refine aq (kJ (hy.mono (l.trans l2))) λμ c c' l3 hc=>?_;subst hc;refine aq (eb _) λν i i' l4 hi=>?_;obtain⟨rfl,_⟩:=hi;have hK':=hK.mono (((l.trans l2).trans l3).trans l4);dsimp only;refine cQ rfl ?_ ?_;refine cQ rfl (dt (bK hP hK' _)) ?_;refine cQ rfl (dt (bK hP hK' _)) ?_;refine aq (gN _) λξ q q' l5 hq=>?_;subst hq;exact dt (bK hP (hK'.mono l5) _)
  ·refine aq (A:=vJ Unit Unit) ?_ λξ _ _ l5 _=>?_;unfold askRoom;exact dY Iff.rfl (λ_=>.room (.pure trivial)) λ_=>aB trivial
   refine aq (dJ _) λο m m' l6 hm=>?_;subst hm;have key:∀(μ:Rn)(z z':bw),AR μ z z'->aP P cI μ (do
    let a<-newRow elem ((Array.range ((IntKind.i64.wrap c).toNat*m)).map (z[·%z.size]!))
    Pure.pure (.slice (some a) (IntKind.i64.wrap n).toNat (IntKind.i64.wrap c).toNat)) (do
    let a<-newRow elem ((Array.range ((IntKind.i64.wrap c).toNat*m)).map (z'[·%z'.size]!))
    Pure.pure (.slice (some a) (IntKind.i64.wrap n).toNat (IntKind.i64.wrap c).toNat)):=λμ z z' hz=>
    aq (pz elem (hz.range _)) λ_ _ _ _ k=>aB (.slice _ _ k)
   refine dY Iff.rfl (λ_=>key _ _ _ .nil) λ_=>?_;exact aq (fT hP elem) λ_ _ _ _ h=>key _ _ _ h.cells
 ·exact aC
end
def AtR{γ:Type}(ρ:Rn)(x y:Option (Addr×γ)):Prop:=(x=none/\y=none)\/∃a a' t,x=some (a,t)/\y=some (a',t)/\bI ρ a a'
section
variable {P:aF}{α β γ δ:Type}{A:Rn->α->β->Prop}{C:Rn->γ->δ->Prop}{ρ:Rn}
theorem gS{r r':Nat}(h:ρ.b r r'):aP P (λ_=>ShR P ρ r) ρ (shape r) (shape r'):=.shape h λ_ _ k=>.pure k
theorem iV{r r':Nat}(h:ρ.b r r')(hd:¬ρ.D r):aP P jf ρ (getObj r) (getObj r'):=.getObj h hd λ_ _ k=>.pure k
theorem ft{r r':Nat}(h:ρ.r r r'):¬ρ.D r:=λhd=>by have:=ρ.kb (ρ.dk hd);have:=(ρ.lo h).1;omega
theorem ShR.xH{r:Nat}{s:Option (aw×Nat)}(h:ρ.K r->∃t n,s=some (t,n)/\bare P t)(hs:s.isSome=false):¬ρ.D r:=λhd=>by obtain⟨t,n,rfl,_⟩:=h (ρ.dk hd);cases hs
theorem sO{r r':Nat}(h:ρ.b r r'):aP P AtR ρ (viewAt r) (viewAt r'):=by
 unfold viewAt;refine aq (gS h) λσ s s' l e=>?_;cases e with
 |dead t hd=>exact .nz zak λx e _=>aB (.inl ⟨rfl,rfl⟩)
 |same hk=>
 cases hs:s.isSome with
 |true=>exact zao
 |false=>
 refine aq (iV (l.b h) zau) λτ o o' l2 ho=>?_;cases ho with
 |view t a=>exact aB (.inr ⟨_,_,t,rfl,rfl,a⟩)
 |_=>exact zao
theorem yG{r r':Nat}(h:ρ.b r r'):aP P AtR ρ (numberAt r) (numberAt r'):=by
 unfold numberAt;refine aq (gS h) λσ s s' l e=>?_;cases e with
 |dead t hd=>exact .nz zak λx e _=>aB (.inl ⟨rfl,rfl⟩)
 |same hk=>
 cases hs:s.isSome with
 |true=>exact zao
 |false=>
 refine aq (iV (l.b h) zau) λτ o o' l2 ho=>?_;cases ho with
 |number t a=>exact aB (.inr ⟨_,_,t,rfl,rfl,a⟩)
 |_=>exact zao
theorem jC{n n':Addr}(h:bI ρ n n'):aP P (λσ x y=>bI σ x.1 y.1/\x.2=y.2) ρ (behindNumber n) (behindNumber n'):=by unfold behindNumber;refine aq (yG h.b) λσ x y l k=>?_;rcases k with⟨rfl,rfl⟩|⟨a,a',t,rfl,rfl,k⟩;exact aB ⟨h.mono l,rfl⟩;exact aB ⟨k,rfl⟩
theorem xI{a a':Addr}(h:bI ρ a a'):aP P (vJ Unit Unit) ρ (noView a) (noView a'):=by unfold noView;refine aq (sO h.b) λσ x y l k=>?_;rcases k with⟨rfl,rfl⟩|⟨a,a',t,rfl,rfl,k⟩;exact aB trivial;exact bp rfl
theorem lD{a a':Addr}(h:bI ρ a a'):aP P (fz Nat) ρ (byteOf a) (byteOf a'):=by
 unfold byteOf;rw[h.spot];split;exact aB rfl
 ·refine aq eA λσ p p' l e=>?_;obtain⟨rfl,rfl⟩:=e;refine aq (xI (h.mono l)) λτ _ _ l2 _=>?_;refine aq (gS (l2.b (l.b h.b))) λμ s s' l3 e=>?_;cases e with
  |dead t hd=>exact aC
  |same _=>
  split;dsimp only;refine dY (A:=fz Nat) Iff.rfl (λ_=>aB rfl) λ_=>?_;rw[h.off];split;exact aB rfl;exact aC;exact aC
theorem Aj{a a' b b':Addr}(ha:bI ρ a a')(hb:bI ρ b b'):(a.block==b.block)=(a'.block==b'.block):=by have:=Rn.b_eq ha.b hb.b;by_cases e:a.block=b.block;rw[beq_iff_eq.2 e,beq_iff_eq.2 (this.1 e)];rw[beq_eq_false_iff_ne.2 e,beq_eq_false_iff_ne.2 λk=>e (this.2 k)]
theorem G7(a b:Addr):(a==b)=decide (a=b):=by by_cases e:a=b;subst e;simp;rw[decide_eq_false e,beq_eq_false_iff_ne.2 e]
theorem addrEq{a a' b b':Addr}(ha:bI ρ a a')(hb:bI ρ b b'):(a==b)=(a'==b'):=by rw[G7,G7];have k:=Rn.b_eq ha.b hb.b;obtain⟨a1,a2,a3⟩:=a;obtain⟨b1,b2,b3⟩:=b;obtain⟨c1,c2,c3⟩:=a';obtain⟨d1,d2,d3⟩:=b';obtain⟨_,rfl,rfl⟩:=ha;obtain⟨_,rfl,rfl⟩:=hb;dsimp only at k⊢;simp only[Addr.mk.injEq,k]
def Le(b b':Bool):Prop:=b'=true->b=true
theorem nj{a a':Addr}(h:bI ρ a a'):aP P (λ_ b b'=>(ρ.r a.block a'.block->b=b')/\(ρ.K a.block->b'=false)) ρ (frozen a) (frozen a'):=.frozen h λ_ _ h1 h2=>.pure ⟨h1,h2⟩
theorem vK{a a':Addr}(h:bI ρ a a'):aP P (λ_ b b'=>(ρ.r a.block a'.block->b=b')/\(ρ.K a.block->b'=false)) ρ (stringish a) (stringish a'):=by
 have hne:ρ.K a.block->¬ρ.r a.block a'.block:=λk r=>by have:=ρ.kb k;have:=(ρ.lo r).1;omega
 unfold stringish;rcases h.b with⟨hk,he⟩|hr
 ·have hk':ρ.K a'.block:=by rw[he];exact hk
  refine aq (nj h) λσ b b' l e=>?_;obtain rfl:=e.2 hk;have hks:σ.K a'.block:=by rw[l.K];exact hk'
  cases b with
  |true=>
   refine .zZ λx=>?_;cases x with
   |none=>exact aB ⟨λr=>absurd r (hne hk),λ_=>rfl⟩
   |some x=>exact .qQ hks (aB ⟨λr=>absurd r (hne hk),λ_=>rfl⟩)
  |false=>
   refine aq (gS (l.b h.b)) λτ s s' l2 e=>?_;cases e with
   |dead t hd=>exact .qQ (by rw[l2.K];exact hks) (aB ⟨λ_=>rfl,λ_=>rfl⟩)
   |same _=>
   cases s with
   |none=>exact aB ⟨λ_=>rfl,λ_=>rfl⟩
   |some x=>obtain⟨t,n⟩:=x;refine EP (nj (ρ:=τ) (a:={block:=a.block,off:=n}) (a':={block:=a'.block,off:=n}) ⟨l2.b (l.b h.b),rfl,rfl⟩) λξ b b' _ e=>?_;exact⟨λr=>absurd r (hne hk),λ_=>e.2 (by rw[l2.K,l.K];exact hk)⟩
 ·refine aq (nj h) λσ b b' l e=>?_;obtain rfl:=e.1 hr;refine cQ rfl (aB ⟨λ_=>rfl,λk=>absurd hr (hne k)⟩) ?_;refine aq (gS (l.b h.b)) λτ s s' l2 e=>?_;cases e with
  |dead t hd=>exact absurd hd (ft (l.r hr))
  |same _=>
  cases s with
  |none=>exact aB ⟨λ_=>rfl,λ_=>rfl⟩
  |some x=>obtain⟨t,n⟩:=x;refine EP (nj (ρ:=τ) (a:={block:=a.block,off:=n}) (a':={block:=a'.block,off:=n}) ⟨l2.b (l.b h.b),rfl,rfl⟩) λξ b b' _ e=>?_;exact⟨λ_=>e.1 (l2.r (l.r hr)),λk=>absurd hr (hne k)⟩
theorem ER{a a':Addr}(h:bI ρ a a'){b b':Bool}(e:(ρ.r a.block a'.block->b=b')/\(ρ.K a.block->b'=false)):Le b b':=by rcases h.b with⟨hk,_⟩|hr;rw[e.2 hk];intro k;cases k;rw[e.1 hr];intro k;exact k
theorem G8{a b a' b':Addr}(ha:bI ρ a a')(hb:bI ρ b b'):aP P (λ_ x y=>Le x y) ρ (mayBeOne a b) (mayBeOne a' b'):=by
 unfold mayBeOne;dsimp only;refine aq (vK ha) λσ x x' l e=>?_;refine aq (vK (hb.mono l)) λτ y y' l2 e2=>?_;have hx:Le x x':=ER ha e;have hy:Le y y':=ER (hb.mono l) e2;have hn:∀(σ:Rn){c c':Addr},bI σ c c'->aP P (fz Bool) σ (do Pure.pure ((<-shape c.block) matches some (_,0))) (do Pure.pure ((<-shape c'.block) matches some (_,0))):=λσ c c' hc=>
  aq (gS hc.b) λ_ s s' _ e=>by
   cases e with
   |dead t hd=>
    unfold Rn.D at hd;generalize σ.dn c.block=n at hd;cases n with
    |zero=>cases hd
    |succ n=>exact aB rfl
   |same _=>exact aB rfl
 refine aq (hn τ ((ha.mono l).mono l2)) λμ p p' l3 e3=>?_;refine aq (hn μ (((hb.mono l).mono l2).mono l3)) λν q q' l4 e4=>?_;have e3:p=p':=e3;have e4:q=q':=e4;subst e3 e4;refine aB ?_;unfold Le at hx hy⊢;revert hx hy;cases x<;>cases x'<;>cases y<;>cases y'<;>cases p<;>cases q<;>simp
theorem yH{a b a' b':Addr}(ha:bI ρ a a')(hb:bI ρ b b'):aP P (fz Bool) ρ (sameAddr a b) (sameAddr a' b'):=by
 unfold sameAddr;refine cQ (Aj ha hb) (aB (addrEq ha hb)) ?_;refine aq (nj ha) λσ x x' l e=>?_;refine aq (nj (hb.mono l)) λτ y y' l2 e2=>?_;have hx:Le x x':=ER ha e;have hy:Le y y':=ER (hb.mono l) e2;dsimp only;cases hxy:(x&&y)with
 |true=>exact .halt rfl
 |false=>
  have h2:(x'&&y')=false:=by unfold Le at hx hy;revert hx hy hxy;cases x<;>cases x'<;>cases y<;>cases y'<;>simp
  rw[h2];simp only[dA,if_false];have ha':=(ha.mono l).mono l2;have hb':=(hb.mono l).mono l2;refine aq (xI ha') λμ _ _ l3 _=>?_;refine aq (xI (hb'.mono l3)) λν _ _ l4 _=>?_;refine aq (G8 ((ha'.mono l3).mono l4) ((hb'.mono l3).mono l4)) λξ z z' l5 hz=>?_;unfold Le at hz;cases z<;>cases z'
  ·exact aB rfl
  ·exact absurd (hz rfl) sM
  ·exact .vC 0 rfl ⟨0,rfl⟩ (aB rfl)
  ·exact aq (gN _) λ_ n n' _ e=>by subst e;exact aB rfl
theorem kK{x y x' y':Option Addr}(hx:(x=none/\x'=none)\/∃a a',x=some a/\x'=some a'/\bI ρ a a')(hy:(y=none/\y'=none)\/∃a a',y=some a/\y'=some a'/\bI ρ a a'):aP P (fz Bool) ρ (samePointer x y) (samePointer x' y'):=by
 rcases hx with⟨rfl,rfl⟩|⟨a,a',rfl,rfl,ha⟩<;>rcases hy with⟨rfl,rfl⟩|⟨b,b',rfl,rfl,hb⟩
 ·exact aB rfl
 ·exact aB rfl
 ·exact aB rfl
 ·exact yH ha hb
theorem xJ{ι S:Type}{f f':ι->S->Sem (ForInStep S)}(hf:∀σ x b,ρ.Le σ->aP P (fz (ForInStep S)) σ (f x b) (f' x b)):∀(xs:List ι)(σ:Rn)(b:S),ρ.Le σ->aP P (fz S) σ (forIn xs b f) (forIn xs b f')
 |[],_,_,_=>aB rfl
 |x::xs,σ,b,l=>by
  rw[List.forIn_cons,List.forIn_cons];refine aq (hf σ x b l) λτ s s' l2 e=>?_;subst e;cases s with
  |done b=>exact aB rfl
  |yield b=>exact xJ hf xs τ b (l.trans l2)
theorem G9{ι S:Type}{f f':ι->S->Sem (ForInStep S)}(xs:Array ι)(b:S)(hf:∀σ x b,ρ.Le σ->aP P (fz (ForInStep S)) σ (f x b) (f' x b)):aP P (fz S) ρ (forIn xs b f) (forIn xs b f'):=by rw[<-Array.forIn_toList,<-Array.forIn_toList];exact xJ hf _ _ _ (Rn.Le.refl _)
theorem Dz{S:Type}{f f':Nat->S->Sem (ForInStep S)}(n:Nat)(b:S)(hf:∀σ x b,ρ.Le σ->aP P (fz (ForInStep S)) σ (f x b) (f' x b)):aP P (fz S) ρ (forIn [0:n] b f) (forIn [0:n] b f'):=by rw[Std.Legacy.Range.forIn_eq_forIn_range',Std.Legacy.Range.forIn_eq_forIn_range'];exact xJ hf _ _ _ (Rn.Le.refl _)
theorem Qu(hK:KF P ρ){a a':Addr}(h:bI ρ a a'):decide (a.block<P.globals.size)=decide (a'.block<P.globals.size):=by rcases h.b with⟨_,e⟩|hr;rw[e];have h1:=ρ.lo hr;have h2:=ρ.kb hK.handle;rw[decide_eq_false oM,decide_eq_false oM]
theorem KI(t:aw):aP P (fz String) ρ (typeStr t) (typeStr t):=by unfold Go.typeStr;refine aq (eb _) λξ i i' l5 e=>?_;obtain⟨rfl,_⟩:=e;exact cQ rfl (bp rfl) (aB rfl)
theorem lF(hP:PF P):∀(n:Nat)(t:aw){ρ:Rn}{x y x' y':ae},KF P ρ->VR ρ x x'->VR ρ y y'->aP P (fz Bool) ρ (Op.equalIn n t x y) (Op.equalIn n t x' y')
 |0,t,_,_,_,_,_,_,_,_=>bp rfl
 |n+1,t,ρ,x,y,x',y',hK,hx,hy=>by
  unfold Op.equalIn;refine aq (bE t) λσ d d' l e=>?_;subst e;replace hx:=hx.mono l;replace hy:=hy.mono l;replace hK:=hK.mono l;cases d
  case bool=>
   cases hx
   case bool b=>
    cases hy
    case bool c=>exact aB rfl
    all_goals exact aC
   all_goals exact aC
  case int ik=>
   cases hx
   case int k a=>
    cases hy
    case int k' b=>exact dY Iff.rfl (λ_=>aB rfl) λ_=>aC
    case iP=>cases a<;>first|exact bp rfl|(rename_i m;cases m<;>exact bp rfl)
    case ptr hb=>cases a with
     |ofNat m=>cases m<;>first|exact aB rfl|exact bp rfl
     |negSucc m=>exact bp rfl
    all_goals exact aC
   case iP=>exact bp rfl
   case ptr a a' ha=>
    cases hy
    case iP=>exact bp rfl
    case int k b=>cases b with
     |ofNat m=>cases m<;>first|exact aB rfl|exact bp rfl
     |negSucc m=>exact bp rfl
    case ptr b b' hb=>refine aq (jC ha) λτ p p' l2 hp=>?_;refine aq (jC (hb.mono l2)) λμ q q' l3 hq=>?_;have hp:=hp.1.mono l3;have hq:=hq.1;dsimp only;refine aq eA λν z z' l4 e=>?_;rw[e.1,e.2];have hK':=((hK.mono l2).mono l3).mono l4;refine cQ (by rw[Aj hp hq,Qu hK' (hp.mono l4)]) ?_ ?_;refine aq (lD (hp.mono l4)) λξ u u' l5 e=>?_;subst e;refine aq (lD ((hq.mono l4).mono l5)) λ_ v v' _ e=>?_;subst e;exact aB rfl;refine aq (eb _) λξ i i' l5 e=>?_;obtain⟨rfl,_⟩:=e;split;exact cQ (addrEq hp hq) (aB rfl) (bp rfl);exact bp rfl
    all_goals exact bp rfl
   all_goals(cases hy<;>first|exact aC|exact bp rfl)
  case float fk=>
   cases hx
   case float k a=>
    cases hy
    case float k' b=>exact dY Iff.rfl (λ_=>aB rfl) λ_=>aC
    all_goals exact aC
   all_goals exact aC
  case complex fk=>
   cases hx
   case complex k a b=>
    cases hy
    case complex k' a' b'=>exact dY Iff.rfl (λ_=>aB rfl) λ_=>aC
    all_goals exact aC
   all_goals exact aC
  case string=>
   cases hx
   case string a=>
    cases hy
    case string b=>exact aB rfl
    all_goals exact aC
   all_goals exact aC
  case pointer elem=>
   cases hx
   case iP=>cases hy<;>first|exact aB rfl|exact aC
   case ptr a a' ha=>
    cases hy
    case iP=>exact aB rfl
    case ptr b b' hb=>refine aq (dJ _) λτ m m' l2 e=>?_;subst e;refine dY Iff.rfl (λ_=>yH (ha.mono l2) (hb.mono l2)) λ_=>?_;refine cQ (addrEq (ha.mono l2) (hb.mono l2)) (aB rfl) ?_;exact aq (gN _) λ_ a b _ e=>aB (by rw[e])
    all_goals exact aC
   all_goals exact aC
  case unsafePointer=>
   cases hx
   case iP=>cases hy<;>first|exact aC|exact kK (.inl ⟨rfl,rfl⟩) (.inl ⟨rfl,rfl⟩)|exact kK (.inl ⟨rfl,rfl⟩) (.inr ⟨_,_,rfl,rfl,‹_›⟩)
   case ptr a a' ha=>cases hy<;>first|exact aC|exact kK (.inr ⟨_,_,rfl,rfl,ha⟩) (.inl ⟨rfl,rfl⟩)|exact kK (.inr ⟨_,_,rfl,rfl,ha⟩) (.inr ⟨_,_,rfl,rfl,‹_›⟩)
   all_goals exact aC
  case chan dir elem=>
   cases hx
   case Qg=>cases hy<;>first|exact aC|exact aB rfl
   all_goals exact aC
  case interface ms=>
   cases hx
   case nilIface=>cases hy<;>first|exact aC|exact aB rfl
   case iface tx hv=>
    cases hy
    case nilIface=>exact aB rfl
    case iface ty hw=>refine dY Iff.rfl (λ_=>aB rfl) λ_=>?_;refine aq (eb _) λτ i i' l2 e=>?_;obtain⟨rfl,_⟩:=e;refine cQ rfl ?_ (lF hP n tx (hK.mono l2) (hv.mono l2) (hw.mono l2));refine aq eA λν z z' l4 e=>?_;rw[e.1,e.2];refine aq eA λν z z' l5 e=>?_;rw[e.1,e.2];dsimp only;refine cQ rfl (dt (bp rfl)) ?_;refine aq (KI tx) λξ u u' l6 e=>?_;subst e;exact bK hP ((((hK.mono l2).mono l4).mono l5).mono l6) _
    all_goals exact aC
   all_goals exact aC
  case struct fs=>
   cases hx
   case agg ha=>
    cases hy
    case agg hb=>refine aq eA λν z z' l4 e=>?_;rw[e.1,e.2];dsimp only;refine cQ rfl (dt (bp rfl)) ?_;refine aq (A:=fz _) (G9 fs _ λτ f b l5=>?_) λμ s s' l5 e=>?_;refine dY Iff.rfl (λ_=>?_) λ_=>aB rfl;have l6:=l4.trans l5;refine aq (jX _ _ (AR.mono l6 ha)) λπ u u' l7 hu=>?_;refine aq (jX _ _ (AR.mono (l6.trans l7) hb)) λκ v v' l8 hv=>?_;refine aq (lF hP n f.type (hK.mono ((l6.trans l7).trans l8)) (hu.mono l8) hv) λ_ e e' _ he=>?_;exact zaf;have e:s=s':=e;subst e;split<;>exact aB rfl
    all_goals exact aC
   all_goals exact aC
  case array len elem=>
   cases hx
   case agg ha=>
    cases hy
    case agg hb=>refine aq (dJ _) λν z z' l4 e=>?_;subst e;dsimp only;refine aq (A:=fz _) (Dz len _ λτ f b l5=>?_) λμ s s' l5 e=>?_;have l6:=l4.trans l5;refine aq (jX _ _ (AR.mono l6 ha)) λπ u u' l7 hu=>?_;refine aq (jX _ _ (AR.mono (l6.trans l7) hb)) λκ v v' l8 hv=>?_;refine aq (lF hP n elem (hK.mono ((l6.trans l7).trans l8)) (hu.mono l8) hv) λ_ e e' _ he=>?_;exact zaf;have e:s=s':=e;subst e;split<;>exact aB rfl
    all_goals exact aC
   all_goals exact aC
  case slice e=>
   cases hx
   case iG=>cases hy<;>first|exact aC|exact aB rfl
   case slice=>cases hy<;>first|exact aC|exact aB rfl
   all_goals exact aC
  case map k e=>
   cases hx
   case Du=>cases hy<;>first|exact aC|exact aB rfl
   case map=>cases hy<;>first|exact aC|exact aB rfl
   all_goals exact aC
  case func ps rs va=>
   cases hx
   case nilFunc=>cases hy<;>first|exact aC|exact aB rfl
   case func=>cases hy<;>first|exact aC|exact aB rfl
   all_goals exact aC
  all_goals exact aC
theorem mN:∀(n:Nat)(t:aw){ρ:Rn}{x y x' y':ae},VR ρ x x'->VR ρ y y'->aP P (fz Bool) ρ (Op.eqGuardIn n t x y) (Op.eqGuardIn n t x' y')
 |0,t,_,_,_,_,_,_,_=>bp rfl
 |n+1,t,ρ,x,y,x',y',hx,hy=>by
  unfold Op.eqGuardIn;refine aq (bE t) λσ d d' l e=>?_;subst e;replace hx:=hx.mono l;replace hy:=hy.mono l;cases d
  case interface ms=>cases hx<;>cases hy<;>exact aB rfl
  case struct fs=>
   cases hx
   case agg ha=>
    cases hy
    case agg hb=>refine aq (A:=fz _) (G9 fs _ λτ f b l6=>?_) λμ s s' l5 e=>?_;refine dY Iff.rfl (λ_=>?_) λ_=>aB rfl;refine aq (jX _ _ (AR.mono l6 ha)) λπ u u' l7 hu=>?_;refine aq (jX _ _ (AR.mono (l6.trans l7) hb)) λκ v v' l8 hv=>?_;refine aq (mN n f.type (hu.mono l8) hv) λ_ e e' _ he=>?_;exact zaf;exact zap
    all_goals exact aB rfl
   all_goals exact aB rfl
  case array len elem=>
   cases hx
   case agg ha=>
    cases hy
    case agg hb=>refine aq (dJ _) λν z z' l4 e=>?_;subst e;refine aq (A:=fz _) (Dz len _ λτ f b l5=>?_) λμ s s' l5 e=>?_;have l6:=l4.trans l5;refine aq (jX _ _ (AR.mono l6 ha)) λπ u u' l7 hu=>?_;refine aq (jX _ _ (AR.mono (l6.trans l7) hb)) λκ v v' l8 hv=>?_;refine aq (mN n elem (hu.mono l8) hv) λ_ e e' _ he=>?_;exact zaf;exact zap
    all_goals exact aB rfl
   all_goals exact aB rfl
  all_goals exact aB rfl
theorem KJ(op:BinOp)(t:aw)(x y:Operand){a b a' b':ae}(ha:VR ρ a a')(hb:VR ρ b b'):aP P (vJ Unit Unit) ρ (eqGuard op t x y a b) (eqGuard op t x y a' b'):=by
 unfold eqGuard;refine cQ rfl (aB trivial) ?_;cases ha
 case nilIface=>
  cases hb
  case nilIface=>refine cQ rfl (aB trivial) ?_;refine aq (mN _ _ .nilIface .nilIface) λ_ e e' _ he=>?_;subst he;exact cQ rfl (bp rfl) (aB trivial)
  all_goals exact aB trivial
 case agg h1=>
  cases hb
  case agg h2=>refine aq eA λν z z' l4 e=>?_;rw[e.1,e.2];refine aq eA λν z z' l5 e=>?_;rw[e.1,e.2];refine cQ rfl (aB trivial) ?_;refine aq (mN _ _ (.agg (AR.mono (l4.trans l5) h1)) (.agg (AR.mono (l4.trans l5) h2))) λ_ e e' _ he=>?_;subst he;exact cQ rfl (bp rfl) (aB trivial)
  all_goals exact aB trivial
 all_goals exact aB trivial
theorem yI{a a':Addr}(h:bI ρ a a')(b:Bool):aP P cI ρ (asNumber a b) (asNumber a' b):=by unfold asNumber;exact aq (oX (.number b h)) λ_ _ _ _ k=>aB (.ptr ⟨.inr k,rfl,rfl⟩)
theorem mO(ts:Array aw)(t:aw){x y x' y':ae}(hx:VR ρ x x')(hy:VR ρ y y'):aP P cI ρ (Builtin.unsafeAdd_ ts t #[x,y]) (Builtin.unsafeAdd_ ts t #[x',y']):=by
 unfold Builtin.unsafeAdd_;cases hx
 case iP=>refine aq (kJ hy) λσ n n' l e=>?_;subst e;refine dY Iff.rfl (λ_=>bp rfl) λ_=>dY Iff.rfl (λ_=>dt (bp rfl)) λ_=>bp rfl
 case ptr a a' ha=>
  refine aq (kJ hy) λσ n n' l e=>?_;subst e;refine dY Iff.rfl (λ_=>?_) λ_=>dY Iff.rfl (λ_=>dt (bp rfl)) λ_=>?_;refine aq (sO (l.b ha.b)) λτ v v' l2 e=>?_;rcases e with⟨rfl,rfl⟩|⟨b,b',t,rfl,rfl,k⟩;exact aB (.ptr ((ha.mono l).mono l2));exact dt (bp rfl)
  ·refine aq (gS (l.b ha.b)) λτ s s' l2 e=>?_;cases e with
   |dead t hd=>exact bp rfl
   |same _=>
   split;refine aq eA λν z z' l5 e=>?_;rw[e.1,e.2,ha.off];split;exact aB (.ptr ⟨l5.b (l2.b (l.b ha.b)),rfl,ha.spot⟩);exact bp rfl;exact bp rfl
 all_goals exact aC
theorem ji(t:aw){x y x' y':ae}(hx:VR ρ x x')(hy:VR ρ y y'):aP P cI ρ (movedNumber t x y) (movedNumber t x' y'):=by
 unfold movedNumber;refine aq (bE t) λσ d d' l e=>?_;subst e;refine cQ rfl (dt (bp rfl)) ?_;have hx1:=hx.mono l;have hy1:=hy.mono l;cases hx
 case ptr a a' ha=>
  refine aq (A:=λσ x y=>bI σ x.1 y.1/\x.2=y.2) (jC (ha.mono l)) λτ p p' l2 hp=>?_;obtain⟨p1,p2⟩:=p;obtain⟨q1,q2⟩:=p';obtain⟨hp,e⟩:=hp;have e:p2=q2:=e;subst e;refine aq (mO _ _ (.ptr hp) (hy1.mono l2)) λμ v v' l3 hv=>?_;have hv1:VR μ v v':=hv;cases hv
  case ptr k=>exact yI k _
  all_goals exact aB hv1
 all_goals exact mO _ _ (by assumption) hy1
theorem zI(t:aw){x y x' y':ae}(hx:VR ρ x x')(hy:VR ρ y y'):aP P cI ρ (movedPointer t x y) (movedPointer t x' y'):=by
 unfold movedPointer;have hx1:=hx;cases hx
 case ptr a a' ha=>refine aq (yG ha.b) λσ v v' l2 e=>?_;rcases e with⟨rfl,rfl⟩|⟨b,b',q,rfl,rfl,k⟩;exact mO #[] t (hx1.mono l2) (hy.mono l2);exact dt (bp rfl)
 all_goals exact mO _ _ hx1 hy
theorem vL(hK:KF P ρ){a b a' b':Addr}(ha:bI ρ a a')(hb:bI ρ b b'):aP P (fz (Nat×Nat)) ρ (Op.twoPlaces a b) (Op.twoPlaces a' b'):=by unfold Op.twoPlaces;refine aq eA λσ p p' l e=>?_;rw[e.1,e.2];refine cQ ?_ (dt (bp rfl)) ?_;have h1:=Aj ha hb;have h2:=Qu hK ha;simp only[ge_iff_le,bne,h1];congr 1;simp only[<-om,decide_not,h2];refine aq (lD (ha.mono l)) λτ u u' l2 e=>?_;subst e;refine aq (lD ((hb.mono l).mono l2)) λ_ v v' _ e=>?_;subst e;exact aB rfl
theorem KL(hK:KF P ρ)(k:IntKind){a b a' b':Addr}(ha:bI ρ a a')(hb:bI ρ b b'):aP P cI ρ (Op.addrSub k a b) (Op.addrSub k a' b'):=by unfold Op.addrSub;refine aq (vL hK ha hb) λτ u u' l2 e=>?_;subst e;exact aB (.int _ _)
theorem KM(hK:KF P ρ)(op:BinOp){a b a' b':Addr}(ha:bI ρ a a')(hb:bI ρ b b'):aP P cI ρ (Op.addrCmp op a b) (Op.addrCmp op a' b'):=by unfold Op.addrCmp;refine aq (vL hK ha hb) λτ u u' l2 e=>?_;subst e;cases op<;>first|exact aB (.bool _)|exact bp rfl
theorem Ak(k:IntKind){a a':Addr}(ha:bI ρ a a')(n:Int):aP P cI ρ (Op.addrMod k a n) (Op.addrMod k a' n):=by
 unfold Op.addrMod;refine aq (gS ha.b) λτ s s' l2 e=>?_;cases e with
 |dead t hd=>exact bp rfl
 |same _=>
 split;refine aq (eb _) λτ i i' l3 e=>?_;obtain⟨rfl,_⟩:=e;refine cQ rfl (dt (bp rfl)) ?_;refine aq (lD ((ha.mono l2).mono l3)) λτ u u' l2 e=>?_;subst e;exact aB (.int _ _);exact bp rfl
inductive Flat{α:Type}(Q:α->Prop):Sem α->Prop
 |pure {a:α}:Q a->Flat Q (.pure a)
 |choose (q:Question) {k:Nat->Sem α}:(∀n,Flat Q (k n))->Flat Q (.choose q k)
 |halt {h:Halt}:fQ h=true->Flat Q (.halt h)
theorem Flat.bind{Q:α->Prop}{Q':β->Prop}{s:Sem α}{f:α->Sem β}(h:Flat Q s)(hf:∀a,Q a->Flat Q' (f a)):Flat Q' (s>>=f):=by
 show Flat Q' (s.bind f)
 induction h with
 |pure ha=>exact hf _ ha
 |choose q _ ih=>exact .choose q ih
 |halt hd=>exact .halt hd
theorem Flat.ite{Q:α->Prop}{p:Prop}[Decidable p]{a b:Sem α}(ha:Flat Q a)(hb:Flat Q b):Flat Q (if p then a else b):=by split;exact ha;exact hb
theorem Flat.ret{Q:α->Prop}{a:α}(h:Q a):Flat Q (Pure.pure a):=.pure h
theorem Flat.Ha{Q:α->Prop}{why:String}:Flat Q (stuck (α:=α) why):=.halt rfl
def Any(_:α):Prop:=True
theorem Flat.any(a:α):Flat Any (Pure.pure a):=.pure trivial
theorem Flat.ask(q:Question):Flat Any (Go.choose q):=.choose q λ_=>.pure trivial
theorem Flat.R{Q:α->Prop}{s:Sem α}(h:Flat Q s):aP P (λ_ a b=>a=b/\Q a) ρ s s:=by
 induction h with
 |pure ha=>exact .pure ⟨rfl,ha⟩
 |choose q _ ih=>exact .choose ih
 |halt hd=>exact .halt hd
theorem Flat.V{s:Sem ae}(h:Flat Pl s):aP P cI ρ s s:=EP h.R λσ a b _ e=>by obtain⟨rfl,h⟩:=e;exact h σ
theorem vM(k:FloatKind)(n:Nat):Pl (.float k n):=λ_=>.float _ _
theorem yJ(k:IntKind)(n:Int):Pl (.int k n):=λ_=>.int _ _
theorem WG(b:Bool):Pl (.bool b):=λ_=>.bool _
theorem WH(k:FloatKind)(n m:Nat):Pl (.complex k n m):=λ_=>.complex _ _ _
theorem yK(op:BinOp)(k:FloatKind)(x y:Nat):Flat Pl (Op.floatArith op k x y):=by
 unfold Op.floatArith;have jp:∀r:Option Nat,Flat Pl (match r with|some r=>Pure.pure (Value.float k r)|none=>do Pure.pure (Value.float k (<-Go.choose (.nanBits k x y)))):=λr=>by cases r;exact .bind (.ask _) λ_ _=>.ret (vM _ _);exact .ret (vM _ _)
 dsimp only;split;exact zam;exact zam;exact zam;exact zam;exact .bind (Q:=Any) .Ha λr _=>jp r
theorem DC(op:BinOp)(k:FloatKind)(x y:Nat):Flat Pl (Op.floatCmp op k x y):=by unfold Op.floatCmp;dsimp only;split<;>first|exact .ret (WG _)|exact .Ha
theorem mg(s:FloatKind)(b:Nat)(d:FloatKind):Flat Pl (Conv.floatToFloat s b d):=by unfold Conv.floatToFloat;refine .ite (.ret (vM _ _)) ?_;split;exact .bind (.ask _) λ_ _=>.ret (vM _ _);exact .ret (vM _ _);dsimp only;exact .ite (.bind (.ask _) λ_ _=>.ret (vM _ _)) (.ret (vM _ _))
theorem Hb(s:FloatKind)(b:Nat)(d:IntKind):Flat Pl (Conv.floatToInt s b d):=by unfold Conv.floatToInt;dsimp only;split;exact .ite (.ret (yJ _ _)) (.bind (.ask _) λ_ _=>.ret (yJ _ _));exact .bind (.ask _) λ_ _=>.ret (yJ _ _)
theorem zJ(s:FloatKind)(a b:Nat)(d:FloatKind):Flat Pl (Conv.complexToComplex s a b d):=by unfold Conv.complexToComplex;refine .bind (mg _ _ _) λr _=>?_;split;refine .bind (mg _ _ _) λr _=>?_;split;exact .ret (WH _ _ _);exact .Ha;exact .Ha
theorem sP(op:BinOp)(k:FloatKind)(x y:Nat):Flat Any (Op.Complex.arith op k x y):=by unfold Op.Complex.arith;refine .bind (yK _ _ _ _) λr _=>?_;split<;>first|exact .any _|exact .Ha
theorem KN(v:ae):Flat Any (asBool v):=by cases v<;>first|exact .any _|exact .Ha
theorem Am(op:BinOp)(k:FloatKind)(x y:Nat):Flat Any (Op.Complex.cmp op k x y):=by unfold Op.Complex.cmp;exact .bind (DC _ _ _ _) λr _=>KN r
theorem KP(s:FloatKind)(x:Nat)(d:FloatKind):Flat Any (Op.Complex.conv s x d):=by unfold Op.Complex.conv;refine .ite (.any _) (.bind (mg _ _ _) λr _=>?_);split<;>first|exact .any _|exact .Ha
section
attribute [local irreducible] Op.Complex.arith Op.Complex.cmp Op.Complex.conv
theorem KQ(a b c d:Nat):Flat Any (Op.Complex.product a b c d):=by unfold Op.Complex.product;exact zaj
theorem KU(s a b c d:Nat):Flat Any (Op.Complex.corrected s a b c d):=by unfold Op.Complex.corrected;exact zaj
attribute [local irreducible] Op.Complex.corrected Op.Complex.product
theorem KW(a b c d:Nat):Flat Any (Op.Complex.quotient a b c d):=by unfold Op.Complex.quotient;dsimp only;repeat' first|(refine Flat.bind (Q:=Any) ?_ λ_ _=>?_)|refine Flat.ite ?_ ?_|exact Am _ _ _ _|exact sP _ _ _ _|exact KU _ _ _ _ _|exact .any _
attribute [local irreducible] Op.Complex.quotient
theorem CH(op:BinOp)(k:FloatKind)(a b c d:Nat):Flat Pl (Op.complexOp op k a b c d):=by
 cases op<;>unfold Op.complexOp<;>dsimp only<;>
 repeat' first|(refine Flat.bind (Q:=Any) ?_ λ_ _=>?_)|refine Flat.ite ?_ ?_|exact Am _ _ _ _|exact sP _ _ _ _|exact KP _ _ _|exact KQ _ _ _ _|exact KW _ _ _ _|exact .ret (WH _ _ _)|exact .ret (WG _)|exact .Ha
end
theorem Hc(hP:PF P)(hK:KF P ρ)(op:BinOp)(k:IntKind)(x:Int)(q:IntKind)(y:Int):aP P cI ρ (Op.shift op k x q y) (Op.shift op k x q y):=by unfold Op.shift;exact zah
theorem NU(hP:PF P)(hK:KF P ρ)(op:BinOp)(k:IntKind)(x y:Int):aP P cI ρ (Op.intDiv op k x y) (Op.intDiv op k x y):=by unfold Op.intDiv;exact zah
theorem yL(op:BinOp)(x y:ay):aP P cI ρ (Op.stringOp op x y) (Op.stringOp op x y):=by unfold Op.stringOp;dsimp only;cases op<;>first|exact aB (.bool _)|exact aC|exact dY Iff.rfl (λ_=>bp rfl) λ_=>aB (.string _)
theorem kL(hP:PF P)(hK:KF P ρ)(t:aw){x y x' y':ae}(hx:VR ρ x x')(hy:VR ρ y y'):aP P cI ρ (do Pure.pure (.bool (<-Op.equal t x y))) (do Pure.pure (.bool (<-Op.equal t x' y'))):=
 aq (lF hP _ t hK hx hy) λ_ _ _ _ e=>by subst e;exact aB (.bool _)
theorem kM(hP:PF P)(hK:KF P ρ)(t:aw){x y x' y':ae}(hx:VR ρ x x')(hy:VR ρ y y'):aP P cI ρ (do Pure.pure (.bool (!(<-Op.equal t x y)))) (do Pure.pure (.bool (!(<-Op.equal t x' y')))):=
 aq (lF hP _ t hK hx hy) λ_ _ _ _ e=>by subst e;exact aB (.bool _)
theorem NV(hP:PF P)(hK:KF P ρ)(op:BinOp)(t:aw)(k:IntKind)(a:Int)(k':IntKind)(b:Int):aP P cI ρ (binOp op t (.int k a) (.int k' b)) (binOp op t (.int k a) (.int k' b)):=by
 cases op
 case shl=>show aP P cI ρ (Op.shift .shl k a k' b) (Op.shift .shl k a k' b);exact Hc hP hK _ _ _ _ _
 case shr=>show aP P cI ρ (Op.shift .shr k a k' b) (Op.shift .shr k a k' b);exact Hc hP hK _ _ _ _ _
 all_goals refine dY Iff.rfl (λ_=>aC) λ_=>?_
 all_goals first|exact aB (.int _ _)|exact aB (.bool _)|exact NU hP hK _ _ _ _
theorem Hd(t:aw){x y x' y':ae}(hx:VR ρ x x')(hy:VR ρ y y'):aP P cI ρ (do if(<-underlying t) matches .unsafePointer then movedPointer t x y else movedNumber t x y) (do if(<-underlying t) matches .unsafePointer then movedPointer t x' y' else movedNumber t x' y'):=by refine aq (bE t) λσ d d' l e=>?_;subst e;exact cQ rfl (zI t (hx.mono l) (hy.mono l)) (ji t (hx.mono l) (hy.mono l))
theorem He(op:BinOp)(t:aw)(k:FloatKind)(a:Nat)(k':FloatKind)(b:Nat):aP P cI ρ (binOp op t (.float k a) (.float k' b)) (binOp op t (.float k a) (.float k' b)):=by
 have e:binOp op t (.float k a) (.float k' b)=if k≠k' then stuck "BinOp: operands of different kinds" else match op with
  |.add|.sub|.mul|.quo=>Op.floatArith op k a b
  |_=>Op.floatCmp op k a b:=by cases op<;>rfl
 rw[e];refine dY Iff.rfl (λ_=>aC) λ_=>?_;split<;>first|exact(yK _ _ _ _).V|exact(DC _ _ _ _).V
theorem Qv(hP:PF P)(hK:KF P ρ)(op:BinOp)(t:aw){x y x' y':ae}(hx:VR ρ x x')(hy:VR ρ y y'):aP P cI ρ (binOp op t x y) (binOp op t x' y'):=by
 have hx1:=hx;have hy1:=hy;cases hx
 case int k a=>
  cases hy
  case int k' b=>exact NV hP hK _ _ _ _ _ _
  case ptr ha=>cases op<;>first|exact aC|exact bp rfl|exact kL hP hK t hx1 hy1|exact kM hP hK t hx1 hy1|exact ji t hy1 hx1|exact aq (jC ha) λ_ p p' _ hp=>Ak _ hp.1 _
  all_goals cases op<;>first|exact aC|exact bp rfl|exact kL hP hK t hx1 hy1|exact kM hP hK t hx1 hy1|exact ji t hy1 hx1
 case float k a=>
  cases hy
  case float k' b=>exact He op t k a k' b
  all_goals cases op<;>first|exact aC|exact bp rfl|exact kL hP hK t hx1 hy1|exact kM hP hK t hx1 hy1
 case complex k a b=>
  cases hy
  case complex k' c d=>(have e:binOp op t (.complex k a b) (.complex k' c d)=if k≠k' then stuck "BinOp: operands of different kinds" else Op.complexOp op k a b c d:=by cases op<;>rfl);rw[e];exact dY Iff.rfl (λ_=>aC) λ_=>(CH _ _ _ _ _ _).V
  all_goals cases op<;>first|exact aC|exact bp rfl|exact kL hP hK t hx1 hy1|exact kM hP hK t hx1 hy1
 case string a=>
  cases hy
  case string b=>(have e:binOp op t (.string a) (.string b)=Op.stringOp op a b:=by cases op<;>rfl);rw[e];exact yL op a b
  all_goals cases op<;>first|exact aC|exact bp rfl|exact kL hP hK t hx1 hy1|exact kM hP hK t hx1 hy1
 case iP=>
  cases hy
  case int k b=>cases op<;>first|exact aC|exact bp rfl|exact kL hP hK t hx1 hy1|exact kM hP hK t hx1 hy1|exact Hd t hx1 hy1|exact ji t hx1 (.int _ _)
  all_goals cases op<;>first|exact aC|exact bp rfl|exact kL hP hK t hx1 hy1|exact kM hP hK t hx1 hy1
 case ptr a a' ha=>
  cases hy
  case int k b=>cases op<;>first|exact aC|exact bp rfl|exact kL hP hK t hx1 hy1|exact kM hP hK t hx1 hy1|exact Hd t hx1 hy1|exact ji t hx1 (.int _ _)|exact aq (jC ha) λ_ p p' _ hp=>Ak _ hp.1 _
  case ptr b b' hb=>
   have hs:aP P cI ρ (do Op.addrSub .u64 (<-behindNumber a).1 (<-behindNumber b).1) (do Op.addrSub .u64 (<-behindNumber a').1 (<-behindNumber b').1):=
    aq (jC ha) λ_ p p' l hp=>aq (jC (hb.mono l)) λ_ q q' l2 hq=>KL (hK.mono (l.trans l2)) _ (hp.1.mono l2) hq.1
   have hc:aP P cI ρ (do Op.addrCmp op (<-behindNumber a).1 (<-behindNumber b).1) (do Op.addrCmp op (<-behindNumber a').1 (<-behindNumber b').1):=
    aq (jC ha) λ_ p p' l hp=>aq (jC (hb.mono l)) λ_ q q' l2 hq=>KM (hK.mono (l.trans l2)) _ (hp.1.mono l2) hq.1
   cases op
   case eql=>exact kL hP hK t hx1 hy1
   case neq=>exact kM hP hK t hx1 hy1
   case sub=>exact hs
   case lss=>exact hc
   case leq=>exact hc
   case gtr=>exact hc
   case geq=>exact hc
   all_goals exact bp rfl
  all_goals cases op<;>first|exact aC|exact bp rfl|exact kL hP hK t hx1 hy1|exact kM hP hK t hx1 hy1
 all_goals(cases hy<;>cases op<;>first|exact aC|exact bp rfl|exact kL hP hK t hx1 hy1|exact kM hP hK t hx1 hy1)
end
section
variable {P:aF}{α β γ δ:Type}{A:Rn->α->β->Prop}{C:Rn->γ->δ->Prop}{ρ:Rn}
theorem Qw(op:UnOp){x x':ae}(hx:VR ρ x x'):aP P cI ρ (Op.unary op x) (Op.unary op x'):=by cases hx<;>cases op<;>first|exact aC|exact bp rfl|exact aB (.int _ _)|exact aB (.float _ _)|exact aB (.complex _ _ _)|exact aB (.bool _)
theorem xK{S:Type}{f f':ae->S->Sem (ForInStep S)}(hf:∀σ v v' b,ρ.Le σ->VR σ v v'->aP P (fz (ForInStep S)) σ (f v b) (f' v' b)):∀{l l':List ae}(σ:Rn)(b:S),ρ.Le σ->LR σ l l'->aP P (fz S) σ (forIn l b f) (forIn l' b f')
 |_,_,_,_,_,.nil=>aB rfl
 |_,_,σ,b,l,.cons x y=>by
  rw[List.forIn_cons,List.forIn_cons];refine aq (hf σ _ _ b l x) λτ s s' l2 e=>?_;subst e;cases s with
  |done b=>exact aB rfl
  |yield b=>exact xK hf τ b (l.trans l2) (y.mono l2)
theorem Ao(t:aw){c c':bw}(h:AR ρ c c'):aP P (λσ a a'=>bI σ a a'/\σ.r a.block a'.block) ρ (newRow t c) (newRow t c'):=by unfold Go.newRow;exact aq (oX (.cells t (0,0) h)) λ_ _ _ _ hr=>aB ⟨⟨.inr hr,rfl,rfl⟩,hr⟩
theorem DD{a a':Addr}(h:bI ρ a a')(hr:ρ.r a.block a'.block)(n:Nat):aP P (vJ Unit Unit) ρ (freeze a n) (freeze a' n):=.freeze h hr (.pure trivial)
theorem Uz{a a':Addr}(h:bI ρ a a')(hr:ρ.r a.block a'.block):aP P (vJ Unit Unit) ρ (markStringish a) (markStringish a'):=by
 unfold markStringish;refine aq (gS h.b) λσ s s' l e=>?_;cases e with
 |dead t hd=>exact absurd hd (ft hr)
 |same _=>
 cases s with
 |none=>exact aB trivial
 |some x=>obtain⟨t,n⟩:=x;exact DD (a:={block:=a.block,off:=n}) (a':={block:=a'.block,off:=n}) ⟨l.b h.b,rfl,rfl⟩ (l.r hr) 1
theorem AR.plain{c:bw}(h:∀v∈c.toList,Pl v):AR ρ c c:=by
 unfold AR;revert h;generalize c.toList=l;intro h
 induction l with
 |nil=>exact .nil
 |cons v l ih=>exact .cons (h v sM ρ) (ih λu hu=>h u (by simp[hu]))
theorem Hf(t:aw)(s:ay):aP P cI ρ (Conv.stringToBytes t s) (Conv.stringToBytes t s):=by
 unfold Conv.stringToBytes;refine aq (gN _) λσ n n' l e=>?_;subst e;refine aq (Ao t (AR.plain λv hv=>?_)) λτ a a' l2 h=>?_;simp only[cV,cS,Array.toList_replicate,List.mem_append,List.mem_map,List.mem_replicate]at hv;rcases hv with⟨b,_,rfl⟩|⟨_,rfl⟩<;>exact yJ _ _
 ·refine aq (Uz h.1 h.2) λμ _ _ l3 _=>?_;exact aB (.slice _ _ (h.1.mono l3))
theorem DF(s:ay):∀(b i:Nat)(acc:bw),(∀v∈acc.toList,Pl v)->∀v∈(Conv.runesFrom s b i acc).toList,Pl v
 |0,_,_,h=>h
 |b+1,i,acc,h=>by unfold Conv.runesFrom;split;dsimp only;refine DF s b _ _ λv hv=>?_;simp only[bH,List.mem_append,bW]at hv;rcases hv with hv|rfl;exact h v hv;exact yJ _ _;exact h
theorem Hg(t:aw)(s:ay):aP P cI ρ (Conv.stringToRunes t s) (Conv.stringToRunes t s):=by unfold Conv.stringToRunes;dsimp only;refine aq (gN _) λσ n n' l e=>?_;subst e;refine aq (Ao t (AR.plain λv hv=>?_)) λτ a a' l2 h=>aB (.slice _ _ h.1);simp only[cV,Array.toList_replicate,List.mem_append,List.mem_replicate]at hv;rcases hv with hv|⟨_,rfl⟩;exact DF s _ _ _ sM v hv;exact yJ _ _
theorem Hh{x x':ae}(h:VR ρ x x'):aP P cI ρ (Conv.bytesToString x) (Conv.bytesToString x'):=by
 unfold Conv.bytesToString;cases h
 case iG=>exact aB (.string _)
 case slice a a' n c ha=>
  refine aq (mM n ha) λσ z z' l hz=>?_;refine aq (A:=fz _) ?_ λμ s s' l5 e=>?_
  ·rw[<-Array.forIn_toList,<-Array.forIn_toList];refine xK (ρ:=σ) (λτ v v' b _ hv=>?_) σ _ (Rn.Le.refl _) hz;cases hv
   case int k n=>cases k<;>first|exact aC|exact aB rfl
   all_goals exact aC
  ·have e:s=s':=e;subst e;exact aB (.string _)
 all_goals exact aC
theorem Hi{x x':ae}(h:VR ρ x x'):aP P cI ρ (Conv.runesToString x) (Conv.runesToString x'):=by
 unfold Conv.runesToString;cases h
 case iG=>exact aB (.string _)
 case slice a a' n c ha=>
  refine aq (mM n ha) λσ z z' l hz=>?_;refine aq (A:=fz _) ?_ λμ s s' l5 e=>?_
  ·rw[<-Array.forIn_toList,<-Array.forIn_toList];refine xK (ρ:=σ) (λτ v v' b _ hv=>?_) σ _ (Rn.Le.refl _) hz;cases hv
   case int k n=>cases k<;>first|exact aC|exact aB rfl
   all_goals exact aC
  ·have e:s=s':=e;subst e;exact aB (.string _)
 all_goals exact aC
theorem DG{a a':Addr}(h:bI ρ a a'):aP P bI ρ (Conv.seenAt a) (Conv.seenAt a'):=by
 unfold Conv.seenAt;refine aq (sO h.b) λσ v v' l e=>?_;rcases e with⟨rfl,rfl⟩|⟨b,b',u,rfl,rfl,k⟩;exact aB (h.mono l)
 ·dsimp only;rw[h.off,h.spot,k.spot,k.off];refine dY Iff.rfl (λ_=>aB k) λ_=>?_;refine cQ rfl (dt (bp rfl)) ?_;refine aq eA λτ p p' l2 e=>?_;rw[e.1,e.2];split
  ·refine aq (gS (l2.b k.b)) λμ s s' l3 e=>?_;cases e with
   |dead t hd=>exact bp rfl
   |same _=>
   split;refine dY Iff.rfl (λ_=>dt (bp rfl)) λ_=>?_;split;exact aB ⟨l3.b (l2.b k.b),rfl,rfl⟩;exact bp rfl;exact bp rfl
  ·exact bp rfl
theorem KX{r r':Nat}(h:ρ.b r r'):aP P (fz (Option Nat)) ρ (cellsIn r) (cellsIn r'):=by
 unfold cellsIn;refine aq (gS h) λσ s s' l e=>?_;cases e with
 |dead t hd=>exact .nz zak λx e hx=>aB (by rw[hx,l.dn])
 |same hk=>
 cases s with
 |some x=>exact aB rfl
 |none=>refine aq (iV (l.b h) (by unfold Rn.D;rw[l.dn];exact ShR.xH hk rfl)) λτ o o' l2 ho=>?_;cases ho<;>exact aB rfl
theorem Ap{a a':Addr}(h:bI ρ a a')(u:aw)(n:Nat):aP P (λ_ b b'=>b=b' \/(ρ.D a.block/\b=false)) ρ (variablesAt a u n) (variablesAt a' u n):=by
 unfold variablesAt;refine aq eA λτ p p' l2 e=>?_;rw[e.1,e.2];refine aq (gS (l2.b h.b)) λμ s s' l3 e=>?_;cases e with
 |dead t hd=>exact aB (.inr ⟨by unfold Rn.D at hd⊢;rw[l2.dn]at hd;exact hd,rfl⟩)
 |same _=>
 rw[h.off];split<;>exact aB (.inl rfl)
theorem fu(s t:aw){x x':ae}(hx:VR ρ x x'):aP P cI ρ (Conv.unsafePointer s t x) (Conv.unsafePointer s t x'):=by
 unfold Conv.unsafePointer;refine aq (bE s) λσ d d' l e=>?_;subst e;refine aq (bE t) λτ c c' l2 e=>?_;subst e;replace hx:=hx.mono (l.trans l2);have hx1:=hx;cases d
 case pointer u=>
  cases c
  case unsafePointer=>
   cases hx
   case iP=>exact aB .iP
   case ptr a a' ha=>refine aq (DG ha) λμ b b' l3 hb=>?_;refine aq (KX hb.b) λν n n' l4 e=>?_;subst e;dsimp only;refine aq (dJ _) λξ m m' l5 e=>?_;subst e;refine cQ (by rw[hb.off,hb.spot]) ?_ (aB (.ptr ((hb.mono l4).mono l5)));exact aq (oX (.view u ((hb.mono l4).mono l5))) λ_ _ _ _ k=>aB (.ptr ⟨.inr k,rfl,rfl⟩)
   all_goals exact aC
  all_goals exact aC
 case unsafePointer=>
  cases c
  case pointer u=>
   cases hx
   case iP=>exact aB .iP
   case ptr a a' ha=>
    refine aq (DG ha) λμ b b' l3 hb=>?_;refine aq (dJ _) λξ m m' l5 e=>?_;subst e;refine aq (Ap (hb.mono l5) u 1) λκ q q' l6 e=>?_;rcases e with rfl|⟨hd,rfl⟩
    case inr=>by_cases hm:m=0;rw[decide_eq_true hm];exact aB (.ptr ((hb.mono l5).mono l6));rw[decide_eq_false hm];refine .abJ (by unfold Rn.D at hd⊢;rw[l6.dn];exact hd) ?_;exact .halt rfl
    refine cQ rfl (aB (.ptr ((hb.mono l5).mono l6))) ?_;refine aq (gS (l6.b (l5.b hb.b))) λν s s' l7 e=>?_;cases e with
    |dead t hd=>exact dt (bp rfl)
    |same _=>
    have jp:∀{σ:Rn},ν.Le σ->aP P cI σ (do Pure.pure (.pointer (some ⟨<-newObj (.view b u),0,none⟩))) (do Pure.pure (.pointer (some ⟨<-newObj (.view b' u),0,none⟩))):=λl8=>
     aq (oX (.view u ((((hb.mono l5).mono l6).mono l7).mono l8))) λ_ _ _ _ k=>aB (.ptr ⟨.inr k,rfl,rfl⟩)
    cases s with
    |none=>exact dt (bp rfl)
    |some x=>obtain⟨e,n⟩:=x;refine aq eA λo p p' l9 e1=>?_;rw[e1.1,e1.2];refine aq eA λo p p' l10 e1=>?_;rw[e1.1,e1.2];dsimp only;exact cQ rfl (dt (bp rfl)) (jp (l9.trans l10))
   all_goals exact aC
  case unsafePointer=>cases hx<;>first|exact aB hx1|exact aC
  case int k=>
   cases hx
   case iP=>exact aB (.int _ _)
   case ptr a a' ha=>exact yI ha _
   all_goals exact aC
  all_goals exact aC
 case int k=>
  cases c
  case unsafePointer=>
   cases hx
   case int k n=>cases n with
    |ofNat m=>cases m<;>exact bp rfl
    |negSucc m=>exact bp rfl
   all_goals first|exact aC|exact bp rfl
  all_goals exact aC
 all_goals exact aC
def abL(P:aF)(s t:aw):Bool:=match P.underlying s,P.underlying t with
 |some (.slice _),some (.slice _)=>false
 |_,_=>true
theorem ov(e:aw){x x':ae}(hx:VR ρ x x'):aP P cI ρ (do
 match<-underlying e with
 |.int .u8=>Conv.bytesToString x
 |.int .i32=>Conv.runesToString x
 |_=>stuck "Convert: a slice of what to string?") (do
 match<-underlying e with
 |.int .u8=>Conv.bytesToString x'
 |.int .i32=>Conv.runesToString x'
 |_=>stuck "Convert: a slice of what to string?"):=by
 refine aq (bE e) λμ c c' l3 e=>?_;subst e;split;exact Hh (hx.mono l3);exact Hi (hx.mono l3);exact aC
theorem KY(s t:aw)(ho:abL P s t=true){x x':ae}(hx:VR ρ x x'):aP P cI ρ (convert s t x) (convert s t x'):=by
 unfold convert;refine aq (gp s) λσ d d' l e=>?_;obtain⟨rfl,h1⟩:=e;refine aq (gp t) λτ c c' l2 e=>?_;obtain⟨rfl,h2⟩:=e;unfold abL at ho;rw[h1,h2]at ho;replace hx:=hx.mono (l.trans l2);have hx1:=hx;have hup:d=.unsafePointer\/c=.unsafePointer->aP P cI τ (Conv.unsafePointer s t x) (Conv.unsafePointer s t x'):=λ_=>fu s t hx;cases hx
 case int k n=>
  cases c
  case int k'=>exact aB (.int _ _)
  case float k'=>exact aB (.float _ _)
  case string=>exact aB (.string _)
  case unsafePointer=>cases d<;>exact fu s t hx1
  all_goals cases d
  all_goals first|exact aC|exact bp rfl|exact fu s t hx1
 case float k n=>
  cases c
  case int k'=>exact(Hb _ _ _).V
  case float k'=>exact(mg _ _ _).V
  case string=>
   cases d
   case slice e=>exact ov e hx1
   all_goals first|exact aC|exact bp rfl|exact fu s t hx1
  all_goals cases d
  all_goals first|exact aC|exact bp rfl|exact fu s t hx1
 case complex k n m=>
  cases c
  case complex k'=>exact(zJ _ _ _ _).V
  case string=>
   cases d
   case slice e=>exact ov e hx1
   all_goals first|exact aC|exact bp rfl|exact fu s t hx1
  all_goals cases d
  all_goals first|exact aC|exact bp rfl|exact fu s t hx1
 case string b=>
  cases c
  case string=>exact aB (.string _)
  case slice e=>refine aq (bE e) λμ c c' l3 e=>?_;subst e;split;exact Hf _ _;exact Hg _ _;exact aC
  all_goals cases d
  all_goals first|exact aC|exact bp rfl|exact fu s t hx1
 case slice a a' n m ha=>
  cases c
  case string=>
   cases d
   case slice e=>exact ov e hx1
   all_goals first|exact aC|exact bp rfl|exact fu s t hx1
  case slice e=>
   cases d
   case slice e=>simp at ho
   all_goals first|exact aC|exact bp rfl|exact fu s t hx1
  all_goals cases d
  all_goals first|exact aC|exact bp rfl|exact fu s t hx1
 all_goals
  cases c
  case string=>
   cases d
   case slice e=>exact ov e hx1
   all_goals first|exact aC|exact bp rfl|exact fu s t hx1
  all_goals cases d
  all_goals first|exact aC|exact bp rfl|exact fu s t hx1
def Xu(ρ:Rn)(x y:Option (Nat×ae)):Prop:=(x=none/\y=none)\/∃i v v',x=some (i,v)/\y=some (i,v')/\VR ρ v v'
theorem KZ(d:TypeDesc){x y x' y':ae}(hx:VR ρ x x')(hy:VR ρ y y'):Instr.sameNow d x' y'=Instr.sameNow d x y:=by cases hx<;>cases hy<;>first|rfl|(cases d<;>rfl)
theorem Aq(d:TypeDesc){k k':ae}(hk:VR ρ k k'):∀{es es':List MapEntry}(i:Nat),lC ρ es es'->(Instr.findNow d k es i=none/\Instr.findNow d k' es' i=none)\/∃r r',Instr.findNow d k es i=some r/\Instr.findNow d k' es' i=some r'/\Xu ρ r r'
 |_,_,i,.nil=>.inr ⟨none,none,rfl,rfl,.inl ⟨rfl,rfl⟩⟩
 |_,_,i,.cons (d:=e) (d':=e') (l:=l) (l':=l') x y=>by unfold Instr.findNow;rw[KZ d hk x.key];split;exact .inr ⟨_,_,rfl,rfl,.inr ⟨i,_,_,rfl,rfl,x.val⟩⟩;exact Aq d hk (i+1) y;exact .inl ⟨rfl,rfl⟩
theorem uo(hP:PF P)(t:aw){k k':ae}:∀{es es':List MapEntry}{ρ:Rn}(i:Nat),KF P ρ->VR ρ k k'->lC ρ es es'->aP P Xu ρ (Instr.findAsking t k es i) (Instr.findAsking t k' es' i)
 |_,_,_,i,_,_,.nil=>aB (.inl ⟨rfl,rfl⟩)
 |_,_,ρ,i,hK,hk,.cons x y=>by unfold Instr.findAsking;refine aq (lF hP _ t hK hk x.key) λσ b b' l e=>?_;subst e;exact cQ rfl (aB (.inr ⟨i,_,_,rfl,rfl,x.val.mono l⟩)) (uo hP t (i+1) (hK.mono l) (hk.mono l) (y.mono l))
theorem Au(hP:PF P)(hK:KF P ρ)(t:aw){k k':ae}(hk:VR ρ k k'){es es':List MapEntry}(h:lC ρ es es'):aP P Xu ρ (Instr.findKey t k es) (Instr.findKey t k' es'):=by unfold Instr.findKey;refine aq (bE t) λσ d d' l e=>?_;subst e;rcases Aq d (hk.mono l) 0 (h.mono l)with⟨h1,h2⟩|⟨r,r',h1,h2,h3⟩;rw[h1,h2];exact uo hP t 0 (hK.mono l) (hk.mono l) (h.mono l);rw[h1,h2];exact aB h3
def qR(P:aF)(t:aw):Bool:=match P.underlying t with
 |some (.map k _)=>match P.underlying k with
  |some .string=>true
  |_=>false
 |_=>true
theorem yM{t:aw}(ht:P.underlying t=some .string)(b:Bool)(n:Nat)(x x':ae):aP P (vJ Unit Unit) ρ (Instr.checkKey b (n+1) t x) (Instr.checkKey b (n+1) t x'):=by unfold Instr.checkKey;refine aq (gp t) λσ d d' l e=>?_;obtain⟨rfl,h⟩:=e;rw[ht]at h;cases h;exact aB trivial
theorem lC.length:∀{es es':List MapEntry},lC ρ es es'->es'.length=es.length
 |_,_,.nil=>rfl
 |_,_,.cons _ y=>by simp[y.length]
theorem NW(hP:PF P)(hK:KF P ρ)(t:aw)(ho:qR P t=true){x x' i i':ae}(hx:VR ρ x x')(hi:VR ρ i i')(b:Bool):aP P cI ρ (Instr.lookup t x i b) (Instr.lookup t x' i' b):=by
 unfold Instr.lookup;refine aq (gp t) λσ d d' l e=>?_;obtain⟨rfl,h⟩:=e;cases d
 case map key elem=>
  unfold qR at ho;rw[h]at ho;have hk:P.underlying key=some .string:=by dsimp only at ho;split at ho;assumption;cases ho
  have rest:∀(τ:Rn),σ.Le τ->∀es es':Array MapEntry,lC τ es.toList es'.toList->aP P cI τ (do
   Instr.checkKey es.isEmpty 10000 key i
   let(v,ok)<-match<-Instr.findKey key i es.toList with
    |some (_,v)=>Pure.pure (v,true)
    |none=>Pure.pure (<-zeroValue elem,false)
   Pure.pure (if b then .tuple #[v,.bool ok]else v)) (do
   Instr.checkKey es'.isEmpty 10000 key i'
   let(v,ok)<-match<-Instr.findKey key i' es'.toList with
    |some (_,v)=>Pure.pure (v,true)
    |none=>Pure.pure (<-zeroValue elem,false)
   Pure.pure (if b then .tuple #[v,.bool ok]else v)):=λτ l2 es es' he=>by
   (have e1:es'.isEmpty=es.isEmpty:=by have:=he.length;simp[Array.isEmpty,<-Array.length_toList,this]);rw[e1];refine aq (yM hk _ 9999 i i') λμ _ _ l3 _=>?_;have l4:=(l.trans l2).trans l3;refine aq (Au hP (hK.mono l4) key (hi.mono l4) (he.mono l3)) λν r r' l5 hr=>?_;(have fin:∀(ξ:Rn)(v v':ae)(q:Bool),VR ξ v v'->aP P cI ξ (Pure.pure (if b then .tuple #[v,.bool q]else v)) (Pure.pure (if b then .tuple #[v',.bool q]else v')):=λξ v v' q hv=>by refine aB ?_;split;exact .tuple (.cons hv (.cons (.bool _) .nil));exact hv);rcases hr with⟨rfl,rfl⟩|⟨j,v,v',rfl,rfl,hv⟩;exact aq (fT hP elem) λξ v v' _ hv=>fin ξ v v' false hv;exact fin ν v v' true hv
  replace hx:=hx.mono l;cases hx
  case Du=>exact rest σ (Rn.Le.refl _) #[] #[] .nil
  case map r r' hr=>
   refine aq (iV (.inr hr) (ft hr)) λτ o o' l2 ho=>?_;cases ho
   case map c hes=>exact rest τ l2 _ _ hes
   all_goals exact aC
  all_goals exact aC
 all_goals exact aC
end
end Go.Pr
