/- Part 8d of the proof. -/
import Derived.Test.YtdhekhlmdefcnaaGreatDoorPart8
set_option maxHeartbeats 16000000
set_option maxRecDepth 1000000
namespace Go.Proofs.YtdhekhlmdefcnaaGreatDoor
structure Gg where
 src:Nat
 cycle:Nat
 on:Bool
 c:Int
 w:Int
section
variable {L:Lay}{ℓ:Nat}{σ σ':List Gg}{t t':List Cm}
end
section
variable {L:Lay}{ℓ:Nat}{σ σ':List Gg}{s:Sys}
theorem Pa(s:Sys)(g:ku):(iq s g).rs=s.rs/\(iq s g).v=s.v:=by unfold iq;split<;>exact⟨rfl,rfl⟩
theorem Mn(s:Sys)(a b:Nat)(f:List Int):(di s a b f).rs=s.rs/\(di s a b f).v=s.v:=by unfold di;split;exact Pa _ _;exact⟨rfl,rfl⟩
theorem uC(a:Nat)(f:List Int):∀(l:List Nat)(s:Sys),(sendAll s a l f).rs=s.rs/\(sendAll s a l f).v=s.v
 |[],_=>⟨rfl,rfl⟩
 |b::l,s=>by have h1:=Mn s a b f;have h2:=uC a f l (di s a b f);exact⟨h2.1.trans h1.1,h2.2.trans h1.2⟩
end
theorem B4{α:Type}{l:List α}{i:Nat}(h:i<l.length)(a d:α):(l.set i a).getD i d=a:=by simp[h]
theorem zV{α:Type}{l:List α}{i j:Nat}(h:i≠j)(a d:α):(l.set i a).getD j d=l.getD j d:=by simp[h]
theorem VQ{s:Sys}{k:Nat}(hk:k<s.rs.length)(r:Re)(j:Nat):re {s with rs:=s.rs.set k r} j=if j=k then r else re s j:=by unfold re;by_cases h:j=k;subst h;rw[if_pos rfl];exact B4 hk _ _;rw[if_neg h];exact zV (Ne.symm h) _ _
open Go.RowKit
def B5(t:aw):Bool:=t==121||t==176||t==162||t==157||t==217
def wY(w:aa)(b:Nat):Prop:=∃t cs,Has w b t cs/\B5 t=true
def fE:List ku->List ae->List ae
 |g::l,v::vs=>I g.src::I g.dst::v::fE l vs
 |_,_=>[]
theorem wZ:∀(l:List ku)(vs:List ae)(g:ku)(v:ae),vs.length=l.length->fE (l++[g]) (vs++[v])=fE l vs++[I g.src,I g.dst,v]
 |[],[],_,_,_=>rfl
 |[],_::_,_,_,h=>by simp at h
 |_::l,[],_,_,h=>by simp at h
 |_::l,_::vs,g,v,h=>by have ih:=wZ l vs g v zgt;show _::_::_::fE (l++[g]) (vs++[v])=_;rw[ih];rfl
theorem Ep:∀(l:List ku)(vs:List ae)(i:Nat)(g:ku)(v:ae),l[i]?=some g->vs[i]?=some v->(fE l vs)[i*3]?=some (I g.src)/\(fE l vs)[i*3+1]?=some (I g.dst)/\(fE l vs)[i*3+2]?=some v
 |[],_,i,_,_,h,_=>by simp at h
 |_::_,[],i,_,_,_,h=>by simp at h
 |a::l,b::vs,0,g,v,h,h'=>by simp at h h';subst h h';exact⟨rfl,rfl,rfl⟩
 |a::l,b::vs,i+1,g,v,h,h'=>by rw[aY]at h h';obtain⟨h1,h2,h3⟩:=Ep l vs i g v h h';have e:fE (a::l) (b::vs)=I a.src::I a.dst::b::fE l vs:=rfl;rw[e,show(i+1)*3=i*3+1+1+1 by omega];exact⟨h1,h2,h3⟩
theorem B6:∀(l:List ku)(vs:List ae)(i:Nat),vs.length=l.length->(fE l vs).drop (i*3)=fE (l.drop i) (vs.drop i)
 |l,vs,0,_=>sM
 |[],_,i+1,_=>by simp[fE]
 |_::l,[],i+1,h=>by simp at h
 |a::l,b::vs,i+1,h=>by have ih:=B6 l vs i zgt;rw[show(i+1)*3=i*3+3 by omega];exact ih
theorem B7:∀(l:List ku)(vs:List ae)(i:Nat),vs.length=l.length->(fE l vs).take (i*3)=fE (l.take i) (vs.take i)
 |l,vs,0,_=>by simp[fE]
 |[],_,i+1,_=>by simp[fE]
 |_::l,[],i+1,h=>by simp at h
 |a::l,b::vs,i+1,h=>by have ih:=B7 l vs i zgt;rw[show(i+1)*3=i*3+1+1+1 by omega];show I a.src::I a.dst::b::(fE l vs).take (i*3)=_;rw[ih];rfl
theorem Er:∀(l l':List ku)(vs vs':List ae),vs.length=l.length->fE (l++l') (vs++vs')=fE l vs++fE l' vs'
 |[],_,[],_,_=>rfl
 |[],_,_::_,_,h=>by simp at h
 |_::l,_,[],_,h=>by simp at h
 |_::l,l',_::vs,vs',h=>by have ih:=Er l l' vs vs' zgt;show _::_::_::fE (l++l') (vs++vs')=_;rw[ih];rfl
structure fV where
 g:Nat
 rb:Nat->Nat
 cb:Nat->Nat
 vb:Nat
 vt:ae
 vr:ae
 vw:ae
 vs:List ae
def FS(x:fV)(b:Nat):Prop:=b=x.g\/(∃k,k<3/\b=x.rb k)\/FV x.vb x.vt b\/x.vw.ownBlock=some b
def Gh(x:fV)(L:Lay)(s:Sys):bw:=#[I L.secs,x.vr,I L.delay,pT (x.rb 0) 0,pT (x.rb 1) 0,pT (x.rb 2) 0,pT x.vb 0,x.vw,I s.lost]
def nU(w:aa)(v:ae)(l:List UInt8):Prop:=∃A c,v=.slice A l.length c/\l.length<=c/\(l≠[]->∃g cur,A=some ⟨g,0,none⟩/\Has w g 5 cur/\cur.toList.take l.length=bytes l)
theorem nU.keep{w w':aa}{v:ae}{l:List UInt8}(h:nU w v l)(hk:∀g cs,Has w g 5 cs->Has w' g 5 cs):nU w' v l:=by obtain⟨A,c,h1,h2,h3⟩:=h;refine⟨A,c,h1,h2,λhn=>?_⟩;obtain⟨g,cur,e,hh,ht⟩:=h3 hn;exact⟨g,cur,e,hk g cur hh,ht⟩
theorem nU.after{w w':aa}{v:ae}{l:List UInt8}(h:nU w v l)(hb:Below w.heap.size w w'):nU w' v l:=h.keep λ_ _ hh=>hh.after hb
theorem nU.NA{w:aa}{base:Nat}{v:ae}{l:List UInt8}(h:w.ownsRow base 5 1 v l.length (bytes l)):nU w v l:=by rcases h.2 with⟨rfl,hn⟩|⟨g,cap,cur,rfl,_,hh,hc,_,_,ht⟩;exact⟨none,0,by rw[hn],oM,λhx=>absurd (cM hn) hx⟩;exact⟨_,_,rfl,hc,λ_=>⟨g,cur,rfl,hh,by rw[Nat.mul_one]at ht;exact ht⟩⟩
theorem nU.reads{w:aa}{v:ae}{l:List UInt8}(h:nU w v l):∃A c,v=.slice A l.length c/\l.length<=c/\Reads w w.heap.size A (bytes l):=by obtain⟨A,c,h1,h2,h3⟩:=h;refine⟨A,c,h1,h2,λhn=>?_⟩;obtain⟨g,cur,e,hh,ht⟩:=h3 (by rintro rfl;exact hn rfl);refine⟨g,0,e,hh.lt,λj u hu=>?_⟩;rw[cG,hh.cell];rw[<-ht,List.getElem?_take]at hu;split at hu;simpa using hu;cases hu
structure cF(w:aa)(B:Nat)(x:fV)(L:Lay)(s:Sys):Prop where
 has:Has w x.g 121 (Gh x L s)
 routes:w.ownsRow 0 3 1 x.vr L.routes.length (ints (zs L.routes))
 n3:s.rs.length=3
 fP:∀k,k<3->cK w (x.rb k) (x.cb k) L (re s k)
 apart:∀i j,i<3->j<3->x.rb i=x.rb j->i=j
 vo:fo w B x.vb x.vt s.v
 way:w.ownsRow B 217 3 x.vw s.way.length (fE s.way x.vs)
 len:x.vs.length=s.way.length
 bytes:∀(i:Nat)(gm:ku)(v:ae),s.way[i]?=some gm->x.vs[i]?=some v->nU w v gm.bytes
 low:B<=x.g
 uD:∀k,k<3->B<=x.rb k
structure dx(w w':aa)(x x':fV):Prop where
 turned:Turned (FS x) w w'
 blocks:∀b,FS x' b->FS x b\/w.heap.size<=b
 same:x'.g=x.g
theorem dx.refl(w:aa)(x:fV):dx w w x x:=⟨Turned.refl _ _,λ_ h=>.inl h,rfl⟩
theorem dx.of_below{w w':aa}{x:fV}(h:Below w.heap.size w w'):dx w w' x x:=⟨Turned.of_below h _,λ_ h=>.inl h,rfl⟩
theorem dx.trans{w w1 w2:aa}{x x1 x2:fV}(h:dx w w1 x x1)(h':dx w1 w2 x1 x2):dx w w2 x x2:=by refine⟨h.turned.trans h'.turned ?_,λb hb=>?_,h'.same.trans h.same⟩;intro k hk hf;rcases h.blocks k hf with h1|h1;exact h1;omega;rcases h'.blocks b hb with h1|h1;exact h.blocks b h1;exact .inr (aS h.turned.size h1)
theorem iM{w:aa}{base:Nat}{e:aw}{size n:Nat}{v:ae}{xs:List ae}(h:w.ownsRow base e size v n xs){q:Nat}(hq:v.ownBlock=some q):base<=q/\∃cur,Has w q e cur:=by
 rcases h.2 with⟨rfl,_⟩|⟨g',cap,cur,rfl,hg,hh,_⟩;simp[Value.ownBlock]at hq
 ·have:g'=q:=by simpa[Value.ownBlock]using hq
  subst this;exact⟨hg,cur,hh⟩
section
variable {w w':aa}{B:Nat}{x x':fV}{L:Lay}{s:Sys}{F:cD}
theorem Has.fW{g:Nat}{t:aw}{cs:bw}(h:Has w g t cs)(ht:Turned F w w')(hF:∀b,F b->wY w b)(hn:B5 t=false):Has w' g t cs:=
 h.turned ht λhf=>by
  obtain⟨t',cs',h',hm⟩:=hF g hf;have e:t=t':=by unfold Has at h h';rw[h]at h';injection h' with h';injection h' with _ ht
  rw[e,hm]at hn;cases hn
theorem abr{base:Nat}{e:aw}{size n:Nat}{v:ae}{xs:List ae}(h:w.ownsRow base e size v n xs)(ht:Turned F w w')(hF:∀b,F b->wY w b)(hn:B5 e=false):w'.ownsRow base e size v n xs:=
 lK h λg _ _ hh=>(show w'.heap[g]?=w.heap[g]? from(hh.fW ht hF hn).trans hh.symm)
theorem fJ.fW{gc:Nat}(h:fJ w gc L)(ht:Turned F w w')(hF:∀b,F b->wY w b):fJ w' gc L:=by obtain⟨vr,vc,a1,a2,a3⟩:=h;exact⟨vr,vc,a1.fW ht hF dC,abr a2 ht hF dC,abr a3 ht hF dC⟩
theorem nU.fW{v:ae}{l:List UInt8}(h:nU w v l)(ht:Turned F w w')(hF:∀b,F b->wY w b):nU w' v l:=h.keep λ_ _ hh=>hh.fW ht hF dC
theorem cK.fW{g gc:Nat}{r:Re}(h:cK w g gc L r)(ht:Turned F w w')(hF:∀b,F b->wY w b)(hn:¬F g):cK w' g gc L r:=⟨h.has.turned ht hn,h.core.fW ht hF⟩
theorem cF.mut(h:cF w B x L s){b:Nat}(hb:FS x b):wY w b:=by rcases hb with rfl|⟨k,hk,rfl⟩|(rfl|hb)|hb;exact⟨_,_,h.has,rfl⟩;exact⟨_,_,(h.fP k hk).has,rfl⟩;exact⟨_,_,h.vo.has,rfl⟩;obtain⟨_,cur,hh⟩:=iM h.vo.own hb;exact⟨_,_,hh,rfl⟩;obtain⟨_,cur,hh⟩:=iM h.way hb;exact⟨_,_,hh,rfl⟩
theorem cF.ge(h:cF w B x L s){b:Nat}(hb:FS x b):B<=b:=by rcases hb with rfl|⟨k,hk,rfl⟩|hb|hb;exact h.low;exact h.uD k hk;exact h.vo.ge b hb;exact(iM h.way hb).1
theorem cF.lt(h:cF w B x L s){b:Nat}(hb:FS x b):b<w.heap.size:=by obtain⟨t,cs,hh,_⟩:=h.mut hb;exact hh.lt
theorem cF.after(h:cF w B x L s)(hb:Below w.heap.size w w'):cF w' B x L s:=
 ⟨h.has.after hb,eD h.routes hb,h.n3,λk hk=>(h.fP k hk).after hb,h.apart,h.vo.after hb,eD h.way hb,h.len,λi gm v h1 h2=>(h.bytes i gm v h1 h2).after hb,h.low,h.uD⟩
theorem dx.keep{c:Nat}{t:aw}{cs:bw}(m:dx w w' x x')(h:Has w c t cs)(hn:¬FS x c):Has w' c t cs/\¬FS x' c:=
 ⟨h.turned m.turned hn,λhf=>by
  rcases m.blocks c hf with h1|h1;exact hn h1
  ·have:=h.lt;omega⟩
theorem cF.cell(h:cF w B x L s)(i:Nat)(v:ae)(hv:(Gh x L s)[i]?=some v):w.cell? ⟨x.g,i,none⟩=some v:=h.has.aJ i v hv
theorem B8{base base':Nat}{e e':aw}{size size' n n':Nat}{v v':ae}{xs xs':List ae}(h:w.ownsRow base e size v n xs)(h':w.ownsRow base' e' size' v' n' xs')(hne:e≠e'){q:Nat}(hq:v.ownBlock=some q):v'.ownBlock≠some q:=λhq'=>by obtain⟨_,c1,h1⟩:=iM h hq;obtain⟨_,c2,h2⟩:=iM h' hq';exact(h1.ne h2 hne) rfl
theorem B9{k j:Nat}{r:Re}(hn:s.rs.length=3)(hk:k<3):re {s with rs:=s.rs.set k r} j=if j=k then r else re s j:=by unfold re;by_cases h:j=k;subst h;rw[if_pos rfl];show(s.rs.set j r).getD j _=r;rw[eZ _ _ _ _ _ oM,if_pos rfl];rw[if_neg h];show(s.rs.set k r).getD j _=_;rw[eZ _ _ _ _ _ oM,if_neg h]
theorem cF.Gi(h:cF w B x L s){k:Nat}(hk:k<3){r:Re}(ht:Turned (λb=>b=x.rb k) w w')(hr:cK w' (x.rb k) (x.cb k) L r):
 cF w' B x L {s with rs:=s.rs.set k r}/\dx w w' x x:=by
 have hF:∀b,b=x.rb k->wY w b:=λb e=>h.mut (.inr (.inl ⟨k,hk,e⟩));have hh:=(h.fP k hk).has;refine⟨⟨h.has.turned ht (λe=>h.has.ne hh dC e),abr h.routes ht hF dC,by simp[h.n3],λj hj=>?_,h.apart,h.vo.turned ht ?_,iF h.way ht (λq hq e=>dz h.way hh dC (by rw[hq,e])),h.len,λi gm v h1 h2=>(h.bytes i gm v h1 h2).fW ht hF,h.low,h.uD⟩,⟨ht.mono λb _ e=>.inr (.inl ⟨k,hk,e⟩),λ_ hb=>.inl hb,rfl⟩⟩;rw[B9 h.n3 hk];by_cases e:j=k;subst e;rw[if_pos rfl];exact hr;rw[if_neg e];exact(h.fP j hj).fW ht hF λe2=>e (h.apart j k hj hk e2);rintro b (rfl|hb) e;exact h.vo.has.ne hh dC e;exact dz h.vo.own hh dC (by rw[hb,e])
theorem cF.Mo(h:cF w B x L s){v:Vo}{mG:ae}(ht:Turned (FV x.vb x.vt) w w')(hv:fo w' B x.vb mG v)(hb:mG.ownBlock=x.vt.ownBlock\/∃b,w.heap.size<=b/\mG.ownBlock=some b):
 cF w' B {x with vt:=mG} L {s with v:=v}/\dx w w' x {x with vt:=mG}:=by
 have hF:∀b,FV x.vb x.vt b->wY w b:=λb e=>h.mut (.inr (.inr (.inl e)));have ne:∀{g:Nat}{t:aw}{cs:bw},Has w g t cs->162≠t->157≠t->¬FV x.vb x.vt g:=λhg n1 n2 hf=>by rcases hf with e|e;exact h.vo.has.ne hg n1 e.symm;exact dz h.vo.own hg n2 e
 refine⟨⟨h.has.turned ht (ne h.has dC dC),abr h.routes ht hF dC,h.n3,λj hj=>(h.fP j hj).fW ht hF (ne (h.fP j hj).has dC dC),h.apart,hv,iF h.way ht (λq hq hf=>?_),h.len,λi gm v h1 h2=>(h.bytes i gm v h1 h2).fW ht hF,h.low,h.uD⟩,⟨ht.mono λb _ e=>.inr (.inr (.inl e)),λb hf=>?_,rfl⟩⟩;rcases hf with e|e;exact dz h.way h.vo.has dC (by rw[hq,e]);exact B8 h.way h.vo.own dC hq e;rcases hf with e|e|(e|e)|e;exact .inl (.inl e);exact .inl (.inr (.inl e));exact .inl (.inr (.inr (.inl (.inl e))));rcases hb with hb|⟨b',hb1,hb2⟩;exact .inl (.inr (.inr (.inl (.inr (hb▸e)))));have e2:mG.ownBlock=some b:=e;rw[hb2]at e2;injection e2 with e2;exact .inr (e2▸hb1);exact .inl (.inr (.inr (.inr e)))
theorem cF.Gj(h:cF w B x L s){Jv:ae}{vs':List ae}{xa:List ku}{lost':Nat}(ht:Turned (λb=>b=x.g\/x.vw.ownBlock=some b) w w')
 (hc:Has w' x.g 121 (Gh {x with vw:=Jv,vs:=vs'} L {s with way:=xa,lost:=lost'}))(ho:w'.ownsRow B 217 3 Jv xa.length (fE xa vs'))(hl:vs'.length=xa.length)
 (hb:∀b,Jv.ownBlock=some b->x.vw.ownBlock=some b\/w.heap.size<=b)(hy:∀(i:Nat)(gm:ku)(v:ae),xa[i]?=some gm->vs'[i]?=some v->nU w' v gm.bytes):
 cF w' B {x with vw:=Jv,vs:=vs'} L {s with way:=xa,lost:=lost'}/\dx w w' x {x with vw:=Jv,vs:=vs'}:=by
 have hF:∀b,(b=x.g\/x.vw.ownBlock=some b)->wY w b:=λb e=>h.mut (e.elim .inl λe=>.inr (.inr (.inr e)));have ne:∀{g:Nat}{t:aw}{cs:bw},Has w g t cs->121≠t->217≠t->¬(g=x.g\/x.vw.ownBlock=some g):=λhg n1 n2 hf=>by rcases hf with e|e;exact h.has.ne hg n1 e.symm;exact dz h.way hg n2 e
 refine⟨⟨hc,abr h.routes ht hF dC,h.n3,λj hj=>(h.fP j hj).fW ht hF (ne (h.fP j hj).has dC dC),h.apart,h.vo.turned ht ?_,ho,hl,hy,h.low,h.uD⟩,⟨ht.mono λb _ e=>e.elim .inl λe=>.inr (.inr (.inr e)),λb hf=>?_,rfl⟩⟩;rintro b (rfl|hb') e;exact ne h.vo.has dC dC e;rcases e with e|e;exact dz h.vo.own h.has dC (by rw[hb',e]);exact B8 h.way h.vo.own dC e hb';rcases hf with e|e|e|e;exact .inl (.inl e);exact .inl (.inr (.inl e));exact .inl (.inr (.inr (.inl e)));exact(hb b e).elim (λe=>.inl (.inr (.inr (.inr e)))) .inr
end
open Go.Proofs.Tryz
theorem Es:(prog.info? 217).map (λi=>(i.zero,i.size,i.bytes))=some (some (.agg #[.int .i64 0,.int .i64 0,.slice none 0 0]),3,40):=kR
theorem Jw(l:List UInt8):∀u∈bytes l,u.oneCell'=true:=by intro u hu;simp[bytes]at hu;obtain⟨a,_,rfl⟩:=hu;rfl
def lj:List ae:=[I 0,I 0,.slice none 0 0]
def uE(cs:bw):Nat->List ae->bw
 |_,[]=>cs
 |o,v::l=>uE (cs.setIfInBounds o v) (o+1) l
theorem abz:∀(l:List ae)(cs:bw)(o:Nat),(uE cs o l).size=cs.size
 |[],_,_=>rfl
 |v::l,cs,o=>by rw[uE,abz l,Array.size_setIfInBounds]
theorem qx:∀(l:List ae)(cs:bw)(o:Nat),o+l.length<=cs.size->(uE cs o l).toList=cs.toList.take o++l++cs.toList.drop (o+l.length)
 |[],cs,o,_=>by simp[uE]
 |v::l,cs,o,h=>by
  simp only[bN]at h;rw[uE,qx l _ _ (by rw[Array.size_setIfInBounds];omega),Array.toList_setIfInBounds];have h1:(cs.toList.set o v).take (o+1)=cs.toList.take o++[v]:=by rw[List.take_add_one,List.take_set_of_le (aj o)];simp[show o<cs.size by omega]
  rw[h1,List.drop_set_of_lt oM,bN,show o+1+l.length=o+(l.length+1)by omega];simp
theorem Has.sets{g:Nat}{t:aw}:∀(l:List ae)(o:Nat){w:aa}{cs:bw},Has w g t cs->Has (w.setCells g o l) g t (uE cs o l)
 |[],_,_,_,h=>h
 |v::l,o,_,_,h=>Has.sets l (o+1) (h.set o v)
theorem zW(w:aa)(ty:aw)(b o c:Nat)(hc:∀j,j<3->(w.cell? ⟨b,o+j,none⟩).isSome=true)(hf:∀j,j<3->w.frozen? ⟨b,o+j,none⟩=false):
 (Builtin.clear_ #[119] ty #[.slice (some ⟨b,o,none⟩) 1 c]).run prog w=.ok (.tuple #[]) (w.setCells b o lj):=by
 have hzc:(Builtin.zeroCells (Value.agg #[.int .i64 0,.int .i64 0,.slice none 0 0]).cells 1).toList=lj:=kR;have hst:=run_storeCells_cells (P:=prog) b o lj 0 w (by simpa[lj]using hc) (by simpa[lj]using hf) (by intro v hv';simp[lj]at hv';rcases hv' with rfl|rfl<;>rfl);simp only[Nat.add_zero]at hst;simp[Builtin.clear_,run_underlying underlying119,hzc,hst]
section
variable {w:aa}
theorem Et{B n:Nat}{v:ae}{xs:List ae}(h:w.ownsRow B 217 3 v n xs)(hx:∀u∈xs,u.oneCell'=true)(i:Nat)(hi:i<n):
 Calls prog 135 #[v,I i,I ((i:Int)+1)] w λe w'=>(∃v',e=.returned v'/\v'.ownBlock=v.ownBlock/\w'.ownsRow B 217 3 v' (n-1) (xs.take (i*3)++xs.drop ((i+1)*3)))/\Turned (λb=>v.ownBlock=some b) w w':=by
 obtain⟨i0,hi0,hz0,hz1,hz2⟩:=info_parts Es;obtain⟨hlen,hn|⟨g,cap,cur,rfl,hB,hh,hnc,hcm,hsz,htk⟩⟩:=h;omega;have kg:Has w g 217 cur:=hh;obtain⟨news,hnews⟩:∃news,news=xs.drop ((i+1)*3):=⟨_,rfl⟩;have hnl:news.length=(n-(i+1))*3:=by rw[hnews,List.length_drop,hlen];omega
 have hget:∀t u,news[t]?=some u->w.cell? ⟨g,(i+1)*3+t,none⟩=some u:=λt u hu=>by rw[kg.cell];rw[hnews,List.getElem?_drop,<-htk,List.getElem?_take]at hu;split at hu;simpa using hu;cases hu
 obtain⟨A,hA,hsrc⟩:∃A:Addr,(if cap=i+1 then some (⟨g,0,none⟩:Addr)else some ⟨g,(i+1)*3,none⟩)=some A/\Hid (∀t u,news[t]?=some u->w.drew.cell? (A.add t)=some u):=by by_cases hc:cap=i+1;refine⟨⟨g,0,none⟩,by simp[hc],hI λt u hu=>?_⟩;(have h0:news.length=0:=by rw[hnl];omega);rw[List.length_eq_zero_iff.1 h0]at hu;simp at hu;refine⟨⟨g,(i+1)*3,none⟩,by simp[hc],hI λt u hu=>?_⟩;rw[Addr.add_lit];exact hget t u hu
 have s1:Hid (news.length=(n-(i+1))*3):=hI hnl;have s2:Hid (∀u∈news,u.oneCell'=true):=hI λu hu=>hx u (List.mem_of_mem_drop (by rw[<-hnews];exact hu));have s3:Hid (∀t,t<news.length->(w.drew.cell? ⟨g,0+i*3+t,none⟩).isSome=true/\w.drew.frozen? ⟨g,0+i*3+t,none⟩=false):=hI λt ht=>by
  rw[hnl]at ht;have hz:i*3+t<cur.size:=by rw[hsz];omega
  exact⟨by show(w.cell? _).isSome=true;rw[cG,kg.cell,aZ hz];rfl,kg.free _⟩
 obtain⟨W1,hW1⟩:∃W1,W1=w.drew.setCells g (0+i*3) news:=⟨_,rfl⟩;have k1:Has W1 g 217 (uE cur (0+i*3) news):=by rw[hW1];exact kg.drew.sets _ _
 have t1:Turned (λb=>(Value.slice (some ⟨g,0,none⟩) n cap).ownBlock=some b) w W1:=by rw[hW1];exact Turned.setCells (F:=λb=>(Value.slice (some ⟨g,0,none⟩) n cap).ownBlock=some b) (a:=w) (g:=g) (.inl rfl) _ _ (Turned.refl _ _).drew
 have hp:(uE cur (0+i*3) news).size=cap*3:=by rw[abz,hsz]
 have hcl:∀ty,(Builtin.clear_ #[119] ty #[.slice (some ⟨g,(i+(n-(i+1)))*3,none⟩) (n-(i+(n-(i+1)))) (cap-(i+(n-(i+1))))]).run prog W1=.ok (.tuple #[]) (W1.setCells g ((n-1)*3) lj):=λty=>by rw[show n-(i+(n-(i+1)))=1 by omega,show i+(n-(i+1))=n-1 by omega];exact zW W1 ty g _ _ (λj hj=>by rw[k1.cell,aZ (by rw[hp];omega)];rfl) (λj hj=>k1.free _)
 have hW:Hid (W1=w.drew.setCells g (0+i*3) news):=hI hW1;have K1:=hI k1;have T1:=hI t1;have HL:Hid ((uE cur (0+i*3) news).toList=cur.toList.take (i*3)++news++cur.toList.drop ((n-1)*3)):=hI (by
  rw[qx _ _ _ (by rw[hnl,hsz];omega),hnl,show 0+i*3=i*3 by omega,show i*3+(n-(i+1))*3=(n-1)*3 by omega])
 have HN:=hI hnews;have HT:=hI htk;have C3:=hI hlen;have hic:i<=cap:=oM;have hjc:i+1<=cap:=oM;have hin:i+1<=n:=oM;have hq1:(0:Int)<=(i:Int)+1:=oM;have hq2:(i:Int)+1<=(n:Int):=oM;clear hW1 k1 t1 hget hnews hnl kg hh hx htk hlen;go_enter func135,ntmps135;go_wp2_with fail;go_region_law (refine step_append_room rfl (.tmp 22) (.tmp 25) 119 rfl 217 i0 3 underlying119 hi0 hz1 g 0 i cap (by simp[Act.eval,Act.put]) A (n-(i+1)) (cap-(i+1)) news (by simp[Act.eval,Act.put]) s1.out hsrc.out s2.out oM s3.out ?_;rw[<-hW.out])
 go_wp2;go_ret;have k2:=K1.out.sets lj ((n-1)*3);refine⟨⟨_,rfl,rfl,?_,.inr ⟨g,cap,_,by rw[show i+(n-(i+1))=n-1 by omega];rfl,hB,k2,by omega,hcm,by rw[abz,hp],?_⟩⟩,Turned.setCells (F:=λb=>(Value.slice (some ⟨g,0,none⟩) n cap).ownBlock=some b) (a:=w) (g:=g) (.inl rfl) _ _ T1.out⟩;have:=C3.out;rw[bm,List.length_take,List.length_drop];omega;have hn1:=s1.out;have h3:=C3.out;have h4:=HT.out;rw[qx _ _ _ (by rw[hp];simp[lj];omega),HL.out,List.append_assoc,List.take_append_of_le_length zge,bZ zge];rw[List.take_append_of_le_length zge,bZ zge,HN.out,<-h4,List.take_take,Nat.min_eq_left oM]
theorem Pb(A:Option Addr)(n c:Nat)(l:List UInt8)(hl:l.length=n)(hn:n<=1000)(hr:Reads w w.heap.size A (bytes l)):
 Calls prog 153 #[.slice A n c] w λe w'=>(∃v',e=.returned v'/\w'.ownsRow w.heap.size 5 1 v' n (bytes l))/\Below w.heap.size w w':=by
 obtain⟨i0,hi0,hz0,hz1,hz2⟩:=info_parts FQ;have HR:=hI hr;have HL:=hI hl;have heq:(binOp .eql 33 (.slice A n c) (.slice none 0 0)).run prog w=.ok (.bool A.isNone) w:=Lib.run_eql_slice_nil w _ _ A n c 0 0 underlying33;cases A with
 |none=>
  have hl0:bytes l=[]:=Classical.byContradiction λh=>by obtain⟨_,_,e,_⟩:=hr h;cases e
  have hn0:n=0:=by rw[<-hl,<-pd,hl0];rfl
  subst hn0;have HB:=hI hl0;clear hr hl hl0;go_enter func153,ntmps153;go_wp2;go_ret;rw[HB.out];exact⟨⟨_,rfl,rfl,.inl ⟨rfl,rfl⟩⟩,Below.refl _ _⟩
 |some a=>
  clear hr hl;go_enter func153,ntmps153;go_wp2_with (at_builtin;go_loud (refine il rfl (.tmp 5) (.tmp 6) 33 rfl w.heap.size 5 i0 (.int .u8 0) 1 1 underlying33 hi0 hz0 hz1 hz2 rfl dC _ _ _ rfl (World.ownsRow_lit w #[] 0 (aj _) (bT _) rfl) w.heap.size (some a) n c (bytes l) rfl (λh=>by cases h) (by rw[pd,HL.out,Nat.mul_one]) ?c2 (Jw _) ?c3 ?c4 ?c5 ?_))
  case c2=>exact HR.out.alloc (aj _) _
  case c3=>unfold maxLen;omega
  case c4=>omega
  case c5=>simp
  intro v1 w1 hown1 hgrow1;have hb1:Below w.heap.size w w1:=((Below.refl _ _).alloc (aj _) _).grown hgrow1 sM (λq hq=>by simp[Value.ownBlock]at hq;omega);have rG:Hid (w1.ownsRow w.heap.size 5 1 v1 n (bytes l)):=hI (by simpa using hown1);have HB:=hI hb1;clear hown1 hgrow1 hb1;go_wp2;go_ret;exact⟨⟨_,rfl,rG.out⟩,HB.out⟩
end
section
variable {w:aa}{B:Nat}{x:fV}{L:Lay}{s:Sys}
def xb(w:aa)(B:Nat)(x:fV)(L:Lay)(v:ae)(s':Sys)(e:Ending)(w':aa):Prop:=e=.returned v/\∃x',cF w' B x' L s'/\dx w w' x x'
theorem NC(h:cF w B x L s)(hB:B<=w.heap.size)(hw:s.way.length<=120)(hl:s.lost<=10000000000)(g:ku)(v:ae)(hv:nU w v g.bytes):
 Calls prog 154 #[pT x.g 0,.agg #[I g.src,I g.dst,v]] w (xb w B x L (.tuple #[]) (iq s g)):=by
 obtain⟨i0,hi0,hz0,hz1,hz2⟩:=info_parts Es;have hgl:=h.has.lt;have yq:v.oneCell'=true:=by obtain⟨A,c,rfl,_⟩:=hv;rfl
 have k1:=h.has.alloc (.cells #[I g.src,I g.dst,v] 217);have kb:=Has.new w 217 #[I g.src,I g.dst,v];have HB1:Hid (Below w.heap.size w (w.alloc (.cells #[I g.src,I g.dst,v] 217))):=hI ((Below.refl _ _).alloc (aj _) _);have hy1:cF (w.alloc (.cells #[I g.src,I g.dst,v] 217)) B x L s:=h.after HB1.out;have yr:=hI hy1;have HV1:=hI (hv.after HB1.out);have hB1:B<=(w.alloc (.cells #[I g.src,I g.dst,v] 217)).heap.size:=by simp;omega
 clear hv hy1;obtain⟨A,cc,ol,hcc,hlen,hA,hR⟩:=ix h.way;have BN:=hI ol;have HH:=hI h;clear hR hA hlen h;have a7:(w.alloc (.cells #[I g.src,I g.dst,v] 217)).cell? ⟨x.g,7,none⟩=some (.slice A s.way.length cc):=by rw[<-ol];exact k1.aJ 7 x.vw rfl
 have a8:=k1.aJ 8 (I (s.lost:Int)) rfl;have f8:=k1.free 8;have b0:=kb.aJ 0 _ rfl;have b1:=kb.aJ 1 _ rfl;have b2:=kb.aJ 2 _ rfl;have hg1:=k1.lt;go_enter func154,ntmps154;go_upto_region 1 with(fail);generalize w.alloc (.cells #[I g.src,I g.dst,v] 217)=w1 at*;by_cases hfull:120<=s.way.length
 ·have HE:Hid (iq s g={s with way:=s.way,lost:=s.lost+1}):=hI (by unfold iq;rw[if_pos hfull]);go_wp2_with fail;go_end0;have hs8:=k1.set 8 (I ((s.lost:Int)+1));have ht:Turned (λb=>b=x.g\/x.vw.ownBlock=some b) w1 (w1.setCell ⟨x.g,8,none⟩ (I ((s.lost:Int)+1))):=(Turned.refl _ _).setCell _ _ (.inl (.inl rfl));have hF:∀b,(b=x.g\/x.vw.ownBlock=some b)->wY w1 b:=λb e=>yr.out.mut (e.elim .inl λe=>.inr (.inr (.inr e)));obtain⟨h3,h4⟩:=yr.out.Gj (Jv:=x.vw) (vs':=x.vs) (xa:=s.way) (lost':=s.lost+1) ht hs8 (ew yr.out.way k1 dC 8 _) yr.out.len (λb hb=>.inl hb) (λi gm v' e1 e2=>(yr.out.bytes i gm v' e1 e2).fW ht hF);exact zgv
 ·have HE:Hid (iq s g={s with way:=s.way++[g],lost:=s.lost}):=hI (by unfold iq;rw[if_neg hfull]);have hm1:s.way.length+1<=maxLen:=by unfold maxLen;omega
  have hm2:(s.way.length+1)*40<=140737488355328:=oM;have hnf:¬(120:Int)<=(s.way.length:Int):=oM;have Je:Hid (some x.g≠(Value.slice A s.way.length cc).ownBlock):=hI (λe=>dz yr.out.way k1 dC (by rw[BN.out];exact e.symm));have ho:Hid (w1.ownsRow B 217 3 (.slice A s.way.length cc) s.way.length (fE s.way x.vs)):=hI (by have:=yr.out.way;rw[BN.out]at this;exact this);have hvv:Hid (v.oneCell'=true):=hI yq;clear hfull ol yq;go_upto_region 3 with(fail);go_region_law ((refine qG rfl _ _ 119 rfl B 217 i0 (.agg #[.int .i64 0,.int .i64 0,.slice none 0 0]) 3 40 underlying119 hi0 hz0 hz1 hz2 rfl dC _ s.way.length _ rfl (World.ownsRow.alloc ho.out _) _ 1 1 _ rfl rfl (jq _ _ _) (by intro u hu;simp at hu;rcases hu with rfl|rfl|rfl;rfl;rfl;exact hvv.out) hm1 hm2 (aS hB1 sM) ?_;intro v2 w2 hown2 hgrow2 BO;obtain⟨A2,c2,rfl,hc2,-⟩:=ix hown2;have k2:Has w2 x.g 121 (Gh x L s):=(k1.alloc _).drew.grown hgrow2 Je.out;have f27:=k2.free 7;have c27:=k2.aJ 7 x.vw rfl))
  all_goals
   have hg2:(w1.alloc (.cells #[I g.src,I g.dst,v] 217)).drew.grownBy w2 (Value.slice A s.way.length cc).ownBlock:=hgrow2;have ho2:Hid ((w2.setCell ⟨x.g,7,none⟩ (.slice A2 (s.way.length+1) c2)).ownsRow B 217 3 (.slice A2 (s.way.length+1) c2) (s.way.length+1) (fE (s.way++[g]) (x.vs++[v]))):=hI (ew (by rw[wZ _ _ _ _ yr.out.len];exact hown2) k2 dC _ _);have hl2:Hid (∀b,(Value.slice A2 (s.way.length+1) c2).ownBlock=some b->x.vw.ownBlock=some b\/w1.heap.size<=b):=hI (λb hb=>by
    rw[BN.out];rcases BO with h|h;exact .inl (h▸hb)
    ·rw[h]at hb;injection hb with hb;exact .inr (by rw[<-hb];simp))
   have ht2:Hid (Turned (λb=>b=x.g\/x.vw.ownBlock=some b) w1 (w2.setCell ⟨x.g,7,none⟩ (.slice A2 (s.way.length+1) c2))):=hI (((((Turned.refl _ _).alloc _).drew).grown hg2 (λq hq=>.inl (.inr (by rw[BN.out];exact hq)))).setCell _ _ (.inl (.inl rfl)));have k3:=hI (k2.set 7 (.slice A2 (s.way.length+1) c2));clear hgrow2 BO hown2 hg2 f27 c27 k2;go_wp2_with fail;go_end0;have hF:∀b,(b=x.g\/x.vw.ownBlock=some b)->wY w1 b:=λb e=>yr.out.mut (e.elim .inl λe=>.inr (.inr (.inr e)));obtain⟨h3,h4⟩:=yr.out.Gj (Jv:=.slice A2 (s.way.length+1) c2) (vs':=x.vs++[v]) (xa:=s.way++[g]) (lost':=s.lost) ht2.out k3.out (by rw[bm];exact ho2.out) (by rw[bm,bm,yr.out.len];rfl) hl2.out (λi gm v' e1 e2=>by
    rw[List.getElem?_append]at e1 e2;rw[yr.out.len]at e2;split at e1;rename_i hlt;rw[if_pos hlt]at e2;exact(yr.out.bytes i gm v' e1 e2).fW ht2.out hF
    ·rename_i hlt;rw[if_neg hlt]at e2;have hi:i-s.way.length=0:=by have:=(aX.1 e1).1;simp at this;omega
     rw[hi]at e1 e2;simp at e1 e2;subst e1 e2;exact HV1.out.fW ht2.out hF)
   exact zgv
theorem Jx(h:cF w B x L s)(hB:B<=w.heap.size)(hw:s.way.length<=120)(hl:s.lost<=10000000000)(a b:Nat)(f:List Int)(hf:Wf f):
 Calls prog 132 #[pT x.g 0,I a,I b,.agg (aN f)] w (xb w B x L (.tuple #[]) (di s a b f)):=by
 have HF:=hI hf;have HH:=hI h;have hs1:Hid ((prog.info? 214).map (·.size)=some (aN f).size):=hI (by rw[cY _ HF.out.1];exact dh);have k0:=Has.new w 214 (aN f);have hb:Below w.heap.size w (w.alloc (.cells (aN f) 214)):=(Below.refl _ _).alloc (aj _) _;clear hf h;cases hm:fC f with
 |false=>
  have HM:=hI hm;have HE:Hid (di s a b f=s):=hI (by unfold di;rw[hm];rfl);clear hm;go_enter func132,ntmps132;go_wp2_with (first
   |(refine wpList_load_row rfl 214 (.tmp 7) rfl w.heap.size rfl 214 (aN f) (0,0) _ k0 underlying214 rfl hs1.out ?_)
   |(go_at_call 166;refine(LS f HF.out HM.out _).mono ?_;rintro e w1 ⟨rfl,hb1⟩))
  go_end0;have h2:=hb.trans (hb1.mono sM);exact⟨rfl,x,by rw[HE.out];exact HH.out.after h2,dx.of_below h2⟩
 |true=>
  have HM:=hI hm;have HE:Hid (di s a b f=iq s ⟨a,b,lu f⟩):=hI (by unfold di;rw[hm];rfl);clear hm;go_enter func132,ntmps132;go_wp2_with (first
   |(refine wpList_load_row rfl 214 (.tmp 7) rfl w.heap.size rfl 214 (aN f) (0,0) _ k0 underlying214 rfl hs1.out ?_)
   |(go_at_call 166;refine(IL f HF.out HM.out _).mono ?_;rintro e w1 ⟨⟨A,c,rfl,ho⟩,hb1⟩;have h2:=hb.trans (hb1.mono sM);have HY:=hI (HH.out.after h2);have HO:=hI (nU.NA ho);clear ho)
   |(go_at_call 154;refine(NC HY.out (by have:=h2.size;omega) hw hl ⟨a,b,lu f⟩ _ HO.out).mono ?_;rintro e w2 ⟨rfl,x2,hy2,hm2⟩;have HP:=hI (And.intro hy2 hm2);clear hy2 hm2))
  go_end0;rw[HE.out];exact⟨rfl,x2,HP.out.1,(dx.of_below h2).trans HP.out.2⟩
end
section
variable {w:aa}
theorem nV(k:Nat)(hk:k<=1000):Calls prog 130 #[I k] w λe w'=>e=.returned (.bool (decide (k<3)))/\w=w':=by
 by_cases h:k<3
 ·have e:decide (k<3)=true:=by simpa using h
  have HE:=hI e;have h2:(k:Int)<3:=oM;exact zgs
 ·have e:decide (k<3)=false:=by simpa using h
  have HE:=hI e;have h2:¬(k:Int)<3:=oM;exact zgs
theorem xc(k y:Nat)(b:Nat)(hb:w.cell? ⟨b,0,none⟩=some (I k)):Calls prog 165 #[I y,pT b 0] w λe w'=>e=.returned (.bool (decide (y=k)))/\w=w':=by
 by_cases h:y=k
 ·subst h;go_enter func165,ntmps165;go_wp2;go_ret;exact⟨rfl,rfl⟩
 ·have HE:=hI (show decide (y=k)=false from zgt);have h2:((y:Int)==(k:Int))=false:=by simpa using λe=>h oM
  clear h;go_enter func165,ntmps165;go_wp2;go_ret;exact⟨by rw[HE.out];rfl,rfl⟩
theorem abA(k:Nat)(hk:k<3)(b g:Nat)(hb:w.cell? ⟨b,0,none⟩=some (I k))(hg:Has w g 3 #[I 0,I 1,I 2]):
 Calls prog 185 #[.slice (some ⟨g,0,none⟩) 3 3,.func (.func 165) #[] #[pT b 0]] w λe w'=>e=.returned (I k)/\w=w':=by
 have c0:=hg.aJ 0 (I 0) rfl;have c1:=hg.aJ 1 (I 1) rfl;have c2:=hg.aJ 2 (I 2) rfl;have HB:=hI hb;clear hb hg;go_enter func185,ntmps185;go_wp2_with fail;go_loopw [8] (λi wr=>∃j:Nat,j<=k/\i=I j/\w=wr) (λi _=>3-(intOf i).toNat)
 case atStart=>exact⟨0,oM,rfl,rfl⟩
 case round=>
  obtain⟨j,hj,rfl,rfl⟩:=hrel;have hjc:j=0\/j=1\/j=2:=oM;by_cases e:j=k
  ·have HD:=hI (show decide (j=k)=true by simpa using e);have HK:=hI e;clear e hk hj;rcases hjc with rfl|rfl|rfl;all_goals
    (go_wp2_with (go_at_call 165;refine(xc k _ b HB.out).mono ?_;rintro e w' ⟨rfl,rfl⟩;rw[HD.out]));go_ret;exact⟨by rw[<-HK.out];rfl,rfl⟩
  ·have HD:=hI (show decide (j=k)=false by simpa using e);have HK:=hI (show j+1<=k by omega);have hk3:=hI hk;clear e hk hj;rcases hjc with rfl|rfl|rfl;all_goals
    (go_wp2_with (go_at_call 165;refine(xc k _ b HB.out).mono ?_;rintro e w' ⟨rfl,rfl⟩;rw[HD.out]));go_roundw
    case rel=>exact⟨_,HK.out,rF,trivial⟩
    case measure=>simp[intOf]
def Eu(k m:Nat):bw:=if k=0 then(if m=0 then#[I 0,I 1,I 2]else if m=1 then#[I 1,I 1,I 2]else#[I 1,I 2,I 2])else if k=1 then(if m=0 then#[I 0,I 1,I 2]else#[I 0,I 2,I 2])else#[I 0,I 1,I 2]
def Ev(k:Nat):bw:=if k=0 then#[I 1,I 2,I 0]else if k=1 then#[I 0,I 2,I 0]else#[I 0,I 1,I 0]
theorem SY(w:aa):(zeroValue 3).run prog w=.ok (.int .i64 0) w:=kR
theorem abB{wr:aa}{g:Nat}{cs:bw}(h:Has wr g 3 cs)(hs:cs.size=3)(ty:aw):(Builtin.clear_ #[49] ty #[.slice (some ⟨g,2,none⟩) 1 1]).run prog wr=.ok (.tuple #[]) (wr.setCell ⟨g,2,none⟩ (I 0)):=
 Lib.run_clear_slice wr 49 3 ty (.int .i64 0) underlying49 SY rfl rfl g 2 1 1 dC (λj hj=>by rw[h.cell,aZ oM];rfl) (λj hj=>h.free _)
theorem Jy(k:Nat)(hk:k<3)(b g:Nat)(hb:w.cell? ⟨b,0,none⟩=some (I k))(hbg:b≠g)(hg:Has w g 3 #[I 0,I 1,I 2]):
 Calls prog 164 #[.slice (some ⟨g,0,none⟩) 3 3,.func (.func 165) #[] #[pT b 0]] w λe w'=>(e=.returned (.slice (some ⟨g,0,none⟩) 2 3)/\Has w' g 3 (Ev k))/\Turned (λq=>q=g) w w':=by
 have HB:=hI hb;have HG:=hI hg;have HT0:=hI (Turned.refl (λq=>q=g) w);have Pc:=hI hbg;clear hb hg hbg;have hkc:k=0\/k=1\/k=2:=oM;have hkk:k<3:=hk;clear hk;go_enter func164,ntmps164;rcases hkc with rfl|rfl|rfl
 ·go_wp2_with (go_at_call 185;refine(abA _ hkk b g HB.out HG.out).mono ?_;rintro e w' ⟨rfl,rfl⟩)
  go_loopw [5,6] (λs5 s6 wr=>∃m:Nat,1+m<=3/\s5=I ((0+m:Nat):Int)/\s6=I ((1+m:Nat):Int)/\Has wr g 3 (Eu 0 m)/\Hid (wr.cell? ⟨b,0,none⟩=some (I 0))/\Hid (Turned (λq=>q=g) w wr)) (λ_ s6 _=>3-(intOf s6).toNat)
  case atStart=>exact⟨0,oM,rF,rF,HG.out,HB,HT0⟩
  case round=>
   clear HT0;obtain⟨m,hm,rfl,rfl,hR,hB,hT⟩:=hrel;have hmc:m=0\/m=1\/m=2:=oM;clear hm;rcases hmc with rfl|rfl|rfl
   ·have cj:=hR.aJ 1 (I 1) rfl;have ci:=hR.aJ 0 (I 0) rfl;have fi:=hR.free 0;have hR2:Has (wr.setCell ⟨g,0,none⟩ (I 1)) g 3 (Eu 0 1):=hR.set 0 (I 1);have hB2:Hid ((wr.setCell ⟨g,0,none⟩ (I 1)).cell? ⟨b,0,none⟩=some (I 0)):=hI ((World.cell?_setCell_other _ _ _ _ (λe=>Pc.out (congrArg Addr.block e).symm)).trans hB.out);have vd:Hid (Turned (λq=>q=g) w (wr.setCell ⟨g,0,none⟩ (I 1))):=hI (hT.out.setCell _ _ (.inl rfl));(go_wp2_with (go_at_call 165;refine(xc 0 1 b hB.out).mono ?_;rintro e w' ⟨rfl,rfl⟩));go_roundw
    case rel=>exact⟨1,oM,rF,rF,hR2,hB2,vd⟩
    case measure=>simp[intOf]
   ·have cj:=hR.aJ 2 (I 2) rfl;have ci:=hR.aJ 1 (I 1) rfl;have fi:=hR.free 1;have hR2:Has (wr.setCell ⟨g,1,none⟩ (I 2)) g 3 (Eu 0 2):=hR.set 1 (I 2);have hB2:Hid ((wr.setCell ⟨g,1,none⟩ (I 2)).cell? ⟨b,0,none⟩=some (I 0)):=hI ((World.cell?_setCell_other _ _ _ _ (λe=>Pc.out (congrArg Addr.block e).symm)).trans hB.out);have vd:Hid (Turned (λq=>q=g) w (wr.setCell ⟨g,1,none⟩ (I 2))):=hI (hT.out.setCell _ _ (.inl rfl));(go_wp2_with (go_at_call 165;refine(xc 0 2 b hB.out).mono ?_;rintro e w' ⟨rfl,rfl⟩));go_roundw
    case rel=>exact⟨2,oM,rF,rF,hR2,hB2,vd⟩
    case measure=>simp[intOf]
   ·have hcl:=abB hR rfl;have hR2:Has (wr.setCell ⟨g,2,none⟩ (I 0)) g 3 (Ev 0):=hR.set 2 (I 0);exact zgb
 ·go_wp2_with (go_at_call 185;refine(abA _ hkk b g HB.out HG.out).mono ?_;rintro e w' ⟨rfl,rfl⟩)
  go_loopw [5,6] (λs5 s6 wr=>∃m:Nat,2+m<=3/\s5=I ((1+m:Nat):Int)/\s6=I ((2+m:Nat):Int)/\Has wr g 3 (Eu 1 m)/\Hid (wr.cell? ⟨b,0,none⟩=some (I 1))/\Hid (Turned (λq=>q=g) w wr)) (λ_ s6 _=>3-(intOf s6).toNat)
  case atStart=>exact⟨0,oM,rF,rF,HG.out,HB,HT0⟩
  case round=>
   clear HT0;obtain⟨m,hm,rfl,rfl,hR,hB,hT⟩:=hrel;have hmc:m=0\/m=1:=oM;clear hm;rcases hmc with rfl|rfl
   ·have cj:=hR.aJ 2 (I 2) rfl;have ci:=hR.aJ 1 (I 1) rfl;have fi:=hR.free 1;have hR2:Has (wr.setCell ⟨g,1,none⟩ (I 2)) g 3 (Eu 1 1):=hR.set 1 (I 2);have hB2:Hid ((wr.setCell ⟨g,1,none⟩ (I 2)).cell? ⟨b,0,none⟩=some (I 1)):=hI ((World.cell?_setCell_other _ _ _ _ (λe=>Pc.out (congrArg Addr.block e).symm)).trans hB.out);have vd:Hid (Turned (λq=>q=g) w (wr.setCell ⟨g,1,none⟩ (I 2))):=hI (hT.out.setCell _ _ (.inl rfl));(go_wp2_with (go_at_call 165;refine(xc 1 2 b hB.out).mono ?_;rintro e w' ⟨rfl,rfl⟩));go_roundw
    case rel=>exact⟨1,oM,rF,rF,hR2,hB2,vd⟩
    case measure=>simp[intOf]
   ·have hcl:=abB hR rfl;have hR2:Has (wr.setCell ⟨g,2,none⟩ (I 0)) g 3 (Ev 1):=hR.set 2 (I 0);exact zgb
 ·go_wp2_with (go_at_call 185;refine(abA _ hkk b g HB.out HG.out).mono ?_;rintro e w' ⟨rfl,rfl⟩)
  go_loopw [5,6] (λs5 s6 wr=>∃m:Nat,3+m<=3/\s5=I ((2+m:Nat):Int)/\s6=I ((3+m:Nat):Int)/\Has wr g 3 (Eu 2 m)/\Hid (wr.cell? ⟨b,0,none⟩=some (I 2))/\Hid (Turned (λq=>q=g) w wr)) (λ_ s6 _=>3-(intOf s6).toNat)
  case atStart=>exact⟨0,oM,rF,rF,HG.out,HB,HT0⟩
  case round=>clear HT0;obtain⟨m,hm,rfl,rfl,hR,hB,hT⟩:=hrel;have hmc:m=0:=oM;clear hm;subst hmc;have hcl:=abB hR rfl;have hR2:Has (wr.setCell ⟨g,2,none⟩ (I 0)) g 3 (Ev 2):=hR.set 2 (I 0);exact zgb
theorem Ca(k:Nat)(hk:k<3):Calls prog 131 #[I k] w λe w'=>(∃g,e=.returned (.slice (some ⟨g,0,none⟩) 2 3)/\Has w' g 3 (Ev k))/\Below w.heap.size w w':=by
 have k0:=(Has.new w 3 #[I k]).alloc (.cells #[I 0,I 1,I 2] 3);have k1:=Has.new (w.alloc (.cells #[I k] 3)) 3 #[I 0,I 1,I 2];have b0:=k0.aJ 0 (I k) rfl;have hne:w.heap.size≠(w.alloc (.cells #[I k] 3)).heap.size:=sM;have hc:=Jy k hk w.heap.size (w.alloc (.cells #[I k] 3)).heap.size b0 hne k1;rw[show(w.alloc (.cells #[I k] 3)).heap.size=w.heap.size+1 by simp]at hc;have HC:=hI hc;have hb:Below w.heap.size w ((w.alloc (.cells #[I k] 3)).alloc (.cells #[I 0,I 1,I 2] 3)):=((Below.refl _ _).alloc (aj _) _).alloc sM _;have HBE:=hI hb;have hsz:(w.alloc (.cells #[I k] 3)).heap.size=w.heap.size+1:=sM;have HS:=hI hsz;clear k0 k1 b0 hne hb hsz hk hc;go_enter func131,ntmps131;go_wp2_with (go_at_call 164;refine HC.out.mono ?_;rintro e w' ⟨⟨rfl,hh⟩,ht⟩)
 go_ret;refine⟨⟨_,rfl,hh⟩,HBE.out.trans (ht.below (λq hq=>?_) zge)⟩;rw[hq];omega
end
end Go.Proofs.YtdhekhlmdefcnaaGreatDoor
